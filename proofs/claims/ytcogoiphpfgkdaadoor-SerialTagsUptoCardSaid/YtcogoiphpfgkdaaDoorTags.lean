/-
  The contracts of alone, Start, End.
-/
import Derived.Test.YtcogoiphpfgkdaaDoorSerial
namespace Go.Proofs.YtcogoiphpfgkdaaDoor
open Go.RowKit
set_option linter.unusedVariables false
set_option linter.unusedSimpArgs false

/-- Start's and End's answers. -/
def startOut (nm tx : List UInt8) (ats : List At) : List UInt8 := if mayB [.mk nm tx ats []] = true then (if nm = [] then [] else startB nm ats) else []
def endOut (nm tx : List UInt8) (ats : List At) : List UInt8 := if mayB [.mk nm tx ats []] = true then (if nm = [] ∨ nm ∈ setNames1 then [] else endTag nm) else []

set_option maxHeartbeats 1000000 in
set_option maxRecDepth 100000 in
theorem alone_any (v0 v1 v2 : Value) (Ak : Option Addr) (nk ck : Nat) (w : World) (h0 : ∃ s, v0 = .string s) (h1 : ∃ s, v1 = .string s) (h2 : ∃ A n c, v2 = .slice A n c) :
    Calls Tryd.prog 45 #[.agg #[v0, v1, v2, .slice Ak nk ck]] w fun e w' => e = .returned (.agg #[v0, v1, v2, .slice none 0 0]) ∧ Below w.heap.size w w' := by
  obtain ⟨s0, rfl⟩ := h0
  obtain ⟨s1, rfl⟩ := h1
  obtain ⟨A2, n2, c2, rfl⟩ := h2
  go_enter Tryd.func45, Tryd.ntmps45
  go_wp2
  refine bodyPost_ret (results_cell_row rfl _ _ (w.heap.size + 1) _ _ _ _ rfl (Blk.new_at _ _ (by simp)) Tryd.underlying41 rfl rfl) rfl ⟨rfl, ((Below.refl _ w).alloc (Nat.le_refl _) _).alloc (by simp) _⟩
set_option maxHeartbeats 1000000 in
set_option maxRecDepth 100000 in
theorem pstart_any (S : Nat → Prop) (nm tx : List UInt8) (ats : List At) (Aa Ak : Option Addr) (ca nk ck : Nat) (w : World) (hT : Tab w) (hS : ∀ k, S k → k < w.heap.size) (hw : 1 + nm.length + tx.length + awt ats ≤ 1048576)
    (hr : Row S w 2 Aa ats.length (ats.flatMap atCells)) :
    Calls Tryd.prog 21 #[.agg #[.string (str nm), .string (str tx), .slice Aa ats.length ca, .slice Ak nk ck]] w fun e w' => e = .returned (.tuple #[.string (str (startOut nm tx ats)), .int .i64 (errN (mayB [.mk nm tx ats []]))]) ∧ Below w.heap.size w w' := by
  obtain ⟨W1, hW1⟩ : ∃ W1, w.alloc (.cells #[.string (str nm), .string (str tx), .slice Aa ats.length ca, .slice Ak nk ck] 41) = W1 := ⟨_, rfl⟩
  have b1 : Below w.heap.size w W1 := by rw [← hW1]; exact (Below.refl _ w).alloc (Nat.le_refl _) _
  have y1 : Blk W1 w.heap.size 41 #[.string (str nm), .string (str tx), .slice Aa ats.length ca, .slice Ak nk ck] := by rw [← hW1]; exact Blk.new w _ _
  have l1 := y1.lt
  have a0 := y1.cell 0
  have a1 := y1.cell 1
  have a2 := y1.cell 2
  have a3 := y1.cell 3
  simp only [List.getElem?_toArray, List.getElem?_cons_zero, List.getElem?_cons_succ] at a0 a1 a2 a3
  have KA := Lib.hid (fun W => alone_any (.string (str nm)) (.string (str tx)) (.slice Aa ats.length ca) Ak nk ck W ⟨_, rfl⟩ ⟨_, rfl⟩ ⟨_, _, _, rfl⟩)
  have HR := Lib.hid (fun (W : World) (h : Below w.heap.size w W) => hr.behind h)
  have HS := Lib.hid (fun (W : World) (h : Below w.heap.size w W) (k : Nat) (hk : S k) => Nat.lt_of_lt_of_le (hS k hk) h.size)
  have K := Lib.hid (fun (W : World) (b : Nat) (h : Below w.heap.size w W) (y : Blk W b 41 #[.string (str nm), .string (str tx), .slice Aa ats.length ca, .slice none 0 0]) =>
    check_any (fun k => k < W.heap.size) [.mk nm tx ats []] (by rw [wt_one, wt_nil]; exact hw) W (some ⟨b, 0, none⟩) 1 (Ns.one (kids := []) y y.lt ((hr.behind h).more (fun k h _ => h) (by decide)) Ns.nil) (hT.behind h) (fun k h => h))
  have KB := Lib.hid (fun (W : World) (h : Below w.heap.size w W) => bare_any nm W (hT.behind h))
  have KS := Lib.hid (fun (W : World) (h : Below w.heap.size w W) (hm : mayB [.mk nm tx ats []] = true) => start_any S nm tx ats Aa Ak ca nk ck W (hr.behind h) (fun k hk => Nat.lt_of_lt_of_le (hS k hk) h.size)
    (by have := may_well _ hm; rw [wellB_cons, wellB_nil] at this; simp only [Bool.and_eq_true, Nd.attrs] at this; exact fun a ha => List.all_eq_true.1 this.1.1.2 a ha) (by omega))
  have B1 := Lib.hid b1
  have Y1 := Lib.hid y1
  unfold startOut errN
  generalize mayB [.mk nm tx ats []] = m at K KS ⊢
  obtain ⟨b, hb⟩ : ∃ b, decide (nm ∈ setNames1) = b := ⟨_, rfl⟩
  rw [hb] at KB
  clear b1 y1 hr hT hS
  have e1 : (⟨#[60, 47]⟩ : ByteArray) ++ str nm = str ([60, 47] ++ nm) := str_append [60, 47] nm
  have e2 : str ([60, 47] ++ nm) ++ (⟨#[62]⟩ : ByteArray) = str (endTag nm) := str_append _ [62]
  have z1 : (str nm).size ≤ 1048576 := by rw [str_size]; omega
  have z2 : (str ([60, 47] ++ nm)).size ≤ 1048579 := by rw [str_size]; simp; omega
  generalize endTag nm = y at e2 ⊢
  obtain ⟨y1, hy1⟩ : ∃ y1, [60, 47] ++ nm = y1 := ⟨_, rfl⟩
  rw [hy1] at e1 e2 z2
  obtain ⟨ss, hss⟩ : ∃ ss, startB nm ats = ss := ⟨_, rfl⟩
  rw [hss] at KS
  try rw [hss]
  clear hy1 hss
  obtain ⟨R, hR⟩ : ∃ R, (if m = true then (if nm = [] then [] else ss) else []) = R := ⟨_, rfl⟩
  rw [hR]
  have HRR := Lib.hid hR
  clear hR
  go_enter Tryd.func21, Tryd.ntmps21
  go_wp2_with fail
  refine (KA.out W1).mono ?_
  rintro e w2 ⟨rfl, hb2⟩
  have y2 := Y1.out.below hb2 l1
  have l2 := y2.lt
  have B2 := Lib.hid (B1.out.trans (hb2.mono B1.out.size))
  have Y2 := Lib.hid y2
  clear hb2 y2 a0 a1 a2 a3
  go_wp2_with fail
  have b3 : Below w2.heap.size w2 (w2.alloc (.cells #[.string (str nm), .string (str tx), .slice Aa ats.length ca, .slice none 0 0] 41)) := (Below.refl _ w2).alloc (Nat.le_refl _) _
  refine (K.out _ w2.heap.size (B2.out.trans (b3.mono B2.out.size)) (Blk.new w2 _ _)).mono ?_
  rintro e w4 ⟨rfl, hb4⟩
  have b4 : Below w2.heap.size w2 w4 := b3.trans (hb4.mono b3.size)
  have B4 := Lib.hid (B2.out.trans (b4.mono B2.out.size))
  have y4 := Y2.out.below b4 l2
  have l4 := y4.lt
  have Y4 := Lib.hid y4
  have q0 := y4.cell 0
  have q1 := y4.cell 1
  have q2 := y4.cell 2
  have q3 := y4.cell 3
  simp only [List.getElem?_toArray, List.getElem?_cons_zero, List.getElem?_cons_succ] at q0 q1 q2 q3
  clear b3 hb4 b4 y4
  cases m with
  | false =>
    rw [if_neg (by decide)]
    go_wp2
    go_ret2
    have hr := HRR.out
    rw [if_neg (by decide)] at hr
    subst hr
    exact ⟨rfl, B4.out⟩
  | true =>
    rw [if_pos rfl]
    by_cases hnm : nm = []
    · subst hnm
      go_wp2
      go_ret2
      have hr := HRR.out
      simp at hr
      subst hr
      exact ⟨rfl, B4.out⟩
    · have f0 : (nm == []) = false := by simpa using hnm
      go_wp2_with fail
      refine (KS.out w4 B4.out (by trivial)).mono ?_
      rintro e w5 ⟨rfl, hb5⟩
      have B5 := Lib.hid (B4.out.trans (hb5.mono B4.out.size))
      clear hb5
      go_wp2
      go_ret2
      have hr := HRR.out
      rw [if_pos trivial, if_neg hnm] at hr
      subst hr
      exact ⟨rfl, B5.out⟩
set_option maxHeartbeats 1000000 in
set_option maxRecDepth 100000 in
theorem pend_any (S : Nat → Prop) (nm tx : List UInt8) (ats : List At) (Aa Ak : Option Addr) (ca nk ck : Nat) (w : World) (hT : Tab w) (hS : ∀ k, S k → k < w.heap.size) (hw : 1 + nm.length + tx.length + awt ats ≤ 1048576)
    (hr : Row S w 2 Aa ats.length (ats.flatMap atCells)) :
    Calls Tryd.prog 22 #[.agg #[.string (str nm), .string (str tx), .slice Aa ats.length ca, .slice Ak nk ck]] w fun e w' => e = .returned (.tuple #[.string (str (endOut nm tx ats)), .int .i64 (errN (mayB [.mk nm tx ats []]))]) ∧ Below w.heap.size w w' := by
  obtain ⟨W1, hW1⟩ : ∃ W1, w.alloc (.cells #[.string (str nm), .string (str tx), .slice Aa ats.length ca, .slice Ak nk ck] 41) = W1 := ⟨_, rfl⟩
  have b1 : Below w.heap.size w W1 := by rw [← hW1]; exact (Below.refl _ w).alloc (Nat.le_refl _) _
  have y1 : Blk W1 w.heap.size 41 #[.string (str nm), .string (str tx), .slice Aa ats.length ca, .slice Ak nk ck] := by rw [← hW1]; exact Blk.new w _ _
  have l1 := y1.lt
  have a0 := y1.cell 0
  have a1 := y1.cell 1
  have a2 := y1.cell 2
  have a3 := y1.cell 3
  simp only [List.getElem?_toArray, List.getElem?_cons_zero, List.getElem?_cons_succ] at a0 a1 a2 a3
  have KA := Lib.hid (fun W => alone_any (.string (str nm)) (.string (str tx)) (.slice Aa ats.length ca) Ak nk ck W ⟨_, rfl⟩ ⟨_, rfl⟩ ⟨_, _, _, rfl⟩)
  have HR := Lib.hid (fun (W : World) (h : Below w.heap.size w W) => hr.behind h)
  have HS := Lib.hid (fun (W : World) (h : Below w.heap.size w W) (k : Nat) (hk : S k) => Nat.lt_of_lt_of_le (hS k hk) h.size)
  have K := Lib.hid (fun (W : World) (b : Nat) (h : Below w.heap.size w W) (y : Blk W b 41 #[.string (str nm), .string (str tx), .slice Aa ats.length ca, .slice none 0 0]) =>
    check_any (fun k => k < W.heap.size) [.mk nm tx ats []] (by rw [wt_one, wt_nil]; exact hw) W (some ⟨b, 0, none⟩) 1 (Ns.one (kids := []) y y.lt ((hr.behind h).more (fun k h _ => h) (by decide)) Ns.nil) (hT.behind h) (fun k h => h))
  have KB := Lib.hid (fun (W : World) (h : Below w.heap.size w W) => bare_any nm W (hT.behind h))
  have KS := Lib.hid (fun (W : World) (h : Below w.heap.size w W) (hm : mayB [.mk nm tx ats []] = true) => start_any S nm tx ats Aa Ak ca nk ck W (hr.behind h) (fun k hk => Nat.lt_of_lt_of_le (hS k hk) h.size)
    (by have := may_well _ hm; rw [wellB_cons, wellB_nil] at this; simp only [Bool.and_eq_true, Nd.attrs] at this; exact fun a ha => List.all_eq_true.1 this.1.1.2 a ha) (by omega))
  have B1 := Lib.hid b1
  have Y1 := Lib.hid y1
  unfold endOut errN
  generalize mayB [.mk nm tx ats []] = m at K KS ⊢
  obtain ⟨b, hb⟩ : ∃ b, decide (nm ∈ setNames1) = b := ⟨_, rfl⟩
  rw [hb] at KB
  clear b1 y1 hr hT hS
  have e1 : (⟨#[60, 47]⟩ : ByteArray) ++ str nm = str ([60, 47] ++ nm) := str_append [60, 47] nm
  have e2 : str ([60, 47] ++ nm) ++ (⟨#[62]⟩ : ByteArray) = str (endTag nm) := str_append _ [62]
  have z1 : (str nm).size ≤ 1048576 := by rw [str_size]; omega
  have z2 : (str ([60, 47] ++ nm)).size ≤ 1048579 := by rw [str_size]; simp; omega
  generalize endTag nm = y at e2 ⊢
  obtain ⟨y1, hy1⟩ : ∃ y1, [60, 47] ++ nm = y1 := ⟨_, rfl⟩
  rw [hy1] at e1 e2 z2
  obtain ⟨ss, hss⟩ : ∃ ss, startB nm ats = ss := ⟨_, rfl⟩
  rw [hss] at KS
  try rw [hss]
  clear hy1 hss
  obtain ⟨R, hR⟩ : ∃ R, (if m = true then (if nm = [] ∨ nm ∈ setNames1 then [] else y) else []) = R := ⟨_, rfl⟩
  rw [hR]
  have HRR := Lib.hid hR
  clear hR
  go_enter Tryd.func22, Tryd.ntmps22
  go_wp2_with fail
  refine (KA.out W1).mono ?_
  rintro e w2 ⟨rfl, hb2⟩
  have y2 := Y1.out.below hb2 l1
  have l2 := y2.lt
  have B2 := Lib.hid (B1.out.trans (hb2.mono B1.out.size))
  have Y2 := Lib.hid y2
  clear hb2 y2 a0 a1 a2 a3
  go_wp2_with fail
  have b3 : Below w2.heap.size w2 (w2.alloc (.cells #[.string (str nm), .string (str tx), .slice Aa ats.length ca, .slice none 0 0] 41)) := (Below.refl _ w2).alloc (Nat.le_refl _) _
  refine (K.out _ w2.heap.size (B2.out.trans (b3.mono B2.out.size)) (Blk.new w2 _ _)).mono ?_
  rintro e w4 ⟨rfl, hb4⟩
  have b4 : Below w2.heap.size w2 w4 := b3.trans (hb4.mono b3.size)
  have B4 := Lib.hid (B2.out.trans (b4.mono B2.out.size))
  have y4 := Y2.out.below b4 l2
  have l4 := y4.lt
  have Y4 := Lib.hid y4
  have q0 := y4.cell 0
  have q1 := y4.cell 1
  have q2 := y4.cell 2
  have q3 := y4.cell 3
  simp only [List.getElem?_toArray, List.getElem?_cons_zero, List.getElem?_cons_succ] at q0 q1 q2 q3
  clear b3 hb4 b4 y4
  cases m with
  | false =>
    rw [if_neg (by decide)]
    go_wp2
    go_ret2
    have hr := HRR.out
    rw [if_neg (by decide)] at hr
    subst hr
    exact ⟨rfl, B4.out⟩
  | true =>
    rw [if_pos rfl]
    by_cases hnm : nm = []
    · subst hnm
      go_wp2
      go_ret2
      have hr := HRR.out
      simp at hr
      subst hr
      exact ⟨rfl, B4.out⟩
    · have f0 : (nm == []) = false := by simpa using hnm
      go_wp2_with fail
      refine (KB.out w4 B4.out).mono ?_
      rintro e w5 ⟨rfl, hb5⟩
      have B5 := Lib.hid (B4.out.trans (hb5.mono B4.out.size))
      have z0 := (Y4.out.below hb5 l4).cell 0
      simp only [List.getElem?_toArray, List.getElem?_cons_zero] at z0
      clear hb5 q0 q1 q2 q3
      cases b with
      | true =>
        go_wp2
        go_ret2
        have hr := HRR.out
        rw [if_pos trivial, if_pos (.inr (of_decide_eq_true hb))] at hr
        subst hr
        exact ⟨rfl, B5.out⟩
      | false =>
        go_wp2
        go_ret2
        have hr := HRR.out
        rw [if_pos trivial, if_neg (fun h => h.elim hnm (of_decide_eq_false hb))] at hr
        subst hr
        exact ⟨rfl, B5.out⟩
end Go.Proofs.YtcogoiphpfgkdaaDoor
