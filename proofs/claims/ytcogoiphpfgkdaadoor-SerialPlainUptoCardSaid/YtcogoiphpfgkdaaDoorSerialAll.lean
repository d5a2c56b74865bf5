/-
  The contracts of Serialize, Length, Inner, Start, End.
  The contracts of alone, Start, End.
  The law's num, nodes, great, awake.
  The law's awake.
-/
import Derived.Test.YtcogoiphpfgkdaaDoorPiecesAll
import Derived.Test.YtcogoiphpfgkdaaDoorCheckBoth
import Derived.Test.YtcogoiphpfgkdaaDoorNodesAll
import Derived.Test.YtcogoiphpfgkdaaDoorRSerialize
namespace Go.Proofs.YtcogoiphpfgkdaaDoor
open Go.RowKit
set_option linter.unusedVariables false
set_option linter.unusedSimpArgs false

/-- Two results. -/
def errN (b : Bool) : Int := if b = true then 0 else 210
def serOut (L : List Nd) : List UInt8 := if mayB L = true then ptText (ptB [] 0 L) else []

set_option maxHeartbeats 1000000 in
set_option maxRecDepth 100000 in
theorem serialize_any (S : Nat → Prop) (L : List Nd) (w : World) (A : Option Addr) (c : Nat) (hT : Tab w) (hRT : RawTab w) (hS : ∀ k, S k → k < w.heap.size) (hw : wt L ≤ 1048576) (hN : Ns S w A L.length L) :
    Calls Tryd.prog 13 #[.slice A L.length c] w fun e w' => e = .returned (.tuple #[.string (str (serOut L)), .int .i64 (errN (mayB L))]) ∧ Below w.heap.size w w' := by
  have K := Lib.hid (check_any S L hw w A c hN hT hS)
  have K2 := Lib.hid (fun (W : World) (h : Below w.heap.size w W) (hm : mayB L = true) => whole_any S L [] W A c (hT.behind h) (hRT.behind h) (fun k hk => Nat.lt_of_lt_of_le (hS k hk) h.size) hw (hN.behind h) (may_well L hm))
  unfold serOut errN
  generalize mayB L = b at K K2 ⊢
  generalize ptText (ptB [] 0 L) = y at K2 ⊢
  clear hT hRT hS hN hw
  cases b with
  | true =>
    rw [if_pos rfl] at K
    go_enter Tryd.func13, Tryd.ntmps13
    go_wp2_with fail
    refine K.out.mono ?_
    rintro e w1 ⟨rfl, hb⟩
    have HB := Lib.hid hb
    have K3 : Calls Tryd.prog 32 #[.string ⟨#[]⟩, .slice A L.length c] w1 _ := K2.out w1 hb (by trivial)
    have HK3 := Lib.hid K3
    clear hb K3
    go_wp2_with fail
    refine HK3.out.mono ?_
    rintro e w2 ⟨rfl, hb2⟩
    go_wp2
    go_ret2
    exact ⟨rfl, HB.out.trans (hb2.mono HB.out.size)⟩
  | false =>
    rw [if_neg (by decide)] at K
    clear K2
    go_enter Tryd.func13, Tryd.ntmps13
    go_wp2_with fail
    refine K.out.mono ?_
    rintro e w1 ⟨rfl, hb⟩
    have HB := Lib.hid hb
    clear hb
    go_wp2
    go_ret2
    exact ⟨rfl, HB.out⟩

set_option maxHeartbeats 1000000 in
set_option maxRecDepth 100000 in
theorem len1_any {w : World} {b n : Nat} (h : Blk w b 3 #[.int .i64 n]) (d : Nat) (s : List UInt8) (hn : n + s.length ≤ 140737488355328) :
    Calls Tryd.prog 34 #[.int .i64 d, .string (str s), .pointer (some ⟨b, 0, none⟩)] w fun e w' => e = .returned (.bool true) ∧ Blk w' b 3 #[.int .i64 (n + s.length : Nat)] ∧ Keep (fun k => k = b) w w' := by
  have x0 := h.cell 0
  have f0 := h.frozen 0
  simp only [List.getElem?_toArray, List.getElem?_cons_zero] at x0
  have hlt := h.lt
  have HB := Lib.hid h
  have z1 : (str s).size ≤ 140737488355328 := by rw [str_size]; omega
  have z2 := str_size s
  have i0 : (0 : Int) ≤ (n : Int) := by omega
  clear h
  go_enter Tryd.func34, Tryd.ntmps34
  go_wp2
  go_ret
  refine ⟨rfl, ?_, (Keep.refl (fun k => k = b) w).setCell (p := ⟨b, 0, none⟩) (.inl rfl) _⟩
  have := HB.out.set_ 0 (.int .i64 (n + s.length : Nat))
  simpa using this

/-- A counter as a yield. -/
theorem len_yield (w0 : World) (b : Nat) (hb : w0.heap.size ≤ b) :
    Yield w0 (fun p W R => Calls Tryd.prog 34 #[.int .i64 p.d, .string (str p.t), .pointer (some ⟨b, 0, none⟩)] W R) (fun acc W => Below w0.heap.size w0 W ∧ Blk W b 3 #[.int .i64 (ptText acc).length]) (fun _ _ => False) where
  call := by
    rintro acc p W ⟨h0, h⟩ hl _
    refine (len1_any h p.d p.t (by omega)).mono ?_
    rintro e W2 ⟨rfl, h', hk⟩
    refine .inl ⟨rfl, ⟨h0.trans (hk.below h0.size (fun i hi e => by omega)), ?_⟩, hk.size, fun g t cs ht hg => hg.keep hk ?_⟩
    · rw [ptText_snoc]
      exact h'
    · rintro rfl
      refine hg.ne_ h ?_ rfl
      rintro rfl
      rcases ht with h | h | h | h <;> simp at h
  keep := by
    rintro acc W W2 ⟨h0, h⟩ hb
    exact ⟨h0.trans (hb.mono h0.size), h.keep (Keep.of_below hb (fun _ => False)) id⟩
  base := fun _ _ h => h.1

set_option maxHeartbeats 1000000 in
set_option maxRecDepth 100000 in
theorem length_any (S : Nat → Prop) (L : List Nd) (w : World) (A : Option Addr) (c : Nat) (hT : Tab w) (hRT : RawTab w) (hS : ∀ k, S k → k < w.heap.size) (hw : wt L ≤ 1048576) (hN : Ns S w A L.length L) :
    Calls Tryd.prog 14 #[.slice A L.length c] w fun e w' => e = .returned (.tuple #[.int .i64 (serOut L).length, .int .i64 (errN (mayB L))]) ∧ Below w.heap.size w w' := by
  have K := Lib.hid (check_any S L hw w A c hN hT hS)
  have K2 := Lib.hid (fun (w1 : World) (h : Below w.heap.size w w1) (hm : mayB L = true) => pieces_len (len_yield w1 w1.heap.size (Nat.le_refl _)) (hT.behind h) (hRT.behind h) (fun k hk => Nat.lt_of_lt_of_le (hS k hk) h.size) L [] (w1.alloc (.cells #[.int .i64 0] 3)) A c hw (hN.behind h) (may_well L hm) ⟨(Below.refl _ w1).alloc (Nat.le_refl _) _, Blk.new w1 _ _⟩)
  unfold serOut errN
  generalize mayB L = b at K K2 ⊢
  generalize ptB [] 0 L = ps at K2 ⊢
  clear hT hRT hS hN hw
  cases b with
  | true =>
    rw [if_pos rfl] at K
    go_enter Tryd.func14, Tryd.ntmps14
    go_wp2_with fail
    refine K.out.mono ?_
    rintro e w1 ⟨rfl, hb⟩
    have HB := Lib.hid hb
    have K3 : Calls Tryd.prog 33 #[.string ⟨#[]⟩, .slice A L.length c, .func (.func 34) #[] #[.pointer (some ⟨w1.heap.size, 0, none⟩)]] (w1.alloc (.cells #[.int .i64 0] 3)) _ := K2.out w1 hb (by trivial)
    have HK3 := Lib.hid K3
    clear hb K3
    go_wp2_with fail
    refine HK3.out.mono ?_
    rintro e w2 ⟨rfl, (⟨hb2, hl⟩ | ⟨q, _, hf⟩)⟩
    case inr => exact hf.elim
    have x0 := hl.cell 0
    simp only [List.getElem?_toArray, List.getElem?_cons_zero] at x0
    have HB2 := Lib.hid hb2
    clear hb2 hl
    go_wp2
    go_ret2
    exact ⟨rfl, HB.out.trans (HB2.out.mono HB.out.size)⟩
  | false =>
    rw [if_neg (by decide)] at K
    clear K2
    go_enter Tryd.func14, Tryd.ntmps14
    go_wp2_with fail
    refine K.out.mono ?_
    rintro e w1 ⟨rfl, hb⟩
    have HB := Lib.hid hb
    clear hb
    go_wp2
    go_ret2
    exact ⟨rfl, HB.out⟩
def innerOut (nm tx : List UInt8) (ats : List At) (kids : List Nd) : List UInt8 := if mayB [.mk nm tx ats kids] = true then innerB nm kids else []
theorem wt_one (nm tx : List UInt8) (ats : List At) (kids : List Nd) : wt [.mk nm tx ats kids] = 1 + nm.length + tx.length + awt ats + wt kids := by rw [wt_cons, wt_nil]; rfl

set_option maxHeartbeats 1000000 in
set_option maxRecDepth 100000 in
theorem inner_any (S : Nat → Prop) (nm tx : List UInt8) (ats : List At) (kids : List Nd) (Aa Ak : Option Addr) (ca ck : Nat) (w : World) (hT : Tab w) (hRT : RawTab w) (hS : ∀ k, S k → k < w.heap.size) (hw : 1 + nm.length + tx.length + awt ats + wt kids ≤ 1048576)
    (hr : Row S w 2 Aa ats.length (ats.flatMap atCells)) (hN : Ns S w Ak kids.length kids) :
    Calls Tryd.prog 20 #[.agg #[.string (str nm), .string (str tx), .slice Aa ats.length ca, .slice Ak kids.length ck]] w fun e w' => e = .returned (.tuple #[.string (str (innerOut nm tx ats kids)), .int .i64 (errN (mayB [.mk nm tx ats kids]))]) ∧ Below w.heap.size w w' := by
  obtain ⟨W2, hW2⟩ : ∃ W2, (w.alloc (.cells #[.string (str nm), .string (str tx), .slice Aa ats.length ca, .slice Ak kids.length ck] 41)).alloc (.cells #[.string (str nm), .string (str tx), .slice Aa ats.length ca, .slice Ak kids.length ck] 41) = W2 := ⟨_, rfl⟩
  have b2 : Below w.heap.size w W2 := by rw [← hW2]; exact ((Below.refl _ w).alloc (Nat.le_refl _) _).alloc (by simp) _
  have y1 : Blk W2 w.heap.size 41 #[.string (str nm), .string (str tx), .slice Aa ats.length ca, .slice Ak kids.length ck] := by rw [← hW2]; exact (Blk.new w _ _).alloc _
  have y2 : Blk W2 (w.heap.size + 1) 41 #[.string (str nm), .string (str tx), .slice Aa ats.length ca, .slice Ak kids.length ck] := by rw [← hW2]; exact Blk.new_at _ _ (by simp)
  have n2 : Ns (fun k => k < W2.heap.size) W2 (some ⟨w.heap.size + 1, 0, none⟩) 1 [.mk nm tx ats kids] :=
    Ns.one y2 y2.lt ((hr.behind b2).more (fun k h _ => h) (by decide)) ((hN.behind b2).wide (fun k h _ => h))
  have K := Lib.hid (check_any _ [.mk nm tx ats kids] (by rw [wt_one]; exact hw) W2 _ 1 n2 (hT.behind b2) (fun k h => h))
  have K2 := Lib.hid (fun (W : World) (h : Below w.heap.size w W) (hm : mayB [.mk nm tx ats kids] = true) => whole_any S kids nm W Ak ck (hT.behind h) (hRT.behind h) (fun k hk => Nat.lt_of_lt_of_le (hS k hk) h.size) (by omega) (hN.behind h)
    (by have := may_well _ hm; rw [wellB_cons, wellB_nil] at this; simp only [Bool.and_eq_true, Nd.kids] at this; exact this.1.2))
  have KB := Lib.hid (fun (W : World) (h : Below w.heap.size w W) => bare_any nm W (hT.behind h))
  have Y1 := Lib.hid y1
  have B2 := Lib.hid b2
  unfold innerOut errN innerB
  generalize mayB [.mk nm tx ats kids] = m at K K2 ⊢
  generalize ptText (ptB nm 0 kids) = y at K2 ⊢
  obtain ⟨b, hb⟩ : ∃ b, decide (nm ∈ setNames1) = b := ⟨_, rfl⟩
  rw [hb] at KB
  clear hT hRT hS hN hw hr n2 y1 y2 b2
  cases m with
  | false =>
    rw [if_neg (by decide)] at K
    clear K2 KB hb
    go_enter Tryd.func20, Tryd.ntmps20
    go_wp2_with fail
    refine K.out.mono ?_
    rintro e w1 ⟨rfl, hb⟩
    have HB := Lib.hid (B2.out.trans (hb.mono B2.out.size))
    clear hb
    go_wp2
    go_ret2
    exact ⟨rfl, HB.out⟩
  | true =>
    rw [if_pos rfl] at K
    rw [if_pos rfl]
    have l1 := Y1.out.lt
    by_cases hnm : nm = []
    · subst hnm
      rw [if_pos (.inl rfl)]
      clear K2 KB hb
      go_enter Tryd.func20, Tryd.ntmps20
      go_wp2_with fail
      refine K.out.mono ?_
      rintro e w1 ⟨rfl, hb⟩
      have HB := Lib.hid (B2.out.trans (hb.mono B2.out.size))
      have x0 := (Y1.out.below hb l1).cell 0
      simp only [List.getElem?_toArray, List.getElem?_cons_zero] at x0
      clear hb
      go_wp2
      go_ret2
      exact ⟨rfl, HB.out⟩
    · have q0 : (nm == []) = false := by simpa using hnm
      cases b with
      | true =>
        rw [if_pos (.inr (of_decide_eq_true hb))]
        clear K2 hb hnm
        go_enter Tryd.func20, Tryd.ntmps20
        go_wp2_with fail
        refine K.out.mono ?_
        rintro e w1 ⟨rfl, hb⟩
        have HB := Lib.hid (B2.out.trans (hb.mono B2.out.size))
        have x0 := (Y1.out.below hb l1).cell 0
        simp only [List.getElem?_toArray, List.getElem?_cons_zero] at x0
        clear hb
        go_wp2_with (go_at_call 44; refine (KB.out w1 HB.out).mono ?_; rintro e w3 ⟨rfl, hb3⟩)
        go_ret2
        exact ⟨rfl, HB.out.trans (hb3.mono HB.out.size)⟩
      | false =>
        rw [if_neg (fun h => h.elim hnm (of_decide_eq_false hb))]
        clear hb hnm
        go_enter Tryd.func20, Tryd.ntmps20
        go_wp2_with fail
        refine K.out.mono ?_
        rintro e w1 ⟨rfl, hb⟩
        have HB := Lib.hid (B2.out.trans (hb.mono B2.out.size))
        have y3 := Y1.out.below hb l1
        have l3 := y3.lt
        have x0 := y3.cell 0
        simp only [List.getElem?_toArray, List.getElem?_cons_zero] at x0
        have Y3 := Lib.hid y3
        clear hb y3
        go_wp2_with fail
        refine (KB.out w1 HB.out).mono ?_
        rintro e w3 ⟨rfl, hb3⟩
        have HB3 := Lib.hid (HB.out.trans (hb3.mono HB.out.size))
        have y4 := Y3.out.below hb3 l3
        have z0 := y4.cell 0
        have z3 := y4.cell 3
        simp only [List.getElem?_toArray, List.getElem?_cons_zero, List.getElem?_cons_succ] at z0 z3
        clear hb3 y4 x0
        go_wp2_with fail
        refine (K2.out w3 HB3.out (by trivial)).mono ?_
        rintro e w4 ⟨rfl, hb4⟩
        have HB4 := Lib.hid (HB3.out.trans (hb4.mono HB3.out.size))
        clear hb4
        go_wp2
        go_ret2
        exact ⟨rfl, HB4.out⟩
end Go.Proofs.YtcogoiphpfgkdaaDoor
namespace Go.Proofs.YtcogoiphpfgkdaaDoor
open Go.RowKit
set_option linter.unusedVariables false
set_option linter.unusedSimpArgs false

/-- Start's and End's answers. -/
def startOut (nm tx : List UInt8) (ats : List At) : List UInt8 := if mayB [.mk nm tx ats []] = true then (if nm = [] then [] else startB nm ats) else []
def endOut (nm tx : List UInt8) (ats : List At) : List UInt8 := if mayB [.mk nm tx ats []] = true then (if nm = [] ∨ nm ∈ setNames1 then [] else endTag nm) else []

set_option maxHeartbeats 1000000 in
set_option maxRecDepth 100000 in
theorem alone_any (v0 v1 v2 : Value) (Ak : Option Addr) (nk ck : Nat) (w : World) (h0 : ∃ s, v0 = .string s) (h1 : ∃ s, v1 = .string s) (h2 : ∃ A n c, v2 = .slice A n c) :
    Calls Tryd.prog 45 #[.agg #[v0, v1, v2, .slice Ak nk ck]] w fun e w' => e = .returned (.agg #[v0, v1, v2, .slice none 0 0]) ∧ Below w.heap.size w w' := by
  obtain ⟨s0, rfl⟩ := h0
  obtain ⟨s1, rfl⟩ := h1
  obtain ⟨A2, n2, c2, rfl⟩ := h2
  go_enter Tryd.func45, Tryd.ntmps45
  go_wp2
  refine bodyPost_ret (results_cell_row rfl _ _ (w.heap.size + 1) _ _ _ _ rfl (Blk.new_at _ _ (by simp)) Tryd.underlying41 rfl rfl) rfl ⟨rfl, ((Below.refl _ w).alloc (Nat.le_refl _) _).alloc (by simp) _⟩
set_option maxHeartbeats 1000000 in
set_option maxRecDepth 100000 in
theorem pstart_any (S : Nat → Prop) (nm tx : List UInt8) (ats : List At) (Aa Ak : Option Addr) (ca nk ck : Nat) (w : World) (hT : Tab w) (hS : ∀ k, S k → k < w.heap.size) (hw : 1 + nm.length + tx.length + awt ats ≤ 1048576)
    (hr : Row S w 2 Aa ats.length (ats.flatMap atCells)) :
    Calls Tryd.prog 21 #[.agg #[.string (str nm), .string (str tx), .slice Aa ats.length ca, .slice Ak nk ck]] w fun e w' => e = .returned (.tuple #[.string (str (startOut nm tx ats)), .int .i64 (errN (mayB [.mk nm tx ats []]))]) ∧ Below w.heap.size w w' := by
  obtain ⟨W1, hW1⟩ : ∃ W1, w.alloc (.cells #[.string (str nm), .string (str tx), .slice Aa ats.length ca, .slice Ak nk ck] 41) = W1 := ⟨_, rfl⟩
  have b1 : Below w.heap.size w W1 := by rw [← hW1]; exact (Below.refl _ w).alloc (Nat.le_refl _) _
  have y1 : Blk W1 w.heap.size 41 #[.string (str nm), .string (str tx), .slice Aa ats.length ca, .slice Ak nk ck] := by rw [← hW1]; exact Blk.new w _ _
  have l1 := y1.lt
  have a0 := y1.cell 0
  have a1 := y1.cell 1
  have a2 := y1.cell 2
  have a3 := y1.cell 3
  simp only [List.getElem?_toArray, List.getElem?_cons_zero, List.getElem?_cons_succ] at a0 a1 a2 a3
  have KA := Lib.hid (fun W => alone_any (.string (str nm)) (.string (str tx)) (.slice Aa ats.length ca) Ak nk ck W ⟨_, rfl⟩ ⟨_, rfl⟩ ⟨_, _, _, rfl⟩)
  have HR := Lib.hid (fun (W : World) (h : Below w.heap.size w W) => hr.behind h)
  have HS := Lib.hid (fun (W : World) (h : Below w.heap.size w W) (k : Nat) (hk : S k) => Nat.lt_of_lt_of_le (hS k hk) h.size)
  have K := Lib.hid (fun (W : World) (b : Nat) (h : Below w.heap.size w W) (y : Blk W b 41 #[.string (str nm), .string (str tx), .slice Aa ats.length ca, .slice none 0 0]) =>
    check_any (fun k => k < W.heap.size) [.mk nm tx ats []] (by rw [wt_one, wt_nil]; exact hw) W (some ⟨b, 0, none⟩) 1 (Ns.one (kids := []) y y.lt ((hr.behind h).more (fun k h _ => h) (by decide)) Ns.nil) (hT.behind h) (fun k h => h))
  have KB := Lib.hid (fun (W : World) (h : Below w.heap.size w W) => bare_any nm W (hT.behind h))
  have KS := Lib.hid (fun (W : World) (h : Below w.heap.size w W) (hm : mayB [.mk nm tx ats []] = true) => start_any S nm tx ats Aa Ak ca nk ck W (hr.behind h) (fun k hk => Nat.lt_of_lt_of_le (hS k hk) h.size)
    (by have := may_well _ hm; rw [wellB_cons, wellB_nil] at this; simp only [Bool.and_eq_true, Nd.attrs] at this; exact fun a ha => List.all_eq_true.1 this.1.1.2 a ha) (by omega))
  have B1 := Lib.hid b1
  have Y1 := Lib.hid y1
  unfold startOut errN
  generalize mayB [.mk nm tx ats []] = m at K KS ⊢
  obtain ⟨b, hb⟩ : ∃ b, decide (nm ∈ setNames1) = b := ⟨_, rfl⟩
  rw [hb] at KB
  clear b1 y1 hr hT hS
  have e1 : (⟨#[60, 47]⟩ : ByteArray) ++ str nm = str ([60, 47] ++ nm) := str_append [60, 47] nm
  have e2 : str ([60, 47] ++ nm) ++ (⟨#[62]⟩ : ByteArray) = str (endTag nm) := str_append _ [62]
  have z1 : (str nm).size ≤ 1048576 := by rw [str_size]; omega
  have z2 : (str ([60, 47] ++ nm)).size ≤ 1048579 := by rw [str_size]; simp; omega
  generalize endTag nm = y at e2 ⊢
  obtain ⟨y1, hy1⟩ : ∃ y1, [60, 47] ++ nm = y1 := ⟨_, rfl⟩
  rw [hy1] at e1 e2 z2
  obtain ⟨ss, hss⟩ : ∃ ss, startB nm ats = ss := ⟨_, rfl⟩
  rw [hss] at KS
  try rw [hss]
  clear hy1 hss
  obtain ⟨R, hR⟩ : ∃ R, (if m = true then (if nm = [] then [] else ss) else []) = R := ⟨_, rfl⟩
  rw [hR]
  have HRR := Lib.hid hR
  clear hR
  go_enter Tryd.func21, Tryd.ntmps21
  go_wp2_with fail
  refine (KA.out W1).mono ?_
  rintro e w2 ⟨rfl, hb2⟩
  have y2 := Y1.out.below hb2 l1
  have l2 := y2.lt
  have B2 := Lib.hid (B1.out.trans (hb2.mono B1.out.size))
  have Y2 := Lib.hid y2
  clear hb2 y2 a0 a1 a2 a3
  go_wp2_with fail
  have b3 : Below w2.heap.size w2 (w2.alloc (.cells #[.string (str nm), .string (str tx), .slice Aa ats.length ca, .slice none 0 0] 41)) := (Below.refl _ w2).alloc (Nat.le_refl _) _
  refine (K.out _ w2.heap.size (B2.out.trans (b3.mono B2.out.size)) (Blk.new w2 _ _)).mono ?_
  rintro e w4 ⟨rfl, hb4⟩
  have b4 : Below w2.heap.size w2 w4 := b3.trans (hb4.mono b3.size)
  have B4 := Lib.hid (B2.out.trans (b4.mono B2.out.size))
  have y4 := Y2.out.below b4 l2
  have l4 := y4.lt
  have Y4 := Lib.hid y4
  have q0 := y4.cell 0
  have q1 := y4.cell 1
  have q2 := y4.cell 2
  have q3 := y4.cell 3
  simp only [List.getElem?_toArray, List.getElem?_cons_zero, List.getElem?_cons_succ] at q0 q1 q2 q3
  clear b3 hb4 b4 y4
  cases m with
  | false =>
    rw [if_neg (by decide)]
    go_wp2
    go_ret2
    have hr := HRR.out
    rw [if_neg (by decide)] at hr
    subst hr
    exact ⟨rfl, B4.out⟩
  | true =>
    rw [if_pos rfl]
    by_cases hnm : nm = []
    · subst hnm
      go_wp2
      go_ret2
      have hr := HRR.out
      simp at hr
      subst hr
      exact ⟨rfl, B4.out⟩
    · have f0 : (nm == []) = false := by simpa using hnm
      go_wp2_with fail
      refine (KS.out w4 B4.out (by trivial)).mono ?_
      rintro e w5 ⟨rfl, hb5⟩
      have B5 := Lib.hid (B4.out.trans (hb5.mono B4.out.size))
      clear hb5
      go_wp2
      go_ret2
      have hr := HRR.out
      rw [if_pos trivial, if_neg hnm] at hr
      subst hr
      exact ⟨rfl, B5.out⟩
set_option maxHeartbeats 1000000 in
set_option maxRecDepth 100000 in
theorem pend_any (S : Nat → Prop) (nm tx : List UInt8) (ats : List At) (Aa Ak : Option Addr) (ca nk ck : Nat) (w : World) (hT : Tab w) (hS : ∀ k, S k → k < w.heap.size) (hw : 1 + nm.length + tx.length + awt ats ≤ 1048576)
    (hr : Row S w 2 Aa ats.length (ats.flatMap atCells)) :
    Calls Tryd.prog 22 #[.agg #[.string (str nm), .string (str tx), .slice Aa ats.length ca, .slice Ak nk ck]] w fun e w' => e = .returned (.tuple #[.string (str (endOut nm tx ats)), .int .i64 (errN (mayB [.mk nm tx ats []]))]) ∧ Below w.heap.size w w' := by
  obtain ⟨W1, hW1⟩ : ∃ W1, w.alloc (.cells #[.string (str nm), .string (str tx), .slice Aa ats.length ca, .slice Ak nk ck] 41) = W1 := ⟨_, rfl⟩
  have b1 : Below w.heap.size w W1 := by rw [← hW1]; exact (Below.refl _ w).alloc (Nat.le_refl _) _
  have y1 : Blk W1 w.heap.size 41 #[.string (str nm), .string (str tx), .slice Aa ats.length ca, .slice Ak nk ck] := by rw [← hW1]; exact Blk.new w _ _
  have l1 := y1.lt
  have a0 := y1.cell 0
  have a1 := y1.cell 1
  have a2 := y1.cell 2
  have a3 := y1.cell 3
  simp only [List.getElem?_toArray, List.getElem?_cons_zero, List.getElem?_cons_succ] at a0 a1 a2 a3
  have KA := Lib.hid (fun W => alone_any (.string (str nm)) (.string (str tx)) (.slice Aa ats.length ca) Ak nk ck W ⟨_, rfl⟩ ⟨_, rfl⟩ ⟨_, _, _, rfl⟩)
  have HR := Lib.hid (fun (W : World) (h : Below w.heap.size w W) => hr.behind h)
  have HS := Lib.hid (fun (W : World) (h : Below w.heap.size w W) (k : Nat) (hk : S k) => Nat.lt_of_lt_of_le (hS k hk) h.size)
  have K := Lib.hid (fun (W : World) (b : Nat) (h : Below w.heap.size w W) (y : Blk W b 41 #[.string (str nm), .string (str tx), .slice Aa ats.length ca, .slice none 0 0]) =>
    check_any (fun k => k < W.heap.size) [.mk nm tx ats []] (by rw [wt_one, wt_nil]; exact hw) W (some ⟨b, 0, none⟩) 1 (Ns.one (kids := []) y y.lt ((hr.behind h).more (fun k h _ => h) (by decide)) Ns.nil) (hT.behind h) (fun k h => h))
  have KB := Lib.hid (fun (W : World) (h : Below w.heap.size w W) => bare_any nm W (hT.behind h))
  have KS := Lib.hid (fun (W : World) (h : Below w.heap.size w W) (hm : mayB [.mk nm tx ats []] = true) => start_any S nm tx ats Aa Ak ca nk ck W (hr.behind h) (fun k hk => Nat.lt_of_lt_of_le (hS k hk) h.size)
    (by have := may_well _ hm; rw [wellB_cons, wellB_nil] at this; simp only [Bool.and_eq_true, Nd.attrs] at this; exact fun a ha => List.all_eq_true.1 this.1.1.2 a ha) (by omega))
  have B1 := Lib.hid b1
  have Y1 := Lib.hid y1
  unfold endOut errN
  generalize mayB [.mk nm tx ats []] = m at K KS ⊢
  obtain ⟨b, hb⟩ : ∃ b, decide (nm ∈ setNames1) = b := ⟨_, rfl⟩
  rw [hb] at KB
  clear b1 y1 hr hT hS
  have e1 : (⟨#[60, 47]⟩ : ByteArray) ++ str nm = str ([60, 47] ++ nm) := str_append [60, 47] nm
  have e2 : str ([60, 47] ++ nm) ++ (⟨#[62]⟩ : ByteArray) = str (endTag nm) := str_append _ [62]
  have z1 : (str nm).size ≤ 1048576 := by rw [str_size]; omega
  have z2 : (str ([60, 47] ++ nm)).size ≤ 1048579 := by rw [str_size]; simp; omega
  generalize endTag nm = y at e2 ⊢
  obtain ⟨y1, hy1⟩ : ∃ y1, [60, 47] ++ nm = y1 := ⟨_, rfl⟩
  rw [hy1] at e1 e2 z2
  obtain ⟨ss, hss⟩ : ∃ ss, startB nm ats = ss := ⟨_, rfl⟩
  rw [hss] at KS
  try rw [hss]
  clear hy1 hss
  obtain ⟨R, hR⟩ : ∃ R, (if m = true then (if nm = [] ∨ nm ∈ setNames1 then [] else y) else []) = R := ⟨_, rfl⟩
  rw [hR]
  have HRR := Lib.hid hR
  clear hR
  go_enter Tryd.func22, Tryd.ntmps22
  go_wp2_with fail
  refine (KA.out W1).mono ?_
  rintro e w2 ⟨rfl, hb2⟩
  have y2 := Y1.out.below hb2 l1
  have l2 := y2.lt
  have B2 := Lib.hid (B1.out.trans (hb2.mono B1.out.size))
  have Y2 := Lib.hid y2
  clear hb2 y2 a0 a1 a2 a3
  go_wp2_with fail
  have b3 : Below w2.heap.size w2 (w2.alloc (.cells #[.string (str nm), .string (str tx), .slice Aa ats.length ca, .slice none 0 0] 41)) := (Below.refl _ w2).alloc (Nat.le_refl _) _
  refine (K.out _ w2.heap.size (B2.out.trans (b3.mono B2.out.size)) (Blk.new w2 _ _)).mono ?_
  rintro e w4 ⟨rfl, hb4⟩
  have b4 : Below w2.heap.size w2 w4 := b3.trans (hb4.mono b3.size)
  have B4 := Lib.hid (B2.out.trans (b4.mono B2.out.size))
  have y4 := Y2.out.below b4 l2
  have l4 := y4.lt
  have Y4 := Lib.hid y4
  have q0 := y4.cell 0
  have q1 := y4.cell 1
  have q2 := y4.cell 2
  have q3 := y4.cell 3
  simp only [List.getElem?_toArray, List.getElem?_cons_zero, List.getElem?_cons_succ] at q0 q1 q2 q3
  clear b3 hb4 b4 y4
  cases m with
  | false =>
    rw [if_neg (by decide)]
    go_wp2
    go_ret2
    have hr := HRR.out
    rw [if_neg (by decide)] at hr
    subst hr
    exact ⟨rfl, B4.out⟩
  | true =>
    rw [if_pos rfl]
    by_cases hnm : nm = []
    · subst hnm
      go_wp2
      go_ret2
      have hr := HRR.out
      simp at hr
      subst hr
      exact ⟨rfl, B4.out⟩
    · have f0 : (nm == []) = false := by simpa using hnm
      go_wp2_with fail
      refine (KB.out w4 B4.out).mono ?_
      rintro e w5 ⟨rfl, hb5⟩
      have B5 := Lib.hid (B4.out.trans (hb5.mono B4.out.size))
      have z0 := (Y4.out.below hb5 l4).cell 0
      simp only [List.getElem?_toArray, List.getElem?_cons_zero] at z0
      clear hb5 q0 q1 q2 q3
      cases b with
      | true =>
        go_wp2
        go_ret2
        have hr := HRR.out
        rw [if_pos trivial, if_pos (.inr (of_decide_eq_true hb))] at hr
        subst hr
        exact ⟨rfl, B5.out⟩
      | false =>
        go_wp2
        go_ret2
        have hr := HRR.out
        rw [if_pos trivial, if_neg (fun h => h.elim hnm (of_decide_eq_false hb))] at hr
        subst hr
        exact ⟨rfl, B5.out⟩
end Go.Proofs.YtcogoiphpfgkdaaDoor
namespace Go.Proofs.YtcogoiphpfgkdaaDoor
open Go.RowKit
set_option linter.unusedVariables false
set_option linter.unusedSimpArgs false

theorem num_any (z : Int) (w : World) : Calls Tryd.prog 10 #[.int .i64 z] w fun e w' => e = .returned (.int .i64 z) ∧ w = w' := by
  go_enter Tryd.func10, Tryd.ntmps10
  go_wp2
  go_ret
  exact ⟨rfl, rfl⟩

def NodesAs (S : Nat → Prop) (L : List Nd) : Prop := ∀ (left depth : Nat) (W : World) (A : Option Addr) (c : Nat), Ns S W A L.length L → (∀ k, S k → k < W.heap.size) → left ≤ 20000 → depth ≤ 2001 →
  Calls Tryd.prog 30 #[.slice A L.length c, .int .i64 left, .int .i64 depth] W fun e w' => (∃ z : Nat, z ≤ 20000 ∧ e = .returned (.int .i64 z)) ∧ Below W.heap.size W w'

set_option maxHeartbeats 1000000 in
set_option maxRecDepth 100000 in
theorem nodes_any (S : Nat → Prop) (L : List Nd) (hl : wt L ≤ 1048576) : NodesAs S L := by
  induction L using nds_ind with
  | _ L IH =>
  intro left depth W A c hN hS h1 h2
  have hll := wt_length L
  have HIH := Lib.hid (fun d (h : d ∈ L) => IH d h (by have := wt_mem h; omega))
  have HN := Lib.hid hN
  have HS := Lib.hid (fun (W' : World) (h : W.heap.size ≤ W'.heap.size) (k : Nat) (hk : S k) => Nat.lt_of_lt_of_le (hS k hk) h)
  clear IH hN hS
  by_cases hd : depth ≤ 2000
  · have d0 : decide ((2000 : Int) < (depth : Int)) = false := decide_eq_false (by omega)
    have d1 : decide (2000 < depth) = false := decide_eq_false (by omega)
    go_enter Tryd.func30, Tryd.ntmps30
    go_wp2
    go_loopw [1, 13] (fun v i wr => ∃ (k le : Nat), k ≤ L.length ∧ i = .int .i64 k ∧ le ≤ 20000 ∧ v = .int .i64 le ∧ Hid (Below W.heap.size W wr)) (fun _ i _ => L.length - (intOf i).toNat)
    case atStart => exact ⟨0, left, Nat.zero_le _, rfl, h1, rfl, Below.refl _ _⟩
    case round =>
      obtain ⟨k, le, hk, rfl, hle, rfl, HB⟩ := hrel
      by_cases hlt : k < L.length
      · obtain ⟨x, hx⟩ : ∃ x, L[k]? = some x := ⟨L[k], List.getElem?_eq_getElem hlt⟩
        have hmem := List.mem_of_getElem? hx
        obtain ⟨ad, Aa, ca, Ak, ck, rfl, hsa, hsb, c0, c1, c2, c3, hra, hnk⟩ := (HN.out.behind HB.out).get hx
        have lb := HB.out.size
        have hbl := HS.out W (Nat.le_refl _) _ hsa
        have hbl2 := HS.out W (Nat.le_refl _) _ hsb
        have i1 : (0 : Int) ≤ (k : Int) := by omega
        have i2 : (k : Int) < (L.length : Int) := by omega
        have IHd := HIH.out x hmem
        have HNK := Lib.hid hnk
        have HID := Lib.hid IHd
        clear hx hmem hra hnk IHd
        by_cases hz : le ≤ 1
        · have g0 : decide ((le : Int) - 1 ≤ 0) = true := decide_eq_true (by omega)
          have g1 : decide ((le : Int) ≤ 1) = true := decide_eq_true (by omega)
          go_wp2
          go_ret
          exact ⟨⟨0, by omega, rfl⟩, HB.out.alloc lb _⟩
        · obtain ⟨m, rfl⟩ : ∃ m, le = m + 1 := ⟨le - 1, by omega⟩
          have g0 : decide (((m + 1 : Nat) : Int) - 1 ≤ 0) = false := decide_eq_false (by omega)
          have g1 : decide (((m + 1 : Nat) : Int) ≤ 1) = false := decide_eq_false (by omega)
          have g2 : ((m + 1 : Nat) : Int) - 1 = (m : Int) := by omega
          obtain ⟨W1, hW1⟩ : ∃ W1, wr.alloc (.cells #[.string (str x.name), .string (str x.text), .slice Aa x.attrs.length ca, .slice Ak x.kids.length ck] 41) = W1 := ⟨_, rfl⟩
          have hb1 : Below wr.heap.size wr W1 := by rw [← hW1]; exact (Below.refl _ wr).alloc (Nat.le_refl _) _
          have y1 : Blk W1 wr.heap.size 41 #[.string (str x.name), .string (str x.text), .slice Aa x.attrs.length ca, .slice Ak x.kids.length ck] := by rw [← hW1]; exact Blk.new _ _ _
          have a3 := y1.cell 3
          simp only [List.getElem?_toArray, List.getElem?_cons_zero, List.getElem?_cons_succ] at a3
          have y1l := y1.lt
          have B1 := Lib.hid (HB.out.trans (hb1.mono lb))
          have kk := HID.out m (depth + 1) W1 Ak ck (HNK.out.behind hb1) (HS.out W1 B1.out.size) (by omega) (by omega)
          simp only [Int.natCast_add, Int.natCast_one] at kk
          have KK := Lib.hid kk
          clear kk hb1 y1
          go_wp2_with fail
          refine KK.out.mono ?_
          rintro e w2 ⟨⟨z, hz2, rfl⟩, hb2⟩
          have B2 := Lib.hid (B1.out.trans (hb2.mono B1.out.size))
          clear hb2
          go_wp2
          go_roundw
          case rel => exact ⟨k + 1, z, by omega, by go_num, hz2, rfl, B2⟩
          case measure => simp [intOf]; omega
      · go_wp2
        go_ret
        exact ⟨⟨le, hle, rfl⟩, HB.out⟩
  · have d0 : decide ((2000 : Int) < (depth : Int)) = true := decide_eq_true (by omega)
    have d1 : decide (2000 < depth) = true := decide_eq_true (by omega)
    go_enter Tryd.func30, Tryd.ntmps30
    go_wp2
    go_ret
    exact ⟨⟨0, by omega, rfl⟩, Below.refl _ _⟩

set_option maxHeartbeats 1000000 in
theorem great_any (S : Nat → Prop) (L : List Nd) (hl : wt L ≤ 1048576) (W : World) (A : Option Addr) (c : Nat) (hN : Ns S W A L.length L) (hS : ∀ k, S k → k < W.heap.size) :
    Calls Tryd.prog 12 #[.slice A L.length c] W fun e w' => (∃ b, e = .returned (.bool b)) ∧ Below W.heap.size W w' := by
  have k0 := nodes_any S L hl 20000 0 W A c hN hS (by decide) (by decide)
  have k1 : Calls Tryd.prog 30 #[.slice A L.length c, .int .i64 20000, .int .i64 0] W _ := k0
  have K := Lib.hid k1
  clear k0 k1 hN hS
  go_enter Tryd.func12, Tryd.ntmps12
  go_wp2_with fail
  refine K.out.mono ?_
  rintro e w1 ⟨⟨z, hz, rfl⟩, hb⟩
  go_wp2
  go_ret
  exact ⟨⟨_, rfl⟩, hb⟩
end Go.Proofs.YtcogoiphpfgkdaaDoor
namespace Go.Proofs.YtcogoiphpfgkdaaDoor
open Go.RowKit
set_option linter.unusedVariables false
set_option linter.unusedSimpArgs false

def exP : List Nd := [.mk [112] [] [] [.mk [] [97, 38, 98] [] []], .mk [98, 114] [] [] []]
def exS : List Nd := [.mk [115, 99, 114, 105, 112, 116] [] [] [.mk [] [97, 60, 98] [] []]]
theorem exP_may : mayB exP = true := by decide +kernel
theorem exS_may : mayB exS = true := by decide +kernel
theorem exP_wt : wt exP ≤ 1048576 := by decide +kernel
theorem exS_wt : wt exS ≤ 1048576 := by decide +kernel
theorem exP_out : ptText (ptB [] 0 exP) = [60, 112, 62, 97, 38, 97, 109, 112, 59, 98, 60, 47, 112, 62, 60, 98, 114, 62] := by decide +kernel
theorem exS_out : ptText (ptB [] 0 exS) = [60, 115, 99, 114, 105, 112, 116, 62, 97, 60, 98, 60, 47, 115, 99, 114, 105, 112, 116, 62] := by decide +kernel
theorem Row.nil2 {S : Nat → Prop} {w : World} : Row S w 2 none ([] : List At).length (([] : List At).flatMap atCells) := Row.none_

set_option maxHeartbeats 1000000 in
set_option maxRecDepth 100000 in
theorem awake_any (w : World) (hT : Tab w) (hRT : RawTab w) : Calls Tryd.prog 11 #[] w fun e w' => e = .returned (.bool true) ∧ Below w.heap.size w w' := by
  obtain ⟨W2, hW2⟩ : ∃ W2, (w.alloc (.cells #[.string ⟨#[]⟩, .string ⟨#[97, 38, 98]⟩, .slice none 0 0, .slice none 0 0] 41)).alloc (.cells #[.string ⟨#[112]⟩, .string ⟨#[]⟩, .slice none 0 0, .slice (some ⟨w.heap.size, 0, none⟩) 1 1, .string ⟨#[98, 114]⟩, .string ⟨#[]⟩, .slice none 0 0, .slice none 0 0] 41) = W2 := ⟨_, rfl⟩
  have b2 : Below w.heap.size w W2 := by rw [← hW2]; exact ((Below.refl _ w).alloc (Nat.le_refl _) _).alloc (by simp) _
  have n2 : Ns (fun k => k < W2.heap.size) W2 (some ⟨w.heap.size + 1, 0, none⟩) 2 exP := by
    have y1 : Blk W2 w.heap.size 41 #[.string (str []), .string (str [97, 38, 98]), .slice none 0 0, .slice none 0 0] := by rw [← hW2]; exact (Blk.new w _ _).alloc _
    have y2 : Blk W2 (w.heap.size + 1) 41 #[.string (str [112]), .string (str []), .slice none 0 0, .slice (some ⟨w.heap.size, 0, none⟩) 1 1, .string (str [98, 114]), .string (str []), .slice none 0 0, .slice none 0 0] := by rw [← hW2]; exact Blk.new_at _ _ (by simp)
    exact Ns.two (ats := []) (ats' := []) (kids' := []) y2 y2.lt Row.nil2 (Ns.one (ats := []) (kids := []) y1 y1.lt Row.nil2 Ns.nil) Row.nil2 Ns.nil
  have k1 := serialize_any _ exP W2 _ 2 (hT.behind b2) (hRT.behind b2) (fun k h => h) exP_wt n2
  unfold serOut errN at k1
  rw [if_pos exP_may, if_pos exP_may, exP_out] at k1
  have K1 := Lib.hid (show Calls Tryd.prog 13 #[.slice (some ⟨w.heap.size + 1, 0, none⟩) 2 2] W2 _ from k1)
  have K2 := Lib.hid (fun (w1 : World) (h : Below w.heap.size w w1) => by
    obtain ⟨W4, hW4⟩ : ∃ W4, (w1.alloc (.cells #[.string ⟨#[]⟩, .string ⟨#[97, 60, 98]⟩, .slice none 0 0, .slice none 0 0] 41)).alloc (.cells #[.string ⟨#[115, 99, 114, 105, 112, 116]⟩, .string ⟨#[]⟩, .slice none 0 0, .slice (some ⟨w1.heap.size, 0, none⟩) 1 1] 41) = W4 := ⟨_, rfl⟩
    have b4 : Below w1.heap.size w1 W4 := by rw [← hW4]; exact ((Below.refl _ w1).alloc (Nat.le_refl _) _).alloc (by simp) _
    have b5 := h.trans (b4.mono h.size)
    have n4 : Ns (fun k => k < W4.heap.size) W4 (some ⟨w1.heap.size + 1, 0, none⟩) 1 exS := by
      have y1 : Blk W4 w1.heap.size 41 #[.string (str []), .string (str [97, 60, 98]), .slice none 0 0, .slice none 0 0] := by rw [← hW4]; exact (Blk.new w1 _ _).alloc _
      have y2 : Blk W4 (w1.heap.size + 1) 41 #[.string (str [115, 99, 114, 105, 112, 116]), .string (str []), .slice none 0 0, .slice (some ⟨w1.heap.size, 0, none⟩) 1 1] := by rw [← hW4]; exact Blk.new_at _ _ (by simp)
      exact Ns.one (ats := []) y2 y2.lt Row.nil2 (Ns.one (ats := []) (kids := []) y1 y1.lt Row.nil2 Ns.nil)
    have k2 := serialize_any _ exS W4 _ 1 (hT.behind b5) (hRT.behind b5) (fun k h => h) exS_wt n4
    unfold serOut errN at k2
    rw [if_pos exS_may, if_pos exS_may, exS_out] at k2
    rw [← hW4] at k2
    have k3 : Calls Tryd.prog 13 #[.slice (some ⟨w1.heap.size + 1, 0, none⟩) 1 1] ((w1.alloc (.cells #[.string ⟨#[]⟩, .string ⟨#[97, 60, 98]⟩, .slice none 0 0, .slice none 0 0] 41)).alloc (.cells #[.string ⟨#[115, 99, 114, 105, 112, 116]⟩, .string ⟨#[]⟩, .slice none 0 0, .slice (some ⟨w1.heap.size, 0, none⟩) 1 1] 41))
      (fun e w' => e = .returned (.tuple #[.string ⟨#[60, 115, 99, 114, 105, 112, 116, 62, 97, 60, 98, 60, 47, 115, 99, 114, 105, 112, 116, 62]⟩, .int .i64 0]) ∧ Below w.heap.size w w') :=
      k2.mono (fun e w' he => ⟨he.1, by have e2 := he.2; rw [hW4] at e2; exact b5.trans (e2.mono b5.size)⟩)
    exact k3)
  have B2 := Lib.hid b2
  clear k1 b2 n2 hT hRT
  go_enter Tryd.func11, Tryd.ntmps11
  go_wp2_with fail
  refine K1.out.mono ?_
  rintro e w1 ⟨rfl, hb1⟩
  have B1 := Lib.hid (B2.out.trans (hb1.mono B2.out.size))
  clear hb1
  go_wp2_with fail
  refine (K2.out w1 B1.out).mono ?_
  rintro e w3 ⟨rfl, hb3⟩
  go_wp2_with (go_at_call 10; refine (num_any _ _).mono ?_; rintro e w4 ⟨rfl, rfl⟩)
  go_ret
  exact ⟨rfl, hb3⟩
end Go.Proofs.YtcogoiphpfgkdaaDoor
