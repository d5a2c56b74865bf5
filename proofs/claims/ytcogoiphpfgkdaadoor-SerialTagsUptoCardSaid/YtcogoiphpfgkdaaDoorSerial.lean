/-
  The contracts of Serialize, Length, Inner, Start, End.
-/
import Derived.Test.YtcogoiphpfgkdaaDoorWhole
import Derived.Test.YtcogoiphpfgkdaaDoorCheckAll
import Derived.Test.YtcogoiphpfgkdaaDoorNodesMore
import Derived.Test.YtcogoiphpfgkdaaDoorRSerialize
namespace Go.Proofs.YtcogoiphpfgkdaaDoor
open Go.RowKit
set_option linter.unusedVariables false
set_option linter.unusedSimpArgs false

/-- Two results. -/
def errN (b : Bool) : Int := if b = true then 0 else 210
def serOut (L : List Nd) : List UInt8 := if mayB L = true then ptText (ptB [] 0 L) else []

set_option maxHeartbeats 1000000 in
set_option maxRecDepth 100000 in
theorem serialize_any (S : Nat → Prop) (L : List Nd) (w : World) (A : Option Addr) (c : Nat) (hT : Tab w) (hRT : RawTab w) (hS : ∀ k, S k → k < w.heap.size) (hw : wt L ≤ 1048576) (hN : Ns S w A L.length L) :
    Calls Tryd.prog 13 #[.slice A L.length c] w fun e w' => e = .returned (.tuple #[.string (str (serOut L)), .int .i64 (errN (mayB L))]) ∧ Below w.heap.size w w' := by
  have K := Lib.hid (check_any S L hw w A c hN hT hS)
  have K2 := Lib.hid (fun (W : World) (h : Below w.heap.size w W) (hm : mayB L = true) => whole_any S L [] W A c (hT.behind h) (hRT.behind h) (fun k hk => Nat.lt_of_lt_of_le (hS k hk) h.size) hw (hN.behind h) (may_well L hm))
  unfold serOut errN
  generalize mayB L = b at K K2 ⊢
  generalize ptText (ptB [] 0 L) = y at K2 ⊢
  clear hT hRT hS hN hw
  cases b with
  | true =>
    rw [if_pos rfl] at K
    go_enter Tryd.func13, Tryd.ntmps13
    go_wp2_with fail
    refine K.out.mono ?_
    rintro e w1 ⟨rfl, hb⟩
    have HB := Lib.hid hb
    have K3 : Calls Tryd.prog 32 #[.string ⟨#[]⟩, .slice A L.length c] w1 _ := K2.out w1 hb (by trivial)
    have HK3 := Lib.hid K3
    clear hb K3
    go_wp2_with fail
    refine HK3.out.mono ?_
    rintro e w2 ⟨rfl, hb2⟩
    go_wp2
    go_ret2
    exact ⟨rfl, HB.out.trans (hb2.mono HB.out.size)⟩
  | false =>
    rw [if_neg (by decide)] at K
    clear K2
    go_enter Tryd.func13, Tryd.ntmps13
    go_wp2_with fail
    refine K.out.mono ?_
    rintro e w1 ⟨rfl, hb⟩
    have HB := Lib.hid hb
    clear hb
    go_wp2
    go_ret2
    exact ⟨rfl, HB.out⟩

set_option maxHeartbeats 1000000 in
set_option maxRecDepth 100000 in
theorem len1_any {w : World} {b n : Nat} (h : Blk w b 3 #[.int .i64 n]) (d : Nat) (s : List UInt8) (hn : n + s.length ≤ 140737488355328) :
    Calls Tryd.prog 34 #[.int .i64 d, .string (str s), .pointer (some ⟨b, 0, none⟩)] w fun e w' => e = .returned (.bool true) ∧ Blk w' b 3 #[.int .i64 (n + s.length : Nat)] ∧ Keep (fun k => k = b) w w' := by
  have x0 := h.cell 0
  have f0 := h.frozen 0
  simp only [List.getElem?_toArray, List.getElem?_cons_zero] at x0
  have hlt := h.lt
  have HB := Lib.hid h
  have z1 : (str s).size ≤ 140737488355328 := by rw [str_size]; omega
  have z2 := str_size s
  have i0 : (0 : Int) ≤ (n : Int) := by omega
  clear h
  go_enter Tryd.func34, Tryd.ntmps34
  go_wp2
  go_ret
  refine ⟨rfl, ?_, (Keep.refl (fun k => k = b) w).setCell (p := ⟨b, 0, none⟩) (.inl rfl) _⟩
  have := HB.out.set_ 0 (.int .i64 (n + s.length : Nat))
  simpa using this

/-- A counter as a yield. -/
theorem len_yield (w0 : World) (b : Nat) (hb : w0.heap.size ≤ b) :
    Yield w0 (fun p W R => Calls Tryd.prog 34 #[.int .i64 p.d, .string (str p.t), .pointer (some ⟨b, 0, none⟩)] W R) (fun acc W => Below w0.heap.size w0 W ∧ Blk W b 3 #[.int .i64 (ptText acc).length]) (fun _ _ => False) where
  call := by
    rintro acc p W ⟨h0, h⟩ hl _
    refine (len1_any h p.d p.t (by omega)).mono ?_
    rintro e W2 ⟨rfl, h', hk⟩
    refine .inl ⟨rfl, ⟨h0.trans (hk.below h0.size (fun i hi e => by omega)), ?_⟩, hk.size, fun g t cs ht hg => hg.keep hk ?_⟩
    · rw [ptText_snoc]
      exact h'
    · rintro rfl
      refine hg.ne_ h ?_ rfl
      rintro rfl
      rcases ht with h | h | h | h <;> simp at h
  keep := by
    rintro acc W W2 ⟨h0, h⟩ hb
    exact ⟨h0.trans (hb.mono h0.size), h.keep (Keep.of_below hb (fun _ => False)) id⟩
  base := fun _ _ h => h.1

set_option maxHeartbeats 1000000 in
set_option maxRecDepth 100000 in
theorem length_any (S : Nat → Prop) (L : List Nd) (w : World) (A : Option Addr) (c : Nat) (hT : Tab w) (hRT : RawTab w) (hS : ∀ k, S k → k < w.heap.size) (hw : wt L ≤ 1048576) (hN : Ns S w A L.length L) :
    Calls Tryd.prog 14 #[.slice A L.length c] w fun e w' => e = .returned (.tuple #[.int .i64 (serOut L).length, .int .i64 (errN (mayB L))]) ∧ Below w.heap.size w w' := by
  have K := Lib.hid (check_any S L hw w A c hN hT hS)
  have K2 := Lib.hid (fun (w1 : World) (h : Below w.heap.size w w1) (hm : mayB L = true) => pieces_len (len_yield w1 w1.heap.size (Nat.le_refl _)) (hT.behind h) (hRT.behind h) (fun k hk => Nat.lt_of_lt_of_le (hS k hk) h.size) L [] (w1.alloc (.cells #[.int .i64 0] 3)) A c hw (hN.behind h) (may_well L hm) ⟨(Below.refl _ w1).alloc (Nat.le_refl _) _, Blk.new w1 _ _⟩)
  unfold serOut errN
  generalize mayB L = b at K K2 ⊢
  generalize ptB [] 0 L = ps at K2 ⊢
  clear hT hRT hS hN hw
  cases b with
  | true =>
    rw [if_pos rfl] at K
    go_enter Tryd.func14, Tryd.ntmps14
    go_wp2_with fail
    refine K.out.mono ?_
    rintro e w1 ⟨rfl, hb⟩
    have HB := Lib.hid hb
    have K3 : Calls Tryd.prog 33 #[.string ⟨#[]⟩, .slice A L.length c, .func (.func 34) #[] #[.pointer (some ⟨w1.heap.size, 0, none⟩)]] (w1.alloc (.cells #[.int .i64 0] 3)) _ := K2.out w1 hb (by trivial)
    have HK3 := Lib.hid K3
    clear hb K3
    go_wp2_with fail
    refine HK3.out.mono ?_
    rintro e w2 ⟨rfl, (⟨hb2, hl⟩ | ⟨q, _, hf⟩)⟩
    case inr => exact hf.elim
    have x0 := hl.cell 0
    simp only [List.getElem?_toArray, List.getElem?_cons_zero] at x0
    have HB2 := Lib.hid hb2
    clear hb2 hl
    go_wp2
    go_ret2
    exact ⟨rfl, HB.out.trans (HB2.out.mono HB.out.size)⟩
  | false =>
    rw [if_neg (by decide)] at K
    clear K2
    go_enter Tryd.func14, Tryd.ntmps14
    go_wp2_with fail
    refine K.out.mono ?_
    rintro e w1 ⟨rfl, hb⟩
    have HB := Lib.hid hb
    clear hb
    go_wp2
    go_ret2
    exact ⟨rfl, HB.out⟩
def innerOut (nm tx : List UInt8) (ats : List At) (kids : List Nd) : List UInt8 := if mayB [.mk nm tx ats kids] = true then innerB nm kids else []
theorem wt_one (nm tx : List UInt8) (ats : List At) (kids : List Nd) : wt [.mk nm tx ats kids] = 1 + nm.length + tx.length + awt ats + wt kids := by rw [wt_cons, wt_nil]; rfl

set_option maxHeartbeats 1000000 in
set_option maxRecDepth 100000 in
theorem inner_any (S : Nat → Prop) (nm tx : List UInt8) (ats : List At) (kids : List Nd) (Aa Ak : Option Addr) (ca ck : Nat) (w : World) (hT : Tab w) (hRT : RawTab w) (hS : ∀ k, S k → k < w.heap.size) (hw : 1 + nm.length + tx.length + awt ats + wt kids ≤ 1048576)
    (hr : Row S w 2 Aa ats.length (ats.flatMap atCells)) (hN : Ns S w Ak kids.length kids) :
    Calls Tryd.prog 20 #[.agg #[.string (str nm), .string (str tx), .slice Aa ats.length ca, .slice Ak kids.length ck]] w fun e w' => e = .returned (.tuple #[.string (str (innerOut nm tx ats kids)), .int .i64 (errN (mayB [.mk nm tx ats kids]))]) ∧ Below w.heap.size w w' := by
  obtain ⟨W2, hW2⟩ : ∃ W2, (w.alloc (.cells #[.string (str nm), .string (str tx), .slice Aa ats.length ca, .slice Ak kids.length ck] 41)).alloc (.cells #[.string (str nm), .string (str tx), .slice Aa ats.length ca, .slice Ak kids.length ck] 41) = W2 := ⟨_, rfl⟩
  have b2 : Below w.heap.size w W2 := by rw [← hW2]; exact ((Below.refl _ w).alloc (Nat.le_refl _) _).alloc (by simp) _
  have y1 : Blk W2 w.heap.size 41 #[.string (str nm), .string (str tx), .slice Aa ats.length ca, .slice Ak kids.length ck] := by rw [← hW2]; exact (Blk.new w _ _).alloc _
  have y2 : Blk W2 (w.heap.size + 1) 41 #[.string (str nm), .string (str tx), .slice Aa ats.length ca, .slice Ak kids.length ck] := by rw [← hW2]; exact Blk.new_at _ _ (by simp)
  have n2 : Ns (fun k => k < W2.heap.size) W2 (some ⟨w.heap.size + 1, 0, none⟩) 1 [.mk nm tx ats kids] :=
    Ns.one y2 y2.lt ((hr.behind b2).more (fun k h _ => h) (by decide)) ((hN.behind b2).wide (fun k h _ => h))
  have K := Lib.hid (check_any _ [.mk nm tx ats kids] (by rw [wt_one]; exact hw) W2 _ 1 n2 (hT.behind b2) (fun k h => h))
  have K2 := Lib.hid (fun (W : World) (h : Below w.heap.size w W) (hm : mayB [.mk nm tx ats kids] = true) => whole_any S kids nm W Ak ck (hT.behind h) (hRT.behind h) (fun k hk => Nat.lt_of_lt_of_le (hS k hk) h.size) (by omega) (hN.behind h)
    (by have := may_well _ hm; rw [wellB_cons, wellB_nil] at this; simp only [Bool.and_eq_true, Nd.kids] at this; exact this.1.2))
  have KB := Lib.hid (fun (W : World) (h : Below w.heap.size w W) => bare_any nm W (hT.behind h))
  have Y1 := Lib.hid y1
  have B2 := Lib.hid b2
  unfold innerOut errN innerB
  generalize mayB [.mk nm tx ats kids] = m at K K2 ⊢
  generalize ptText (ptB nm 0 kids) = y at K2 ⊢
  obtain ⟨b, hb⟩ : ∃ b, decide (nm ∈ setNames1) = b := ⟨_, rfl⟩
  rw [hb] at KB
  clear hT hRT hS hN hw hr n2 y1 y2 b2
  cases m with
  | false =>
    rw [if_neg (by decide)] at K
    clear K2 KB hb
    go_enter Tryd.func20, Tryd.ntmps20
    go_wp2_with fail
    refine K.out.mono ?_
    rintro e w1 ⟨rfl, hb⟩
    have HB := Lib.hid (B2.out.trans (hb.mono B2.out.size))
    clear hb
    go_wp2
    go_ret2
    exact ⟨rfl, HB.out⟩
  | true =>
    rw [if_pos rfl] at K
    rw [if_pos rfl]
    have l1 := Y1.out.lt
    by_cases hnm : nm = []
    · subst hnm
      rw [if_pos (.inl rfl)]
      clear K2 KB hb
      go_enter Tryd.func20, Tryd.ntmps20
      go_wp2_with fail
      refine K.out.mono ?_
      rintro e w1 ⟨rfl, hb⟩
      have HB := Lib.hid (B2.out.trans (hb.mono B2.out.size))
      have x0 := (Y1.out.below hb l1).cell 0
      simp only [List.getElem?_toArray, List.getElem?_cons_zero] at x0
      clear hb
      go_wp2
      go_ret2
      exact ⟨rfl, HB.out⟩
    · have q0 : (nm == []) = false := by simpa using hnm
      cases b with
      | true =>
        rw [if_pos (.inr (of_decide_eq_true hb))]
        clear K2 hb hnm
        go_enter Tryd.func20, Tryd.ntmps20
        go_wp2_with fail
        refine K.out.mono ?_
        rintro e w1 ⟨rfl, hb⟩
        have HB := Lib.hid (B2.out.trans (hb.mono B2.out.size))
        have x0 := (Y1.out.below hb l1).cell 0
        simp only [List.getElem?_toArray, List.getElem?_cons_zero] at x0
        clear hb
        go_wp2_with (go_at_call 44; refine (KB.out w1 HB.out).mono ?_; rintro e w3 ⟨rfl, hb3⟩)
        go_ret2
        exact ⟨rfl, HB.out.trans (hb3.mono HB.out.size)⟩
      | false =>
        rw [if_neg (fun h => h.elim hnm (of_decide_eq_false hb))]
        clear hb hnm
        go_enter Tryd.func20, Tryd.ntmps20
        go_wp2_with fail
        refine K.out.mono ?_
        rintro e w1 ⟨rfl, hb⟩
        have HB := Lib.hid (B2.out.trans (hb.mono B2.out.size))
        have y3 := Y1.out.below hb l1
        have l3 := y3.lt
        have x0 := y3.cell 0
        simp only [List.getElem?_toArray, List.getElem?_cons_zero] at x0
        have Y3 := Lib.hid y3
        clear hb y3
        go_wp2_with fail
        refine (KB.out w1 HB.out).mono ?_
        rintro e w3 ⟨rfl, hb3⟩
        have HB3 := Lib.hid (HB.out.trans (hb3.mono HB.out.size))
        have y4 := Y3.out.below hb3 l3
        have z0 := y4.cell 0
        have z3 := y4.cell 3
        simp only [List.getElem?_toArray, List.getElem?_cons_zero, List.getElem?_cons_succ] at z0 z3
        clear hb3 y4 x0
        go_wp2_with fail
        refine (K2.out w3 HB3.out (by trivial)).mono ?_
        rintro e w4 ⟨rfl, hb4⟩
        have HB4 := Lib.hid (HB3.out.trans (hb4.mono HB3.out.size))
        clear hb4
        go_wp2
        go_ret2
        exact ⟨rfl, HB4.out⟩
end Go.Proofs.YtcogoiphpfgkdaaDoor
