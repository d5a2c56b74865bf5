/-
  The contracts of pieces, whole, and of their closures.
  The contract of pieces, its yield being a round of a range.
  Pieces: the function value, as an iterator over the trees' pieces.
  A range over Pieces whose body changes one cell: the loop's words, and its law.
-/
import Derived.Test.YtcogoiphpfgkdaaDoorDown
import Derived.Laws.EntriesVeiled
import Derived.Test.YtcogoiphpfgkdaaDoorDownIn
import Derived.Test.YtcogoiphpfgkdaaDoorCopies
import Derived.Test.YtcogoiphpfgkdaaDoorCheckBoth
import Derived.Test.YtcogoiphpfgkdaaDoorRangeOpen
namespace Go.Proofs.YtcogoiphpfgkdaaDoor
open Go.RowKit
set_option linter.unusedVariables false
set_option linter.unusedSimpArgs false

set_option maxHeartbeats 1000000 in
set_option maxRecDepth 100000 in
theorem pieces_whole {S : Nat → Prop} {w0 : World} {J Jx : List PT → World → Prop} {cap : Value} (hy : Yield w0 (fun p W R => Calls Tryd.prog 54 #[.int .i64 p.d, .string (str p.t), cap] W R) J Jx)
    (hT : Tab w0) (hRT : RawTab w0) (hS0 : ∀ k, S k → k < w0.heap.size) (L : List Nd) (parent : List UInt8) (w : World) (A : Option Addr) (c : Nat) (hw : wt L ≤ 1048576) (hN : Ns S w0 A L.length L) (hwell : wellB L = true) (hJ : J [] w) :
    Calls Tryd.prog 33 #[.string (str parent), .slice A L.length c, .func (.func 54) #[] #[cap]] w fun e w' =>
      e = .returned (.tuple #[]) ∧ (J (ptB parent 0 L) w' ∨ ∃ q, q <+: ptB parent 0 L ∧ Jx q w') := by
  have k0 := down_whole hy hT hRT hS0 L hw parent 0 []
  have hle := (ptB_le L parent 0).2
  rw [List.nil_append] at k0
  have K := Lib.hid (fun W (h : Below w.heap.size w W) hE hY hD => k0 W A c w.heap.size.succ w.heap.size (w.heap.size + 1 + 1) hN hwell (hy.keep _ _ _ hJ h) hE hY hD (by simp [ptText]; simp [ptText] at hle; omega) (by omega))
  rw [show ((0 : Nat) : Int) = 0 from rfl] at K
  generalize ptB parent 0 L = ps at K ⊢
  clear k0 hle hN hwell hJ hy hT hRT hS0
  go_enter Tryd.func33, Tryd.ntmps33
  go_wp2_with fail
  have b3 : Below w.heap.size w (((w.alloc (.cells #[.func (.func 54) #[] #[cap]] 53)).alloc (.cells #[escFn] 83)).alloc (.cells #[downFn (w.heap.size + 1) w.heap.size (w.heap.size + 1 + 1)] 86)) :=
    (((Below.refl _ w).alloc (Nat.le_refl _) _).alloc (by simp) _).alloc (by simp; omega) _
  refine (K.out _ b3 ((Blk.new_at _ _ (by simp)).alloc _) (((Blk.new w _ _).alloc _).alloc _) (Blk.new_at _ _ (by simp))).mono ?_
  rintro e w1 (⟨rfl, hj, _⟩ | ⟨rfl, q, hq, hx⟩)
  · have HJ := Lib.hid hj
    clear hj
    go_wp2
    go_end0
    exact ⟨rfl, .inl HJ.out⟩
  · have HX := Lib.hid hx
    clear hx
    go_wp2
    go_end0
    exact ⟨rfl, .inr ⟨q, hq, HX.out⟩⟩
set_option maxHeartbeats 1000000 in
set_option maxRecDepth 100000 in
theorem pieces_len {S : Nat → Prop} {w0 : World} {J Jx : List PT → World → Prop} {cap : Value} (hy : Yield w0 (fun p W R => Calls Tryd.prog 34 #[.int .i64 p.d, .string (str p.t), cap] W R) J Jx)
    (hT : Tab w0) (hRT : RawTab w0) (hS0 : ∀ k, S k → k < w0.heap.size) (L : List Nd) (parent : List UInt8) (w : World) (A : Option Addr) (c : Nat) (hw : wt L ≤ 1048576) (hN : Ns S w0 A L.length L) (hwell : wellB L = true) (hJ : J [] w) :
    Calls Tryd.prog 33 #[.string (str parent), .slice A L.length c, .func (.func 34) #[] #[cap]] w fun e w' =>
      e = .returned (.tuple #[]) ∧ (J (ptB parent 0 L) w' ∨ ∃ q, q <+: ptB parent 0 L ∧ Jx q w') := by
  have k0 := down_len hy hT hRT hS0 L hw parent 0 []
  have hle := (ptB_le L parent 0).2
  rw [List.nil_append] at k0
  have K := Lib.hid (fun W (h : Below w.heap.size w W) hE hY hD => k0 W A c w.heap.size.succ w.heap.size (w.heap.size + 1 + 1) hN hwell (hy.keep _ _ _ hJ h) hE hY hD (by simp [ptText]; simp [ptText] at hle; omega) (by omega))
  rw [show ((0 : Nat) : Int) = 0 from rfl] at K
  generalize ptB parent 0 L = ps at K ⊢
  clear k0 hle hN hwell hJ hy hT hRT hS0
  go_enter Tryd.func33, Tryd.ntmps33
  go_wp2_with fail
  have b3 : Below w.heap.size w (((w.alloc (.cells #[.func (.func 34) #[] #[cap]] 53)).alloc (.cells #[escFn] 83)).alloc (.cells #[downFn (w.heap.size + 1) w.heap.size (w.heap.size + 1 + 1)] 86)) :=
    (((Below.refl _ w).alloc (Nat.le_refl _) _).alloc (by simp) _).alloc (by simp; omega) _
  refine (K.out _ b3 ((Blk.new_at _ _ (by simp)).alloc _) (((Blk.new w _ _).alloc _).alloc _) (Blk.new_at _ _ (by simp))).mono ?_
  rintro e w1 (⟨rfl, hj, _⟩ | ⟨rfl, q, hq, hx⟩)
  · have HJ := Lib.hid hj
    clear hj
    go_wp2
    go_end0
    exact ⟨rfl, .inl HJ.out⟩
  · have HX := Lib.hid hx
    clear hx
    go_wp2
    go_end0
    exact ⟨rfl, .inr ⟨q, hq, HX.out⟩⟩

set_option maxHeartbeats 1000000 in
set_option maxRecDepth 100000 in
theorem whole1_any {w : World} {lo b : Nat} {v : Value} {l : List UInt8} (h : Bld w lo b v l) (d : Nat) (s : List UInt8) (hn : l.length + s.length ≤ 140737488355328) :
    Calls Tryd.prog 54 #[.int .i64 d, .string (str s), .pointer (some ⟨b, 0, none⟩)] w fun e w' => e = .returned (.bool true) ∧ ∃ v', Bld w' lo b v' (l ++ s) ∧ Keep (fun k => k = b ∨ v.ownBlock = some k) w w' := by
  have K := Lib.hid (writeString_any h s hn)
  clear h
  go_enter Tryd.func54, Tryd.ntmps54
  go_wp2_with fail
  refine K.out.mono ?_
  rintro e w1 ⟨rfl, v1, hb, hk⟩
  have HB := Lib.hid hb
  have HK := Lib.hid hk
  clear hb hk
  go_wp2
  go_ret
  exact ⟨rfl, v1, HB.out, HK.out⟩

/-- A builder as a yield. -/
theorem whole_yield (w0 : World) (b : Nat) (hb : w0.heap.size ≤ b) :
    Yield w0 (fun p W R => Calls Tryd.prog 54 #[.int .i64 p.d, .string (str p.t), .pointer (some ⟨b, 0, none⟩)] W R) (fun acc W => Below w0.heap.size w0 W ∧ ∃ v, Bld W w0.heap.size b v (ptText acc)) (fun _ _ => False) where
  call := by
    rintro acc p W ⟨h0, v, h⟩ hl _
    refine (whole1_any h p.d p.t (by omega)).mono ?_
    rintro e W2 ⟨rfl, v', h', hk⟩
    have hlo := h.2.2.1
    refine .inl ⟨rfl, ⟨h0.trans (hk.below h0.size (fun i hi e => ?_)), v', ?_⟩, hk.size, fun g t cs ht hg => hg.keep hk ?_⟩
    · rcases e with e | e
      · omega
      · have := (World.ownsRowF.lt hlo i e).1; omega
    · rw [ptText_append, ptText_cons]
      simpa [ptText] using h'
    · rintro (rfl | e)
      · obtain ⟨p, hp⟩ := h.blk
        refine hg.ne_ hp ?_ rfl
        rintro rfl
        rcases ht with h | h | h | h <;> simp at h
      · refine ownF_not hlo hg (fun cs' fz e => ?_) e
        injection e with _ e
        subst e
        rcases ht with h | h | h | h <;> simp at h
  keep := by
    rintro acc W W2 ⟨h0, v, h⟩ hb
    exact ⟨h0.trans (hb.mono h0.size), v, h.keep (Keep.of_below hb (fun _ => False)) id (fun _ _ => id)⟩
  base := fun _ _ h => h.1

set_option maxHeartbeats 1000000 in
set_option maxRecDepth 100000 in
theorem whole_any (S : Nat → Prop) (L : List Nd) (parent : List UInt8) (w : World) (A : Option Addr) (c : Nat) (hT : Tab w) (hRT : RawTab w) (hS : ∀ k, S k → k < w.heap.size) (hw : wt L ≤ 1048576) (hN : Ns S w A L.length L) (hwell : wellB L = true) :
    Calls Tryd.prog 32 #[.string (str parent), .slice A L.length c] w fun e w' => e = .returned (.string (str (ptText (ptB parent 0 L)))) ∧ Below w.heap.size w w' := by
  have k0 := pieces_whole (whole_yield w w.heap.size (Nat.le_refl _)) hT hRT hS L parent (w.alloc (.cells #[.pointer none, .slice none 0 0] 68)) A c hw hN hwell ⟨(Below.refl _ w).alloc (Nat.le_refl _) _, _, Bld.new (Blk.new w _ _) _ (Nat.le_refl _)⟩
  have K := Lib.hid k0
  generalize ptB parent 0 L = ps at K ⊢
  clear k0 hT hRT hS hN hwell
  go_enter Tryd.func32, Tryd.ntmps32
  go_wp2_with fail
  refine K.out.mono ?_
  rintro e w1 ⟨rfl, (⟨hb, v, h⟩ | ⟨q, _, hf⟩)⟩
  case inr => exact hf.elim
  have HB := Lib.hid hb
  have K2 := Lib.hid (builderString_any h)
  clear hb h
  go_wp2_with fail
  refine K2.out.mono ?_
  rintro e w2 ⟨rfl, hb2⟩
  go_wp2
  go_ret
  exact ⟨rfl, HB.out.trans hb2⟩
end Go.Proofs.YtcogoiphpfgkdaaDoor
namespace Go.Proofs.YtcogoiphpfgkdaaDoor
open Go.RowKit
set_option linter.unusedVariables false
set_option linter.unusedSimpArgs false

set_option maxHeartbeats 1000000 in
set_option maxRecDepth 100000 in
theorem pieces_round {S T : Nat → Prop} {w0 : World} {J Jx : List PT → World → Prop} {l : Nat} (L : List Nd) (parent : List UInt8) (hy : YieldT w0 T (ptB parent 0 L) (fun p W R => YieldAt Fence.wide 7 Tryd.prog l #[.int .i64 p.d, .string (str p.t)] W R) J Jx)
    (hT : ∀ W, Keep T w0 W → Tab W) (hRT : ∀ W, Keep T w0 W → RawTab W) (hS0 : ∀ k, S k → k < w0.heap.size) (hST : ∀ k, S k → ¬ T k) (w : World) (A : Option Addr) (c : Nat) (hw : wt L ≤ 1048576) (hN : Ns S w0 A L.length L) (hwell : wellB L = true) (hJ : J [] w) :
    Calls Tryd.prog 33 #[.string (str parent), .slice A L.length c, .func (.yield l) #[] #[]] w fun e w' =>
      e = .returned (.tuple #[]) ∧ (J (ptB parent 0 L) w' ∨ ∃ q, q <+: ptB parent 0 L ∧ Jx q w') := by
  have k0 := down_round hy hT hRT hS0 hST L hw parent 0 []
  have hle := (ptB_le L parent 0).2
  rw [List.nil_append] at k0
  have K := Lib.hid (fun W (h : Below w.heap.size w W) hE hY hD => k0 W A c w.heap.size.succ w.heap.size (w.heap.size + 1 + 1) hN hwell (hy.keep _ _ _ hJ h) hE hY hD (by simp [ptText]; simp [ptText] at hle; omega) (by omega) (List.prefix_refl _))
  rw [show ((0 : Nat) : Int) = 0 from rfl] at K
  generalize ptB parent 0 L = ps at K ⊢
  clear k0 hle hN hwell hJ hT hRT hS0
  go_enter Tryd.func33, Tryd.ntmps33
  go_wp2_with fail
  have b3 : Below w.heap.size w (((w.alloc (.cells #[.func (.yield l) #[] #[]] 53)).alloc (.cells #[escFn] 83)).alloc (.cells #[downFn (w.heap.size + 1) w.heap.size (w.heap.size + 1 + 1)] 86)) :=
    (((Below.refl _ w).alloc (Nat.le_refl _) _).alloc (by simp) _).alloc (by simp; omega) _
  refine (K.out _ b3 ((Blk.new_at _ _ (by simp)).alloc _) (((Blk.new w _ _).alloc _).alloc _) (Blk.new_at _ _ (by simp))).mono ?_
  rintro e w1 (⟨rfl, hj, _⟩ | ⟨rfl, q, hq, hx⟩)
  · have HJ := Lib.hid hj
    clear hj
    go_wp2
    go_end0
    exact ⟨rfl, .inl HJ.out⟩
  · have HX := Lib.hid hx
    clear hx
    go_wp2
    go_end0
    exact ⟨rfl, .inr ⟨q, hq, HX.out⟩⟩
end Go.Proofs.YtcogoiphpfgkdaaDoor
namespace Go.Proofs.YtcogoiphpfgkdaaDoor
open Go.RowKit
set_option linter.unusedVariables false
set_option linter.unusedSimpArgs false
attribute [local go_sem] Oper.semAt_some

/-- All pieces that come of trees. -/
def piecesOf (L : List Nd) : List PT := if mayB L = true then ptB [] 0 L else []
def pieceArgs (p : PT) : Array Value := #[.int .i64 p.d, .string (str p.t)]

/-- What the iterator asks of the loop's words. -/
structure PieceWords (w0 : World) (T : Nat → Prop) (bo : Nat) (slv : Value) (R0 : List PT) (I Ix : List PT × World → World → Prop) (Y : List PT × World → PT → World → Prop) : Prop where
  own : ∀ s W, I s W → W.cell? ⟨bo, 0, none⟩ = some slv
  step : ∀ acc W0 p W, I (acc, W0) W → acc ++ [p] <+: R0 → Y (acc ++ [p], W) p W
  boxes : ∀ acc W0 W, I (acc, W0) W → Boxes W0 W
  xboxes : ∀ acc W0 W, Ix (acc, W0) W → Boxes W0 W
  keep : ∀ s W W2, I s W → Below W.heap.size W W2 → I s W2
  base : ∀ s W, I s W → Keep T w0 W

set_option maxHeartbeats 2000000 in
set_option maxRecDepth 100000 in
theorem pieces1_open {B w0 W00 : World} {S T : Nat → Prop} {bo c : Nat} {A : Option Addr} {L : List Nd} {I Ix : List PT × World → World → Prop} {Y : List PT × World → PT → World → Prop} (hw : PieceWords w0 T bo (.slice A L.length c) (piecesOf L) I Ix Y)
    (hT : ∀ W, Keep T w0 W → Tab W) (hRT : ∀ W, Keep T w0 W → RawTab W) (hS0 : ∀ k, S k → k < w0.heap.size) (hST : ∀ k, S k → ¬ T k) (hwt : wt L ≤ 1048576) (hN : Ns S w0 A L.length L) :
    IterOpen Tryd.prog 43 #[.pointer (some ⟨bo, 0, none⟩)] pieceArgs B I Ix Y (fun s => s.1 = piecesOf L) ([], W00) := by
  intro l K Kx W hK hB h0 hk0 hR
  have hc := hw.own _ _ h0
  have hb0 := hw.base _ _ h0
  have KC := Lib.hid (check_any S L hwt W A c (hN.keep hb0 hST) (hT _ hb0) (fun k hk => Nat.lt_of_lt_of_le (hS0 k hk) hb0.size))
  have HW := Lib.hid hw
  have hJ : ∀ W2, Below W.heap.size W W2 → ∃ W0, I ([], W0) W2 ∧ K W2 := fun W2 h2 => ⟨W00, hw.keep _ _ _ h0 h2, hK _ _ hk0 (Keep.of_below h2 _)⟩
  obtain ⟨m, hm⟩ : ∃ m, mayB L = m := ⟨_, rfl⟩
  have hP : piecesOf L = if m = true then ptB [] 0 L else [] := by unfold piecesOf; rw [hm]
  rw [hm] at KC
  have KP : m = true → ∀ W2, Below W.heap.size W W2 → Calls Tryd.prog 33 #[.string ⟨#[]⟩, .slice A L.length c, .func (.yield l) #[] #[]] W2 fun e w' =>
      e = .returned (.tuple #[]) ∧ ((∃ W0, I (ptB [] 0 L, W0) w' ∧ K w') ∨ ∃ q, q <+: ptB [] 0 L ∧ ∃ W0, Ix (q, W0) w' ∧ Kx w') := fun hmt W2 h2 => by
    have hP2 : piecesOf L = ptB [] 0 L := by rw [hP, if_pos hmt]
    rw [hP2] at hw
    refine pieces_round (S := S) (T := T) (w0 := w0) (J := fun acc W => ∃ W0, I (acc, W0) W ∧ K W) (Jx := fun acc W => ∃ W0, Ix (acc, W0) W ∧ Kx W) L [] ⟨?_, ?_, ?_⟩ hT hRT hS0 hST W2 A c hwt hN (may_well L (hm.trans hmt)) (hJ W2 h2)
    · rintro acc p W3 ⟨W0, hi, hk⟩ hp _ _
      obtain ⟨fn, tmps, assign, body, hy, hRd⟩ := hR _ _ _ (hw.step _ _ _ _ hi hp) hk
      refine ⟨fn, tmps, assign, body, hy, hRd.mono ?_⟩
      rintro e W4 (⟨rfl, h1, h2⟩ | ⟨rfl, h1, h2⟩)
      · exact .inl ⟨rfl, ⟨_, h1, h2⟩, hw.boxes _ _ _ h1⟩
      · exact .inr ⟨rfl, ⟨_, h1, h2⟩, hw.xboxes _ _ _ h1⟩
    · rintro acc W3 W4 ⟨W0, hi, hk⟩ hb
      exact ⟨W0, hw.keep _ _ _ hi hb, hK _ _ hk (Keep.of_below hb _)⟩
    · rintro acc W3 ⟨W0, hi, hk⟩
      exact hw.base _ _ hi
  have KP := Lib.hid KP
  have HJ := Lib.hid hJ
  have HP := Lib.hid hP
  clear hw hK h0 hk0 hR hB hb0 hT hRT hS0 hST hwt hN hm hJ hP
  refine callsIn_of_wp Tryd.func43 rfl trivial ?_ rfl
  simp only [Tryd.ntmps43, List.size_toArray, List.length_cons, List.length_nil, Nat.reduceAdd, Nat.reduceSub, Array.replicate_succ, Array.replicate_zero, List.push_toArray, List.append_toArray, List.nil_append, List.cons_append]
  gi_wp2_with fail
  refine ⟨trivial, ?_⟩
  gi_at_call 31
  refine (callsIn_wide.2 KC.out).mono ?_
  rintro e w1 ⟨rfl, hb1⟩
  have B1 := Lib.hid hb1
  cases m with
  | true =>
    have c1 := (HW.out.own _ _ (HJ.out _ B1.out).choose_spec.1)
    clear hc hb1
    gi_wp2_with fail
    refine ⟨trivial, ?_⟩
    gi_at_call 33
    refine (callsIn_wide.2 (KP.out trivial w1 B1.out)).mono ?_
    rintro e w2 ⟨rfl, (⟨W0, hI, hK⟩ | ⟨q, _, W0, hX, hKx⟩)⟩
    · have H1 := Lib.hid hI
      have H2 := Lib.hid hK
      clear hI hK
      gi_wp2
      go_end0
      exact ⟨⟨_, rfl⟩, .inl ⟨(ptB [] 0 L, W0), by rw [HP.out]; simp, H1.out, H2.out⟩⟩
    · have H1 := Lib.hid hX
      have H2 := Lib.hid hKx
      clear hX hKx
      gi_wp2
      go_end0
      exact ⟨⟨_, rfl⟩, .inr ⟨(q, W0), H1.out, H2.out⟩⟩
  | false =>
    clear hc hb1
    gi_wp2
    go_end0
    obtain ⟨W0, h1, h2⟩ := HJ.out _ B1.out
    exact ⟨⟨_, rfl⟩, .inl ⟨([], W0), by rw [HP.out]; simp, h1, h2⟩⟩

set_option maxHeartbeats 1000000 in
set_option maxRecDepth 100000 in
/-- Pieces. -/
theorem pieces_any (S : Nat → Prop) (L : List Nd) (w : World) (A : Option Addr) (c : Nat) (hw : wt L ≤ 1048576) (hN : Ns S w A L.length L) (hS : ∀ k, S k → k < w.heap.size) :
    Calls Tryd.prog 19 #[.slice A L.length c] w fun e w' => ∃ bo A' c', e = .returned (.func (.func 43) #[] #[.pointer (some ⟨bo, 0, none⟩)]) ∧ w.heap.size ≤ bo ∧
      Blk w' bo 25 #[.slice A' L.length c'] ∧ Ns (fun k => w.heap.size ≤ k ∧ k < bo) w' A' L.length L ∧ Below w.heap.size w w' := by
  have K := Lib.hid (copied_any S L hw w A c hN hS)
  clear hN hS
  go_enter Tryd.func19, Tryd.ntmps19
  go_wp2_with fail
  refine K.out.mono ?_
  rintro e w1 ⟨v, rfl, A', c', rfl, hn, hb⟩
  have HN := Lib.hid hn
  have HB := Lib.hid hb
  clear hn hb
  go_wp2
  go_ret
  exact ⟨_, _, _, rfl, HB.out.size, Blk.new _ _ _, (HN.out.behind ((Below.refl _ w1).alloc (Nat.le_refl _) _)), HB.out.alloc HB.out.size _⟩
end Go.Proofs.YtcogoiphpfgkdaaDoor
namespace Go.Proofs.YtcogoiphpfgkdaaDoor
open Go.RowKit
set_option linter.unusedVariables false
set_option linter.unusedSimpArgs false

theorem rec_keep {T : Nat → Prop} {W W' : World} {l : Nat} {o : Obj} (h : W.heap[l]? = some o) (hk : Keep T W W') (hl : ¬ T l) : W'.heap[l]? = some o := (hk.block l (lt_of_heap h) hl).trans h
theorem blk_not_cells {W : World} {g l : Nat} {t : TypeId} {cs : Array Value} {o : Obj} (h : Blk W g t cs) (hl : W.heap[l]? = some o) (ho : o.isCells = false) : g ≠ l := by
  rintro rfl
  unfold Blk at h
  rw [h] at hl
  injection hl with hl
  subst hl
  simp [Obj.isCells] at ho
theorem blk_put {W : World} {g l : Nat} {t : TypeId} {cs : Array Value} (h : Blk W g t cs) (hne : g ≠ l) (o : Obj) : Blk (W.putObj l o) g t cs := (World.putObj_heap_other hne).trans h

/-- Is it none of the boxes' types? -/
def plainT (t : TypeId) : Prop := t ≠ 41 ∧ t ≠ 53 ∧ t ≠ 83 ∧ t ≠ 86
theorem Boxes.set {w w' : World} (h : Boxes w w') {b : Nat} {t : TypeId} {cs : Array Value} (hb : Blk w' b t cs) (ht : plainT t) (v : Value) : Boxes w (w'.setCell ⟨b, 0, none⟩ v) := by
  refine ⟨by simpa [World.setCell] using h.1, fun g u ds hu hg => (h.2 g u ds hu hg).far ?_ v⟩
  rintro rfl
  have := Blk.ne_ (h.2 _ u ds hu hg) hb (by rintro rfl; rcases hu with h | h | h | h; exact ht.1 h; exact ht.2.1 h; exact ht.2.2.1 h; exact ht.2.2.2 h)
  exact this rfl
theorem Boxes.put {w w' : World} (h : Boxes w w') {l : Nat} {o : Obj} (hl : w'.heap[l]? = some o) (ho : o.isCells = false) (o' : Obj) : Boxes w (w'.putObj l o') := by
  refine ⟨by simpa using h.1, fun g u ds hu hg => ?_⟩
  have := h.2 g u ds hu hg
  exact blk_put this (blk_not_cells this hl ho) o'

/-- Inside the loop: block bp holds c; else all is as it was in B. -/
structure PL (B : World) (bp : Nat) (t : TypeId) (c : Array Value) (W0 W : World) : Prop where
  blk : Blk W bp t c
  box : Boxes W0 W
  keep : Keep (fun k => k = bp) B W
section
variable {B : World} {bp : Nat} {t : TypeId} {c : Array Value} {W0 W W2 : World}
theorem PL.bides (hp : bp < B.heap.size) : Bides B.heap.size (PL B bp t c W0) := fun W l o o' h hl ho hc =>
  ⟨blk_put h.blk (blk_not_cells h.blk ho hc) o', h.box.put ho hc o', h.keep.putObj (.inr hl) o'⟩
theorem PL.behind (h : PL B bp t c W0 W) (hb : Below W.heap.size W W2) : PL B bp t c W0 W2 := ⟨h.blk.below hb h.blk.lt, h.box.trans (Boxes.of_below hb), h.keep.then_below hb⟩
theorem PL.next (h : PL B bp t c W0 W) (ht : plainT t) (v : Value) : PL B bp t (c.setIfInBounds 0 v) W0 (W.setCell ⟨bp, 0, none⟩ v) :=
  ⟨h.blk.set_ 0 v, h.box.set h.blk ht v, h.keep.setCell (p := ⟨bp, 0, none⟩) (.inl rfl) v⟩
end

def PI (B : World) (bp : Nat) (t : TypeId) (cs : List PT → Array Value) (R0 : List PT) (s : List PT × World) (W : World) : Prop := s.1 <+: R0 ∧ PL B bp t (cs s.1) s.2 W
def PX (B : World) (bp : Nat) (t : TypeId) (cs : List PT → Array Value) (R0 : List PT) (brk : List PT → Prop) (s : List PT × World) (W : World) : Prop := brk s.1 ∧ PI B bp t cs R0 s W
def PY (B : World) (bp : Nat) (t : TypeId) (cs : List PT → Array Value) (R0 : List PT) (s : List PT × World) (p : PT) (W : World) : Prop := ∃ a0, s.1 = a0 ++ [p] ∧ s.1 <+: R0 ∧ PL B bp t (cs a0) s.2 W

theorem pl_words {B : World} {bp bo : Nat} {t tb : TypeId} {cs : List PT → Array Value} {R0 : List PT} {brk : List PT → Prop} {slv : Value} (hne : bo ≠ bp) (ho : Blk B bo tb #[slv]) :
    PieceWords B (fun k => k = bp) bo slv R0 (PI B bp t cs R0) (PX B bp t cs R0 brk) (PY B bp t cs R0) where
  own := fun s W h => (h.2.keep.cell (p := ⟨bo, 0, none⟩) ho.lt hne).trans (ho.cell 0)
  step := fun acc W0 p W h hp => ⟨acc, rfl, hp, h.2.blk, Boxes.refl W, h.2.keep⟩
  boxes := fun acc W0 W h => h.2.box
  xboxes := fun acc W0 W h => h.2.2.box
  keep := fun s W W2 h hb => ⟨h.1, h.2.behind hb⟩
  base := fun s W h => h.2.keep

variable {P : Program}
/-- THE LAW. -/
theorem wp_range_pieces {g : Operand} {ps : Array Tmp} {assign body : Code} {Q : Exit → Act → World → Prop} {a : Act} {B : World} {S : Nat → Prop} {bp bo c : Nat} {A : Option Addr} {L : List Nd} (t tb : TypeId) (cs : List PT → Array Value) (brk : List PT → Prop) (id : Nat)
    (hg : a.eval g = .func (.func 43) #[] #[.pointer (some ⟨bo, 0, none⟩)]) (hps : ps.size = 2) (hne : bo ≠ bp) (hbo : Blk B bo tb #[.slice A L.length c]) (hbp : Blk B bp t (cs []))
    (hT : ∀ W, Keep (fun k => k = bp) B W → Tab W) (hRT : ∀ W, Keep (fun k => k = bp) B W → RawTab W) (hS0 : ∀ k, S k → k < B.heap.size) (hST : ∀ k, S k → k ≠ bp) (hwt : wt L ≤ 1048576) (hN : Ns S B A L.length L)
    (hround : ∀ (l D : Nat) (r : Loop) (a0 : List PT) (p : PT) (W0 W : World), B.heap.size ≤ D → D < l → a0 ++ [p] <+: piecesOf L → PL B bp t (cs a0) W0 W →
      assign.wpIn (Fence.wide.inRound l) 7 Tryd.prog (Exit.then (fun a' W' => W' = W ∧ ∀ W2, W2.heap[l]? = some (.loop r) → W2.heap[D]? = some (.deferred (some [])) → PL B bp t (cs a0) W0 W2 →
        body.wpIn (Fence.wide.inRound l) 7 Tryd.prog (openPost (PI B bp t cs (piecesOf L)) (PX B bp t cs (piecesOf L) brk) id (a0 ++ [p], W0) l D r) a' W2) (fun _ _ _ => False)) { tmps := (ps.zip (pieceArgs p)).foldl (fun t (p, v) => t.setIfInBounds p v) a.tmps, defers := [] } W)
    (hQ : ∀ a W, Q .normal a W → Q (.exit id) a W)
    (hout : ∀ (D : Nat) (acc : List PT) (W0 W : World), B.heap.size ≤ D → (acc = piecesOf L ∨ (brk acc ∧ acc <+: piecesOf L)) → PL B bp t (cs acc) W0 W → W.heap[D]? = some (.deferred (some [])) → Q .normal { a with defers := markOf D :: a.defers } W) :
    (Code.rangeFunc g ps assign body).wp Tryd.prog Q a B := by
  have hlt := hbp.lt
  have bI : ∀ s, Bides B.heap.size (PI B bp t cs (piecesOf L) s) := fun s W l o o' h hl ho hc => ⟨h.1, PL.bides hlt W l o o' h.2 hl ho hc⟩
  refine wp_rangeFunc_open (gf := 43) (lb := #[.pointer (some ⟨bo, 0, none⟩)]) (I := PI B bp t cs (piecesOf L)) (Ix := PX B bp t cs (piecesOf L) brk) (Y := PY B bp t cs (piecesOf L)) id hg ?_
    (pieces1_open (W00 := B) (pl_words hne hbo) hT hRT hS0 hST hwt hN) (fun x => by rw [hps]; rfl) bI (fun s W l o o' h hl ho hc => ⟨h.1, bI s W l o o' h.2 hl ho hc⟩) (fun s x W l o o' h hl ho hc => ?_) (fun W hW => ⟨List.nil_prefix, hbp.below hW hlt, Boxes.of_below hW, Keep.of_below hW _⟩) ?_ hQ ?_
  · intro args w; kernel_rfl
  · obtain ⟨a0, h1, h2, h3⟩ := h
    exact ⟨a0, h1, h2, PL.bides hlt W l o o' h3 hl ho hc⟩
  · rintro l D r ⟨acc, W0⟩ p W hD hDl ⟨a0, h1, h2, h3⟩
    simp only at h1 h2 h3
    subst h1
    refine wpIn_mono (hround l D r a0 p W0 W hD hDl h2 h3) ?_
    rintro e a' W' he
    cases e with
    | normal =>
      obtain ⟨rfl, hb⟩ := he
      refine ⟨rfl, fun W2 hl hd hy => hb W2 hl hd ?_⟩
      obtain ⟨a1, h4, _, h5⟩ := hy
      simp only at h4 h5
      obtain ⟨rfl, _⟩ := List.append_inj' h4 rfl
      exact h5
    | _ => exact he
  · rintro D ⟨acc, W0⟩ W hD hcase hdd
    rcases hcase with ⟨h1, h2⟩ | ⟨h1, h2⟩
    · exact hout D acc W0 W hD (.inl h1) h2.2 hdd
    · exact hout D acc W0 W hD (.inr ⟨h1, h2.1⟩) h2.2 hdd
end Go.Proofs.YtcogoiphpfgkdaaDoor
