/-
  The contracts of pieces, whole, and of their closures.
-/
import Derived.Test.YtcogoiphpfgkdaaDoorDown
import Derived.Laws.EntriesVeiled
namespace Go.Proofs.YtcogoiphpfgkdaaDoor
open Go.RowKit
set_option linter.unusedVariables false
set_option linter.unusedSimpArgs false

set_option maxHeartbeats 1000000 in
set_option maxRecDepth 100000 in
theorem pieces_whole {S : Nat → Prop} {w0 : World} {J Jx : List PT → World → Prop} {cap : Value} (hy : Yield w0 (fun p W R => Calls Tryd.prog 54 #[.int .i64 p.d, .string (str p.t), cap] W R) J Jx)
    (hT : Tab w0) (hRT : RawTab w0) (hS0 : ∀ k, S k → k < w0.heap.size) (L : List Nd) (parent : List UInt8) (w : World) (A : Option Addr) (c : Nat) (hw : wt L ≤ 1048576) (hN : Ns S w0 A L.length L) (hwell : wellB L = true) (hJ : J [] w) :
    Calls Tryd.prog 33 #[.string (str parent), .slice A L.length c, .func (.func 54) #[] #[cap]] w fun e w' =>
      e = .returned (.tuple #[]) ∧ (J (ptB parent 0 L) w' ∨ ∃ q, q <+: ptB parent 0 L ∧ Jx q w') := by
  have k0 := down_whole hy hT hRT hS0 L hw parent 0 []
  have hle := (ptB_le L parent 0).2
  rw [List.nil_append] at k0
  have K := Lib.hid (fun W (h : Below w.heap.size w W) hE hY hD => k0 W A c w.heap.size.succ w.heap.size (w.heap.size + 1 + 1) hN hwell (hy.keep _ _ _ hJ h) hE hY hD (by simp [ptText]; simp [ptText] at hle; omega) (by omega))
  rw [show ((0 : Nat) : Int) = 0 from rfl] at K
  generalize ptB parent 0 L = ps at K ⊢
  clear k0 hle hN hwell hJ hy hT hRT hS0
  go_enter Tryd.func33, Tryd.ntmps33
  go_wp2_with fail
  have b3 : Below w.heap.size w (((w.alloc (.cells #[.func (.func 54) #[] #[cap]] 53)).alloc (.cells #[escFn] 83)).alloc (.cells #[downFn (w.heap.size + 1) w.heap.size (w.heap.size + 1 + 1)] 86)) :=
    (((Below.refl _ w).alloc (Nat.le_refl _) _).alloc (by simp) _).alloc (by simp; omega) _
  refine (K.out _ b3 ((Blk.new_at _ _ (by simp)).alloc _) (((Blk.new w _ _).alloc _).alloc _) (Blk.new_at _ _ (by simp))).mono ?_
  rintro e w1 (⟨rfl, hj, _⟩ | ⟨rfl, q, hq, hx⟩)
  · have HJ := Lib.hid hj
    clear hj
    go_wp2
    go_end0
    exact ⟨rfl, .inl HJ.out⟩
  · have HX := Lib.hid hx
    clear hx
    go_wp2
    go_end0
    exact ⟨rfl, .inr ⟨q, hq, HX.out⟩⟩
set_option maxHeartbeats 1000000 in
set_option maxRecDepth 100000 in
theorem pieces_len {S : Nat → Prop} {w0 : World} {J Jx : List PT → World → Prop} {cap : Value} (hy : Yield w0 (fun p W R => Calls Tryd.prog 34 #[.int .i64 p.d, .string (str p.t), cap] W R) J Jx)
    (hT : Tab w0) (hRT : RawTab w0) (hS0 : ∀ k, S k → k < w0.heap.size) (L : List Nd) (parent : List UInt8) (w : World) (A : Option Addr) (c : Nat) (hw : wt L ≤ 1048576) (hN : Ns S w0 A L.length L) (hwell : wellB L = true) (hJ : J [] w) :
    Calls Tryd.prog 33 #[.string (str parent), .slice A L.length c, .func (.func 34) #[] #[cap]] w fun e w' =>
      e = .returned (.tuple #[]) ∧ (J (ptB parent 0 L) w' ∨ ∃ q, q <+: ptB parent 0 L ∧ Jx q w') := by
  have k0 := down_len hy hT hRT hS0 L hw parent 0 []
  have hle := (ptB_le L parent 0).2
  rw [List.nil_append] at k0
  have K := Lib.hid (fun W (h : Below w.heap.size w W) hE hY hD => k0 W A c w.heap.size.succ w.heap.size (w.heap.size + 1 + 1) hN hwell (hy.keep _ _ _ hJ h) hE hY hD (by simp [ptText]; simp [ptText] at hle; omega) (by omega))
  rw [show ((0 : Nat) : Int) = 0 from rfl] at K
  generalize ptB parent 0 L = ps at K ⊢
  clear k0 hle hN hwell hJ hy hT hRT hS0
  go_enter Tryd.func33, Tryd.ntmps33
  go_wp2_with fail
  have b3 : Below w.heap.size w (((w.alloc (.cells #[.func (.func 34) #[] #[cap]] 53)).alloc (.cells #[escFn] 83)).alloc (.cells #[downFn (w.heap.size + 1) w.heap.size (w.heap.size + 1 + 1)] 86)) :=
    (((Below.refl _ w).alloc (Nat.le_refl _) _).alloc (by simp) _).alloc (by simp; omega) _
  refine (K.out _ b3 ((Blk.new_at _ _ (by simp)).alloc _) (((Blk.new w _ _).alloc _).alloc _) (Blk.new_at _ _ (by simp))).mono ?_
  rintro e w1 (⟨rfl, hj, _⟩ | ⟨rfl, q, hq, hx⟩)
  · have HJ := Lib.hid hj
    clear hj
    go_wp2
    go_end0
    exact ⟨rfl, .inl HJ.out⟩
  · have HX := Lib.hid hx
    clear hx
    go_wp2
    go_end0
    exact ⟨rfl, .inr ⟨q, hq, HX.out⟩⟩

set_option maxHeartbeats 1000000 in
set_option maxRecDepth 100000 in
theorem whole1_any {w : World} {lo b : Nat} {v : Value} {l : List UInt8} (h : Bld w lo b v l) (d : Nat) (s : List UInt8) (hn : l.length + s.length ≤ 140737488355328) :
    Calls Tryd.prog 54 #[.int .i64 d, .string (str s), .pointer (some ⟨b, 0, none⟩)] w fun e w' => e = .returned (.bool true) ∧ ∃ v', Bld w' lo b v' (l ++ s) ∧ Keep (fun k => k = b ∨ v.ownBlock = some k) w w' := by
  have K := Lib.hid (writeString_any h s hn)
  clear h
  go_enter Tryd.func54, Tryd.ntmps54
  go_wp2_with fail
  refine K.out.mono ?_
  rintro e w1 ⟨rfl, v1, hb, hk⟩
  have HB := Lib.hid hb
  have HK := Lib.hid hk
  clear hb hk
  go_wp2
  go_ret
  exact ⟨rfl, v1, HB.out, HK.out⟩

/-- A builder as a yield. -/
theorem whole_yield (w0 : World) (b : Nat) (hb : w0.heap.size ≤ b) :
    Yield w0 (fun p W R => Calls Tryd.prog 54 #[.int .i64 p.d, .string (str p.t), .pointer (some ⟨b, 0, none⟩)] W R) (fun acc W => Below w0.heap.size w0 W ∧ ∃ v, Bld W w0.heap.size b v (ptText acc)) (fun _ _ => False) where
  call := by
    rintro acc p W ⟨h0, v, h⟩ hl _
    refine (whole1_any h p.d p.t (by omega)).mono ?_
    rintro e W2 ⟨rfl, v', h', hk⟩
    have hlo := h.2.2.1
    refine .inl ⟨rfl, ⟨h0.trans (hk.below h0.size (fun i hi e => ?_)), v', ?_⟩, hk.size, fun g t cs ht hg => hg.keep hk ?_⟩
    · rcases e with e | e
      · omega
      · have := (World.ownsRowF.lt hlo i e).1; omega
    · rw [ptText_append, ptText_cons]
      simpa [ptText] using h'
    · rintro (rfl | e)
      · obtain ⟨p, hp⟩ := h.blk
        refine hg.ne_ hp ?_ rfl
        rintro rfl
        rcases ht with h | h | h | h <;> simp at h
      · refine ownF_not hlo hg (fun cs' fz e => ?_) e
        injection e with _ e
        subst e
        rcases ht with h | h | h | h <;> simp at h
  keep := by
    rintro acc W W2 ⟨h0, v, h⟩ hb
    exact ⟨h0.trans (hb.mono h0.size), v, h.keep (Keep.of_below hb (fun _ => False)) id (fun _ _ => id)⟩
  base := fun _ _ h => h.1

set_option maxHeartbeats 1000000 in
set_option maxRecDepth 100000 in
theorem whole_any (S : Nat → Prop) (L : List Nd) (parent : List UInt8) (w : World) (A : Option Addr) (c : Nat) (hT : Tab w) (hRT : RawTab w) (hS : ∀ k, S k → k < w.heap.size) (hw : wt L ≤ 1048576) (hN : Ns S w A L.length L) (hwell : wellB L = true) :
    Calls Tryd.prog 32 #[.string (str parent), .slice A L.length c] w fun e w' => e = .returned (.string (str (ptText (ptB parent 0 L)))) ∧ Below w.heap.size w w' := by
  have k0 := pieces_whole (whole_yield w w.heap.size (Nat.le_refl _)) hT hRT hS L parent (w.alloc (.cells #[.pointer none, .slice none 0 0] 68)) A c hw hN hwell ⟨(Below.refl _ w).alloc (Nat.le_refl _) _, _, Bld.new (Blk.new w _ _) _ (Nat.le_refl _)⟩
  have K := Lib.hid k0
  generalize ptB parent 0 L = ps at K ⊢
  clear k0 hT hRT hS hN hwell
  go_enter Tryd.func32, Tryd.ntmps32
  go_wp2_with fail
  refine K.out.mono ?_
  rintro e w1 ⟨rfl, (⟨hb, v, h⟩ | ⟨q, _, hf⟩)⟩
  case inr => exact hf.elim
  have HB := Lib.hid hb
  have K2 := Lib.hid (builderString_any h)
  clear hb h
  go_wp2_with fail
  refine K2.out.mono ?_
  rintro e w2 ⟨rfl, hb2⟩
  go_wp2
  go_ret
  exact ⟨rfl, HB.out.trans hb2⟩
end Go.Proofs.YtcogoiphpfgkdaaDoor
