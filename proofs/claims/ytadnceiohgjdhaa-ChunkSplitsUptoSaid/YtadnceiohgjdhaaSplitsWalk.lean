/-
  ChunkSplits: the walk.
-/
import Derived.Test.YtadnceiohgjdhaaSplitsPlain
import Derived.Test.YtadnceiohgjdhaaBuffersMain
import Derived.Test.YtadnceiohgjdhaaCutsLaw
namespace Go.Proofs.Ytadnceiohgjdhaa
open Go.RowKit
set_option linter.unusedVariables false
set_option linter.unusedSimpArgs false

/-- Two buffers of the program, apart. -/
structure Two (w : World) (b g b2 g2 : Nat) (S S2 H H2 : Nat → Prop) (x y : Buf) : Prop where
  p : IsBuf H S w b g x
  r : IsBuf H2 S2 w b2 g2 y
  d : ∀ k, (k = b ∨ k = g ∨ S k ∨ H k) → ¬ (k = b2 ∨ k = g2 ∨ S2 k ∨ H2 k)
section
variable {w w' : World} {b g b2 g2 : Nat} {S S2 H H2 T : Nat → Prop} {x y z : Buf} {l : List UInt8} {e : Int} {v : Value}
theorem Two.swap (h : Two w b g b2 g2 S S2 H H2 x y) : Two w b2 g2 b g S2 S H2 H y x := ⟨h.r, h.p, fun k h1 h2 => h.d k h2 h1⟩
theorem Two.all_lt (h : Two w b g b2 g2 S S2 H H2 x y) (k : Nat) (hk : BothAll b g b2 g2 S S2 H H2 k) : k < w.heap.size := by
  have one : ∀ {b g : Nat} {S H : Nat → Prop} {x : Buf}, IsBuf H S w b g x → (k = b ∨ k = g ∨ S k ∨ H k) → k < w.heap.size := by
    intro b g S H x hp hk
    obtain ⟨_, _, hb, _⟩ := hp.blk
    have lb := hb.lt
    have lg := hp.src.lt
    rcases hk with rfl | rfl | h1 | h1
    · exact lb
    · exact lg
    · exact hp.Sl k h1
    · exact (hp.held k h1).1
  exact hk.elim (one h.p) (one h.r)
theorem Two.keep (h : Two w b g b2 g2 S S2 H H2 x y) (hk : Keep T w w') (hT : ∀ k, BothAll b g b2 g2 S S2 H H2 k → ¬ T k) : Two w' b g b2 g2 S S2 H H2 x y :=
  ⟨h.p.keep hk (hT _ (.inl (.inl rfl))) (hT _ (.inl (.inr (.inl rfl)))) (fun k h1 => hT k (.inl (.inr (.inr (.inl h1))))) (fun k h1 => hT k (.inl (.inr (.inr (.inr h1))))),
    h.r.keep hk (hT _ (.inr (.inl rfl))) (hT _ (.inr (.inr (.inl rfl)))) (fun k h1 => hT k (.inr (.inr (.inr (.inl h1))))) (fun k h1 => hT k (.inr (.inr (.inr (.inr h1))))), h.d⟩
theorem Two.behind (h : Two w b g b2 g2 S S2 H H2 x y) (hb : Below w.heap.size w w') : Two w' b g b2 g2 S S2 H H2 x y := h.keep (Keep.of_below hb (fun _ => False)) (fun _ _ => id)
/-- A call on the first. -/
theorem Two.one (h : Two w b g b2 g2 S S2 H H2 x y) (hg : BufGives H S b g ((l, e), z) w v w') : ∃ A c H', v = .tuple #[.slice A l.length c, .int .i64 e] ∧ w'.ownsRow w.heap.size 5 1 (.slice A l.length c) l.length (bv l) ∧
    Two w' b g b2 g2 S S2 H' H2 z y ∧ (∀ k, (Value.slice A l.length c).ownBlock = some k → ¬ BothAll b g b2 g2 S S2 H' H2 k) ∧ Keep (fun k => k = b ∨ k = g ∨ H k) w w' ∧ (∀ k, H' k → H k ∨ w.heap.size ≤ k) := by
  obtain ⟨A, c, rfl, ho, ⟨H', hsub, hdis, hb⟩, hk⟩ := hg
  have hT : ∀ k, (k = b ∨ k = g ∨ H k) → k = b ∨ k = g ∨ S k ∨ H k := fun k h1 => by rcases h1 with h1 | h1 | h1; exact .inl h1; exact .inr (.inl h1); exact .inr (.inr (.inr h1))
  have hr := h.r.keep hk (fun h1 => h.d b2 (hT _ h1) (.inl rfl)) (fun h1 => h.d g2 (hT _ h1) (.inr (.inl rfl))) (fun k h0 h1 => h.d k (hT _ h1) (.inr (.inr (.inl h0)))) (fun k h0 h1 => h.d k (hT _ h1) (.inr (.inr (.inr h0))))
  refine ⟨A, c, H', rfl, ho, ⟨hb, hr, fun k h1 h2 => ?_⟩, fun k h1 h2 => ?_, hk, hsub⟩
  · rcases h1 with h1 | h1 | h1 | h1
    · exact h.d k (.inl h1) h2
    · exact h.d k (.inr (.inl h1)) h2
    · exact h.d k (.inr (.inr (.inl h1))) h2
    · rcases hsub k h1 with h3 | h3
      · exact h.d k (.inr (.inr (.inr h3))) h2
      · have := h.all_lt k (.inr h2)
        omega
  · have l1 := (ho.lt k h1).1
    rcases h2 with (h2 | h2 | h2 | h2) | h2
    · have := h.all_lt k (.inl (.inl h2)); omega
    · have := h.all_lt k (.inl (.inr (.inl h2))); omega
    · have := h.all_lt k (.inl (.inr (.inr (.inl h2)))); omega
    · exact hdis k h1 h2
    · have := h.all_lt k (.inr h2); omega
/-- A call on the second, the first's answer kept. -/
theorem Two.two {lo n c1 : Nat} {A1 : Option Addr} {bs : List UInt8} (h : Two w b g b2 g2 S S2 H H2 x y) (ho : w.ownsRow lo 5 1 (.slice A1 n c1) n (bv bs)) (hd : ∀ k, (Value.slice A1 n c1).ownBlock = some k → ¬ BothAll b g b2 g2 S S2 H H2 k)
    (hg : BufGives H2 S2 b2 g2 ((l, e), z) w v w') : ∃ A c H', v = .tuple #[.slice A l.length c, .int .i64 e] ∧ Row (fun _ => True) w' 1 A l.length (bv l) ∧ Row (fun _ => True) w' 1 A1 n (bv bs) ∧
    Two w' b g b2 g2 S S2 H H' x z ∧ Keep (fun k => k = b2 ∨ k = g2 ∨ H2 k) w w' ∧ (∀ k, H' k → H2 k ∨ w.heap.size ≤ k) := by
  obtain ⟨A, c, H', rfl, h2, h3, h4, h5, h6⟩ := h.swap.one hg
  exact ⟨A, c, H', rfl, (Row.of_own h2).more (fun _ _ _ => trivial) (by omega), (Row.of_own (own_keep ho h5 (fun k h7 h8 => hd k h7 (.inr (by rcases h8 with h8 | h8 | h8; exact .inl h8; exact .inr (.inl h8); exact .inr (.inr (.inr h8))))))).more (fun _ _ _ => trivial) (by omega), h3.swap, h5, h6⟩
end

/-- What holds at the head of the loop. -/
structure SplitLoop (w : World) (lo b g b2 g2 : Nat) (S S2 : Nat → Prop) (s1 s2 : Nat) (pc : Array Value) (wr : World) (x y : Buf) (H H2 : Nat → Prop) : Prop where
  two : Two wr b g b2 g2 S S2 H H2 x y
  frm : BothFrom lo b g b2 g2 S S2 H H2
  xf : x.few
  yf : y.few
  left : x.left = y.left
  taken : x.taken = y.taken
  xs : x.size = s1
  ys : y.size = s2
  box : Blk wr (w.heap.size + 1) 91 pc
  below : Below w.heap.size w wr
section
variable {w wr w' : World} {lo b g b2 g2 s1 s2 : Nat} {S S2 H H2 T : Nat → Prop} {x y : Buf} {pc : Array Value}
theorem SplitLoop.behind (h : SplitLoop w lo b g b2 g2 S S2 s1 s2 pc wr x y H H2) (hb : Below wr.heap.size wr w') : SplitLoop w lo b g b2 g2 S S2 s1 s2 pc w' x y H H2 :=
  ⟨h.two.behind hb, h.frm, h.xf, h.yf, h.left, h.taken, h.xs, h.ys, h.box.below hb h.box.lt, h.below.trans (hb.mono h.below.size)⟩
end


section
variable (A B D E : Option Addr) (n ca m cb k cd j ce : Nat) (fail : Bool) (z1 z2 : Int) (data : List UInt8) (cs ds : List Int) (acts : List (Int × Int)) (w : World)

set_option maxHeartbeats 8000000 in
set_option maxRecDepth 100000 in
theorem chunkSplits_no0 (hm0 : m ≤ 1048576) (hk0 : k ≤ 1048576)  (h0 : 100 ≤ m + 1) :
    Calls Try.prog 12 #[.agg #[.slice A n ca, .slice B m cb, .bool fail], .slice D k cd, .agg #[.int .i64 z1, .int .i64 z2, .slice E j ce]] w fun e w' => e = .returned (.bool true) ∧ Below w.heap.size w w' := by
  have f0 : decide ((100 : Int) ≤ (m : Int) + 1) = true := by simp; omega
  have f1 : decide (100 ≤ m + 1) = true := by simp; omega
  have f2 : decide (99 ≤ m) = true := by simp; omega
  go_enter Try.func12, Try.ntmps12
  go_wp2_with (go_at_call 14; refine (awake_any _).mono ?_; rintro e w5 ⟨rfl, hb5⟩)
  go_ret
  exact ⟨rfl, (((Below.refl _ w).alloc (Nat.le_refl _) _).alloc (by simp) _).trans (hb5.mono (by simp; omega))⟩

set_option maxHeartbeats 8000000 in
set_option maxRecDepth 100000 in
theorem chunkSplits_no1 (hm0 : m ≤ 1048576) (hk0 : k ≤ 1048576) (h0 : ¬ (100 ≤ m + 1)) (h1 : 100 ≤ k + 1) :
    Calls Try.prog 12 #[.agg #[.slice A n ca, .slice B m cb, .bool fail], .slice D k cd, .agg #[.int .i64 z1, .int .i64 z2, .slice E j ce]] w fun e w' => e = .returned (.bool true) ∧ Below w.heap.size w w' := by
  have f0 : decide ((100 : Int) ≤ (m : Int) + 1) = false := by simp; omega
  have f1 : decide (100 ≤ m + 1) = false := by simp; omega
  have f2 : decide (99 ≤ m) = false := by simp; omega
  have f3 : decide ((100 : Int) ≤ (k : Int) + 1) = true := by simp; omega
  have f4 : decide (100 ≤ k + 1) = true := by simp; omega
  have f5 : decide (99 ≤ k) = true := by simp; omega
  go_enter Try.func12, Try.ntmps12
  go_wp2_with (go_at_call 14; refine (awake_any _).mono ?_; rintro e w5 ⟨rfl, hb5⟩)
  go_ret
  exact ⟨rfl, (((Below.refl _ w).alloc (Nat.le_refl _) _).alloc (by simp) _).trans (hb5.mono (by simp; omega))⟩

set_option maxHeartbeats 8000000 in
set_option maxRecDepth 100000 in
theorem chunkSplits_no2 (hm0 : m ≤ 1048576) (hk0 : k ≤ 1048576) (h0 : ¬ (100 ≤ m + 1)) (h1 : ¬ (100 ≤ k + 1)) (h2 : z1 < 1) :
    Calls Try.prog 12 #[.agg #[.slice A n ca, .slice B m cb, .bool fail], .slice D k cd, .agg #[.int .i64 z1, .int .i64 z2, .slice E j ce]] w fun e w' => e = .returned (.bool true) ∧ Below w.heap.size w w' := by
  have f0 : decide ((100 : Int) ≤ (m : Int) + 1) = false := by simp; omega
  have f1 : decide (100 ≤ m + 1) = false := by simp; omega
  have f2 : decide (99 ≤ m) = false := by simp; omega
  have f3 : decide ((100 : Int) ≤ (k : Int) + 1) = false := by simp; omega
  have f4 : decide (100 ≤ k + 1) = false := by simp; omega
  have f5 : decide (99 ≤ k) = false := by simp; omega
  have f6 : decide (z1 < 1) = true := by simp; omega
  go_enter Try.func12, Try.ntmps12
  go_wp2_with (go_at_call 14; refine (awake_any _).mono ?_; rintro e w5 ⟨rfl, hb5⟩)
  go_ret
  exact ⟨rfl, (((Below.refl _ w).alloc (Nat.le_refl _) _).alloc (by simp) _).trans (hb5.mono (by simp; omega))⟩

set_option maxHeartbeats 8000000 in
set_option maxRecDepth 100000 in
theorem chunkSplits_no3 (hm0 : m ≤ 1048576) (hk0 : k ≤ 1048576) (h0 : ¬ (100 ≤ m + 1)) (h1 : ¬ (100 ≤ k + 1)) (h2 : ¬ (z1 < 1)) (h3 : z2 < 1) :
    Calls Try.prog 12 #[.agg #[.slice A n ca, .slice B m cb, .bool fail], .slice D k cd, .agg #[.int .i64 z1, .int .i64 z2, .slice E j ce]] w fun e w' => e = .returned (.bool true) ∧ Below w.heap.size w w' := by
  have f0 : decide ((100 : Int) ≤ (m : Int) + 1) = false := by simp; omega
  have f1 : decide (100 ≤ m + 1) = false := by simp; omega
  have f2 : decide (99 ≤ m) = false := by simp; omega
  have f3 : decide ((100 : Int) ≤ (k : Int) + 1) = false := by simp; omega
  have f4 : decide (100 ≤ k + 1) = false := by simp; omega
  have f5 : decide (99 ≤ k) = false := by simp; omega
  have f6 : decide (z1 < 1) = false := by simp; omega
  have f7 : decide (z2 < 1) = true := by simp; omega
  go_enter Try.func12, Try.ntmps12
  go_wp2_with (go_at_call 14; refine (awake_any _).mono ?_; rintro e w5 ⟨rfl, hb5⟩)
  go_ret
  exact ⟨rfl, (((Below.refl _ w).alloc (Nat.le_refl _) _).alloc (by simp) _).trans (hb5.mono (by simp; omega))⟩

set_option maxHeartbeats 8000000 in
set_option maxRecDepth 100000 in
theorem chunkSplits_no4 (hm0 : m ≤ 1048576) (hk0 : k ≤ 1048576) (h0 : ¬ (100 ≤ m + 1)) (h1 : ¬ (100 ≤ k + 1)) (h2 : ¬ (z1 < 1)) (h3 : ¬ (z2 < 1)) (h4 : 1048576 < z1) :
    Calls Try.prog 12 #[.agg #[.slice A n ca, .slice B m cb, .bool fail], .slice D k cd, .agg #[.int .i64 z1, .int .i64 z2, .slice E j ce]] w fun e w' => e = .returned (.bool true) ∧ Below w.heap.size w w' := by
  have f0 : decide ((100 : Int) ≤ (m : Int) + 1) = false := by simp; omega
  have f1 : decide (100 ≤ m + 1) = false := by simp; omega
  have f2 : decide (99 ≤ m) = false := by simp; omega
  have f3 : decide ((100 : Int) ≤ (k : Int) + 1) = false := by simp; omega
  have f4 : decide (100 ≤ k + 1) = false := by simp; omega
  have f5 : decide (99 ≤ k) = false := by simp; omega
  have f6 : decide (z1 < 1) = false := by simp; omega
  have f7 : decide (z2 < 1) = false := by simp; omega
  have f8 : decide (1048576 < z1) = true := by simp; omega
  go_enter Try.func12, Try.ntmps12
  go_wp2_with (go_at_call 14; refine (awake_any _).mono ?_; rintro e w5 ⟨rfl, hb5⟩)
  go_ret
  exact ⟨rfl, (((Below.refl _ w).alloc (Nat.le_refl _) _).alloc (by simp) _).trans (hb5.mono (by simp; omega))⟩

set_option maxHeartbeats 8000000 in
set_option maxRecDepth 100000 in
theorem chunkSplits_no5 (hm0 : m ≤ 1048576) (hk0 : k ≤ 1048576) (h0 : ¬ (100 ≤ m + 1)) (h1 : ¬ (100 ≤ k + 1)) (h2 : ¬ (z1 < 1)) (h3 : ¬ (z2 < 1)) (h4 : ¬ (1048576 < z1)) (h5 : 1048576 < z2) :
    Calls Try.prog 12 #[.agg #[.slice A n ca, .slice B m cb, .bool fail], .slice D k cd, .agg #[.int .i64 z1, .int .i64 z2, .slice E j ce]] w fun e w' => e = .returned (.bool true) ∧ Below w.heap.size w w' := by
  have f0 : decide ((100 : Int) ≤ (m : Int) + 1) = false := by simp; omega
  have f1 : decide (100 ≤ m + 1) = false := by simp; omega
  have f2 : decide (99 ≤ m) = false := by simp; omega
  have f3 : decide ((100 : Int) ≤ (k : Int) + 1) = false := by simp; omega
  have f4 : decide (100 ≤ k + 1) = false := by simp; omega
  have f5 : decide (99 ≤ k) = false := by simp; omega
  have f6 : decide (z1 < 1) = false := by simp; omega
  have f7 : decide (z2 < 1) = false := by simp; omega
  have f8 : decide (1048576 < z1) = false := by simp; omega
  have f9 : decide (1048576 < z2) = true := by simp; omega
  go_enter Try.func12, Try.ntmps12
  go_wp2_with (go_at_call 14; refine (awake_any _).mono ?_; rintro e w5 ⟨rfl, hb5⟩)
  go_ret
  exact ⟨rfl, (((Below.refl _ w).alloc (Nat.le_refl _) _).alloc (by simp) _).trans (hb5.mono (by simp; omega))⟩


theorem total_cut (data : List UInt8) (cs : List Int) (fail : Bool) : total (cut data cs fail) = data.length := by
  have key : ∀ L : List Stp, total L = (flat L).length := by
    intro L
    induction L with
    | nil => simp [total, flat]
    | cons s L ih => simp only [total, flat, List.map_cons, List.sum_cons, List.flatMap_cons, List.length_append] at ih ⊢; omega
  have h1 := congrArg List.length (cutTo_flat data cs).1
  rw [List.length_append, ← key] at h1
  have h2 : total (cut data cs fail) = total (cutTo data cs).1 + (data.drop (cutTo data cs).2).length := by simp [total, cut]
  omega

theorem SplitLoop.step {w wr w' : World} {lo b g b2 g2 s1 s2 : Nat} {S S2 H H2 H' H2' : Nat → Prop} {x y x' y' : Buf} {pc : Array Value} (h : SplitLoop w lo b g b2 g2 S S2 s1 s2 pc wr x y H H2) (hlo : w.heap.size + 2 ≤ lo) (hll : lo ≤ wr.heap.size)
    (hk : Keep (BothAll b g b2 g2 S S2 H H2) wr w') (ht : Two w' b g b2 g2 S S2 H' H2' x' y') (h1 : ∀ k, H' k → H k ∨ wr.heap.size ≤ k) (h2 : ∀ k, H2' k → H2 k ∨ wr.heap.size ≤ k)
    (hx : x'.few) (hy : y'.few) (hl : x'.left = y'.left) (htk : x'.taken = y'.taken) (hxs : x'.size = x.size) (hys : y'.size = y.size) : SplitLoop w lo b g b2 g2 S S2 s1 s2 pc w' x' y' H' H2' :=
  ⟨ht, h.frm.next hll h1 h2, hx, hy, hl, htk, hxs.trans h.xs, hys.trans h.ys, h.box.keep hk (fun hb => by have := h.frm _ hb; omega), below_trans_keep h.below hk (fun k hb => by have := h.frm k hb; omega)⟩
theorem two_r {k b g b2 g2 : Nat} {S S2 H H2 : Nat → Prop} (h : k = b2 ∨ k = g2 ∨ H2 k) : BothAll b g b2 g2 S S2 H H2 k := by
  rcases h with h | h | h
  · exact .inr (.inl h)
  · exact .inr (.inr (.inl h))
  · exact .inr (.inr (.inr (.inr h)))

end
end Go.Proofs.Ytadnceiohgjdhaa
