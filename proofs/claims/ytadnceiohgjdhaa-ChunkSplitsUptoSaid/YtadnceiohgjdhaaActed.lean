/-
  NewBuffer, calls with an argument that may not be, and the law's own acted: one call of both buffers.
-/
import Derived.Test.YtadnceiohgjdhaaRRest
import Derived.Test.YtadnceiohgjdhaaAlike
namespace Go.Proofs.Ytadnceiohgjdhaa
open Go.RowKit
set_option linter.unusedVariables false
set_option linter.unusedSimpArgs false

section
variable {H S : Nat → Prop} {w : World} {b g : Nat} {x : Buf}
set_option maxHeartbeats 2000000 in
set_option maxRecDepth 100000 in
theorem bufPeek_arg (n : Int) (h : IsBuf H S w b g x) (hn : n < 0 ∨ (x.size : Int) < n) :
    Calls Try.prog 39 #[.pointer (some ⟨b, 0, none⟩), .int .i64 n] w fun e w' => e = .returned (.tuple #[.slice none 0 0, .int .i64 1]) ∧ w = w' := by
  have HH := Lib.hid h
  obtain ⟨A, c, hb, _⟩ := h.blk
  have x1 : w.cell? ⟨b, 1, none⟩ = some (.int .i64 x.size) := hb.cell 1
  clear hb h
  by_cases h0 : n < 0
  · clear hn
    have d : decide (n < 0) = true := by simpa using h0
    go_enter Try.func39, Try.ntmps39
    go_wp2_with (go_at_call 53; refine (bufIs_any HH.out).mono ?_; rintro e w1 ⟨rfl, rfl⟩)
    go_ret2
    exact ⟨rfl, rfl⟩
  · have h1 : (x.size : Int) < n := hn.resolve_left h0
    have d : decide (n < 0) = false := by simpa using h0
    have d1 : decide ((x.size : Int) < n) = true := by simpa using h1
    clear hn
    go_enter Try.func39, Try.ntmps39
    go_wp2_with (go_at_call 53; refine (bufIs_any HH.out).mono ?_; rintro e w1 ⟨rfl, rfl⟩)
    go_ret2
    exact ⟨rfl, rfl⟩
set_option maxHeartbeats 2000000 in
theorem bufTake_arg (n : Int) (h : IsBuf H S w b g x) (hn : n < 0 ∨ (x.size : Int) < n) :
    Calls Try.prog 36 #[.pointer (some ⟨b, 0, none⟩), .int .i64 n] w fun e w' => e = .returned (.tuple #[.slice none 0 0, .int .i64 1]) ∧ w = w' := by
  have HH := Lib.hid h
  have HN := Lib.hid hn
  clear h hn
  go_enter Try.func36, Try.ntmps36
  go_wp2_with (go_at_call 39; refine (bufPeek_arg n HH.out HN.out).mono ?_; rintro e w1 ⟨rfl, rfl⟩)
  go_ret2
  exact ⟨rfl, rfl⟩
end

/-! ## Two buffers, one of the program and one of the reference, apart -/
/-- All blocks of the two. -/
def BothAll (b g rb rg : Nat) (S SR H HR : Nat → Prop) (k : Nat) : Prop := (k = b ∨ k = g ∨ S k ∨ H k) ∨ k = rb ∨ k = rg ∨ SR k ∨ HR k
structure Both (w : World) (b g rb rg : Nat) (S SR H HR : Nat → Prop) (x y : Buf) : Prop where
  p : IsBuf H S w b g x
  r : IsRBuf HR SR w rb rg y
  d : ∀ k, (k = b ∨ k = g ∨ S k ∨ H k) → ¬ (k = rb ∨ k = rg ∨ SR k ∨ HR k)
section
variable {w w' : World} {b g rb rg : Nat} {S SR H HR T : Nat → Prop} {x y z : Buf} {l : List UInt8} {e : Int} {v : Value}
theorem Both.all_lt (h : Both w b g rb rg S SR H HR x y) (k : Nat) (hk : BothAll b g rb rg S SR H HR k) : k < w.heap.size := by
  obtain ⟨_, _, hb, _⟩ := h.p.blk
  obtain ⟨_, _, hr, _⟩ := h.r.blk
  have lb := hb.lt
  have lr := hr.lt
  have lg := h.p.src.lt
  have lh := h.r.src.lt
  rcases hk with (rfl | rfl | h1 | h1) | rfl | rfl | h1 | h1
  · exact lb
  · exact lg
  · exact h.p.Sl k h1
  · exact (h.p.held k h1).1
  · exact lr
  · exact lh
  · exact h.r.Sl k h1
  · exact (h.r.held k h1).1
theorem Both.keep (h : Both w b g rb rg S SR H HR x y) (hk : Keep T w w') (hT : ∀ k, BothAll b g rb rg S SR H HR k → ¬ T k) : Both w' b g rb rg S SR H HR x y :=
  ⟨h.p.keep hk (hT _ (.inl (.inl rfl))) (hT _ (.inl (.inr (.inl rfl)))) (fun k h1 => hT k (.inl (.inr (.inr (.inl h1))))) (fun k h1 => hT k (.inl (.inr (.inr (.inr h1))))),
    h.r.keep hk (hT _ (.inr (.inl rfl))) (hT _ (.inr (.inr (.inl rfl)))) (fun k h1 => hT k (.inr (.inr (.inr (.inl h1))))) (fun k h1 => hT k (.inr (.inr (.inr (.inr h1))))), h.d⟩
theorem Both.behind (h : Both w b g rb rg S SR H HR x y) (hb : Below w.heap.size w w') : Both w' b g rb rg S SR H HR x y := h.keep (Keep.of_below hb (fun _ => False)) (fun _ _ => id)
/-- A call on the program's buffer. -/
theorem Both.stepP (h : Both w b g rb rg S SR H HR x y) (hg : BufGives H S b g ((l, e), z) w v w') : ∃ A c H', v = .tuple #[.slice A l.length c, .int .i64 e] ∧ w'.ownsRow w.heap.size 5 1 (.slice A l.length c) l.length (bv l) ∧
    Both w' b g rb rg S SR H' HR z y ∧ (∀ k, (Value.slice A l.length c).ownBlock = some k → ¬ BothAll b g rb rg S SR H' HR k) ∧ Keep (fun k => k = b ∨ k = g ∨ H k) w w' ∧ (∀ k, H' k → H k ∨ w.heap.size ≤ k) := by
  obtain ⟨A, c, rfl, ho, ⟨H', hsub, hdis, hb⟩, hk⟩ := hg
  have hr := h.r.keep hk (fun h1 => h.d rb (by rcases h1 with h1 | h1 | h1; exact .inl h1; exact .inr (.inl h1); exact .inr (.inr (.inr h1))) (.inl rfl)) (fun h1 => h.d rg (by rcases h1 with h1 | h1 | h1; exact .inl h1; exact .inr (.inl h1); exact .inr (.inr (.inr h1))) (.inr (.inl rfl)))
    (fun k h0 h1 => h.d k (by rcases h1 with h1 | h1 | h1; exact .inl h1; exact .inr (.inl h1); exact .inr (.inr (.inr h1))) (.inr (.inr (.inl h0)))) (fun k h0 h1 => h.d k (by rcases h1 with h1 | h1 | h1; exact .inl h1; exact .inr (.inl h1); exact .inr (.inr (.inr h1))) (.inr (.inr (.inr h0))))
  refine ⟨A, c, H', rfl, ho, ⟨hb, hr, fun k h1 h2 => ?_⟩, fun k h1 h2 => ?_, hk, hsub⟩
  · rcases h1 with h1 | h1 | h1 | h1
    · exact h.d k (.inl h1) h2
    · exact h.d k (.inr (.inl h1)) h2
    · exact h.d k (.inr (.inr (.inl h1))) h2
    · rcases hsub k h1 with h3 | h3
      · exact h.d k (.inr (.inr (.inr h3))) h2
      · have := h.all_lt k (.inr h2)
        omega
  · have l1 := (ho.lt k h1).1
    rcases h2 with (h2 | h2 | h2 | h2) | h2
    · have := h.all_lt k (.inl (.inl h2)); omega
    · have := h.all_lt k (.inl (.inr (.inl h2))); omega
    · have := h.all_lt k (.inl (.inr (.inr (.inl h2)))); omega
    · exact hdis k h1 h2
    · have := h.all_lt k (.inr h2); omega
/-- A call on the reference's buffer. -/
theorem Both.stepR (h : Both w b g rb rg S SR H HR x y) (hg : RBufGives HR SR rb rg ((l, e), z) w v w') : ∃ A c H', v = .tuple #[.slice A l.length c, .int .i64 e] ∧ w'.ownsRow w.heap.size 5 1 (.slice A l.length c) l.length (bv l) ∧
    Both w' b g rb rg S SR H H' x z ∧ Keep (fun k => k = rb ∨ k = rg ∨ HR k) w w' ∧ (∀ k, H' k → HR k ∨ w.heap.size ≤ k) := by
  obtain ⟨A, c, rfl, ho, ⟨H', hsub, hdis, hb⟩, hk⟩ := hg
  have hT : ∀ k, (k = rb ∨ k = rg ∨ HR k) → k = rb ∨ k = rg ∨ SR k ∨ HR k := fun k h1 => by rcases h1 with h1 | h1 | h1; exact .inl h1; exact .inr (.inl h1); exact .inr (.inr (.inr h1))
  have hp := h.p.keep hk (fun h1 => h.d b (.inl rfl) (hT _ h1)) (fun h1 => h.d g (.inr (.inl rfl)) (hT _ h1)) (fun k h0 h1 => h.d k (.inr (.inr (.inl h0))) (hT _ h1)) (fun k h0 h1 => h.d k (.inr (.inr (.inr h0))) (hT _ h1))
  refine ⟨A, c, H', rfl, ho, ⟨hp, hb, fun k h1 h2 => ?_⟩, hk, hsub⟩
  rcases h2 with h2 | h2 | h2 | h2
  · exact h.d k h1 (.inl h2)
  · exact h.d k h1 (.inr (.inl h2))
  · exact h.d k h1 (.inr (.inr (.inl h2)))
  · rcases hsub k h2 with h3 | h3
    · exact h.d k h1 (.inr (.inr (.inr h3)))
    · have := h.all_lt k (.inl h1)
      omega
end

/-- .. behind one on the program's, whose answer is kept. -/
theorem Both.second {w w' : World} {b g rb rg lo n c1 : Nat} {S SR H HR : Nat → Prop} {x y z : Buf} {l bs : List UInt8} {e : Int} {v : Value} {A1 : Option Addr} (h : Both w b g rb rg S SR H HR x y)
    (ho : w.ownsRow lo 5 1 (.slice A1 n c1) n (bv bs)) (hd : ∀ k, (Value.slice A1 n c1).ownBlock = some k → ¬ BothAll b g rb rg S SR H HR k) (hg : RBufGives HR SR rb rg ((l, e), z) w v w') :
    ∃ A c H', v = .tuple #[.slice A l.length c, .int .i64 e] ∧ Row (fun _ => True) w' 1 A l.length (bv l) ∧ w'.ownsRow lo 5 1 (.slice A1 n c1) n (bv bs) ∧ Both w' b g rb rg S SR H H' x z ∧
    (∀ k, (Value.slice A1 n c1).ownBlock = some k → ¬ BothAll b g rb rg S SR H H' k) ∧ Keep (fun k => k = rb ∨ k = rg ∨ HR k) w w' ∧ (∀ k, H' k → HR k ∨ w.heap.size ≤ k) := by
  obtain ⟨A, c, H', rfl, h2, h3, h4, h5⟩ := h.stepR hg
  refine ⟨A, c, H', rfl, (Row.of_own h2).more (fun _ _ _ => trivial) (by omega), own_keep ho h4 (fun k h6 h7 => hd k h6 (by rcases h7 with h7 | h7 | h7; exact .inr (.inl h7); exact .inr (.inr (.inl h7)); exact .inr (.inr (.inr (.inr h7))))), h3, fun k h6 h7 => ?_, h4, h5⟩
  rcases h7 with h7 | h7 | h7 | h7 | h7
  · exact hd k h6 (.inl h7)
  · exact hd k h6 (.inr (.inl h7))
  · exact hd k h6 (.inr (.inr (.inl h7)))
  · exact hd k h6 (.inr (.inr (.inr (.inl h7))))
  · rcases h5 k h7 with h8 | h8
    · exact hd k h6 (.inr (.inr (.inr (.inr h8))))
    · have := (ho.lt k h6).2
      omega

/-- What acted gives. -/
def ActedGives (b g rb rg : Nat) (S SR H HR : Nat → Prop) (w : World) (e : Ending) (w' : World) : Prop :=
  e = .returned (.bool true) ∧ ∃ x' H' HR', Both w' b g rb rg S SR H' HR' x' x' ∧ (∀ k, H' k → H k ∨ w.heap.size ≤ k) ∧ (∀ k, HR' k → HR k ∨ w.heap.size ≤ k) ∧ Keep (BothAll b g rb rg S SR H HR) w w'

section
variable {w : World} {b g rb rg : Nat} {S SR H HR : Nat → Prop} {x : Buf}

theorem both_p {k : Nat} (h : k = b ∨ k = g ∨ H k) : BothAll b g rb rg S SR H HR k := by
  rcases h with h | h | h
  · exact .inl (.inl h)
  · exact .inl (.inr (.inl h))
  · exact .inl (.inr (.inr (.inr h)))
theorem both_r {k : Nat} (h : k = rb ∨ k = rg ∨ HR k) : BothAll b g rb rg S SR H HR k := by
  rcases h with h | h | h
  · exact .inr (.inl h)
  · exact .inr (.inr (.inl h))
  · exact .inr (.inr (.inr (.inr h)))
/-- The end: the answer is written over. -/
theorem acted_done {w2 w3 : World} {lo n c1 : Nat} {A1 : Option Addr} {bs : List UInt8} {H1 H2 : Nat → Prop} {y : Buf} (hb : Both w2 b g rb rg S SR H1 H2 y y) (hd : ∀ k, (Value.slice A1 n c1).ownBlock = some k → ¬ BothAll b g rb rg S SR H1 H2 k)
    (ho : w2.ownsRow lo 5 1 (.slice A1 n c1) n (bv bs)) (hk3 : Keep (fun k => (Value.slice A1 n c1).ownBlock = some k) w2 w3) (s1 : ∀ k, H1 k → H k ∨ w.heap.size ≤ k) (s2 : ∀ k, H2 k → HR k ∨ w.heap.size ≤ k)
    (hlo : w.heap.size ≤ lo) (hk : Keep (BothAll b g rb rg S SR H HR) w w2) : ActedGives b g rb rg S SR H HR w (.returned (.bool true)) w3 :=
  ⟨rfl, y, H1, H2, hb.keep hk3 (fun k h1 h2 => hd k h2 h1), s1, s2, hk.trans_ hk3 (fun i hi h => by have := (ho.lt i h).1; omega)⟩
theorem wrap_byte (n : Int) : ∃ c : UInt8, IntKind.u8.wrap n = (c.toNat : Int) := by
  refine ⟨UInt8.ofNat (n % 256).toNat, ?_⟩
  rw [UInt8.toNat_ofNat_of_lt' (by simp [UInt8.size]; omega)]
  simp [IntKind.wrap, IntKind.signed, IntKind.bits]
  omega
theorem alikeB_refl' (e : Int) (l : List UInt8) : alikeB e l e l = true := by simp [alikeB]
set_option maxHeartbeats 8000000 in
set_option maxRecDepth 100000 in
/-- Another kind: nothing. -/
theorem acted_other (k n : Int) (h : Both w b g rb rg S SR H HR x x) (h0 : k ≠ 0) (h1 : k ≠ 1) (h2 : k ≠ 2) (h3 : k ≠ 3) :
    Calls Try.prog 42 #[.pointer (some ⟨b, 0, none⟩), .pointer (some ⟨rb, 0, none⟩), .agg #[.int .i64 k, .int .i64 n]] w (ActedGives b g rb rg S SR H HR w) := by
  have HH := Lib.hid h
  have q0 : (k == 0) = false := by simpa using h0
  have q1 : (k == 1) = false := by simpa using h1
  have q2 : (k == 2) = false := by simpa using h2
  have q3 : (k == 3) = false := by simpa using h3
  clear h h0 h1 h2 h3
  go_enter Try.func42, Try.ntmps42
  go_wp2_with fail
  go_ret
  exact ⟨rfl, x, H, HR, HH.out.behind ((Below.refl _ w).alloc (Nat.le_refl _) _), fun k h => .inl h, fun k h => .inl h, (Keep.refl _ w).alloc _⟩
set_option maxHeartbeats 8000000 in
set_option maxRecDepth 100000 in
/-- Rest -/
theorem acted_rest (n : Int) (h : Both w b g rb rg S SR H HR x x) :
    Calls Try.prog 42 #[.pointer (some ⟨b, 0, none⟩), .pointer (some ⟨rb, 0, none⟩), .agg #[.int .i64 3, .int .i64 n]] w (ActedGives b g rb rg S SR H HR w) := by
  have HH := Lib.hid (h.behind ((Below.refl _ w).alloc (Nat.le_refl _) (.cells #[.int .i64 3, .int .i64 n] 87)))
  have HL := Lib.hid h.all_lt
  obtain ⟨l, e0, y, hr⟩ : ∃ l e0 y, x.rest [] 0 = ((l, e0), y) := ⟨_, _, _, rfl⟩
  have HR0 := Lib.hid hr
  clear h hr
  go_enter Try.func42, Try.ntmps42
  go_wp2_with fail
  refine (bufRest_any HH.out.p).mono ?_
  rintro e w1 ⟨v, rfl, g1⟩
  rw [HR0.out] at g1
  obtain ⟨A1, c1, H1, rfl, ho1, hb1, hd1, hk1, hs1⟩ := HH.out.stepP g1
  have O1 := Lib.hid ho1
  have B1 := Lib.hid hb1
  have D1 := Lib.hid hd1
  have K1 := Lib.hid hk1
  have S1 := Lib.hid hs1
  clear g1 ho1 hb1 hd1 hk1 hs1
  go_wp2_with fail
  refine (rbufRest_any B1.out.r).mono ?_
  rintro e w2 ⟨v, rfl, g2⟩
  rw [HR0.out] at g2
  obtain ⟨A2, c2, H2, rfl, hr2, ho2, hb2, hd2, hk2, hs2⟩ := B1.out.second O1.out D1.out g2
  have R2 := Lib.hid hr2
  have O2 := Lib.hid ho2
  have B2 := Lib.hid hb2
  have D2 := Lib.hid hd2
  have K2 := Lib.hid hk2
  have S2 := Lib.hid hs2
  clear g2 hr2 ho2 hb2 hd2 hk2 hs2
  go_wp2_with fail
  refine (alike_any _ _ _ _ _ _ _ _ _ _ _ _ O2.out R2.out).mono ?_
  rintro e w3 ⟨rfl, hk3⟩
  rw [alikeB_refl']
  have K3 := Lib.hid hk3
  clear hk3
  go_wp2_with fail
  go_ret
  exact acted_done B2.out D2.out O2.out K3.out (fun k h => (S1.out k h).imp id (fun h => by simp at h; omega)) (fun k h => (S2.out k h).imp id (fun h => by have := K1.out.size; simp at this; omega)) (by simp) (((Keep.refl _ w).alloc _).trans_ K1.out (fun i _ h => both_p h) |>.trans_ K2.out (fun i _ h => both_r h))
set_option maxHeartbeats 8000000 in
set_option maxRecDepth 100000 in
/-- Until -/
theorem acted_until (n : Int) (h : Both w b g rb rg S SR H HR x x) :
    Calls Try.prog 42 #[.pointer (some ⟨b, 0, none⟩), .pointer (some ⟨rb, 0, none⟩), .agg #[.int .i64 2, .int .i64 n]] w (ActedGives b g rb rg S SR H HR w) := by
  have HH := Lib.hid (h.behind ((Below.refl _ w).alloc (Nat.le_refl _) (.cells #[.int .i64 2, .int .i64 n] 87)))
  have HL := Lib.hid h.all_lt
  obtain ⟨c, hc⟩ : ∃ c : UInt8, IntKind.u8.wrap n = (c.toNat : Int) := wrap_byte n
  obtain ⟨l, e0, y, hr⟩ : ∃ l e0 y, x.untl c 0 = ((l, e0), y) := ⟨_, _, _, rfl⟩
  have HR0 := Lib.hid hr
  clear h hr
  go_enter Try.func42, Try.ntmps42
  go_wp2_with fail
  refine (bufUntil_any c HH.out.p).mono ?_
  rintro e w1 ⟨v, rfl, g1⟩
  rw [HR0.out] at g1
  obtain ⟨A1, c1, H1, rfl, ho1, hb1, hd1, hk1, hs1⟩ := HH.out.stepP g1
  have O1 := Lib.hid ho1
  have B1 := Lib.hid hb1
  have D1 := Lib.hid hd1
  have K1 := Lib.hid hk1
  have S1 := Lib.hid hs1
  have X1 := (Blk.new w 87 #[.int .i64 2, .int .i64 n]).keep hk1 (fun h => Nat.lt_irrefl _ (HL.out _ (both_p h)))
  have a1 : w1.cell? ⟨w.heap.size, 1, none⟩ = some (.int .i64 n) := X1.cell 1
  clear g1 ho1 hb1 hd1 hk1 hs1 X1
  go_wp2_with fail
  refine (rbufUntil_any c B1.out.r).mono ?_
  rintro e w2 ⟨v, rfl, g2⟩
  rw [HR0.out] at g2
  obtain ⟨A2, c2, H2, rfl, hr2, ho2, hb2, hd2, hk2, hs2⟩ := B1.out.second O1.out D1.out g2
  have R2 := Lib.hid hr2
  have O2 := Lib.hid ho2
  have B2 := Lib.hid hb2
  have D2 := Lib.hid hd2
  have K2 := Lib.hid hk2
  have S2 := Lib.hid hs2
  clear g2 hr2 ho2 hb2 hd2 hk2 hs2
  go_wp2_with fail
  refine (alike_any _ _ _ _ _ _ _ _ _ _ _ _ O2.out R2.out).mono ?_
  rintro e w3 ⟨rfl, hk3⟩
  rw [alikeB_refl']
  have K3 := Lib.hid hk3
  clear hk3
  go_wp2_with fail
  go_ret
  exact acted_done B2.out D2.out O2.out K3.out (fun k h => (S1.out k h).imp id (fun h => by simp at h; omega)) (fun k h => (S2.out k h).imp id (fun h => by have := K1.out.size; simp at this; omega)) (by simp) (((Keep.refl _ w).alloc _).trans_ K1.out (fun i _ h => both_p h) |>.trans_ K2.out (fun i _ h => both_r h))

set_option maxHeartbeats 8000000 in
set_option maxRecDepth 100000 in
/-- Peek, Take: a number that may not be. -/
theorem acted_bad (kd n : Int) (h : Both w b g rb rg S SR H HR x x) (hkd : kd = 0 ∨ kd = 1) (hn : n < 0 ∨ (x.size : Int) < n) :
    Calls Try.prog 42 #[.pointer (some ⟨b, 0, none⟩), .pointer (some ⟨rb, 0, none⟩), .agg #[.int .i64 kd, .int .i64 n]] w (ActedGives b g rb rg S SR H HR w) := by
  have HH := Lib.hid (h.behind ((Below.refl _ w).alloc (Nat.le_refl _) (.cells #[.int .i64 kd, .int .i64 n] 87)))
  have HL := Lib.hid h.all_lt
  have HN := Lib.hid hn
  obtain ⟨Ar, cr, hrb, _⟩ := h.r.blk
  have HRB := Lib.hid hrb
  have hd2 : ∀ d, decide (n < 0) = d → (d = true ∨ (d = false ∧ decide ((x.size : Int) < n) = true)) := by
    intro d hd
    subst hd
    by_cases h0 : n < 0
    · exact .inl (by simpa using h0)
    · exact .inr ⟨by simpa using h0, by simpa using hn.resolve_left h0⟩
  have hd3 := hd2 _ rfl
  clear h hn hrb hd2
  rcases hkd with rfl | rfl
  · rcases hd3 with hd3 | ⟨hd3, hd4⟩
    · go_enter Try.func42, Try.ntmps42
      go_wp2_with fail
      refine (bufPeek_arg n HH.out.p HN.out).mono ?_
      rintro e w1 ⟨rfl, rfl⟩
      have xr : (w.alloc (.cells #[.int .i64 0, .int .i64 n] 87)).cell? ⟨rb, 1, none⟩ = some (.int .i64 x.size) := (HRB.out.alloc _).cell 1
      have lr := HRB.out.lt
      go_wp2_with fail
      go_quiet (fail)
      go_wp2_with fail
      refine (alike_any 0 (fun _ => True) _ _ _ _ _ [] [] _ _ _ (World.ownsRow_nil _ _ _ _) Row.none_).mono ?_
      rintro e w3 ⟨rfl, hk3⟩
      rw [alikeB_refl']
      have K3 := Lib.hid hk3
      clear hk3
      go_wp2_with fail
      go_ret
      exact ⟨rfl, x, H, HR, (HH.out.keep (Keep.drewN (Keep.refl (fun _ => False) _) _) (fun _ _ => id)).keep K3.out (by simp [Value.ownBlock]), fun k h => .inl h, fun k h => .inl h, ((((Keep.refl _ w).alloc _).drewN _).trans_ K3.out (by simp [Value.ownBlock]))⟩
    · go_enter Try.func42, Try.ntmps42
      go_wp2_with fail
      refine (bufPeek_arg n HH.out.p HN.out).mono ?_
      rintro e w1 ⟨rfl, rfl⟩
      have xr : (w.alloc (.cells #[.int .i64 0, .int .i64 n] 87)).cell? ⟨rb, 1, none⟩ = some (.int .i64 x.size) := (HRB.out.alloc _).cell 1
      have lr := HRB.out.lt
      go_wp2_with fail
      go_quiet (fail)
      go_wp2_with fail
      refine (alike_any 0 (fun _ => True) _ _ _ _ _ [] [] _ _ _ (World.ownsRow_nil _ _ _ _) Row.none_).mono ?_
      rintro e w3 ⟨rfl, hk3⟩
      rw [alikeB_refl']
      have K3 := Lib.hid hk3
      clear hk3
      go_wp2_with fail
      go_ret
      exact ⟨rfl, x, H, HR, (HH.out.keep (Keep.drewN (Keep.refl (fun _ => False) _) _) (fun _ _ => id)).keep K3.out (by simp [Value.ownBlock]), fun k h => .inl h, fun k h => .inl h, ((((Keep.refl _ w).alloc _).drewN _).trans_ K3.out (by simp [Value.ownBlock]))⟩
  · rcases hd3 with hd3 | ⟨hd3, hd4⟩
    · go_enter Try.func42, Try.ntmps42
      go_wp2_with fail
      refine (bufPeek_arg n HH.out.p HN.out).mono ?_
      rintro e w1 ⟨rfl, rfl⟩
      go_wp2_with fail
      refine (alike_any 0 (fun _ => True) _ _ _ _ _ [] [] _ _ _ (World.ownsRow_nil _ _ _ _) Row.none_).mono ?_
      rintro e w2 ⟨rfl, hk2⟩
      have X2 := (Blk.new w 87 #[.int .i64 1, .int .i64 n]).keep hk2 (by simp [Value.ownBlock])
      have a0 : w2.cell? ⟨w.heap.size, 0, none⟩ = some (.int .i64 1) := X2.cell 0
      have a1 : w2.cell? ⟨w.heap.size, 1, none⟩ = some (.int .i64 n) := X2.cell 1
      have HH2 := Lib.hid (HH.out.keep hk2 (by simp [Value.ownBlock]))
      have HB2 := (HRB.out.alloc (.cells #[.int .i64 1, .int .i64 n] 87)).keep hk2 (by simp [Value.ownBlock])
      have xr : w2.cell? ⟨rb, 1, none⟩ = some (.int .i64 x.size) := HB2.cell 1
      have K2 := Lib.hid hk2
      clear hk2 X2 HB2
      go_wp2_with fail
      refine (bufTake_arg n HH2.out.p HN.out).mono ?_
      rintro e w1 ⟨rfl, rfl⟩
      go_wp2_with fail
      go_quiet (fail)
      go_wp2_with fail
      refine (alike_any 0 (fun _ => True) _ _ _ _ _ [] [] _ _ _ (World.ownsRow_nil _ _ _ _) Row.none_).mono ?_
      rintro e w3 ⟨rfl, hk3⟩
      rw [alikeB_refl']
      have K3 := Lib.hid hk3
      clear hk3
      go_wp2_with fail
      go_ret
      exact ⟨rfl, x, H, HR, (HH2.out.keep (Keep.drewN (Keep.refl (fun _ => False) _) _) (fun _ _ => id)).keep K3.out (by simp [Value.ownBlock]), fun k h => .inl h, fun k h => .inl h, (((((Keep.refl _ w).alloc _).trans_ K2.out (by simp [Value.ownBlock])).drewN _).trans_ K3.out (by simp [Value.ownBlock]))⟩
    · go_enter Try.func42, Try.ntmps42
      go_wp2_with fail
      refine (bufPeek_arg n HH.out.p HN.out).mono ?_
      rintro e w1 ⟨rfl, rfl⟩
      go_wp2_with fail
      refine (alike_any 0 (fun _ => True) _ _ _ _ _ [] [] _ _ _ (World.ownsRow_nil _ _ _ _) Row.none_).mono ?_
      rintro e w2 ⟨rfl, hk2⟩
      have X2 := (Blk.new w 87 #[.int .i64 1, .int .i64 n]).keep hk2 (by simp [Value.ownBlock])
      have a0 : w2.cell? ⟨w.heap.size, 0, none⟩ = some (.int .i64 1) := X2.cell 0
      have a1 : w2.cell? ⟨w.heap.size, 1, none⟩ = some (.int .i64 n) := X2.cell 1
      have HH2 := Lib.hid (HH.out.keep hk2 (by simp [Value.ownBlock]))
      have HB2 := (HRB.out.alloc (.cells #[.int .i64 1, .int .i64 n] 87)).keep hk2 (by simp [Value.ownBlock])
      have xr : w2.cell? ⟨rb, 1, none⟩ = some (.int .i64 x.size) := HB2.cell 1
      have K2 := Lib.hid hk2
      clear hk2 X2 HB2
      go_wp2_with fail
      refine (bufTake_arg n HH2.out.p HN.out).mono ?_
      rintro e w1 ⟨rfl, rfl⟩
      go_wp2_with fail
      go_quiet (fail)
      go_wp2_with fail
      refine (alike_any 0 (fun _ => True) _ _ _ _ _ [] [] _ _ _ (World.ownsRow_nil _ _ _ _) Row.none_).mono ?_
      rintro e w3 ⟨rfl, hk3⟩
      rw [alikeB_refl']
      have K3 := Lib.hid hk3
      clear hk3
      go_wp2_with fail
      go_ret
      exact ⟨rfl, x, H, HR, (HH2.out.keep (Keep.drewN (Keep.refl (fun _ => False) _) _) (fun _ _ => id)).keep K3.out (by simp [Value.ownBlock]), fun k h => .inl h, fun k h => .inl h, (((((Keep.refl _ w).alloc _).trans_ K2.out (by simp [Value.ownBlock])).drewN _).trans_ K3.out (by simp [Value.ownBlock]))⟩

set_option maxHeartbeats 8000000 in
set_option maxRecDepth 100000 in
/-- Peek -/
theorem acted_peek (n : Nat) (h : Both w b g rb rg S SR H HR x x) (hn : n ≤ x.size) :
    Calls Try.prog 42 #[.pointer (some ⟨b, 0, none⟩), .pointer (some ⟨rb, 0, none⟩), .agg #[.int .i64 0, .int .i64 n]] w (ActedGives b g rb rg S SR H HR w) := by
  have HH := Lib.hid (h.behind ((Below.refl _ w).alloc (Nat.le_refl _) (.cells #[.int .i64 0, .int .i64 n] 87)))
  have HL := Lib.hid h.all_lt
  obtain ⟨l, e0, y, hr⟩ : ∃ l e0 y, x.peek n = ((l, e0), y) := ⟨_, _, _, rfl⟩
  have HR0 := Lib.hid hr
  have d1 : decide ((n : Int) < 0) = false := by simp
  have d2 : decide (x.size < n) = false := by simp; omega
  have d3 : decide ((x.size : Int) < (n : Int)) = false := by simp; omega
  clear h hr
  go_enter Try.func42, Try.ntmps42
  go_wp2_with fail
  refine (bufPeek_any n HH.out.p hn).mono ?_
  rintro e w1 ⟨v, rfl, g1⟩
  rw [HR0.out] at g1
  obtain ⟨A1, c1, H1, rfl, ho1, hb1, hd1, hk1, hs1⟩ := HH.out.stepP g1
  have O1 := Lib.hid ho1
  have B1 := Lib.hid hb1
  have D1 := Lib.hid hd1
  have K1 := Lib.hid hk1
  have S1 := Lib.hid hs1
  have X1 := (Blk.new w 87 #[.int .i64 0, .int .i64 n]).keep hk1 (fun h => Nat.lt_irrefl _ (HL.out _ (both_p h)))
  have a0 : w1.cell? ⟨w.heap.size, 0, none⟩ = some (.int .i64 0) := X1.cell 0
  have a1 : w1.cell? ⟨w.heap.size, 1, none⟩ = some (.int .i64 n) := X1.cell 1
  obtain ⟨Ar, cr, hrb, _⟩ := hb1.r.blk
  have xr : w1.cell? ⟨rb, 1, none⟩ = some (.int .i64 x.size) := hrb.cell 1
  have X := Lib.hid X1
  clear g1 ho1 hb1 hd1 hk1 hs1 X1 hrb
  go_wp2_with fail
  go_quiet (fail)
  rename_i nq
  go_wp2_with fail
  refine (rbufPeek_any n (B1.out.keep (Keep.drewN (Keep.refl (fun _ => False) _) _) (fun _ _ => id)).r hn).mono ?_
  rintro e w2 ⟨v, rfl, g2⟩
  rw [HR0.out] at g2
  obtain ⟨A2, c2, H2, rfl, hr2, ho2, hb2, hd2, hk2, hs2⟩ := (B1.out.keep (Keep.drewN (Keep.refl (fun _ => False) _) _) (fun _ _ => id)).second (own_drewN O1.out _) D1.out g2
  have R2 := Lib.hid hr2
  have O2 := Lib.hid ho2
  have B2 := Lib.hid hb2
  have D2 := Lib.hid hd2
  have K2 := Lib.hid hk2
  have S2 := Lib.hid hs2
  have X2 := (X.out.drewN nq).keep hk2 (fun h => Nat.lt_irrefl _ (HL.out _ (both_r h)))
  have b0 : w2.cell? ⟨w.heap.size, 0, none⟩ = some (.int .i64 0) := X2.cell 0
  clear g2 hr2 ho2 hb2 hd2 hk2 hs2 X2
  go_wp2_with fail
  refine (alike_any _ _ _ _ _ _ _ _ _ _ _ _ O2.out R2.out).mono ?_
  rintro e w3 ⟨rfl, hk3⟩
  rw [alikeB_refl']
  have K3 := Lib.hid hk3
  clear hk3
  go_wp2_with fail
  go_ret
  exact acted_done B2.out D2.out O2.out K3.out (fun k h => (S1.out k h).imp id (fun h => by simp at h; omega)) (fun k h => (S2.out k h).imp id (fun h => by have h1 := K1.out.size; have h2 : w1.heap.size ≤ k := h; simp at h1; omega)) (by simp) ((((Keep.refl _ w).alloc _).trans_ K1.out (fun i _ h => both_p h)).drewN _ |>.trans_ K2.out (fun i _ h => both_r h))

end
end Go.Proofs.Ytadnceiohgjdhaa
