/-
  The contracts of a buffer's Take, Until, Rest.
-/
import Derived.Test.YtadnceiohgjdhaaPeek
import Derived.Test.YtadnceiohgjdhaaIndexByte
namespace Go.Proofs.Ytadnceiohgjdhaa
open Go.RowKit
set_option linter.unusedVariables false
set_option linter.unusedSimpArgs false

/-! ## Plain -/
def Buf.takeB (x : Buf) (n : Nat) : (List UInt8 × Int) × Buf := ((x.peek n).1, (x.peek n).2.drop (x.peek n).1.1.length)
def Buf.untl (c : UInt8) (x : Buf) (em : Nat) : (List UInt8 × Int) × Buf :=
  if c ∈ x.held then ((x.held.take (x.held.idxOf c + 1), 0), x.drop (x.held.idxOf c + 1))
  else if x.held.length = x.size then (([], 23), x)
  else if (x.fill em).1.1 ≠ 0 then (((x.fill em).2.held, (x.fill em).1.1), (x.fill em).2.drop (x.fill em).2.held.length)
  else if h : (x.fill em).2.meas (x.fill em).1.2 < x.meas em then Buf.untl c (x.fill em).2 (x.fill em).1.2 else (([], 0), x)
termination_by x.meas em
def Buf.emptied (x : Buf) : Buf := x.drop x.held.length
def Buf.rest (acc : List UInt8) (x : Buf) (em : Nat) : (List UInt8 × Int) × Buf :=
  if (x.emptied.fill em).1.1 = 21 then ((acc ++ x.held, 0), (x.emptied.fill em).2)
  else if (x.emptied.fill em).1.1 ≠ 0 then ((acc ++ x.held, (x.emptied.fill em).1.1), (x.emptied.fill em).2)
  else if h : (x.emptied.fill em).2.meas (x.emptied.fill em).1.2 < x.meas em then Buf.rest (acc ++ x.held) (x.emptied.fill em).2 (x.emptied.fill em).1.2 else (([], 0), x)
termination_by x.meas em

theorem Buf.fill_held {x : Buf} (em : Nat) (he : (x.fill em).1.1 ≠ 0) : (x.fill em).2.held = x.held := by
  unfold Buf.fill at he ⊢
  split
  · rfl
  · rename_i h1
    split
    · rename_i h2
      rw [if_neg h1, if_pos h2] at he
      exact absurd rfl he
    · rfl
theorem Buf.pulled_ok {n : Nat} {x : Buf} {em : Nat} (hx : x.ok) (hem : em < 100) : (x.pulled n em).2.ok ∧ (x.pulled n em).2.size = x.size ∧ ((x.pulled n em).1 = 0 → n ≤ (x.pulled n em).2.held.length) ∧ (x.pulled n em).2.src.L = x.src.L ∧ (x.pulled n em).2.taken = x.taken := by
  generalize hm : x.meas em = m
  induction m using Nat.strongRecOn generalizing x em with
  | _ m ih =>
    by_cases h : n ≤ x.held.length
    · rw [Buf.pulled_done h]
      exact ⟨hx, rfl, fun _ => h, rfl, rfl⟩
    · obtain ⟨f1, f2, f3, f4, f5, f6⟩ := Buf.fill_facts hx em hem
      by_cases he : (x.fill em).1.1 = 0
      · rw [Buf.pulled_go hx hem h he]
        have h5 := f5.resolve_left (by simpa using he)
        obtain ⟨g1, g2, g3, g4, g5⟩ := ih _ (hm ▸ h5.2) f1 h5.1 rfl
        exact ⟨g1, g2.trans f2, g3, g4.trans f4, g5.trans f3⟩
      · rw [Buf.pulled_err h he]
        exact ⟨f1, f2, fun e => absurd e he, f4, f3⟩
theorem Buf.peek_take {x : Buf} (n : Nat) : (x.peek n).1.1 = (x.peek n).2.held.take (x.peek n).1.1.length := by
  simp only [Buf.peek]
  split
  · rw [List.length_take, List.take_eq_take_iff]
    omega
  · rw [List.take_length]
theorem Buf.drop_zero (x : Buf) : x.drop 0 = x := rfl

theorem BufGives.mk2 {H H2 S : Nat → Prop} {b g lo : Nat} {y : Buf} {l : List UInt8} {e : Int} {w w3 : World} {v : Value} (hlo : w.heap.size ≤ lo) (hH : ∀ k, H2 k → k < lo) (hb : IsBuf H2 S w3 b g y) (hsub : ∀ k, H2 k → H k ∨ w.heap.size ≤ k) (hk : Keep (fun k => k = b ∨ k = g ∨ H k) w w3)
    (ho : w3.ownsRow lo 5 1 v l.length (bv l)) : BufGives H S b g ((l, e), y) w (.tuple #[v, .int .i64 e]) w3 := by
  obtain ⟨A, c, rfl, _, _⟩ := own_slice ho
  refine ⟨A, c, rfl, own_less ho hlo, ⟨H2, hsub, fun k h1 h2 => ?_, hb⟩, hk⟩
  have := (ho.lt k h1).1
  have := hH k h2
  omega
/-- What take gives, opened. -/
theorem TakeGives.at_ {H S : Nat → Prop} {b g n : Nat} {x : Buf} {w w' : World} {v : Value} (h : TakeGives H S b g x n w v w') : ∃ A c, v = .slice A n c ∧ n ≤ c ∧ c ≤ maxLen ∧ w'.ownsRow w.heap.size 5 1 (.slice A n c) n (bv (x.held.take n)) ∧ IsBuf H S w' b g (x.drop n) ∧ Keep (fun k => k = b) w w' := by
  obtain ⟨h1, h2, h3⟩ := h
  obtain ⟨A, c, rfl, h4, h5⟩ := own_slice h1
  exact ⟨A, c, rfl, h4, h5, h1, h2, h3⟩

section
variable {H S : Nat → Prop} {w : World} {b g : Nat} {x : Buf}

set_option maxHeartbeats 4000000 in
set_option maxRecDepth 100000 in
theorem bufTake_any (n : Nat) (h : IsBuf H S w b g x) (hn : n ≤ x.size) :
    Calls Try.prog 36 #[.pointer (some ⟨b, 0, none⟩), .int .i64 n] w (Gives (BufGives H S b g (x.takeB n) w)) := by
  obtain ⟨l, e0, y, hp⟩ : ∃ l e0 y, x.peek n = ((l, e0), y) := ⟨_, _, _, rfl⟩
  have hpt := Buf.peek_take (x := x) n
  rw [hp] at hpt
  simp only at hpt
  have hT : x.takeB n = ((l, e0), y.drop l.length) := by simp [Buf.takeB, hp]
  have HP := Lib.hid hp
  have HH := Lib.hid h
  have HT := Lib.hid hT
  have HPT := Lib.hid hpt
  clear h hp hT hpt
  go_enter Try.func36, Try.ntmps36
  go_wp2_with fail
  refine (bufPeek_any n HH.out hn).mono ?_
  rintro e w1 ⟨v, rfl, h1⟩
  rw [HP.out] at h1
  obtain ⟨A1, c1, rfl, ho, ⟨H1, hsub, hdis, hb1⟩, hk1⟩ := h1
  simp only at ho hb1 hdis
  have HB1 := Lib.hid hb1
  have HK1 := Lib.hid hk1
  have HO1 := Lib.hid ho
  have HS1 := Lib.hid hsub
  have l1 := hk1.size
  clear hb1 hk1 ho hsub
  dsimp only
  by_cases h0 : 0 < l.length
  · have hle : l.length ≤ y.held.length := by
      have := congrArg List.length HPT.out
      rw [List.length_take] at this
      omega
    go_wp2_with fail
    refine (bufTake0_any l.length HB1.out hle).mono ?_
    rintro e w2 ⟨v, rfl, h2⟩
    obtain ⟨A2, c2, rfl, _, _, ho2, hb2, hk2⟩ := h2.at_
    rw [← HPT.out] at ho2
    have HO2 := Lib.hid ho2
    have HB2 := Lib.hid hb2
    have HK2 := Lib.hid (HK1.out.trans_ hk2 (fun i _ e => .inl e))
    clear h2 ho2 hb2 hk2
    go_wp2_with fail
    go_ret2
    refine ⟨_, rfl, ?_⟩
    rw [HT.out]
    exact BufGives.mk2 (lo := w1.heap.size) l1 (fun k hk => (HB1.out.held k hk).1) HB2.out HS1.out HK2.out HO2.out
  · obtain rfl : l = [] := List.eq_nil_of_length_eq_zero (by omega)
    go_wp2_with fail
    go_ret2
    refine ⟨_, rfl, ?_⟩
    rw [HT.out]
    exact ⟨A1, c1, rfl, HO1.out, ⟨H1, HS1.out, hdis, HB1.out⟩, HK1.out⟩
end

end Go.Proofs.Ytadnceiohgjdhaa
