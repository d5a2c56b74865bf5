/-
  The split does not matter: what a buffer answers, told by what is left alone, as plain data.
-/
import Derived.Test.YtadnceiohgjdhaaTakeLeft
namespace Go.Proofs.Ytadnceiohgjdhaa
open Go.RowKit
set_option linter.unusedVariables false

/-- The error at the end. -/
def endErr (r : List UInt8 × Bool) : Int := if r.2 then 20 else 21
/-- Peek's answer. -/
def peekOf (n : Nat) (r : List UInt8 × Bool) : List UInt8 × Int := if n ≤ r.1.length then (r.1.take n, 0) else (r.1, endErr r)
/-- Until's answer. -/
def untilOf (c : UInt8) (r : List UInt8 × Bool) : List UInt8 × Int := if c ∈ r.1 then (r.1.take (r.1.idxOf c + 1), 0) else (r.1, endErr r)
/-- Rest's answer. -/
def restOf (r : List UInt8 × Bool) : List UInt8 × Int := (r.1, if r.2 then 20 else 0)

/-- A buffer over a script of few steps. -/
def Buf.few (x : Buf) : Prop := x.ok ∧ x.src.L.length ≤ 99
/-- Two buffers that have the same left, and have taken as much. -/
def Buf.alike (x y : Buf) : Prop := x.left = y.left ∧ x.taken = y.taken

theorem Buf.few_step {x : Buf} (h : x.few) : x.src.step ≤ 99 := Nat.le_trans h.1.1.1 h.2
theorem Buf.drop_few {x : Buf} (h : x.few) {k : Nat} (hk : k ≤ x.held.length) : (x.drop k).few := ⟨Buf.drop_ok h.1 hk, h.2⟩
theorem Buf.drop_left_eq {x : Buf} {k : Nat} (h : k ≤ x.held.length) : (x.drop k).left = (x.left.1.drop k, x.left.2) := by
  simp only [Buf.left, Buf.drop]
  rw [List.drop_append_of_le_length h]

theorem Buf.peek_split {n : Nat} {x : Buf} (h : x.few) (hn : n ≤ x.size) : (x.peek n).1 = peekOf n x.left ∧ (x.peek n).2.left = x.left ∧ (x.peek n).2.taken = x.taken ∧ (x.peek n).2.few ∧ (x.peek n).2.size = x.size ∧ (x.peek n).1.1.length ≤ (x.peek n).2.held.length := by
  obtain ⟨p1, p2, p3, p4, p5⟩ := Buf.pulled_ok (n := n) h.1 (em := 0) (by omega)
  obtain ⟨q1, q2, q3⟩ := Buf.pulled_left (n := n) h.1 (em := 0) (by omega) hn
  obtain ⟨e0, z, hz⟩ : ∃ e0 z, x.pulled n 0 = (e0, z) := ⟨_, _, rfl⟩
  simp only [Buf.peek, hz] at p1 p2 p3 p4 p5 q1 q2 q3 ⊢
  have hzf : z.few := ⟨p1, by rw [p4]; exact h.2⟩
  have hst := Buf.few_step hzf
  refine ⟨?_, q1, p5, hzf, p2, ?_⟩
  · have q11 : x.left.1 = z.held ++ z.src.left.1 := congrArg Prod.fst q1.symm
    rcases q3 with ⟨rfl, q3⟩ | ⟨_, _, q3⟩ | ⟨q3, q4, q5⟩
    · rw [if_pos rfl, peekOf, if_pos (by rw [q11, List.length_append]; omega), q11, List.take_append_of_le_length q3]
    · omega
    · have he : e0 ≠ 0 := by rw [q3]; split <;> decide
      rw [q5, List.append_nil] at q11
      rw [if_neg he, peekOf, if_neg (by rw [q11]; omega), q11, q3]
      rfl
  · split
    · simp only [List.length_take]; omega
    · exact Nat.le_refl _
theorem Buf.takeB_split {n : Nat} {x : Buf} (h : x.few) (hn : n ≤ x.size) : (x.takeB n).1 = peekOf n x.left ∧ (x.takeB n).2.left = (x.left.1.drop (peekOf n x.left).1.length, x.left.2) ∧ (x.takeB n).2.taken = x.taken + (peekOf n x.left).1.length ∧ (x.takeB n).2.few ∧ (x.takeB n).2.size = x.size := by
  obtain ⟨h1, h2, h3, h4, h5, h6⟩ := Buf.peek_split h hn
  simp only [Buf.takeB]
  refine ⟨h1, ?_, ?_, Buf.drop_few h4 h6, h5⟩
  · rw [Buf.drop_left_eq h6, h2, h1]
  · rw [← h1]
    simp only [Buf.drop, h3]

/-- Until, told by what is left. -/
theorem Buf.untl_split {c : UInt8} {x : Buf} {em : Nat} (hx : x.few) (hem : em ≤ x.src.step) :
    (x.untl c em).2.few ∧ (x.untl c em).2.size = x.size ∧ ((x.untl c em).1.2 = 23 ∨ ((x.untl c em).1.2 ≠ 23 ∧ (x.untl c em).1 = untilOf c x.left ∧ (x.untl c em).2.left = (x.left.1.drop (untilOf c x.left).1.length, x.left.2) ∧ (x.untl c em).2.taken = x.taken + (untilOf c x.left).1.length)) := by
  generalize hm : x.meas em = m
  induction m using Nat.strongRecOn generalizing x em with
  | _ m ih =>
    have hst := Buf.few_step hx
    by_cases hc : c ∈ x.held
    · have hil : x.held.idxOf c < x.held.length := List.idxOf_lt_length_iff.2 hc
      have hmem : c ∈ x.left.1 := List.mem_append_left _ hc
      have hidx : x.left.1.idxOf c = x.held.idxOf c := by
        simp only [Buf.left]
        rw [List.idxOf_append, if_pos hc]
      have hu : untilOf c x.left = (x.held.take (x.held.idxOf c + 1), 0) := by
        rw [untilOf, if_pos hmem, hidx]
        simp only [Buf.left]
        rw [List.take_append_of_le_length (by omega)]
      rw [Buf.untl_found hc, hu]
      have hl : (x.held.take (x.held.idxOf c + 1)).length = x.held.idxOf c + 1 := by rw [List.length_take]; omega
      refine ⟨Buf.drop_few hx (by omega), rfl, .inr ⟨by simp, rfl, ?_, ?_⟩⟩
      · simp only [hl]
        exact Buf.drop_left_eq (by omega)
      · simp only [hl]
        rfl
    · by_cases hf : x.held.length = x.size
      · rw [Buf.untl_full hc hf]
        exact ⟨hx, rfl, .inl rfl⟩
      · have hroom : x.held.length < x.size := by have := hx.1.2.2.2.1; omega
        obtain ⟨f1, f2, f3, f4, f5, f6⟩ := Buf.fill_facts hx.1 em (by omega)
        obtain ⟨g1, g2, g3, g4⟩ := Buf.fill_left hx.1 em hroom
        have hff : (x.fill em).2.few := ⟨f1, by rw [f4]; exact hx.2⟩
        have hst2 := Buf.few_step hff
        by_cases he : (x.fill em).1.1 = 0
        · rw [Buf.untl_go hx.1 (by omega) hc hf he]
          have h5 := f5.resolve_left (by simpa using he)
          have hem2 : (x.fill em).1.2 ≤ (x.fill em).2.src.step := by
            rcases g4 with ⟨_, g4 | g4⟩ | ⟨g4, _⟩ | ⟨g4, _⟩
            · omega
            · omega
            · rw [he] at g4; cases g4
            · rw [he] at g4; split at g4 <;> cases g4
          obtain ⟨k1, k2, k3⟩ := ih _ (hm ▸ h5.2) hff hem2 rfl
          rw [g1, f2, f3] at *
          exact ⟨k1, k2, k3⟩
        · rw [Buf.untl_err hc hf he]
          have hh := Buf.fill_held em he
          rcases g4 with ⟨g4, _⟩ | ⟨g4, g5, g6⟩ | ⟨g4, g5⟩
          · exact absurd g4 he
          · exfalso
            have h1 : (x.fill em).2.src.step ≤ 99 := hst2
            omega
          · have h22 : (x.fill em).1.1 ≠ 22 := by rw [g4]; split <;> decide
            have hz := Buf.fill_less' he h22
            rw [hz]
            have hleft : x.left.1 = x.held := by simp [Buf.left, g5]
            have hu : untilOf c x.left = (x.held, (x.fill em).1.1) := by
              rw [untilOf, if_neg (by rw [hleft]; exact hc), hleft, g4]
              rfl
            rw [hu]
            refine ⟨Buf.drop_few hx (Nat.le_refl _), rfl, .inr ⟨?_, rfl, Buf.drop_left_eq (Nat.le_refl _), rfl⟩⟩
            simp only
            rw [g4]
            split <;> decide
/-- Rest, told by what is left. -/
theorem Buf.rest_split {acc : List UInt8} {x : Buf} {em : Nat} (hx : x.few) (hem : em ≤ x.src.step) :
    (Buf.rest acc x em).2.few ∧ (Buf.rest acc x em).2.size = x.size ∧ (Buf.rest acc x em).1 = (acc ++ x.left.1, if x.left.2 then 20 else 0) ∧ (Buf.rest acc x em).2.left = ([], x.left.2) ∧ (Buf.rest acc x em).2.taken = x.taken + x.left.1.length := by
  generalize hm : x.meas em = m
  induction m using Nat.strongRecOn generalizing acc x em with
  | _ m ih =>
    have hst := Buf.few_step hx
    have hok := Buf.emptied_ok hx.1
    have hroom : x.emptied.held.length < x.emptied.size := by rw [Buf.emptied_held]; have := hx.1.2.1; simp only [List.length_nil, Buf.emptied, Buf.drop]; omega
    obtain ⟨f1, f2, f3, f4, f5, f6⟩ := Buf.fill_facts hok em (by omega)
    obtain ⟨g1, g2, g3, g4⟩ := Buf.fill_left hok em hroom
    have hff : (x.emptied.fill em).2.few := ⟨f1, by rw [f4]; exact hx.2⟩
    have hst2 := Buf.few_step hff
    have hel : x.emptied.left = (x.src.left.1, x.left.2) := by simp [Buf.left, Buf.emptied, Buf.drop]
    have hxl : x.left.1 = x.held ++ x.src.left.1 := rfl
    have hsz : x.emptied.size = x.size := rfl
    have htk : x.emptied.taken = x.taken + x.held.length := rfl
    have hstp : x.emptied.src.step = x.src.step := rfl
    by_cases he : (x.emptied.fill em).1.1 = 0
    · rw [Buf.rest_go hx.1 (by omega) he]
      have h5 := f5.resolve_left (by simpa using he)
      have hem2 : (x.emptied.fill em).1.2 ≤ (x.emptied.fill em).2.src.step := by
        rcases g4 with ⟨_, g4 | g4⟩ | ⟨g4, _⟩ | ⟨g4, _⟩
        · omega
        · omega
        · rw [he] at g4; cases g4
        · rw [he] at g4; split at g4 <;> cases g4
      obtain ⟨k1, k2, k3, k4, k5⟩ := ih _ (by rw [← hm, ← Buf.emptied_meas]; exact h5.2) (acc := acc ++ x.held) hff hem2 rfl
      rw [g1, hel] at k3 k4 k5
      refine ⟨k1, k2.trans (f2.trans hsz), ?_, k4, ?_⟩
      · rw [k3, hxl, List.append_assoc]
      · rw [k5, f3, htk, hxl, List.length_append]
        simp only
        omega
    · have hzero : (x.emptied.fill em).1.1 = (if x.left.2 then 20 else 21) ∧ x.src.left.1 = [] := by
        rcases g4 with ⟨g4, _⟩ | ⟨g4, g5, g6⟩ | ⟨g4, g5⟩
        · exact absurd g4 he
        · exfalso
          have h1 : (x.emptied.fill em).2.src.step ≤ 99 := hst2
          omega
        · exact ⟨by rw [g4, hel], g5⟩
      obtain ⟨hz1, hz2⟩ := hzero
      have h22 : (x.emptied.fill em).1.1 ≠ 22 := by rw [hz1]; split <;> decide
      have hz := Buf.fill_less' he h22
      have hfin : Buf.rest acc x em = ((acc ++ x.held, if x.left.2 then 20 else 0), x.emptied) := by
        by_cases h21 : (x.emptied.fill em).1.1 = 21
        · rw [Buf.rest_end h21, hz]
          rw [hz1] at h21
          cases hb : x.left.2 <;> rw [hb] at h21 <;> simp at h21 ⊢
        · rw [Buf.rest_err h21 he, hz, hz1]
          rw [hz1] at h21
          cases hb : x.left.2 <;> rw [hb] at h21 <;> simp at h21 ⊢
      rw [hfin]
      have hnil : x.left.1 = x.held := by rw [hxl, hz2, List.append_nil]
      refine ⟨⟨hok, hx.2⟩, rfl, by rw [hnil], ?_, by rw [htk, hnil]⟩
      simp only
      rw [hel, hz2]

/-! ## Two buffers that are alike answer the same -/
section
variable {x y : Buf} (hx : x.few) (hy : y.few) (hl : x.left = y.left) (ht : x.taken = y.taken)
include hx hy hl ht
theorem peek_both {n : Nat} (h1 : n ≤ x.size) (h2 : n ≤ y.size) : ∃ l e x' y', x.peek n = ((l, e), x') ∧ y.peek n = ((l, e), y') ∧ x'.few ∧ y'.few ∧ x'.left = y'.left ∧ x'.taken = y'.taken ∧ x'.size = x.size ∧ y'.size = y.size := by
  obtain ⟨a1, a2, a3, a4, a5, _⟩ := Buf.peek_split hx h1
  obtain ⟨b1, b2, b3, b4, b5, _⟩ := Buf.peek_split hy h2
  exact ⟨(peekOf n x.left).1, (peekOf n x.left).2, _, _, Prod.ext a1 rfl, Prod.ext (by rw [b1, hl]) rfl, a4, b4, by rw [a2, b2, hl], by rw [a3, b3, ht], a5, b5⟩
theorem take_both {n : Nat} (h1 : n ≤ x.size) (h2 : n ≤ y.size) : ∃ l e x' y', x.takeB n = ((l, e), x') ∧ y.takeB n = ((l, e), y') ∧ x'.few ∧ y'.few ∧ x'.left = y'.left ∧ x'.taken = y'.taken ∧ x'.size = x.size ∧ y'.size = y.size := by
  obtain ⟨a1, a2, a3, a4, a5⟩ := Buf.takeB_split hx h1
  obtain ⟨b1, b2, b3, b4, b5⟩ := Buf.takeB_split hy h2
  exact ⟨(peekOf n x.left).1, (peekOf n x.left).2, _, _, Prod.ext a1 rfl, Prod.ext (by rw [b1, hl]) rfl, a4, b4, by rw [a2, b2, hl], by rw [a3, b3, ht, hl], a5, b5⟩
theorem rest_both : ∃ l e x' y', x.rest [] 0 = ((l, e), x') ∧ y.rest [] 0 = ((l, e), y') ∧ x'.few ∧ y'.few ∧ x'.left = y'.left ∧ x'.taken = y'.taken ∧ x'.size = x.size ∧ y'.size = y.size := by
  obtain ⟨a1, a2, a3, a4, a5⟩ := Buf.rest_split (acc := []) hx (Nat.zero_le _)
  obtain ⟨b1, b2, b3, b4, b5⟩ := Buf.rest_split (acc := []) hy (Nat.zero_le _)
  exact ⟨x.left.1, if x.left.2 then 20 else 0, _, _, Prod.ext (by rw [a3]; rfl) rfl, Prod.ext (by rw [b3, hl]; rfl) rfl, a1, b1, by rw [a4, b4, hl], by rw [a5, b5, ht, hl], a2, b2⟩
theorem until_both (c : UInt8) : ∃ l e x' l2 e2 y', x.untl c 0 = ((l, e), x') ∧ y.untl c 0 = ((l2, e2), y') ∧ x'.few ∧ y'.few ∧ x'.size = x.size ∧ y'.size = y.size ∧
    (e = 23 ∨ (e ≠ 23 ∧ e2 = 23) ∨ (e ≠ 23 ∧ l2 = l ∧ e2 = e ∧ x'.left = y'.left ∧ x'.taken = y'.taken)) := by
  obtain ⟨a1, a2, a3⟩ := Buf.untl_split (c := c) (em := 0) hx (Nat.zero_le _)
  obtain ⟨b1, b2, b3⟩ := Buf.untl_split (c := c) (em := 0) hy (Nat.zero_le _)
  refine ⟨_, _, _, _, _, _, rfl, rfl, a1, b1, a2, b2, ?_⟩
  rcases a3 with a3 | ⟨a3, a4, a5, a6⟩
  · exact .inl a3
  · rcases b3 with b3 | ⟨b3, b4, b5, b6⟩
    · exact .inr (.inl ⟨a3, b3⟩)
    · have e : (y.untl c 0).1 = (x.untl c 0).1 := by rw [b4, a4, hl]
      refine .inr (.inr ⟨a3, congrArg Prod.fst e, congrArg Prod.snd e, ?_, ?_⟩)
      · rw [a5, b5, hl]
      · rw [a6, b6, hl, ht]
end
end Go.Proofs.Ytadnceiohgjdhaa
