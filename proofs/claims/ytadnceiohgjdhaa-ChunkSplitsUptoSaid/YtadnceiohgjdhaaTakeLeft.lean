/-
  What a take of a buffer gives and leaves, as plain data.
-/
import Derived.Test.YtadnceiohgjdhaaLeft
namespace Go.Proofs.Ytadnceiohgjdhaa
open Go.RowKit
set_option linter.unusedVariables false

theorem Src.read_err_end {s : Src} (n : Nat) (h : (s.read n).1.2 ≠ 0) : s.endOf = (s.read n).1.2 := by
  cases hd : s.L[s.step]? with
  | none => simp [Src.read, Src.endOf, hd]
  | some x =>
    obtain ⟨d, f⟩ := x
    by_cases c1 : f = true ∧ s.frm = d.length
    · simp [Src.read, Src.endOf, hd, c1]
    · simp only [Src.read, hd] at h
      rw [if_neg c1] at h
      split at h <;> exact absurd rfl h
theorem Buf.drop_left {x : Buf} {k : Nat} (h : k ≤ x.held.length) : x.held.take k ++ (x.drop k).left.1 = x.left.1 ∧ (x.drop k).left.2 = x.left.2 := by
  refine ⟨?_, rfl⟩
  simp only [Buf.left, Buf.drop, ← List.append_assoc, List.take_append_drop]
theorem Buf.takeB_left {m : Nat} {x : Buf} (hx : x.ok) (hm : m ≤ x.size) (h1 : 1 ≤ m) {l : List UInt8} {e : Int} {y : Buf} (h : x.takeB m = ((l, e), y)) :
    l ++ y.left.1 = x.left.1 ∧ y.left.2 = x.left.2 ∧ y.taken = x.taken + l.length ∧ y.src.L = x.src.L ∧ y.size = x.size ∧ x.src.step ≤ y.src.step ∧
    ((e = 0 ∧ 1 ≤ l.length) ∨ (e = 22 ∧ x.src.step + 1 ≤ y.src.step) ∨ (e = (if x.left.2 then 20 else 21) ∧ y.left.1 = [] ∧ y.held = [])) := by
  obtain ⟨p1, p2, p3, p4, p5⟩ := Buf.pulled_ok (n := m) hx (em := 0) (by omega)
  obtain ⟨q1, q2, q3⟩ := Buf.pulled_left (n := m) hx (em := 0) (by omega) hm
  obtain ⟨e0, z, hz⟩ : ∃ e0 z, x.pulled m 0 = (e0, z) := ⟨_, _, rfl⟩
  simp only [Buf.takeB, Buf.peek, hz] at h p1 p2 p3 p4 p5 q1 q2 q3
  by_cases he : e0 = 0
  · subst he
    rw [if_pos rfl] at h
    have hl := p3 rfl
    have hlen : (z.held.take m).length = m := by rw [List.length_take]; omega
    rw [hlen] at h
    injection h with ha hb
    injection ha with hl0 he0
    subst hl0 he0 hb
    obtain ⟨d1, d2⟩ := Buf.drop_left hl
    refine ⟨d1.trans (congrArg Prod.fst q1), d2.trans (congrArg Prod.snd q1), by rw [hlen]; simp [Buf.drop, p5], p4, p2, q2, .inl ⟨rfl, by omega⟩⟩
  · rw [if_neg he] at h
    injection h with ha hb
    injection ha with hl0 he0
    subst hl0 he0 hb
    obtain ⟨d1, d2⟩ := Buf.drop_left (Nat.le_refl z.held.length)
    rw [List.take_length] at d1
    refine ⟨d1.trans (congrArg Prod.fst q1), d2.trans (congrArg Prod.snd q1), by simp [Buf.drop, p5], p4, p2, q2, ?_⟩
    rcases q3 with ⟨q3, _⟩ | ⟨q3, _, q4⟩ | ⟨q3, _, q4⟩
    · exact absurd q3 he
    · exact .inr (.inl ⟨q3, by simp only [Buf.drop]; omega⟩)
    · refine .inr (.inr ⟨q3, ?_, ?_⟩)
      · simp [Buf.left, Buf.drop, q4]
      · simp [Buf.drop]
end Go.Proofs.Ytadnceiohgjdhaa
