/-
  The reference's search for a key and its sort, step by step, as plain data.
-/
import Derived.Test.YtgkiffodnofggaaGreatDoorAudPlain
namespace Go.Proofs.YtgkiffodnofggaaGreatDoor
set_option linter.unusedVariables false

section
variable {α : Type} [DecidableEq α]
/-- The last place ahead of j where x stands, or -1. -/
def atI (X : List α) (x : α) : Nat → Int
  | 0 => -1
  | j + 1 => if X[j]? = some x then j else atI X x j
theorem atI_cases (X : List α) (x : α) (j : Nat) : (atI X x j = -1 ∧ ∀ i, i < j → X[i]? ≠ some x) ∨ ∃ i, i < j ∧ atI X x j = i ∧ X[i]? = some x := by
  induction j with
  | zero => exact .inl ⟨rfl, fun i h => by omega⟩
  | succ j ih =>
    rw [atI]
    by_cases h : X[j]? = some x
    · rw [if_pos h]
      exact .inr ⟨j, by omega, rfl, h⟩
    · rw [if_neg h]
      rcases ih with ⟨h1, h2⟩ | ⟨i, h1, h2, h3⟩
      · refine .inl ⟨h1, fun i hi => ?_⟩
        by_cases e : i = j
        · subst e; exact h
        · exact h2 i (by omega)
      · exact .inr ⟨i, by omega, h2, h3⟩
theorem atI_end (X : List α) (x : α) : (atI X x X.length = -1 ∧ x ∉ X) ∨ ∃ i, i < X.length ∧ atI X x X.length = i ∧ X[i]? = some x := by
  rcases atI_cases X x X.length with ⟨h1, h2⟩ | h
  · refine .inl ⟨h1, fun h => ?_⟩
    obtain ⟨i, hi⟩ := List.mem_iff_getElem?.1 h
    exact h2 i (List.getElem?_eq_some_iff.1 hi).1 hi
  · exact .inr h
theorem atI_lo (X : List α) (x : α) (j : Nat) : -1 ≤ atI X x j ∧ atI X x j < j := by
  rcases atI_cases X x j with ⟨h1, _⟩ | ⟨i, h1, h2, _⟩ <;> omega
end

section
variable {α : Type} {lt : α → α → Bool} {X0 X : List α} {i k : Nat}
/-- The sort has come to place k with element i: what stood ahead of it and is greater has moved on. -/
def BubSt (lt : α → α → Bool) (X0 : List α) (i k : Nat) (X : List α) : Prop :=
  ∃ r x p, r.length = k ∧ X = r.reverse ++ x :: (p ++ X0.drop (i + 1)) ∧ p.reverse ++ bub lt x r = srtR lt (X0.take (i + 1))
theorem bub_start (h : i < X0.length) : BubSt lt X0 i i (srt lt (X0.take i) ++ X0.drop i) := by
  refine ⟨srtR lt (X0.take i), X0[i], [], ?_, ?_, ?_⟩
  · rw [(srtR_perm lt _).length_eq, List.length_take]; omega
  · unfold srt
    rw [List.drop_eq_getElem_cons h]
    rfl
  · rw [List.take_succ_eq_append_getElem h, srtR_snoc]
    rfl
theorem bub_done {r p : List α} {x : α} (h : p.reverse ++ (x :: r) = srtR lt (X0.take (i + 1))) : r.reverse ++ x :: (p ++ X0.drop (i + 1)) = srt lt (X0.take (i + 1)) ++ X0.drop (i + 1) := by
  unfold srt
  rw [← h]
  simp
theorem BubSt.zero (h : BubSt lt X0 i 0 X) : X = srt lt (X0.take (i + 1)) ++ X0.drop (i + 1) := by
  obtain ⟨r, x, p, h1, rfl, h3⟩ := h
  obtain rfl := List.eq_nil_of_length_eq_zero h1
  exact bub_done h3
theorem BubSt.step (h : BubSt lt X0 i (k + 1) X) : ∃ x y, X[k + 1]? = some x ∧ X[k]? = some y ∧ (lt x y = true → BubSt lt X0 i k ((X.set (k + 1) y).set k x)) ∧ (lt x y = false → X = srt lt (X0.take (i + 1)) ++ X0.drop (i + 1)) := by
  obtain ⟨r, x, p, h1, rfl, h3⟩ := h
  cases r with
  | nil => simp at h1
  | cons y r =>
    have hr : r.length = k := by simpa using h1
    have e : (y :: r).reverse ++ x :: (p ++ X0.drop (i + 1)) = r.reverse ++ (y :: x :: (p ++ X0.drop (i + 1))) := by simp
    have hl : r.reverse.length = k := by simpa using hr
    rw [e]
    refine ⟨x, y, ?_, ?_, fun hlt => ?_, fun hlt => ?_⟩
    · rw [List.getElem?_append_right (by omega), hl]; simp
    · rw [List.getElem?_append_right (by omega), hl]; simp
    · refine ⟨r, x, y :: p, hr, ?_, ?_⟩
      · rw [List.set_append_right _ _ (by omega), List.set_append_right _ _ (by omega), hl]
        simp
      · rw [bub, if_pos hlt] at h3
        rw [← h3]
        simp
    · rw [bub, if_neg (by rw [hlt]; decide)] at h3
      rw [← e]
      exact bub_done h3
theorem BubSt.len (h : BubSt lt X0 i k X) (hi : i < X0.length) : X.length = X0.length := by
  obtain ⟨r, x, p, h1, rfl, h3⟩ := h
  have h4 := congrArg List.length h3
  rw [List.length_append, List.length_reverse, (bub_perm lt x r).length_eq, (srtR_perm lt _).length_eq, List.length_take] at h4
  simp only [List.length_append, List.length_reverse, List.length_cons, List.length_drop] at h4 ⊢
  omega
theorem BubSt.le (h : BubSt lt X0 i k X) (hi : i < X0.length) : k ≤ i := by
  obtain ⟨r, x, p, h1, rfl, h3⟩ := h
  have h4 := congrArg List.length h3
  rw [List.length_append, List.length_reverse, (bub_perm lt x r).length_eq, (srtR_perm lt _).length_eq, List.length_take] at h4
  simp only [List.length_cons] at h4
  omega
theorem srt_full (lt : α → α → Bool) (X0 : List α) : srt lt (X0.take X0.length) ++ X0.drop X0.length = srt lt X0 := by simp
theorem srt_none (lt : α → α → Bool) (X0 : List α) : X0 = srt lt (X0.take 0) ++ X0.drop 0 := by simp [srt, srtR]
end
end Go.Proofs.YtgkiffodnofggaaGreatDoor
