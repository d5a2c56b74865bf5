/-
  The orders by which names and reasons are sorted.
-/
import Derived.Test.YtgkiffodnofggaaGreatDoorAudCmp
namespace Go.Proofs.YtgkiffodnofggaaGreatDoor
open Go.RowKit
set_option linter.unusedVariables false

theorem cb_self (x : List UInt8) : Lib.compareBytes x x = 0 := by
  induction x with
  | nil => rfl
  | cons a x ih => simp [Lib.compareBytes, ih]
theorem cb_vals (x y : List UInt8) : Lib.compareBytes x y = 0 ∨ Lib.compareBytes x y = 1 ∨ Lib.compareBytes x y = -1 := by
  induction x generalizing y with
  | nil => cases y <;> simp [Lib.compareBytes]
  | cons a x ih =>
    cases y with
    | nil => simp [Lib.compareBytes]
    | cons b y =>
      rw [Lib.compareBytes]
      split
      · simp
      · split
        · simp
        · exact ih y
theorem cb_neg (x y : List UInt8) : Lib.compareBytes y x = - Lib.compareBytes x y := by
  induction x generalizing y with
  | nil => cases y <;> simp [Lib.compareBytes]
  | cons a x ih =>
    cases y with
    | nil => simp [Lib.compareBytes]
    | cons b y =>
      rw [Lib.compareBytes, Lib.compareBytes]
      have ih := ih y
      by_cases h1 : a < b
      · have h2 : ¬ b < a := fun h => UInt8.lt_irrefl _ (UInt8.lt_trans h1 h)
        rw [if_neg h2, if_pos h1, if_pos h1]
        rfl
      · by_cases h2 : b < a
        · rw [if_pos h2, if_neg h1, if_pos h2]
        · rw [if_neg h2, if_neg h1, if_neg h1, if_neg h2]
          exact ih
theorem cb_zero (x y : List UInt8) (h : Lib.compareBytes x y = 0) : x = y := by
  induction x generalizing y with
  | nil => cases y with
    | nil => rfl
    | cons b y => simp [Lib.compareBytes] at h
  | cons a x ih =>
    cases y with
    | nil => simp [Lib.compareBytes] at h
    | cons b y =>
      rw [Lib.compareBytes] at h
      by_cases h1 : a < b
      · rw [if_pos h1] at h; cases h
      · by_cases h2 : b < a
        · rw [if_neg h1, if_pos h2] at h; cases h
        · rw [if_neg h1, if_neg h2] at h
          have : a = b := UInt8.le_antisymm (UInt8.not_lt.1 h2) (UInt8.not_lt.1 h1)
          rw [this, ih y h]
theorem cb_trans (x y z : List UInt8) (h1 : Lib.compareBytes x y < 0) (h2 : Lib.compareBytes y z < 0) : Lib.compareBytes x z < 0 := by
  induction x generalizing y z with
  | nil =>
    cases z with
    | nil =>
      cases y with
      | nil => exact h1
      | cons b y => simp [Lib.compareBytes] at h2
    | cons c z => simp [Lib.compareBytes]
  | cons a x ih =>
    cases y with
    | nil => simp [Lib.compareBytes] at h1
    | cons b y =>
      cases z with
      | nil => simp [Lib.compareBytes] at h2
      | cons c z =>
        rw [Lib.compareBytes] at h1 h2 ⊢
        by_cases a1 : a < b
        · by_cases b1 : b < c
          · rw [if_pos (UInt8.lt_trans a1 b1)]; decide
          · by_cases b2 : c < b
            · rw [if_neg b1, if_pos b2] at h2; omega
            · have : b = c := UInt8.le_antisymm (UInt8.not_lt.1 b2) (UInt8.not_lt.1 b1)
              subst this
              rw [if_pos a1]; decide
        · by_cases a2 : b < a
          · rw [if_neg a1, if_pos a2] at h1; omega
          · have : a = b := UInt8.le_antisymm (UInt8.not_lt.1 a2) (UInt8.not_lt.1 a1)
            subst this
            rw [if_neg a1, if_neg a1] at h1
            by_cases b1 : a < c
            · rw [if_pos b1]; decide
            · by_cases b2 : c < a
              · rw [if_neg b1, if_pos b2] at h2; omega
              · rw [if_neg b1, if_neg b2] at h2 ⊢
                exact ih y z h1 h2
theorem cb_less (x y : List UInt8) : Op.bytesLess x y = decide (Lib.compareBytes x y < 0) := by
  induction x generalizing y with
  | nil => cases y <;> simp [Lib.compareBytes, Op.bytesLess]
  | cons a x ih =>
    cases y with
    | nil => simp [Lib.compareBytes, Op.bytesLess]
    | cons b y =>
      rw [Lib.compareBytes, Op.bytesLess]
      by_cases h1 : a < b
      · simp [h1]
      · by_cases h2 : b < a
        · have : a ≠ b := fun e => UInt8.lt_irrefl b (e ▸ h2)
          simp [h1, h2, this]
        · have : a = b := UInt8.le_antisymm (UInt8.not_lt.1 h2) (UInt8.not_lt.1 h1)
          simp [this, ih]

/-- The order of names. -/
def ltN (ks : List (List UInt8)) (x y : List UInt8) : Bool := decide (cmpN ks x y < 0)
theorem ltN_iff (ks : List (List UInt8)) (x y : List UInt8) : ltN ks x y = true ↔ cnt ks y < cnt ks x ∨ (cnt ks x = cnt ks y ∧ Lib.compareBytes x y < 0) := by
  unfold ltN cmpN
  rw [decide_eq_true_iff]
  by_cases e : cnt ks x = cnt ks y
  · rw [if_pos e]
    omega
  · rw [if_neg e]
    omega
theorem ltN_not (ks : List (List UInt8)) (x y : List UInt8) : ltN ks x y = false ↔ cnt ks x < cnt ks y ∨ (cnt ks x = cnt ks y ∧ ¬ Lib.compareBytes x y < 0) := by
  rw [← Bool.not_eq_true, ltN_iff]
  omega
theorem ltN_tot (ks : List (List UInt8)) : Tot (ltN ks) := by
  refine ⟨fun x y h => ?_, fun x y z h1 h2 => ?_, fun x y h1 h2 => ?_⟩
  · rw [ltN_iff] at h
    rw [ltN_not]
    have := cb_neg x y
    omega
  · rw [ltN_iff] at h1 h2 ⊢
    have := cb_trans x y z
    omega
  · rw [ltN_not] at h1 h2
    have h3 := cb_neg x y
    have h4 := cb_vals x y
    exact cb_zero x y (by omega)
/-- The names, those that came more often first. -/
def namesOf (L : List Fd) : List (List UInt8) := (L.map Fd.name).filter fun n => decide (n ≠ [])
theorem namesOf_snoc (L : List Fd) (f : Fd) : namesOf (L ++ [f]) = if f.name = [] then namesOf L else namesOf L ++ [f.name] := by
  unfold namesOf
  rw [List.map_append, List.filter_append]
  split <;> simp_all
theorem namesOf_length (L : List Fd) : (namesOf L).length ≤ L.length := by
  unfold namesOf
  have := List.length_filter_le (fun n => decide (n ≠ [])) (L.map Fd.name)
  rwa [List.length_map] at this
theorem namesOf_mem {L : List Fd} {n : List UInt8} (h : n ∈ namesOf L) : ∃ f ∈ L, f.name = n := by
  unfold namesOf at h
  obtain ⟨h1, _⟩ := List.mem_filter.1 h
  obtain ⟨f, hf, e⟩ := List.mem_map.1 h1
  exact ⟨f, hf, e⟩
def namesB (L : List Fd) : List (List UInt8) := srt (ltN (namesOf L)) (firsts (namesOf L))
/-- A list of texts, as cells. -/
def txv (l : List (List UInt8)) : List Value := l.map fun x => .string (str x)
theorem txv_length (l : List (List UInt8)) : (txv l).length = l.length := by simp [txv]
theorem txv_one (l : List (List UInt8)) : ∀ u ∈ txv l, u.oneCell' = true := by
  intro u hu
  obtain ⟨b, _, rfl⟩ := List.mem_map.1 hu
  rfl
theorem txv_get (l : List (List UInt8)) (k : Nat) (h : k < l.length) : (txv l)[k]? = some (.string (str l[k])) := by simp [txv, h]
end Go.Proofs.YtgkiffodnofggaaGreatDoor
