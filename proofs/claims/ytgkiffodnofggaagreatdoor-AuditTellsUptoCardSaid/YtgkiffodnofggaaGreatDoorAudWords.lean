/-
  The contracts of a reason's word, the program's and the reference's.
-/
import Derived.Test.YtgkiffodnofggaaGreatDoorTexts
import Derived.Test.YtgkiffodnofggaaGreatDoorAudPlain
namespace Go.Proofs.YtgkiffodnofggaaGreatDoor
open Go.RowKit
set_option linter.unusedVariables false
set_option linter.unusedSimpArgs false

set_option maxHeartbeats 8000000 in
set_option maxRecDepth 100000 in
theorem tword_any (x : Int) (w : World) : Calls Tryz.prog 18 #[.int .i64 x] w fun e w' => e = .returned (.string (str (wordB x))) ∧ Below w.heap.size w w' := by
  by_cases h : 0 ≤ x ∧ x ≤ 9
  · obtain ⟨n, rfl⟩ : ∃ n : Nat, x = n := ⟨x.toNat, by omega⟩
    have h0 : ((n : Nat) : Int) < 10 := by omega
    have h1 : (0 : Int) ≤ ((n : Nat) : Int) := by omega
    rw [wordB, if_pos h]
    have hn : n < 10 := by omega
    clear h
    go_enter Tryz.func18, Tryz.ntmps18
    go_wp2
    go_ret
    refine ⟨congrArg Ending.returned ?_, (Below.refl _ w).alloc (Nat.le_refl _) _⟩
    rcases (by omega : n = 0 ∨ n = 1 ∨ n = 2 ∨ n = 3 ∨ n = 4 ∨ n = 5 ∨ n = 6 ∨ n = 7 ∨ n = 8 ∨ n = 9) with rfl | rfl | rfl | rfl | rfl | rfl | rfl | rfl | rfl | rfl <;> rfl
  · rw [wordB, if_neg h]
    by_cases h2 : x < 0
    · clear h
      go_enter Tryz.func18, Tryz.ntmps18
      go_wp2
      go_ret
      exact ⟨rfl, (Below.refl _ w).alloc (Nat.le_refl _) _⟩
    · have h3 : 10 ≤ x := by omega
      clear h h2
      go_enter Tryz.func18, Tryz.ntmps18
      go_wp2
      go_ret
      exact ⟨rfl, (Below.refl _ w).alloc (Nat.le_refl _) _⟩
set_option maxHeartbeats 8000000 in
set_option maxRecDepth 100000 in
theorem rword_any (x : Int) (w : World) : Calls Tryz.prog 24 #[.int .i64 x] w fun e w' => e = .returned (.string (str (wordB x))) ∧ Below w.heap.size w w' := by
  by_cases h : 0 ≤ x ∧ x ≤ 9
  · obtain ⟨n, rfl⟩ : ∃ n : Nat, x = n := ⟨x.toNat, by omega⟩
    have h0 : ((n : Nat) : Int) < 10 := by omega
    have h1 : (0 : Int) ≤ ((n : Nat) : Int) := by omega
    rw [wordB, if_pos h]
    have hn : n < 10 := by omega
    clear h
    go_enter Tryz.func24, Tryz.ntmps24
    go_wp2
    go_ret
    refine ⟨congrArg Ending.returned ?_, (Below.refl _ w).alloc (Nat.le_refl _) _⟩
    rcases (by omega : n = 0 ∨ n = 1 ∨ n = 2 ∨ n = 3 ∨ n = 4 ∨ n = 5 ∨ n = 6 ∨ n = 7 ∨ n = 8 ∨ n = 9) with rfl | rfl | rfl | rfl | rfl | rfl | rfl | rfl | rfl | rfl <;> rfl
  · rw [wordB, if_neg h]
    by_cases h2 : x < 0
    · clear h
      go_enter Tryz.func24, Tryz.ntmps24
      go_wp2
      go_ret
      exact ⟨rfl, (Below.refl _ w).alloc (Nat.le_refl _) _⟩
    · have h3 : 10 ≤ x := by omega
      clear h h2
      go_enter Tryz.func24, Tryz.ntmps24
      go_wp2
      go_ret
      exact ⟨rfl, (Below.refl _ w).alloc (Nat.le_refl _) _⟩
end Go.Proofs.YtgkiffodnofggaaGreatDoor
