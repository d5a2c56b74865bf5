/-
  The law's own example: findings by name, a finding's line.
-/
import Derived.Test.YtgkiffodnofggaaGreatDoorAudNames
import Derived.Test.YtgkiffodnofggaaGreatDoorAudPrint
namespace Go.Proofs.YtgkiffodnofggaaGreatDoor
open Go.RowKit
set_option linter.unusedVariables false
set_option linter.unusedSimpArgs false

def exA : List Fd := [⟨0, 0, 0, 0, [98]⟩, ⟨0, 0, 0, 0, [97]⟩, ⟨0, 0, 0, 0, [98]⟩]
def exB : List Fd := [⟨0, 1, 2, 0, [120]⟩]
theorem exA_names : namesB exA = [[98], [97]] := by decide +kernel
theorem exB_print : printB exB = [49, 58, 50, 32, 101, 108, 101, 109, 101, 110, 116, 32, 34, 120, 34, 10] := by decide +kernel
theorem exB_ok : ∀ f ∈ exB, f.ok := by
  intro f hf
  rw [exB, List.mem_singleton] at hf
  subst hf
  exact ⟨by decide, by decide, by decide, by decide, by decide, by decide⟩

set_option maxHeartbeats 8000000 in
set_option maxRecDepth 100000 in
theorem lives_any (w : World) (hT : Tab w) : Calls Tryz.prog 12 #[] w fun e w' => e = .returned (.bool true) ∧ Below w.heap.size w w' := by
  have HT := Lib.hid hT
  clear hT
  obtain ⟨W0, hW0⟩ : ∃ W0, w.alloc (.cells #[.int .i64 0, .int .i64 0, .int .i64 0, .int .i64 0, .string ⟨#[98]⟩, .int .i64 0, .int .i64 0, .int .i64 0, .int .i64 0, .string ⟨#[97]⟩, .int .i64 0, .int .i64 0, .int .i64 0, .int .i64 0, .string ⟨#[98]⟩] 38) = W0 := ⟨_, rfl⟩
  have r0 : Row (fun k => k = w.heap.size) W0 5 (some ⟨w.heap.size, 0, none⟩) 3 (exA.flatMap fdCells) := by rw [← hW0]; exact Row.new w 38 _ 5 3 rfl
  have hb0 : Below w.heap.size w W0 := by rw [← hW0]; exact (Below.refl _ w).alloc (Nat.le_refl _) _
  have hs0 : w.heap.size < W0.heap.size := by rw [← hW0, World.size_alloc]; omega
  have K1 := Lib.hid (names_any (fun k => k = w.heap.size) (some ⟨w.heap.size, 0, none⟩) 3 exA W0 r0 (fun k h => by omega) (by decide +kernel))
  have B0 := Lib.hid hb0
  clear r0 hb0
  go_enter Tryz.func12, Tryz.ntmps12
  go_wp2_with fail
  clear hW0
  refine K1.out.mono ?_
  rintro e w1 ⟨A1, c1, rfl, ho1, hb1⟩
  rw [exA_names] at ho1 ⊢
  have HB1 := Lib.hid (B0.out.trans (hb1.mono (by omega)))
  rcases own_form ho1 with ⟨hv, _, _⟩ | ⟨g, cap, cur, hv, _⟩
  · cases hv
  injection hv with hA _ hC
  subst hA hC
  have x0 := ho1.cellAt 0 (by decide)
  have x1 : w1.cell? ⟨g, 0, none⟩ = some (.string ⟨#[98]⟩) := x0
  obtain ⟨W2, hW2⟩ : ∃ W2, w1.alloc (.cells #[.int .i64 0, .int .i64 1, .int .i64 2, .int .i64 0, .string ⟨#[120]⟩] 38) = W2 := ⟨_, rfl⟩
  have r2 : Row (fun k => k = w1.heap.size) W2 5 (some ⟨w1.heap.size, 0, none⟩) 1 (exB.flatMap fdCells) := by rw [← hW2]; exact Row.new w1 38 _ 5 1 rfl
  have hb2 : Below w1.heap.size w1 W2 := by rw [← hW2]; exact (Below.refl _ w1).alloc (Nat.le_refl _) _
  have hs2 : w1.heap.size < W2.heap.size := by rw [← hW2, World.size_alloc]; omega
  have hl1 := HB1.out.size
  have hb02 : Below w.heap.size w W2 := HB1.out.trans (hb2.mono hl1)
  have K2 := Lib.hid (print_any (fun k => k = w1.heap.size) (some ⟨w1.heap.size, 0, none⟩) 1 exB W2 r2 (fun k h => by omega) exB_ok (by decide +kernel) (HT.out.behind hb02))
  rw [exB_print] at K2
  have B2 := Lib.hid hb02
  clear r2 hb2 hb02 x0 ho1 hb1 K1
  go_wp2_with fail
  clear hW2
  refine K2.out.mono ?_
  rintro e w3 ⟨rfl, hb3⟩
  have B3 := Lib.hid (B2.out.trans (hb3.mono (by omega)))
  clear hb3
  go_wp2
  go_ret
  exact ⟨rfl, B3.out⟩
end Go.Proofs.YtgkiffodnofggaaGreatDoor
