/-
  The contracts of the program's utf.bounds, read, Valid.
-/
import Derived.Test.YtgkiffodnofggaaGreatDoorCommon
import Derived.Test.YtgkiffodnofggaaGreatDoorUtfPlain
import Derived.Deep.QuietTactic
import Derived.BigQuiet
namespace Go.Proofs.YtgkiffodnofggaaGreatDoor
open Go.RowKit
set_option linter.unusedVariables false
set_option linter.unusedSimpArgs false

theorem ret3 {a b c a' b' c' : Value} (h1 : a = a') (h2 : b = b') (h3 : c = c') : Ending.returned (.tuple #[a, b, c]) = .returned (.tuple #[a', b', c']) := by rw [h1, h2, h3]
/-- What bounds says. -/
def uBounds (c : UInt8) : Int × Nat × Nat := if c.toNat < 128 then (0, 0, 0) else if uLen c = 0 then (-1, 0, 0) else ((uLen c : Int) - 1, uLo c, uHi c)

set_option maxHeartbeats 4000000 in
set_option maxRecDepth 100000 in
theorem bounds_any (c : UInt8) (w : World) : Calls Tryz.prog 97 #[.int .u8 c.toNat] w fun e w' => e = .returned (.tuple #[.int .i64 (uBounds c).1, .int .u8 ((uBounds c).2.1 : Int), .int .u8 ((uBounds c).2.2 : Int)]) ∧ w = w' := by
  obtain ⟨R, hR⟩ : ∃ R, uBounds c = R := ⟨_, rfl⟩
  have hR2 := hR
  unfold uBounds uLen uLo uHi at hR2
  generalize c.toNat = n at hR2 ⊢
  rw [hR]
  have H := Lib.hid hR2
  clear hR hR2
  go_enter Tryz.func97, Tryz.ntmps97
  go_wp2
  all_goals
    go_ret3
    refine ⟨?_, rfl⟩
    simp only [beq_iff_eq, beq_eq_false_iff_ne] at *
    rw [← H.out]
    repeat' split
    all_goals first | rfl | (exfalso; omega)


end Go.Proofs.YtgkiffodnofggaaGreatDoor
