/-
  Words that need no function of the program: what a call gives, bytes and texts.
-/
import Derived.Test.YtgkiffodnofggaaGreatDoorBase
import Derived.Test.YtgkiffodnofggaaGreatDoorProg
import Derived.WalkSpells
import Derived.WalkLawsBesides
import Derived.Outline
import Derived.Laws.BytesArg
import Derived.Laws.IdiomStrings
import Derived.KernelRfl
namespace Go.Proofs.YtgkiffodnofggaaGreatDoor
open Go.RowKit
set_option linter.unusedVariables false

/-- The call returns a value of which Q holds. -/
def Gives (Q : Value → World → Prop) (e : Ending) (w' : World) : Prop := ∃ v, e = .returned v ∧ Q v w'

theorem u8info : (Tryz.prog.info? 5).map (fun i => (i.zero, i.size, i.bytes)) = some (some (.int .u8 0), 1, 1) := by kernel_rfl

theorem row_none {S : Nat → Prop} {w : World} {n : Nat} {xs : List Value} {size : Nat} (h : Row S w size none n xs) : n = 0 ∧ xs = [] := by
  rcases Nat.eq_zero_or_pos n with rfl | h0
  · exact ⟨rfl, List.eq_nil_of_length_eq_zero (by simpa using h.1)⟩
  · obtain ⟨_, e, _⟩ := h.2 h0
    cases e

/-- A text, as the model has it. -/
def str (l : List UInt8) : ByteArray := ⟨l.toArray⟩
@[go_sem] theorem str_toList (l : List UInt8) : (str l).toList = l := by
  rw [ByteArray.toList_eq]
  simp [str]

/-- 'string(b)' -/
theorem conv_row {S : Nat → Prop} {w : World} {A : Option Addr} {n : Nat} {l : List UInt8} (hr : Row S w 1 A n (bv l)) (c : Nat) :
    (convert 43 9 (.slice A n c)).run Tryz.prog w = .ok (.string (str l)) w := by
  have hl : l.length = n := by have := hr.1; rw [bv_length] at this; omega
  subst hl
  rcases A with _ | a
  · obtain ⟨_, e⟩ := row_none hr
    have hl : l = [] := by simpa [bv] using e
    subst hl
    exact run_convert_bytes_nil w 43 5 Tryz.underlying43 Tryz.underlying5 _ c 9 Tryz.underlying9
  · refine run_convert_bytes_back w 43 9 5 a c l Tryz.underlying43 Tryz.underlying5 Tryz.underlying9 fun j hj => ?_
    obtain ⟨ad, e, _, hc⟩ := hr.2 (by omega)
    injection e with e
    subst e
    exact hc j _ (bv_get l j hj)
end Go.Proofs.YtgkiffodnofggaaGreatDoor
