/-
  What the rows' listed variables give the walks; the heap that the program's door leaves, as the rows' witness.
-/
import Derived.Test.YtcogoiphpfgkdaaDoorRows
import Derived.Test.YtcogoiphpfgkdaaDoorRaw
import Derived.ProofKit
import Derived.LaidMore
import Derived.OpenShut
import Derived.Stop.Joined
import Derived.Deep.DeepHandedRow
import Derived.Deep.DeepWitnessRowRef
import Derived.Lib.LaidTab
import Derived.Stop.LaidErr
namespace Go.Proofs.YtcogoiphpfgkdaaDoor
open Go.ChangeShapes Go.WideShapes Go.ChangeAt Go.RowKit
set_option linter.unusedVariables false

/-- An array of texts that reads so holds these texts, cell for cell. -/
theorem cells_of_texts {H : Type} {enc : TypeId × Value → H} {P : Program} {w : World} {base : Nat} {sp : Nat → Bool} {held : Bool} {fuel : Nat} {t e : TypeId} {n : Nat} {cs : List Value} {zs : List (List UInt8)} {p : List MemPlace}
    (ht : P.underlying t = some (.array n e)) (he : P.underlying e = some .string) (hce : P.cellsOf e = 1) (hct : P.cellsOf t = n)
    (h : DataW.trod enc P w base sp held fuel t cs = some (.agg (zs.map fun z => .lit (.string z)), p)) : cs = sv zs := by
  cases fuel with
  | zero => simp [DataW.trod] at h
  | succ fuel =>
    simp only [DataW.trod, ht, hce, hct, Nat.mul_one] at h
    split at h
    · rename_i hl
      obtain ⟨xs, hm, hx⟩ := Option.map_eq_some_iff.1 h
      have hxs : xs.map (·.1) = zs.map fun z => (DataW.lit (.string z) : DataW H) := by
        have := congrArg Prod.fst hx
        simpa using this
      have hxl : xs.length = n := by simpa using Lib.mapM_length hm
      have hzl : zs.length = n := by
        have := congrArg List.length hxs
        simp at this
        omega
      apply List.ext_getElem?
      intro i
      by_cases hi : i < n
      · obtain ⟨b, hb, hf⟩ := Lib.mapM_at hm i i (by simp [hi])
        obtain ⟨z, hc, rfl, _⟩ := DataW.trod_string he hf
        have h1 : cs[i]? = some (.string z) := by
          have := congrArg (·[0]?) hc
          simpa [List.getElem?_take, List.getElem?_drop] using this
        have h2 : (xs.map (·.1))[i]? = some (DataW.lit (.string z.data.toList) : DataW H) := by simp [hb]
        rw [hxs] at h2
        simp only [List.getElem?_map, Option.map_eq_some_iff, DataW.lit.injEq, Lit.string.injEq] at h2
        obtain ⟨z', hz', e'⟩ := h2
        have : z = str z' := by
          apply ByteArray.ext
          rw [str_data, e']
        rw [h1, this]
        simp [sv, hz']
      · rw [List.getElem?_eq_none (by omega), List.getElem?_eq_none (by rw [sv_length]; omega)]
    · cases h

theorem gBlank : Tryd.prog.globalNamed "strings.asciiSpace" = some 1 := by kernel_rfl
theorem gRaw : Tryd.prog.globalNamed "sieve/serial.rawParents" = some 0 := by kernel_rfl
theorem tBlank : (Tryd.prog.globals[1]?).map (·.type) = some 132 := by kernel_rfl
theorem tRaw : (Tryd.prog.globals[0]?).map (·.type) = some 109 := by kernel_rfl
abbrev laid3 : List (String × DataW Unit) := [("unicode.White_Space", Rows.laid_unicode_White_Space), ("strings.asciiSpace", Rows.laid_strings_asciiSpace), ("sieve/serial.rawParents", Rows.laid_sieve_serial_rawParents)]
theorem blankData : (Rows.laid_strings_asciiSpace : DataW Unit) = Lib.tabData .u8 Lib.asciiSpaceTab := by kernel_rfl
theorem rawData : (Rows.laid_sieve_serial_rawParents : DataW Unit) = .agg (rawNames.map fun z => .lit (.string z)) := rfl
theorem cBlank : Tryd.prog.cellsOf 132 = 256 := by kernel_rfl
theorem cByte : Tryd.prog.cellsOf 5 = 1 := by kernel_rfl
theorem cRaw : Tryd.prog.cellsOf 109 = 8 := by kernel_rfl
theorem cText : Tryd.prog.cellsOf 9 = 1 := by kernel_rfl

theorem tab_of_laid {W : World} (h0 : laidMetH Tryd.prog laid3 W) : Tab W ∧ RawTab W := by
  have h : laidMet Tryd.prog laid3 W := by rw [← MakeChecks.laidMetH_plain _ _ _ (by kernel_rfl)]; exact h0
  have h1 := h.tail
  refine ⟨?_, ?_⟩
  · rw [blankData] at h1
    exact Lib.tabIs_of_head gBlank tBlank Tryd.underlying132 Tryd.underlying5 cByte cBlank h1
  · obtain ⟨ps, ⟨g', t', cs, fuel, p, q, hg', ht', hvar, hd, _, _⟩, _⟩ := h1.tail
    obtain rfl := Option.some.inj (gRaw.symm.trans hg')
    obtain rfl := Option.some.inj (tRaw.symm.trans ht')
    unfold RawTab
    rw [rawData] at hd
    rw [hvar, ← cells_of_texts Tryd.underlying109 Tryd.underlying9 cText cRaw hd]
end Go.Proofs.YtcogoiphpfgkdaaDoor
