/-
  Texts: size, bytes, slices of them, conversions.
-/
import Derived.Test.YtgkiffodnofggaaGreatDoorRRunes
import Derived.Lib.OthersKept
import Derived.Lib.ConvBytes
namespace Go.Proofs.YtgkiffodnofggaaGreatDoor
open Go.RowKit
set_option linter.unusedVariables false
set_option linter.unusedSimpArgs false

theorem str_size (l : List UInt8) : (str l).size = l.length := by simp [str, ByteArray.size]
theorem str_data (l : List UInt8) : (str l).data = l.toArray := rfl
/-- '[]byte(s)': a new block. -/
theorem conv_str (l : List UInt8) (w : World) : ∃ c w2, (convert 9 43 (.string (str l))).run Tryz.prog w = .ok (.slice (some ⟨w.heap.size, 0, none⟩) l.length c) w2 ∧ l.length ≤ c ∧ Below w.heap.size w w2 ∧
    Row (fun k => k = w.heap.size) w2 1 (some ⟨w.heap.size, 0, none⟩) l.length (bv l) ∧ w2.heap.size = w.heap.size + 1 := by
  have h := Lib.run_convert_string_bytes (P := Tryz.prog) w 9 43 5 (str l) Tryz.underlying9 Tryz.underlying43 Tryz.underlying5
  rw [str_size] at h
  refine ⟨_, _, h, ?_, ?_, ?_, Lib.bytesWorld_size w _ _⟩
  · exact grownCap_ge w l.length 0 5
  · refine ⟨?_, ?_, ?_, ?_, fun k hk => Lib.bytesWorld_at_old w _ _ k hk⟩
    · rfl
    · rfl
    · rfl
    · rw [Lib.bytesWorld_size]; omega
  · refine ⟨by rw [bv_length]; omega, fun _ => ⟨_, rfl, rfl, fun j u hu => ?_⟩⟩
    have hj : j < l.length := by have := (List.getElem?_eq_some_iff.1 hu).1; rwa [bv_length] at this
    rw [bv_get l j hj] at hu
    obtain rfl := Option.some.inj hu
    rw [addr_lit, Nat.zero_add, Lib.bytesWorld_cell w _ _ j (by rw [str_size]; exact hj)]
    simp [str, List.getD_eq_getElem?_getD, List.getElem?_eq_getElem hj]

theorem str_get (l : List UInt8) (i : Nat) (h : i < (str l).size) : (str l)[i] = l[i]'(by rw [str_size] at h; exact h) := rfl
set_option maxRecDepth 100000 in
/-- 'string(line[:n])'. -/
theorem conv_line {w : World} {lo : Nat} {Al : Option Addr} {cl : Nat} {line : List Nat} (hl : w.ownsRow lo 21 1 (.slice Al line.length cl) line.length (rv line)) (n cap : Nat) (hn : n ≤ line.length) :
    (convert 64 9 (.slice Al n cap)).run Tryz.prog w = .ok (.string (str (encL (line.take n)))) w := by
  rcases own_form hl with ⟨hv, h0, _⟩ | ⟨g, cap', cur, hv, _⟩
  · injection hv with hA
    subst hA
    have hn0 : n = 0 := by omega
    subst hn0
    exact run_convert_runes_nil w _ _ _ 0 cap Tryz.underlying64 Tryz.underlying21 Tryz.underlying9
  · injection hv with hA
    subst hA
    have hc := hl.cells (g := g) rfl
    have h := run_convert_runes (P := Tryz.prog) w 64 9 21 ⟨g, 0, none⟩ n cap (line.map fun (r : Nat) => (r : Int)) (by simpa using hn) Tryz.underlying64 Tryz.underlying21 Tryz.underlying9 (fun j hj => ?_)
    · rw [h, ← List.map_take, runesBytes_eq]
    · have hj' : j < line.length := by simpa using hj
      have := hc j (.int .i32 (line[j] : Nat)) (by simp [rv, hj'])
      rw [this]
      simp [hj']

/-- 's[a:b]' -/
theorem str_extract (l : List UInt8) (a b : Nat) : (str l).extract a b = str ((l.drop a).take (b - a)) := by
  apply ByteArray.ext
  rw [ByteArray.data_extract, str_data, str_data, List.extract_toArray]
theorem str_append (a b : List UInt8) : str a ++ str b = str (a ++ b) := by
  apply ByteArray.ext
  simp [str]
end Go.Proofs.YtgkiffodnofggaaGreatDoor
