/-
  Findings that came in, opened; what the listed table gives.
-/
import Derived.Test.YtgkiffodnofggaaGreatDoorOpen
import Derived.Test.YtgkiffodnofggaaGreatDoorAudFind
import Derived.Deep.Strs
import Derived.ProofKit
import Derived.LaidMore
import Derived.OpenShut
import Derived.Stop.Joined
import Derived.Deep.DeepHandedRow
import Derived.Deep.DeepWitnessRowRef
import Derived.Lib.LaidTab
import Derived.Stop.LaidErr
namespace Go.Proofs.YtgkiffodnofggaaGreatDoor
open Go.ChangeShapes Go.WideShapes Go.ChangeAt Go.RowKit Go.Deep Go.Joins
set_option linter.unusedVariables false

instance : Inhabited Fd := ⟨⟨0, 0, 0, 0, []⟩⟩
theorem cells_find : Tryz.prog.cellsOf 38 = 5 := by kernel_rfl
theorem cells_place : Tryz.prog.cellsOf 35 = 3 := by kernel_rfl
theorem cells_int : Tryz.prog.cellsOf 3 = 1 := by kernel_rfl
theorem cells_why : Tryz.prog.cellsOf 36 = 1 := by kernel_rfl
theorem cells_str : Tryz.prog.cellsOf 9 = 1 := by kernel_rfl
theorem five_of_length {α : Type} {l : List α} (h : l.length = 5) : ∃ a b c d e, l = [a, b, c, d, e] := by
  match l, h with
  | [a, b, c, d, e], _ => exact ⟨_, _, _, _, _, rfl⟩
theorem str_of (s : ByteArray) : s = str s.data.toList := by
  apply ByteArray.ext
  rw [str_data]

section
variable {H : Type} {enc : TypeId × Value → H} {w : World}

theorem dec_int {e : TypeId} (he : Tryz.prog.underlying e = some (.int .i64)) {n : Nat} {c : Value} {y : DataW H × List MemPlace} (h : DataW.trod enc Tryz.prog w 0 (fun _ => true) true n e [c] = some y) :
    ∃ x : Int, c = .int .i64 x ∧ y.1 = .lit (.int .i64 x) ∧ -9223372036854775808 ≤ x ∧ x ≤ 9223372036854775807 := by
  obtain ⟨x, hc, rfl, hw⟩ := DataW.trod_int he h
  injection hc with hc _
  have hx : -9223372036854775808 ≤ x ∧ x ≤ 9223372036854775807 := by simpa [Lit.wf, IntKind.min, IntKind.max, IntKind.signed, IntKind.bits] using hw
  exact ⟨x, hc, rfl, hx⟩

/-- A finding, of its five cells. -/
theorem open_find {fuel : Nat} {cs : List Value} {x : DataW H × List MemPlace} (hl : cs.length = 5) (h : DataW.trod enc Tryz.prog w 0 (fun _ => true) true fuel 38 cs = some x) :
    ∃ f : Fd, cs = fdCells f ∧ f.ok ∧ f.name.length + 7 ≤ Rows.uptoBulk x.1 := by
  obtain ⟨c0, c1, c2, c3, c4, rfl⟩ := five_of_length hl
  obtain ⟨y0, y1, y2, n', hy, _, h0, h1, h2⟩ := trod_struct3 Tryz.underlying38 h
  have hD : x.1 = .agg [y0.1, y1.1, y2.1] := by rw [hy]
  have g0 : DataW.trod enc Tryz.prog w 0 (fun _ => true) true n' 35 [c0, c1, c2] = some y0 := by simpa [cells_place] using h0
  have g1 : DataW.trod enc Tryz.prog w 0 (fun _ => true) true n' 36 [c3] = some y1 := by simpa [cells_why] using h1
  have g2 : DataW.trod enc Tryz.prog w 0 (fun _ => true) true n' 9 [c4] = some y2 := by simpa [cells_str] using h2
  obtain ⟨z0, z1, z2, n2, hz, _, k0, k1, k2⟩ := trod_struct3 Tryz.underlying35 g0
  have hZ : y0.1 = .agg [z0.1, z1.1, z2.1] := by rw [hz]
  have j0 : DataW.trod enc Tryz.prog w 0 (fun _ => true) true n2 3 [c0] = some z0 := by simpa [cells_int] using k0
  have j1 : DataW.trod enc Tryz.prog w 0 (fun _ => true) true n2 3 [c1] = some z1 := by simpa [cells_int] using k1
  have j2 : DataW.trod enc Tryz.prog w 0 (fun _ => true) true n2 3 [c2] = some z2 := by simpa [cells_int] using k2
  obtain ⟨b0, rfl, e0, _⟩ := dec_int Tryz.underlying3 j0
  obtain ⟨b1, rfl, e1, l0, l1⟩ := dec_int Tryz.underlying3 j1
  obtain ⟨b2, rfl, e2, m0, m1⟩ := dec_int Tryz.underlying3 j2
  obtain ⟨b3, rfl, e3, w0, w1⟩ := dec_int Tryz.underlying36 g1
  obtain ⟨s, es, rfl, _⟩ := DataW.trod_string Tryz.underlying9 g2
  injection es with es _
  subst es
  refine ⟨⟨b0, b1, b2, b3, s.data.toList⟩, ?_, ⟨l0, l1, m0, m1, w0, w1⟩, ?_⟩
  · simp only [fdCells]
    rw [← str_of]
  · rw [hD, hZ, e0, e1, e2, e3]
    simp only [Rows.uptoBulk, Rows.uptoBulkAll]
    omega

/-- Findings that came in. -/
theorem open_finds {fuel : Nat} {cs : List Value} {x : DataW H × List MemPlace} (h : DataW.trod enc Tryz.prog w 0 (fun _ => true) true fuel 22 cs = some x) :
    ∃ (A : Option Addr) (n c : Nat) (L : List Fd), cs = [.slice A n c] ∧ L.length = n ∧ Row (fun k => k < w.heap.size) w 5 A n (L.flatMap fdCells) ∧ (∀ f ∈ L, f.ok) ∧ fwt L + 1 ≤ Rows.uptoBulk x.1 := by
  rcases open_slice Tryz.underlying22 h with ⟨rfl, rfl⟩ | ⟨a, len, cap, m, n, D, Pl, rfl, _, hl, hm, hmm, rfl, hi⟩
  · exact ⟨none, 0, 0, [], rfl, rfl, Row.none_, (fun f hf => by cases hf), by simp [Rows.uptoBulk, fwt]⟩
  · rw [if_pos rfl] at hmm
    subst hmm
    have hx : ∀ i, i < m → ∃ y : Fd, (∀ j v, (fdCells y)[j]? = some v → w.cell? (a.add (i * 5 + j)) = some v) ∧ y.ok ∧ y.name.length + 7 ≤ Rows.uptoBulk (D i) := by
      intro i him
      obtain ⟨cs', hc, ht'⟩ := hi i him
      rw [cells_find] at hc
      obtain ⟨_, hlen, hat⟩ := World.cells?_some hc
      obtain ⟨f, rfl, hok, hb⟩ := open_find hlen ht'
      refine ⟨f, fun j v hv => ?_, hok, hb⟩
      have hj : j < 5 := (List.getElem?_eq_some_iff.1 hv).1
      have := hat j hj
      rw [addr_add] at this
      rw [this]
      exact hv
    obtain ⟨X, hX⟩ := choose_lt hx
    have hsum := bulks.range_le D (fun i => (X i).name.length + 7) len (fun i hi => (hX i (by omega)).2.2)
    refine ⟨some a, len, m, (List.range len).map X, rfl, by simp, ⟨by rw [fm_length fdCells_length]; simp, fun hn => ⟨a, rfl, ?_, fun j u hu => ?_⟩⟩, ?_, ?_⟩
    · have := World.block_lt_of_cell? w _ ((hX 0 (by omega)).1 0 _ rfl)
      rwa [addr_block] at this
    · have hj : j < len * 5 := by
        have := (List.getElem?_eq_some_iff.1 hu).1
        rw [fm_length fdCells_length] at this
        simpa using this
      obtain ⟨q, r, hq, hr⟩ : ∃ q r, j = q * 5 + r ∧ r < 5 := ⟨j / 5, j % 5, by omega, by omega⟩
      subst hq
      have hql : q < len := by omega
      have hk : ((List.range len).map X)[q]? = some (X q) := by simp [hql]
      rw [fm_get fdCells_length _ q r _ hk hr] at hu
      exact (hX q (by omega)).1 r u hu
    · intro f hf
      obtain ⟨i, hi, rfl⟩ := List.mem_map.1 hf
      exact (hX i (by have := List.mem_range.1 hi; omega)).2.1
    · simp only [Rows.uptoBulk]
      have : fwt ((List.range len).map X) = ((List.range len).map fun i => (X i).name.length + 7).sum := by
        unfold fwt
        rw [List.map_map]
        rfl
      omega
end

theorem gPow : Tryz.prog.globalNamed "internal/strconv.uint64pow10" = some 1 := by kernel_rfl
theorem tPow : (Tryz.prog.globals[1]?).map (·.type) = some 139 := by kernel_rfl
abbrev laid3 : List (String × DataW Unit) := [("math/bits.deBruijn32tab", Rows.laid_math_bits_deBruijn32tab), ("math/bits.deBruijn64tab", Rows.laid_math_bits_deBruijn64tab), ("internal/strconv.uint64pow10", Rows.laid_internal_strconv_uint64pow10)]
theorem powData : (Rows.laid_internal_strconv_uint64pow10 : DataW Unit) = Lib.tabData .u64 Lib.pow10Tab := by kernel_rfl
theorem cPow : Tryz.prog.cellsOf 139 = 20 := by kernel_rfl
theorem cU64 : Tryz.prog.cellsOf 80 = 1 := by kernel_rfl
theorem tab_of_laid {W : World} (h0 : laidMetH Tryz.prog laid3 W) : Tab W := by
  have h : laidMet Tryz.prog laid3 W := by rw [← MakeChecks.laidMetH_plain _ _ _ (by kernel_rfl)]; exact h0
  have h1 := h.tail.tail
  rw [powData] at h1
  exact Lib.tabIs_of_head gPow tPow Tryz.underlying139 Tryz.underlying80 cU64 cPow h1
end Go.Proofs.YtgkiffodnofggaaGreatDoor
