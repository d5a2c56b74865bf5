/-
  Arguments opened: slices of one-cell elements, slices of steps, and the bound that the second form lays on them.
-/
import Derived.Test.YtgkiffodnofggaaGreatDoorRows
import Derived.Test.YtgkiffodnofggaaGreatDoorRow
import Derived.Deep.Slices
import Derived.Lib.SmallJoins
namespace Go.Proofs.YtgkiffodnofggaaGreatDoor
open Go.ChangeShapes Go.WideShapes Go.ChangeAt Go.RowKit Go.Deep Go.Joins
set_option linter.unusedVariables false

namespace bulks
theorem one_le {H : Type} (d : DataW H) : 1 ≤ Rows.uptoBulk d := by
  cases d with
  | lit l => cases l <;> simp [Rows.uptoBulk]
  | nil => simp [Rows.uptoBulk]
  | ptr d => simp [Rows.uptoBulk]
  | slice elems spare => simp [Rows.uptoBulk]
  | agg parts => simp [Rows.uptoBulk]
  | iface t d => simp [Rows.uptoBulk]
  | map entries => simp [Rows.uptoBulk]
  | held h => simp [Rows.uptoBulk]
theorem length_le {H : Type} (l : List (DataW H)) : l.length ≤ Rows.uptoBulkAll l := by
  induction l with
  | nil => simp [Rows.uptoBulkAll]
  | cons x r ih => have := one_le x; simp only [Rows.uptoBulkAll, List.length_cons]; omega
theorem range_le {H : Type} (D : Nat → DataW H) (f : Nat → Nat) : ∀ (n : Nat), (∀ i, i < n → f i ≤ Rows.uptoBulk (D i)) → ((List.range n).map f).sum ≤ Rows.uptoBulkAll ((List.range n).map D) := by
  suffices h : ∀ (l : List Nat), (∀ i ∈ l, f i ≤ Rows.uptoBulk (D i)) → (l.map f).sum ≤ Rows.uptoBulkAll (l.map D) from fun n hn => h _ fun i hi => hn i (List.mem_range.1 hi)
  intro l
  induction l with
  | nil => intro _; simp [Rows.uptoBulkAll]
  | cons i l ih =>
    intro h
    have h1 := h i (by simp)
    have h2 := ih fun j hj => h j (by simp [hj])
    simp only [List.map_cons, List.sum_cons, Rows.uptoBulkAll]
    omega
/-- The bound, as the builder hands it over. -/
theorem bound {H : Type} {l : List (DataW H)} (hk : Rows.uptoSmall H l = true) : Rows.uptoBulkAll l ≤ 1048576 := of_decide_eq_true hk
end bulks

section
variable {H : Type} {enc : TypeId × Value → H} {P : Program} {w : World}

/-- A slice of one-cell elements that came in, each of the make f. -/
theorem open_row1 {α : Type} [Inhabited α] (f : α → Value) {t e : TypeId} {fuel : Nat} {cs : List Value} {x : DataW H × List MemPlace} (ht : P.underlying t = some (.slice e)) (hC : P.cellsOf e = 1)
    (hdec : ∀ (n : Nat) (cs' : List Value) (y : DataW H × List MemPlace), DataW.trod enc P w 0 (fun _ => true) true n e cs' = some y → ∃ a, cs' = [f a])
    (h : DataW.trod enc P w 0 (fun _ => true) true fuel t cs = some x) :
    ∃ (A : Option Addr) (n c : Nat) (l : List α), cs = [.slice A n c] ∧ n ≤ c ∧ c ≤ maxLen ∧ l.length = n ∧ Row (fun k => k < w.heap.size) w 1 A n (l.map f) ∧ c + 1 ≤ Rows.uptoBulk x.1 := by
  rcases open_slice ht h with ⟨rfl, rfl⟩ | ⟨a, len, cap, m, n, D, Pl, rfl, _, hl, hm, hmm, rfl, hi⟩
  · exact ⟨none, 0, 0, [], rfl, Nat.le_refl _, Nat.zero_le _, rfl, Row.none_, by simp [Rows.uptoBulk]⟩
  · rw [if_pos rfl] at hmm
    subst hmm
    have hx : ∀ i, i < m → ∃ y : α, w.cell? (a.add i) = some (f y) := by
      intro i him
      obtain ⟨cs', hc, ht'⟩ := hi i him
      obtain ⟨y, rfl⟩ := hdec _ _ _ ht'
      obtain ⟨_, _, hat⟩ := World.cells?_some hc
      have := hat 0 (by omega)
      rw [hC] at this
      simp only [Nat.mul_one] at this
      exact ⟨y, by simpa [addr_add] using this⟩
    obtain ⟨X, hX⟩ := choose_lt hx
    refine ⟨some a, len, m, (List.range len).map X, rfl, hl, hm, by simp, ⟨by simp, fun hn => ⟨a, rfl, ?_, fun j u hu => ?_⟩⟩, ?_⟩
    · have := World.block_lt_of_cell? w _ (hX 0 (by omega))
      rwa [addr_block] at this
    · have hj : j < len := by have := (List.getElem?_eq_some_iff.1 hu).1; simpa using this
      simp [hj] at hu
      rw [hX j (by omega), hu]
    · have h1 := bulks.length_le ((List.range len).map D)
      have h2 := bulks.length_le ((List.range (m - len)).map fun j => D (len + j))
      simp only [List.length_map, List.length_range] at h1 h2
      simp only [Rows.uptoBulk]
      omega

theorem dec_u8 {e : TypeId} (he : P.underlying e = some (.int .u8)) (n : Nat) (cs' : List Value) (y : DataW H × List MemPlace) (h : DataW.trod enc P w 0 (fun _ => true) true n e cs' = some y) : ∃ a : UInt8, cs' = [.int .u8 a.toNat] := by
  obtain ⟨x, rfl, _, hw⟩ := DataW.trod_int he h
  have hx : 0 ≤ x ∧ x ≤ 255 := by simpa [Lit.wf, IntKind.min, IntKind.max, IntKind.signed, IntKind.bits] using hw
  refine ⟨UInt8.ofNat x.toNat, ?_⟩
  have : ((UInt8.ofNat x.toNat).toNat : Int) = x := by
    rw [UInt8.toNat_ofNat_of_lt' (by simp [UInt8.size]; omega)]
    omega
  rw [this]
theorem dec_i64 {e : TypeId} (he : P.underlying e = some (.int .i64)) (n : Nat) (cs' : List Value) (y : DataW H × List MemPlace) (h : DataW.trod enc P w 0 (fun _ => true) true n e cs' = some y) : ∃ a : Int, cs' = [.int .i64 a] := by
  obtain ⟨x, rfl, _, hw⟩ := DataW.trod_int he h
  exact ⟨x, rfl⟩
end
end Go.Proofs.YtgkiffodnofggaaGreatDoor
