/-
  A script that came in, opened; and what the bound says of its bytes.
-/
import Derived.Test.YtadnceiohgjdhaaOpen
import Derived.Test.YtadnceiohgjdhaaBytesOf
import Derived.Test.YtadnceiohgjdhaaLarge
namespace Go.Proofs.Ytadnceiohgjdhaa
open Go.ChangeShapes Go.WideShapes Go.ChangeAt Go.RowKit Go.Deep Go.Joins
set_option linter.unusedVariables false

theorem bytesOf_le (L : List Stp) : (bytesOf L).1.length ≤ total L := by
  induction L with
  | nil => simp [bytesOf, total]
  | cons s L ih =>
    obtain ⟨d, f⟩ := s
    simp only [bytesOf, total, List.map_cons, List.sum_cons] at ih ⊢
    split
    · simp
    · simp; omega

theorem cells_step : Try.prog.cellsOf 93 = 2 := by kernel_rfl
theorem cells_slice : Try.prog.cellsOf 26 = 1 := by kernel_rfl
theorem cells_bool : Try.prog.cellsOf 4 = 1 := by kernel_rfl
theorem cells_u8 : Try.prog.cellsOf 5 = 1 := by kernel_rfl
theorem cells_int : Try.prog.cellsOf 3 = 1 := by kernel_rfl

theorem two_of_length {α : Type} {l : List α} (h : l.length = 2) : ∃ a b, l = [a, b] := by
  rcases l with _ | ⟨a, _ | ⟨b, _ | ⟨c, l⟩⟩⟩
  · simp at h
  · simp at h
  · exact ⟨a, b, rfl⟩
  · simp at h
theorem le_sum_mem {l : List Nat} {x : Nat} (h : x ∈ l) : x ≤ l.sum := by
  induction l with
  | nil => cases h
  | cons y l ih =>
    rw [List.sum_cons]
    rcases List.mem_cons.1 h with rfl | h
    · omega
    · have := ih h; omega

section
variable {H : Type} {enc : TypeId × Value → H} {w : World}

theorem open_bytes {fuel : Nat} {cs : List Value} {x : DataW H × List MemPlace} (h : DataW.trod enc Try.prog w 0 (fun _ => true) true fuel 26 cs = some x) :
    ∃ (A : Option Addr) (n c : Nat) (l : List UInt8), cs = [.slice A n c] ∧ n ≤ c ∧ c ≤ maxLen ∧ l.length = n ∧ Row (fun k => k < w.heap.size) w 1 A n (bv l) ∧ c + 1 ≤ Rows.uptoBulk x.1 :=
  open_row1 (fun b : UInt8 => .int .u8 b.toNat) Try.underlying26 cells_u8 (dec_u8 Try.underlying5) h
theorem open_nums {fuel : Nat} {cs : List Value} {x : DataW H × List MemPlace} (h : DataW.trod enc Try.prog w 0 (fun _ => true) true fuel 27 cs = some x) :
    ∃ (A : Option Addr) (n c : Nat) (l : List Int), cs = [.slice A n c] ∧ n ≤ c ∧ c ≤ maxLen ∧ l.length = n ∧ Row (fun k => k < w.heap.size) w 1 A n (iv l) ∧ c + 1 ≤ Rows.uptoBulk x.1 :=
  open_row1 (Value.int .i64) Try.underlying27 cells_int (dec_i64 Try.underlying3) h

theorem open_steps {fuel : Nat} {cs : List Value} {x : DataW H × List MemPlace} (h : DataW.trod enc Try.prog w 0 (fun _ => true) true fuel 25 cs = some x) (hB : Rows.uptoBulk x.1 ≤ 140737488355328) :
    ∃ (A : Option Addr) (n c : Nat) (L : List Stp), cs = [.slice A n c] ∧ n ≤ c ∧ c ≤ maxLen ∧ Steps (fun k => k < w.heap.size) w A n L ∧ total L + 3 * n + 1 ≤ Rows.uptoBulk x.1 := by
  have HB := Lib.hid hB
  clear hB
  rcases open_slice Try.underlying25 h with ⟨rfl, rfl⟩ | ⟨a, len, cap, m, n, D, Pl, rfl, _, hl, hm, hmm, rfl, hi⟩
  · exact ⟨none, 0, 0, [], rfl, Nat.le_refl _, Nat.zero_le _, ⟨rfl, by intro k d f h; simp at h⟩, by simp [Rows.uptoBulk, total]⟩
  · rw [if_pos rfl] at hmm
    subst hmm
    have hx : ∀ i, i < m → ∃ y : Stp × (Option Addr × Nat), w.cell? (a.add (i * 2)) = some (.slice y.2.1 y.1.1.length y.2.2) ∧ w.cell? (a.add (i * 2 + 1)) = some (.bool y.1.2) ∧ Row (fun k => k < w.heap.size) w 1 y.2.1 y.1.1.length (bv y.1.1) ∧ y.1.1.length ≤ y.2.2 ∧ y.2.2 ≤ maxLen ∧ y.1.1.length + 3 ≤ Rows.uptoBulk (D i) := by
      intro i him
      obtain ⟨cs', hc, ht'⟩ := hi i him
      rw [cells_step] at hc
      obtain ⟨_, hlen, hat⟩ := World.cells?_some hc
      obtain ⟨y0, y1, n', hy, _, h0, h1⟩ := trod_struct2 Try.underlying93 ht'
      have hD : D i = .agg [y0.1, y1.1] := by have := congrArg Prod.fst hy; simpa using this
      obtain ⟨c0, c1, rfl⟩ := two_of_length hlen
      have g0 : DataW.trod enc Try.prog w 0 (fun _ => true) true n' 26 [c0] = some y0 := by simpa [cells_slice] using h0
      have g1 : DataW.trod enc Try.prog w 0 (fun _ => true) true n' 4 [c1] = some y1 := by simpa [cells_bool] using h1
      obtain ⟨A, k, c, l, e, hk, hcm, hll, hrow, hb⟩ := open_bytes g0
      obtain ⟨b, e1, rfl⟩ := DataW.trod_bool Try.underlying4 g1
      injection e with e _
      injection e1 with e1 _
      subst e e1 hll
      have a0 := hat 0 (by omega)
      have a1 := hat 1 (by omega)
      rw [addr_add] at a0 a1
      refine ⟨⟨⟨l, b⟩, A, c⟩, a0, a1, hrow, hk, hcm, ?_⟩
      rw [hD]
      simp only [Rows.uptoBulk, Rows.uptoBulkAll]
      omega
    obtain ⟨X, hX⟩ := choose_lt hx
    have hsum : total ((List.range len).map fun i => (X i).1) + 3 * len ≤ Rows.uptoBulkAll ((List.range len).map D) := by
      have h1 := bulks.range_le D (fun i => (X i).1.1.length + 3) len (fun i hi => (hX i (by omega)).2.2.2.2.2)
      have h2 : ∀ (l : List Nat), (l.map fun i => (X i).1.1.length + 3).sum = total (l.map fun i => (X i).1) + 3 * l.length := by
        intro l
        induction l with
        | nil => simp [total]
        | cons i l ih => simp only [List.map_cons, List.sum_cons, total, List.length_cons] at ih ⊢; omega
      rw [h2] at h1
      simpa using h1
    have hbulk : Rows.uptoBulkAll ((List.range len).map D) + 1 ≤ Rows.uptoBulk (.slice ((List.range len).map D) ((List.range (m - len)).map fun j => D (len + j))) := by
      simp only [Rows.uptoBulk]
      omega
    refine ⟨some a, len, m, (List.range len).map fun i => (X i).1, rfl, hl, hm, ⟨by simp, fun k d f hk => ?_⟩, Nat.le_trans (by omega) hbulk⟩
    have hkl : k < len := by have := (List.getElem?_eq_some_iff.1 hk).1; simpa using this
    simp [hkl] at hk
    obtain ⟨x0, x1, x2, x3, x4, x5⟩ := hX k (by omega)
    rw [hk] at x0 x1 x2 x3 x5
    have hlt := World.block_lt_of_cell? w _ x0
    rw [addr_block] at hlt
    have hk1 := bulks.range_le D (fun i => if i = k then (X k).1.1.length else 0) len (fun i hi => by
      split
      · rename_i e; subst e; have := (hX i (by omega)).2.2.2.2.2; omega
      · omega)
    have hk2 : (X k).1.1.length ≤ ((List.range len).map (fun i => if i = k then (X k).1.1.length else 0)).sum := by
      have hmem : (X k).1.1.length ∈ (List.range len).map (fun i => if i = k then (X k).1.1.length else 0) := List.mem_map.2 ⟨k, List.mem_range.2 hkl, by simp⟩
      exact le_sum_mem hmem
    rw [hk] at hk1 hk2
    exact ⟨a, _, _, rfl, hlt, x0, x1, x2, x3, x4, by have := HB.out; simp only at this hk1 hk2 hbulk ⊢; omega⟩
end
end Go.Proofs.Ytadnceiohgjdhaa
