/-
  Trees that came in, opened; and what the bound says of them.
-/
import Derived.Test.YtcogoiphpfgkdaaDoorOpen
import Derived.Test.YtcogoiphpfgkdaaDoorNodesAll
import Derived.Test.YtcogoiphpfgkdaaDoorLaid
namespace Go.Proofs.YtcogoiphpfgkdaaDoor
open Go.ChangeShapes Go.WideShapes Go.ChangeAt Go.RowKit Go.Deep Go.Joins
set_option linter.unusedVariables false

instance : Inhabited At := ⟨⟨[], []⟩⟩
instance : Inhabited Nd := ⟨.mk [] [] [] []⟩
theorem cells_attr : Tryd.prog.cellsOf 63 = 2 := by kernel_rfl
theorem cells_node : Tryd.prog.cellsOf 41 = 4 := by kernel_rfl
theorem cells_str : Tryd.prog.cellsOf 9 = 1 := by kernel_rfl
theorem cells_attrs : Tryd.prog.cellsOf 39 = 1 := by kernel_rfl
theorem cells_nodes : Tryd.prog.cellsOf 25 = 1 := by kernel_rfl
theorem two_of_length {α : Type} {l : List α} (h : l.length = 2) : ∃ a b, l = [a, b] := by
  rcases l with _ | ⟨a, _ | ⟨b, _ | ⟨c, l⟩⟩⟩
  · simp at h
  · simp at h
  · exact ⟨a, b, rfl⟩
  · simp at h
theorem four_of_length {α : Type} {l : List α} (h : l.length = 4) : ∃ a b c d, l = [a, b, c, d] := by
  rcases l with _ | ⟨a, _ | ⟨b, _ | ⟨c, _ | ⟨d, _ | ⟨e, l⟩⟩⟩⟩⟩
  · simp at h
  · simp at h
  · simp at h
  · simp at h
  · exact ⟨a, b, c, d, rfl⟩
  · simp at h
theorem le_sum_mem {l : List Nat} {x : Nat} (h : x ∈ l) : x ≤ l.sum := by
  induction l with
  | nil => cases h
  | cons y l ih =>
    rw [List.sum_cons]
    rcases List.mem_cons.1 h with rfl | h
    · omega
    · have := ih h; omega
theorem str_of (s : ByteArray) : s = str s.data.toList := by
  apply ByteArray.ext
  rw [str_data]
def wone (d : Nd) : Nat := 1 + d.name.length + d.text.length + awt d.attrs + wt d.kids
theorem wt_sum (L : List Nd) : wt L = (L.map wone).sum := by
  induction L with
  | nil => rw [wt_nil]; rfl
  | cons x r ih => rw [wt_cons, ih, List.map_cons, List.sum_cons]; rfl
theorem NodesAt.mk {S : Nat → Prop} {w : World} {ad : Addr} (L : List Nd) : ∀ j, (∀ k d, L[k]? = some d → ∃ (Aa : Option Addr) (ca : Nat) (Ak : Option Addr) (ck : Nat), w.cell? (ad.add ((j + k) * 4)) = some (.string (str d.name)) ∧ w.cell? (ad.add ((j + k) * 4 + 1)) = some (.string (str d.text)) ∧
      w.cell? (ad.add ((j + k) * 4 + 2)) = some (.slice Aa d.attrs.length ca) ∧ w.cell? (ad.add ((j + k) * 4 + 3)) = some (.slice Ak d.kids.length ck) ∧ Row S w 2 Aa d.attrs.length (d.attrs.flatMap atCells) ∧ Ns S w Ak d.kids.length d.kids) → NodesAt S w ad j L := by
  induction L with
  | nil => intro j _; rw [NodesAt]; trivial
  | cons x rest ih =>
    intro j h
    obtain ⟨Aa, ca, Ak, ck, h0, h1, h2, h3, h4, h5⟩ := h 0 x rfl
    obtain ⟨nm, tx, ats, kids⟩ := x
    rw [NodesAt]
    refine ⟨⟨Aa, ca, Ak, ck, h0, h1, h2, h3, h4, h5.2⟩, ih (j + 1) (fun k d hd => ?_)⟩
    have := h (k + 1) d (by simpa using hd)
    rw [show j + (k + 1) = j + 1 + k by omega] at this
    exact this

section
variable {H : Type} {enc : TypeId × Value → H} {w : World}

theorem open_attrs {fuel : Nat} {cs : List Value} {x : DataW H × List MemPlace} (h : DataW.trod enc Tryd.prog w 0 (fun _ => true) true fuel 39 cs = some x) :
    ∃ (A : Option Addr) (n c : Nat) (L : List At), cs = [.slice A n c] ∧ L.length = n ∧ Row (fun k => k < w.heap.size) w 2 A n (L.flatMap atCells) ∧ awt L + 1 ≤ Rows.uptoBulk x.1 := by
  rcases open_slice Tryd.underlying39 h with ⟨rfl, rfl⟩ | ⟨a, len, cap, m, n, D, Pl, rfl, _, hl, hm, hmm, rfl, hi⟩
  · exact ⟨none, 0, 0, [], rfl, rfl, Row.none_, by simp [Rows.uptoBulk, awt]⟩
  · rw [if_pos rfl] at hmm
    subst hmm
    have hx : ∀ i, i < m → ∃ y : At, w.cell? (a.add (i * 2)) = some (.string (str y.name)) ∧ w.cell? (a.add (i * 2 + 1)) = some (.string (str y.value)) ∧ 1 + y.name.length + y.value.length ≤ Rows.uptoBulk (D i) := by
      intro i him
      obtain ⟨cs', hc, ht'⟩ := hi i him
      rw [cells_attr] at hc
      obtain ⟨_, hlen, hat⟩ := World.cells?_some hc
      obtain ⟨y0, y1, n', hy, _, h0, h1⟩ := trod_struct2 Tryd.underlying63 ht'
      have hD : D i = .agg [y0.1, y1.1] := by have := congrArg Prod.fst hy; simpa using this
      obtain ⟨c0, c1, rfl⟩ := two_of_length hlen
      have g0 : DataW.trod enc Tryd.prog w 0 (fun _ => true) true n' 9 [c0] = some y0 := by simpa [cells_str] using h0
      have g1 : DataW.trod enc Tryd.prog w 0 (fun _ => true) true n' 9 [c1] = some y1 := by simpa [cells_str] using h1
      obtain ⟨s0, e0, rfl, _⟩ := DataW.trod_string Tryd.underlying9 g0
      obtain ⟨s1, e1, rfl, _⟩ := DataW.trod_string Tryd.underlying9 g1
      injection e0 with e0 _
      injection e1 with e1 _
      subst e0 e1
      have a0 := hat 0 (by omega)
      have a1 := hat 1 (by omega)
      rw [addr_add] at a0 a1
      refine ⟨⟨s0.data.toList, s1.data.toList⟩, ?_, ?_, ?_⟩
      · rw [← str_of]; exact a0
      · rw [← str_of]; exact a1
      · rw [hD]
        simp only [Rows.uptoBulk, Rows.uptoBulkAll]
        omega
    obtain ⟨X, hX⟩ := choose_lt hx
    have hsum := bulks.range_le D (fun i => 1 + (X i).name.length + (X i).value.length) len (fun i hi => (hX i (by omega)).2.2)
    refine ⟨some a, len, m, (List.range len).map X, rfl, by simp, ⟨by rw [fm_length atCells_length]; simp, fun hn => ⟨a, rfl, ?_, fun j u hu => ?_⟩⟩, ?_⟩
    · have := World.block_lt_of_cell? w _ (hX 0 (by omega)).1
      rwa [addr_block] at this
    · have hj : j < len * 2 := by
        have := (List.getElem?_eq_some_iff.1 hu).1
        rw [fm_length atCells_length] at this
        simpa using this
      obtain ⟨q, r, hq, hr⟩ : ∃ q r, j = q * 2 + r ∧ r < 2 := ⟨j / 2, j % 2, by omega, by omega⟩
      subst hq
      have hql : q < len := by omega
      have hk : ((List.range len).map X)[q]? = some (X q) := by simp [hql]
      rw [fm_get atCells_length _ q r _ hk hr] at hu
      obtain ⟨x0, x1, _⟩ := hX q (by omega)
      rcases r with _ | _ | r
      · simp [atCells] at hu
        rw [← hu]
        exact x0
      · simp [atCells] at hu
        rw [← hu]
        exact x1
      · omega
    · simp only [Rows.uptoBulk]
      have : awt ((List.range len).map X) = ((List.range len).map fun i => 1 + (X i).name.length + (X i).value.length).sum := by
        unfold awt
        rw [List.map_map]
        rfl
      omega

/-- A tree, of its four cells. -/
theorem open_node {B : Nat} (ih : ∀ (fuel : Nat) (cs : List Value) (x : DataW H × List MemPlace), Rows.uptoBulk x.1 < B → DataW.trod enc Tryd.prog w 0 (fun _ => true) true fuel 25 cs = some x →
      ∃ (A : Option Addr) (c : Nat) (L : List Nd), cs = [.slice A L.length c] ∧ Ns (fun k => k < w.heap.size) w A L.length L ∧ wt L + 1 ≤ Rows.uptoBulk x.1)
    {fuel : Nat} {cs : List Value} {x : DataW H × List MemPlace} (hB : Rows.uptoBulk x.1 ≤ B) (h : DataW.trod enc Tryd.prog w 0 (fun _ => true) true fuel 41 cs = some x) :
    ∃ (d : Nd) (Aa : Option Addr) (ca : Nat) (Ak : Option Addr) (ck : Nat), cs = [.string (str d.name), .string (str d.text), .slice Aa d.attrs.length ca, .slice Ak d.kids.length ck] ∧
      Row (fun k => k < w.heap.size) w 2 Aa d.attrs.length (d.attrs.flatMap atCells) ∧ Ns (fun k => k < w.heap.size) w Ak d.kids.length d.kids ∧ wone d + 1 ≤ Rows.uptoBulk x.1 := by
  obtain ⟨y0, y1, y2, y3, n', hy, hlen, h0, h1, h2, h3⟩ := trod_struct4 Tryd.underlying41 h
  have hD : x.1 = .agg [y0.1, y1.1, y2.1, y3.1] := by rw [hy]
  rw [cells_node] at hlen
  obtain ⟨c0, c1, c2, c3, rfl⟩ := four_of_length hlen
  have g0 : DataW.trod enc Tryd.prog w 0 (fun _ => true) true n' 9 [c0] = some y0 := by simpa [cells_str] using h0
  have g1 : DataW.trod enc Tryd.prog w 0 (fun _ => true) true n' 9 [c1] = some y1 := by simpa [cells_str] using h1
  have g2 : DataW.trod enc Tryd.prog w 0 (fun _ => true) true n' 39 [c2] = some y2 := by simpa [cells_attrs] using h2
  have g3 : DataW.trod enc Tryd.prog w 0 (fun _ => true) true n' 25 [c3] = some y3 := by simpa [cells_nodes] using h3
  obtain ⟨s0, e0, rfl, _⟩ := DataW.trod_string Tryd.underlying9 g0
  obtain ⟨s1, e1, rfl, _⟩ := DataW.trod_string Tryd.underlying9 g1
  obtain ⟨Aa, na, ca, ats, e2, rfl, hra, hba⟩ := open_attrs g2
  rw [hD] at hB
  simp only [Rows.uptoBulk, Rows.uptoBulkAll] at hB
  obtain ⟨Ak, ck, kids, e3, hk, hbk⟩ := ih n' _ y3 (by omega) g3
  injection e0 with e0 _
  injection e1 with e1 _
  injection e2 with e2 _
  injection e3 with e3 _
  subst e0 e1 e2 e3
  refine ⟨.mk s0.data.toList s1.data.toList ats kids, Aa, ca, Ak, ck, ?_, hra, hk, ?_⟩
  · simp only [Nd.name, Nd.text, Nd.attrs, Nd.kids]
    rw [← str_of, ← str_of]
  · rw [hD]
    simp only [wone, Nd.name, Nd.text, Nd.attrs, Nd.kids, Rows.uptoBulk, Rows.uptoBulkAll]
    omega

theorem open_nodes : ∀ (B fuel : Nat) (cs : List Value) (x : DataW H × List MemPlace), Rows.uptoBulk x.1 < B → DataW.trod enc Tryd.prog w 0 (fun _ => true) true fuel 25 cs = some x →
    ∃ (A : Option Addr) (c : Nat) (L : List Nd), cs = [.slice A L.length c] ∧ Ns (fun k => k < w.heap.size) w A L.length L ∧ wt L + 1 ≤ Rows.uptoBulk x.1 := by
  intro B
  induction B with
  | zero => intro fuel cs x h _; omega
  | succ B ih =>
    intro fuel cs x hB h
    rcases open_slice Tryd.underlying25 h with ⟨rfl, rfl⟩ | ⟨a, len, cap, m, n, D, Pl, rfl, _, hl, hm, hmm, rfl, hi⟩
    · exact ⟨none, 0, [], rfl, Ns.nil, by simp [Rows.uptoBulk, wt_nil]⟩
    · rw [if_pos rfl] at hmm
      subst hmm
      have hbulk : Rows.uptoBulkAll ((List.range len).map D) + Rows.uptoBulkAll ((List.range (m - len)).map fun j => D (len + j)) + 1 ≤ B := by
        simp only [Rows.uptoBulk] at hB
        omega
      have hDi : ∀ i, i < len → Rows.uptoBulk (D i) ≤ Rows.uptoBulkAll ((List.range len).map D) := by
        intro i hi
        have h1 := bulks.range_le D (fun j => if j = i then Rows.uptoBulk (D i) else 0) len (fun j hj => by split <;> simp_all)
        have hmem : Rows.uptoBulk (D i) ∈ (List.range len).map (fun j => if j = i then Rows.uptoBulk (D i) else 0) := List.mem_map.2 ⟨i, List.mem_range.2 hi, by simp⟩
        exact Nat.le_trans (le_sum_mem hmem) h1
      have hx : ∀ i, i < len → ∃ y : Nd × (Option Addr × Nat) × (Option Addr × Nat), w.cell? (a.add (i * 4)) = some (.string (str y.1.name)) ∧ w.cell? (a.add (i * 4 + 1)) = some (.string (str y.1.text)) ∧
          w.cell? (a.add (i * 4 + 2)) = some (.slice y.2.1.1 y.1.attrs.length y.2.1.2) ∧ w.cell? (a.add (i * 4 + 3)) = some (.slice y.2.2.1 y.1.kids.length y.2.2.2) ∧
          Row (fun k => k < w.heap.size) w 2 y.2.1.1 y.1.attrs.length (y.1.attrs.flatMap atCells) ∧ Ns (fun k => k < w.heap.size) w y.2.2.1 y.1.kids.length y.1.kids ∧ wone y.1 ≤ Rows.uptoBulk (D i) := by
        intro i hil
        obtain ⟨cs', hc, ht'⟩ := hi i (by omega)
        rw [cells_node] at hc
        obtain ⟨_, hlen, hat⟩ := World.cells?_some hc
        obtain ⟨d, Aa, ca, Ak, ck, rfl, hra, hnk, hw⟩ := open_node (B := B) ih (x := (D i, Pl i)) (by have := hDi i hil; simp only; omega) ht'
        have a0 := hat 0 (by omega)
        have a1 := hat 1 (by omega)
        have a2 := hat 2 (by omega)
        have a3 := hat 3 (by omega)
        rw [addr_add] at a0 a1 a2 a3
        exact ⟨⟨d, ⟨Aa, ca⟩, ⟨Ak, ck⟩⟩, a0, a1, a2, a3, hra, hnk, by simp only at hw ⊢; omega⟩
      obtain ⟨X, hX⟩ := choose_lt hx
      have hsum := bulks.range_le D (fun i => wone (X i).1) len (fun i hi => (hX i hi).2.2.2.2.2.2)
      have hL : ((List.range len).map fun i => (X i).1).length = len := by simp
      refine ⟨some a, m, (List.range len).map fun i => (X i).1, by rw [hL], ⟨rfl, fun hne => ⟨a, rfl, ?_, NodesAt.mk _ 0 (fun k d hd => ?_)⟩⟩, ?_⟩
      · have h0 : 0 < len := by
          rcases Nat.eq_zero_or_pos len with h | h
          · subst h; exact absurd rfl hne
          · exact h
        have := World.block_lt_of_cell? w _ (hX 0 h0).1
        rwa [addr_block] at this
      · have hkl : k < len := by have := (List.getElem?_eq_some_iff.1 hd).1; rwa [hL] at this
        simp [hkl] at hd
        subst hd
        obtain ⟨x0, x1, x2, x3, x4, x5, _⟩ := hX k hkl
        rw [Nat.zero_add]
        exact ⟨_, _, _, _, x0, x1, x2, x3, x4, x5⟩
      · rw [wt_sum, List.map_map]
        simp only [Rows.uptoBulk]
        have : ((List.range len).map (wone ∘ fun i => (X i).1)).sum = ((List.range len).map fun i => wone (X i).1).sum := rfl
        omega
end
end Go.Proofs.YtcogoiphpfgkdaaDoor
