/-
  Trees copied by the reference.
-/
import Derived.Test.YtcogoiphpfgkdaaDoorCopies
namespace Go.Proofs.YtcogoiphpfgkdaaDoor
open Go.RowKit
set_option linter.unusedVariables false
set_option linter.unusedSimpArgs false

/-- The first k trees have been copied: the value v, in memory from lo on. -/
def CopyTo (lo : Nat) (L : List Nd) (k : Nat) (v : Value) (w : World) : Prop :=
  ∃ xs, w.ownsRow lo 41 4 v k xs ∧ Cells (fun j => lo ≤ j ∧ v.ownBlock ≠ some j) w xs (L.take k)

/-- Trees that were copied into memory of their own, the outermost row known whole. -/
def CopiesOwn (f : FuncId) (S : Nat → Prop) (L : List Nd) : Prop := ∀ (W : World) (A : Option Addr) (c : Nat), Ns S W A L.length L → (∀ k, S k → k < W.heap.size) →
  Calls Tryd.prog f #[.slice A L.length c] W (Gives fun v w' => ∃ A' c', v = .slice A' L.length c' ∧ Ns (fun k => W.heap.size ≤ k ∧ k < w'.heap.size) w' A' L.length L ∧ (∃ xs, w'.ownsRow W.heap.size 41 4 (.slice A' L.length c') L.length xs) ∧ Below W.heap.size W w')

set_option maxHeartbeats 2000000 in
set_option maxRecDepth 100000 in
theorem rcopied_any (S : Nat → Prop) (L : List Nd) (hw : wt L ≤ 1048576) : CopiesOwn 18 S L := by
  induction L using nds_ind with
  | _ L IH =>
  intro W A c hN hS
  have hll := wt_length L
  have HIH := Lib.hid (fun d (h : d ∈ L) => IH d h (by have := wt_mem h; omega))
  have HN := Lib.hid hN
  have HS := Lib.hid (fun (W' : World) (h : W.heap.size ≤ W'.heap.size) (k : Nat) (hk : S k) => Nat.lt_of_lt_of_le (hS k hk) h)
  clear IH hN hS
  obtain ⟨i0, hi, hz0, hz1, hz2⟩ := info_parts ndinfo
  obtain ⟨j0, hj, hy0, hy1, hy2⟩ := info_parts atinfo
  go_enter Tryd.func18, Tryd.ntmps18
  go_wp2_with fail
  go_loopw [8, 3] (fun i v wr => ∃ (k : Nat) (Av : Option Addr) (cv : Nat), k ≤ L.length ∧ i = .int .i64 k ∧ v = .slice Av k cv ∧ Hid (CopyTo W.heap.size L k v wr) ∧ Hid (Below W.heap.size W wr)) (fun i _ _ => L.length - (intOf i).toNat)
  case atStart => exact ⟨0, none, 0, Nat.zero_le _, rfl, rfl, ⟨[], World.ownsRow_nil _ _ _ _, trivial⟩, Below.refl _ _⟩
  case round =>
    obtain ⟨k, Av, cv, hk, rfl, rfl, HO, HB⟩ := hrel
    obtain ⟨xs, hown, hcs⟩ := HO.out
    by_cases hlt : k < L.length
    · obtain ⟨x, hx⟩ : ∃ x, L[k]? = some x := ⟨L[k], List.getElem?_eq_getElem hlt⟩
      have hmem := List.mem_of_getElem? hx
      obtain ⟨ad, Aa, ca, Ak, ck, rfl, hsa, hsb, c0, c1, c2, c3, hra, hnk⟩ := (HN.out.behind HB.out).get hx
      have lb := HB.out.size
      have hbl := HS.out W (Nat.le_refl _) _ hsa
      have hbl2 := HS.out W (Nat.le_refl _) _ hsb
      have i1 : (0 : Int) ≤ (k : Int) := by omega
      have i2 : (k : Int) < (L.length : Int) := by omega
      have i3 : decide ((k : Int) < (L.length : Int)) = true := decide_eq_true i2
      have hwx := wt_mem hmem
      have hal := awt_length x.attrs
      have HOW := Lib.hid hown
      have HCS := Lib.hid hcs
      have IHd := HIH.out x hmem
      have HNK := Lib.hid hnk
      have HRA := Lib.hid hra
      have HID := Lib.hid IHd
      have HX := Lib.hid hx
      clear hx hmem hra hnk IHd hown hcs HO
      go_wp2_with fail
      obtain ⟨W1, hW1⟩ : ∃ W1, wr.alloc (.cells #[.string (str x.name), .string (str x.text), .slice Aa x.attrs.length ca, .slice Ak x.kids.length ck] 41) = W1 := ⟨_, rfl⟩
      rw [hW1]
      have hb1 : Below wr.heap.size wr W1 := by rw [← hW1]; exact (Below.refl _ wr).alloc (Nat.le_refl _) _
      have y1 : Blk W1 wr.heap.size 41 #[.string (str x.name), .string (str x.text), .slice Aa x.attrs.length ca, .slice Ak x.kids.length ck] := by rw [← hW1]; exact Blk.new _ _ _
      have y1l := y1.lt
      have a0 := y1.cell 0
      have a1 := y1.cell 1
      have a2 := y1.cell 2
      have a3 := y1.cell 3
      simp only [List.getElem?_toArray, List.getElem?_cons_zero, List.getElem?_cons_succ] at a0 a1 a2 a3
      have Y1 := Lib.hid y1
      have V1 := Lib.hid hb1
      have l1 := hb1.size
      clear hW1 hb1 y1 c0 c1 c2 c3
      refine wp_region_plan (S := fun w' => w'.cell? ⟨wr.heap.size, 0, none⟩ = some (.string (str x.name)) ∧ w'.cell? ⟨wr.heap.size, 1, none⟩ = some (.string (str x.text)) ∧ w'.cell? ⟨wr.heap.size, 2, none⟩ = some (.slice Aa x.attrs.length ca) ∧ w'.cell? ⟨wr.heap.size, 3, none⟩ = some (.slice Ak x.kids.length ck)) 16
        [(0, true), (1, true), (2, true), (3, true), (4, true), (6, true), (7, true), (9, true), (10, true), (5, false), (8, false), (11, false), (12, true), (13, false), (14, false), (15, true)] (by kernel_rfl) (by kernel_rfl) ?_ (fun hHeld => ?_)
      · exact ⟨a0, a1, a2, a3⟩
      iterate 9 (refine plan_take (v := ?_) rfl (by assumption) rfl (fun _ _ _ h => h) ?_ ?_; rotate_left; (· (intro w hSw; (try dsimp only at hSw); go_simp; try with_reducible rfl)); all_goals (simp only [Act.put, List.getElem_toArray, List.getElem_cons_zero, List.getElem_cons_succ, List.setIfInBounds_toArray, List.set_cons_zero, List.set_cons_succ]))
      refine plan_op rfl (by decide) (fun K hK => ?_)
      simp only [List.getElem_toArray, List.getElem_cons_zero, List.getElem_cons_succ]
      go_simp
      refine hK.out _ _ ⟨cell_alloc_keep a0 _, cell_alloc_keep a1 _, cell_alloc_keep a2 _, cell_alloc_keep a3 _⟩ (fun hHeld => ?_)
      clear hK K
      try simp only [Act.put, List.getElem_toArray, List.getElem_cons_zero, List.getElem_cons_succ, List.setIfInBounds_toArray, List.set_cons_zero, List.set_cons_succ]
      refine plan_op rfl (by decide) (fun K hK => ?_)
      simp only [List.getElem_toArray, List.getElem_cons_zero, List.getElem_cons_succ]
      refine step_append_copy (a := ⟨_, _⟩) _ (by rfl) _ _ 39 (by rfl) 63 j0 _ 2 32 Tryd.underlying39 hj hy0 hy1 hy2 rfl (by decide) W1.heap.size (by rfl) (Blk.new_at _ _ (by simp)) (by simp) S Aa x.attrs.length ca (x.attrs.flatMap atCells) (by rfl) (((HRA.out.behind V1.out).drew).alloc _) (fm_one atCells_one x.attrs) (by simp only [maxLen]; omega) (by omega) ?_
      intro A3 c3 w3 hown3 hb3 _ _
      have hb31 : Below W1.heap.size W1 w3 := (((Below.refl W1.heap.size W1).drew).alloc (Nat.le_refl _) _).trans hb3
      have t0 := (hb31.cell (p := ⟨wr.heap.size, 0, none⟩) y1l).trans a0
      have t1 := (hb31.cell (p := ⟨wr.heap.size, 1, none⟩) y1l).trans a1
      have t2 := (hb31.cell (p := ⟨wr.heap.size, 2, none⟩) y1l).trans a2
      have t3 := (hb31.cell (p := ⟨wr.heap.size, 3, none⟩) y1l).trans a3
      have hrow3 := Row.of_own hown3
      have ROW := Lib.hid hrow3
      have V3 := Lib.hid (V1.out.trans (hb31.mono l1))
      have l3 := hb31.size
      clear hown3 hb3 hb31 a0 a1 a2 a3 hrow3
      refine hK.out _ _ ⟨t0, t1, t2, t3⟩ (fun hHeld => ?_)
      clear hK K
      try simp only [Act.put, List.getElem_toArray, List.getElem_cons_zero, List.getElem_cons_succ, List.setIfInBounds_toArray, List.set_cons_zero, List.set_cons_succ]
      refine plan_op rfl (by decide) (fun K hK => ?_)
      go_simp
      have IHD := Lib.hid (HID.out w3 Ak ck (HNK.out.behind V3.out) (HS.out w3 (by omega)))
      refine IHD.out.mono ?_
      rintro e w4 ⟨v4, rfl, A4, c4, rfl, hn4, _, hb4⟩
      have s0 := (hb4.cell (p := ⟨wr.heap.size, 0, none⟩) (by simp; omega)).trans t0
      have s1 := (hb4.cell (p := ⟨wr.heap.size, 1, none⟩) (by simp; omega)).trans t1
      have s2 := (hb4.cell (p := ⟨wr.heap.size, 2, none⟩) (by simp; omega)).trans t2
      have s3 := (hb4.cell (p := ⟨wr.heap.size, 3, none⟩) (by simp; omega)).trans t3
      have V4 := Lib.hid (V3.out.trans (hb4.mono V3.out.size))
      have ROW4 := Lib.hid (ROW.out.behind hb4)
      have NS4 := Lib.hid hn4
      have l4 := hb4.size
      clear hn4 hb4 t0 t1 t2 t3
      refine hK.out _ _ ⟨s0, s1, s2, s3⟩ (fun hHeld => ?_)
      clear hK K
      try simp only [Act.put, List.getElem_toArray, List.getElem_cons_zero, List.getElem_cons_succ, List.setIfInBounds_toArray, List.set_cons_zero, List.set_cons_succ]
      iterate 1 (refine plan_take (v := ?_) rfl (by assumption) rfl (fun _ _ _ h => h) ?_ ?_; rotate_left; (· (intro w hSw; (try dsimp only at hSw); go_simp; try with_reducible rfl)); all_goals (simp only [Act.put, List.getElem_toArray, List.getElem_cons_zero, List.getElem_cons_succ, List.setIfInBounds_toArray, List.set_cons_zero, List.set_cons_succ]))
      refine plan_op rfl (by decide) (fun K hK => ?_)
      simp only [List.getElem_toArray, List.getElem_cons_zero, List.getElem_cons_succ]
      go_simp
      refine hK.out _ _ ⟨cell_alloc_keep s0 _, cell_alloc_keep s1 _, cell_alloc_keep s2 _, cell_alloc_keep s3 _⟩ (fun hHeld => ?_)
      clear hK K
      try simp only [Act.put, List.getElem_toArray, List.getElem_cons_zero, List.getElem_cons_succ, List.setIfInBounds_toArray, List.set_cons_zero, List.set_cons_succ]
      refine plan_op rfl (by decide) (fun K hK => ?_)
      simp only [List.getElem_toArray, List.getElem_cons_zero, List.getElem_cons_succ]
      have hlv := HOW.out.lt
      refine step_append_row (a := ⟨_, _⟩) (w4.alloc (.cells #[.string (str x.name), .string (str x.text), .slice A3 x.attrs.length c3, .slice A4 x.kids.length c4] 41)) (by rfl) _ _ 25 (by rfl) W.heap.size 41 i0 _ 4 80 Tryd.underlying25 hi hz0 hz1 hz2 rfl (by decide) (Value.slice Av k cv) k xs (by rfl) ((own_behind HOW.out V4.out).alloc _) (fun j => j = w4.heap.size) (some ⟨w4.heap.size, 0, none⟩) 1 1 [.string (str x.name), .string (str x.text), .slice A3 x.attrs.length c3, .slice A4 x.kids.length c4] (by rfl) (Row.new w4 _ #[.string (str x.name), .string (str x.text), .slice A3 x.attrs.length c3, .slice A4 x.kids.length c4] 4 1 rfl) (by intro u hu; simp at hu; rcases hu with rfl | rfl | rfl | rfl <;> rfl) (by simp only [maxLen]; omega) (by omega) (by simp; omega) ?_
      intro v6 w6 hown6 hg6 hcase
      obtain ⟨A6, c6, rfl, _, _⟩ := own_slice hown6
      have hne : ∀ j, (Value.slice Av k cv).ownBlock = some j → W.heap.size ≤ j ∧ j < wr.heap.size := fun j h => hlv j h
      have n0 : some wr.heap.size ≠ (Value.slice Av k cv).ownBlock := fun e => by have := (hne _ e.symm).2; omega
      have t0 := hg6.cell (cell_alloc_keep s0 (.cells #[.string (str x.name), .string (str x.text), .slice A3 x.attrs.length c3, .slice A4 x.kids.length c4] 41)) n0
      have t1 := hg6.cell (cell_alloc_keep s1 (.cells #[.string (str x.name), .string (str x.text), .slice A3 x.attrs.length c3, .slice A4 x.kids.length c4] 41)) n0
      have t2 := hg6.cell (cell_alloc_keep s2 (.cells #[.string (str x.name), .string (str x.text), .slice A3 x.attrs.length c3, .slice A4 x.kids.length c4] 41)) n0
      have t3 := hg6.cell (cell_alloc_keep s3 (.cells #[.string (str x.name), .string (str x.text), .slice A3 x.attrs.length c3, .slice A4 x.kids.length c4] 41)) n0
      have hb5 : Below w4.heap.size w4 (w4.alloc (.cells #[.string (str x.name), .string (str x.text), .slice A3 x.attrs.length c3, .slice A4 x.kids.length c4] 41)) := (Below.refl _ w4).alloc (Nat.le_refl _) _
      have hk6 : Keep (fun j => (Value.slice Av k cv).ownBlock = some j) w4 w6 := (Keep.of_below hb5 _).grown hg6 (fun j e => .inl e)
      have hB6 : Below W.heap.size W w6 := ((HB.out.trans (V4.out.mono lb)).trans (hb5.mono (by have := V4.out.size; omega))).grown hg6 (by simp; have := V4.out.size; omega) (fun j e => (hne j e).1)
      have hC : Cells (fun j => W.heap.size ≤ j ∧ (Value.slice A6 (k + 1) c6).ownBlock ≠ some j) w6 (xs ++ [.string (str x.name), .string (str x.text), .slice A3 x.attrs.length c3, .slice A4 x.kids.length c4]) (L.take (k + 1)) := by
        have e : L.take (k + 1) = L.take k ++ [x] := by rw [List.take_add_one, HX.out]; rfl
        rw [e]
        have g1 : Cells (fun j => W.heap.size ≤ j ∧ (Value.slice Av k cv).ownBlock ≠ some j ∧ j < w4.heap.size) w4 xs (L.take k) := (HCS.out.behind V4.out).wide fun j hj h => ⟨h.1, h.2, hj⟩
        have g2 : Cells (fun j => W.heap.size ≤ j ∧ (Value.slice Av k cv).ownBlock ≠ some j ∧ j < w4.heap.size) w4 [.string (str x.name), .string (str x.text), .slice A3 x.attrs.length c3, .slice A4 x.kids.length c4] [x] := by
          refine ⟨⟨A3, c3, A4, c4, rfl, rfl, rfl, rfl, ROW4.out.more (fun j hj h => ⟨by omega, (fun h2 => by have := (hne j h2).2; omega), hj⟩) (by decide), NS4.out.wide (fun j hj h => ⟨by omega, (fun h2 => by have := (hne j h2).2; omega), hj⟩)⟩, trivial⟩
        refine ((g1.append g2).keep hk6 (fun j h => h.2.1)).wide fun j _ h => ⟨h.1, fun h2 => ?_⟩
        rcases hcase with hc | hc
        · rw [hc] at h2; exact h.2.1 h2
        · rw [hc] at h2
          have h3 := h.2.2
          simp at h2
          omega
      have HC := Lib.hid hC
      have HO6 := Lib.hid hown6
      have HB6 := Lib.hid hB6
      clear hown6 hg6 hcase hk6 hB6 hC hb5 s0 s1 s2 s3 hlv hne n0
      refine hK.out _ _ ⟨t0, t1, t2, t3⟩ (fun hHeld => ?_)
      clear hK K
      try simp only [Act.put, List.getElem_toArray, List.getElem_cons_zero, List.getElem_cons_succ, List.setIfInBounds_toArray, List.set_cons_zero, List.set_cons_succ]
      iterate 1 (refine plan_take (v := ?_) rfl (by assumption) rfl (fun _ _ _ h => h) ?_ ?_; rotate_left; (· (intro w hSw; (try dsimp only at hSw); go_simp; try with_reducible rfl)); all_goals (simp only [Act.put, List.getElem_toArray, List.getElem_cons_zero, List.getElem_cons_succ, List.setIfInBounds_toArray, List.set_cons_zero, List.set_cons_succ]))
      simp only [wpPlan]
      go_wp2
      go_roundw
      case rel => exact ⟨k + 1, A6, c6, by omega, by go_num, rfl, Lib.hid ⟨_, HO6.out, HC.out⟩, HB6⟩
      case measure => simp [intOf]; omega
    · have hkm : k = L.length := by omega
      subst hkm
      rw [List.take_length] at hcs
      have HOW := Lib.hid hown
      have HCS := Lib.hid hcs
      clear hown hcs HO
      go_wp2
      go_ret
      exact ⟨_, rfl, _, _, rfl, Cells.ns (HCS.out.wide (fun j hj h => ⟨h.1, hj⟩)) ((Row.of_own HOW.out).more (fun j hj h => ⟨h, hj⟩) (by decide)), ⟨_, HOW.out⟩, HB.out⟩
end Go.Proofs.YtcogoiphpfgkdaaDoor
