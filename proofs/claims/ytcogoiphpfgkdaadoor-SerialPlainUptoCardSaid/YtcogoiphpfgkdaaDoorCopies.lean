/-
  Trees copied: the contracts of copied and of the reference's Copy.
  Trees as cells that stand in a row, as an append takes and leaves them.
-/
import Derived.Test.YtcogoiphpfgkdaaDoorNodesAll
import Derived.Test.YtcogoiphpfgkdaaDoorPlan
import Derived.Test.YtcogoiphpfgkdaaDoorUtfAll
namespace Go.Proofs.YtcogoiphpfgkdaaDoor
open Go.RowKit
set_option linter.unusedVariables false
set_option linter.unusedSimpArgs false

/-- Trees that were copied into memory of their own. -/
def CopiesAs (f : FuncId) (S : Nat → Prop) (L : List Nd) : Prop := ∀ (W : World) (A : Option Addr) (c : Nat), Ns S W A L.length L → (∀ k, S k → k < W.heap.size) →
  Calls Tryd.prog f #[.slice A L.length c] W (Gives fun v w' => ∃ A' c', v = .slice A' L.length c' ∧ Ns (fun k => W.heap.size ≤ k ∧ k < w'.heap.size) w' A' L.length L ∧ Below W.heap.size W w')

theorem ndinfo : (Tryd.prog.info? 41).map (fun i => (i.zero, i.size, i.bytes)) = some (some (.agg #[.string ⟨#[]⟩, .string ⟨#[]⟩, .slice none 0 0, .slice none 0 0]), 4, 80) := by kernel_rfl
theorem atinfo : (Tryd.prog.info? 63).map (fun i => (i.zero, i.size, i.bytes)) = some (some (.agg #[.string ⟨#[]⟩, .string ⟨#[]⟩]), 2, 32) := by kernel_rfl
theorem atCells_one (a : At) : ∀ u ∈ atCells a, u.oneCell' = true := by intro u hu; simp [atCells] at hu; rcases hu with rfl | rfl <;> rfl
/-- The first k trees have been copied into block b. -/
def DoneTo (lo b : Nat) (L : List Nd) (k : Nat) (w : World) : Prop :=
  ∀ i d, i < k → L[i]? = some d → ∃ (Aa : Option Addr) (ca : Nat) (Ak : Option Addr) (ck : Nat), w.cell? ⟨b, i * 4, none⟩ = some (.string (str d.name)) ∧ w.cell? ⟨b, i * 4 + 1, none⟩ = some (.string (str d.text)) ∧
    w.cell? ⟨b, i * 4 + 2, none⟩ = some (.slice Aa d.attrs.length ca) ∧ w.cell? ⟨b, i * 4 + 3, none⟩ = some (.slice Ak d.kids.length ck) ∧ Row (fun k => lo ≤ k ∧ k ≠ b) w 2 Aa d.attrs.length (d.attrs.flatMap atCells) ∧ Ns (fun k => lo ≤ k ∧ k ≠ b) w Ak d.kids.length d.kids
theorem DoneTo.behind {lo b : Nat} {L : List Nd} {k : Nat} {w w' : World} (h : DoneTo lo b L k w) (hb : Below w.heap.size w w') (hlt : b < w.heap.size) : DoneTo lo b L k w' := by
  intro i d hi hd
  obtain ⟨Aa, ca, Ak, ck, h0, h1, h2, h3, h4, h5⟩ := h i d hi hd
  exact ⟨Aa, ca, Ak, ck, (hb.cell (p := ⟨b, i * 4, none⟩) hlt).trans h0, (hb.cell (p := ⟨b, i * 4 + 1, none⟩) hlt).trans h1, (hb.cell (p := ⟨b, i * 4 + 2, none⟩) hlt).trans h2, (hb.cell (p := ⟨b, i * 4 + 3, none⟩) hlt).trans h3, h4.behind hb, h5.behind hb⟩

/-- One more. -/
theorem DoneTo.push {lo b : Nat} {L : List Nd} {k : Nat} {w : World} {cs : Array Value} {t : TypeId} {d : Nd} {Aa Ak : Option Addr} {ca ck : Nat} (h : DoneTo lo b L k w) (hB : Blk w b t cs) (hz : cs.size = L.length * 4) (hd : L[k]? = some d)
    (hr : Row (fun k => lo ≤ k ∧ k ≠ b) w 2 Aa d.attrs.length (d.attrs.flatMap atCells)) (hn : Ns (fun k => lo ≤ k ∧ k ≠ b) w Ak d.kids.length d.kids) :
    DoneTo lo b L (k + 1) ((((w.setCell ⟨b, k * 4, none⟩ (.string (str d.name))).setCell ⟨b, k * 4 + 1, none⟩ (.string (str d.text))).setCell ⟨b, k * 4 + 2, none⟩ (.slice Aa d.attrs.length ca)).setCell ⟨b, k * 4 + 3, none⟩ (.slice Ak d.kids.length ck)) := by
  have hlt : k < L.length := (List.getElem?_eq_some_iff.1 hd).1
  have hB4 := (((hB.set_ (k * 4) (.string (str d.name))).set_ (k * 4 + 1) (.string (str d.text))).set_ (k * 4 + 2) (.slice Aa d.attrs.length ca)).set_ (k * 4 + 3) (.slice Ak d.kids.length ck)
  have hK : Keep (fun j => j = b) w ((((w.setCell ⟨b, k * 4, none⟩ (.string (str d.name))).setCell ⟨b, k * 4 + 1, none⟩ (.string (str d.text))).setCell ⟨b, k * 4 + 2, none⟩ (.slice Aa d.attrs.length ca)).setCell ⟨b, k * 4 + 3, none⟩ (.slice Ak d.kids.length ck)) :=
    ((((Keep.refl (fun j => j = b) w).setCell (p := ⟨b, k * 4, none⟩) (.inl rfl) _).setCell (p := ⟨b, k * 4 + 1, none⟩) (.inl rfl) _).setCell (p := ⟨b, k * 4 + 2, none⟩) (.inl rfl) _).setCell (p := ⟨b, k * 4 + 3, none⟩) (.inl rfl) _
  generalize ((((w.setCell ⟨b, k * 4, none⟩ (.string (str d.name))).setCell ⟨b, k * 4 + 1, none⟩ (.string (str d.text))).setCell ⟨b, k * 4 + 2, none⟩ (.slice Aa d.attrs.length ca)).setCell ⟨b, k * 4 + 3, none⟩ (.slice Ak d.kids.length ck)) = w' at hB4 hK ⊢
  have hne : ∀ j, lo ≤ j ∧ j ≠ b → ¬ j = b := fun j h => h.2
  intro i x hi hx
  by_cases hik : i < k
  · obtain ⟨A1, c1, A2, c2, h0, h1, h2, h3, h4, h5⟩ := h i x hik hx
    refine ⟨A1, c1, A2, c2, ?_, ?_, ?_, ?_, h4.keep hK hne, h5.keep hK hne⟩
    · rw [← h0, hB4.cell, hB.cell]; simp only [Array.getElem?_setIfInBounds]; rw [if_neg (by omega), if_neg (by omega), if_neg (by omega), if_neg (by omega)]
    · rw [← h1, hB4.cell, hB.cell]; simp only [Array.getElem?_setIfInBounds]; rw [if_neg (by omega), if_neg (by omega), if_neg (by omega), if_neg (by omega)]
    · rw [← h2, hB4.cell, hB.cell]; simp only [Array.getElem?_setIfInBounds]; rw [if_neg (by omega), if_neg (by omega), if_neg (by omega), if_neg (by omega)]
    · rw [← h3, hB4.cell, hB.cell]; simp only [Array.getElem?_setIfInBounds]; rw [if_neg (by omega), if_neg (by omega), if_neg (by omega), if_neg (by omega)]
  · obtain rfl : i = k := by omega
    obtain rfl := Option.some.inj (hx.symm.trans hd)
    refine ⟨Aa, ca, Ak, ck, ?_, ?_, ?_, ?_, hr.keep hK hne, hn.keep hK hne⟩
    all_goals
      rw [hB4.cell]
      simp only [Array.getElem?_setIfInBounds, Array.size_setIfInBounds, hz]
      repeat (first | rw [if_pos trivial] | rw [if_neg (by omega)] | rw [if_pos (by omega)])
/-- Trees that lie one behind the other. -/
theorem NodesAt.lain {S : Nat → Prop} {w : World} {ad : Addr} : ∀ (L : List Nd) (k : Nat), (∀ i d, L[i]? = some d → ∃ (Aa : Option Addr) (ca : Nat) (Ak : Option Addr) (ck : Nat), w.cell? (ad.add ((k + i) * 4)) = some (.string (str d.name)) ∧ w.cell? (ad.add ((k + i) * 4 + 1)) = some (.string (str d.text)) ∧
      w.cell? (ad.add ((k + i) * 4 + 2)) = some (.slice Aa d.attrs.length ca) ∧ w.cell? (ad.add ((k + i) * 4 + 3)) = some (.slice Ak d.kids.length ck) ∧ Row S w 2 Aa d.attrs.length (d.attrs.flatMap atCells) ∧ Ns S w Ak d.kids.length d.kids) → NodesAt S w ad k L
  | [], k, h => by rw [NodesAt]; trivial
  | d :: rest, k, h => by
    obtain ⟨Aa, ca, Ak, ck, h0, h1, h2, h3, h4, h5⟩ := h 0 d rfl
    obtain ⟨nm, tx, ats, kids⟩ := d
    rw [NodesAt]
    exact ⟨⟨Aa, ca, Ak, ck, h0, h1, h2, h3, h4, h5.2⟩, NodesAt.lain rest (k + 1) fun i d hi => by
      have := h (i + 1) d (by simpa using hi)
      rw [show k + 1 + i = k + (i + 1) by omega]
      exact this⟩
theorem DoneTo.all {lo b : Nat} {L : List Nd} {w : World} (h : DoneTo lo b L L.length w) (hlo : lo ≤ b) (hlt : b < w.heap.size) : Ns (fun k => lo ≤ k ∧ k < w.heap.size) w (some ⟨b, 0, none⟩) L.length L := by
  refine ⟨rfl, fun _ => ⟨_, rfl, ⟨hlo, hlt⟩, NodesAt.lain L 0 fun i d hd => ?_⟩⟩
  obtain ⟨Aa, ca, Ak, ck, h0, h1, h2, h3, h4, h5⟩ := h i d (List.getElem?_eq_some_iff.1 hd).1 hd
  rw [addr_lit, addr_lit, addr_lit, addr_lit]
  simp only [Nat.zero_add]
  exact ⟨Aa, ca, Ak, ck, h0, h1, h2, h3, h4.more (fun k h1 h2 => ⟨h2.1, h1⟩) (by decide), h5.wide fun k h1 h2 => ⟨h2.1, h1⟩⟩

set_option maxHeartbeats 1000000 in
set_option maxRecDepth 100000 in
theorem copied_any (S : Nat → Prop) (L : List Nd) (hw : wt L ≤ 1048576) : CopiesAs 42 S L := by
  induction L using nds_ind with
  | _ L IH =>
  intro W A c hN hS
  have hll := wt_length L
  have HIH := Lib.hid (fun d (h : d ∈ L) => IH d h (by have := wt_mem h; omega))
  have HN := Lib.hid hN
  have HS := Lib.hid (fun (W' : World) (h : W.heap.size ≤ W'.heap.size) (k : Nat) (hk : S k) => Nat.lt_of_lt_of_le (hS k hk) h)
  clear IH hN hS
  obtain ⟨i0, hi, hz0, hz1, hz2⟩ := info_parts ndinfo
  obtain ⟨j0, hj, hy0, hy1, hy2⟩ := info_parts atinfo
  obtain ⟨C, -, hC, hmk⟩ := run_make_any (P := Tryd.prog) 25 41 i0 _ Tryd.underlying25 hi hz0 (L.length : Int) (L.length : Int) (by omega) (by omega) (by rw [hz2]; omega) (by omega)
  simp only [Int.toNat_natCast, hz1] at hC hmk
  go_enter Tryd.func42, Tryd.ntmps42
  have HC := Lib.hid hC
  clear hC
  go_wp2_with fail
  go_loopw [11] (fun i wr => ∃ (k : Nat), k ≤ L.length ∧ i = .int .i64 k ∧ Hid (∃ cs, Blk wr W.heap.size 41 cs ∧ cs.size = L.length * 4) ∧ Hid (DoneTo W.heap.size W.heap.size L k wr) ∧ Hid (Below W.heap.size W wr)) (fun i _ => L.length - (intOf i).toNat)
  case atStart => exact ⟨0, Nat.zero_le _, rfl, ⟨C, Blk.new W _ _, HC.out⟩, fun i d h => absurd h (by omega), (Below.refl _ _).alloc (Nat.le_refl _) _⟩
  case round =>
    obtain ⟨k, hk, rfl, HK, HD, HB⟩ := hrel
    obtain ⟨cs, hcs, hcz⟩ := HK.out
    by_cases hlt : k < L.length
    · obtain ⟨x, hx⟩ : ∃ x, L[k]? = some x := ⟨L[k], List.getElem?_eq_getElem hlt⟩
      have hmem := List.mem_of_getElem? hx
      obtain ⟨ad, Aa, ca, Ak, ck, rfl, hsa, hsb, c0, c1, c2, c3, hra, hnk⟩ := (HN.out.behind HB.out).get hx
      have lb := HB.out.size
      have hbl := HS.out W (Nat.le_refl _) _ hsa
      have hbl2 := HS.out W (Nat.le_refl _) _ hsb
      have hblt := hcs.lt
      have i1 : (0 : Int) ≤ (k : Int) := by omega
      have i2 : (k : Int) < (L.length : Int) := by omega
      have i3 : decide ((k : Int) < (L.length : Int)) = true := decide_eq_true i2
      have hwx := wt_mem hmem
      have hal := awt_length x.attrs
      have IHd := HIH.out x hmem
      have HNK := Lib.hid hnk
      have HRA := Lib.hid hra
      have HID := Lib.hid IHd
      have HX := Lib.hid hx
      have HCS := Lib.hid hcs
      clear hx hmem hra hnk IHd hcs HK
      go_wp2_with fail
      obtain ⟨W1, hW1⟩ : ∃ W1, wr.alloc (.cells #[.string (str x.name), .string (str x.text), .slice Aa x.attrs.length ca, .slice Ak x.kids.length ck] 41) = W1 := ⟨_, rfl⟩
      rw [hW1]
      have hb1 : Below wr.heap.size wr W1 := by rw [← hW1]; exact (Below.refl _ wr).alloc (Nat.le_refl _) _
      have y1 : Blk W1 wr.heap.size 41 #[.string (str x.name), .string (str x.text), .slice Aa x.attrs.length ca, .slice Ak x.kids.length ck] := by rw [← hW1]; exact Blk.new _ _ _
      have y1l := y1.lt
      have a0 := y1.cell 0
      have a1 := y1.cell 1
      have a2 := y1.cell 2
      have a3 := y1.cell 3
      simp only [List.getElem?_toArray, List.getElem?_cons_zero, List.getElem?_cons_succ] at a0 a1 a2 a3
      have Y1 := Lib.hid y1
      have V1 := Lib.hid hb1
      have l1 := hb1.size
      clear hW1 hb1 y1 c0 c1 c2 c3
      refine wp_region_plan (S := fun w' => w'.cell? ⟨wr.heap.size, 0, none⟩ = some (.string (str x.name)) ∧ w'.cell? ⟨wr.heap.size, 1, none⟩ = some (.string (str x.text)) ∧ w'.cell? ⟨wr.heap.size, 2, none⟩ = some (.slice Aa x.attrs.length ca) ∧ w'.cell? ⟨wr.heap.size, 3, none⟩ = some (.slice Ak x.kids.length ck)) 14
        [(0, true), (1, true), (2, true), (3, true), (4, true), (5, true), (6, true), (7, true), (9, true), (10, true), (8, false), (11, false), (12, true), (13, true), (14, false)] (by kernel_rfl) (by kernel_rfl) ?_ (fun hHeld => ?_)
      · exact ⟨a0, a1, a2, a3⟩
      iterate 10 (refine plan_take (v := ?_) rfl (by assumption) rfl (fun _ _ _ h => h) ?_ ?_; rotate_left; (· (intro w hSw; (try dsimp only at hSw); go_simp; try with_reducible rfl)); all_goals (simp only [Act.put, List.getElem_toArray, List.getElem_cons_zero, List.getElem_cons_succ, List.setIfInBounds_toArray, List.set_cons_zero, List.set_cons_succ]))
      refine plan_op rfl (by decide) (fun K hK => ?_)
      simp only [List.getElem_toArray, List.getElem_cons_zero, List.getElem_cons_succ]
      refine step_append_out (a := ⟨_, _⟩) _ (by rfl) _ _ 39 (by rfl) W1.heap.size 63 j0 _ 2 32 Tryd.underlying39 hj hy0 hy1 hy2 rfl (by decide) (Value.slice none 0 0) 0 [] (by rfl) (World.ownsRow_nil _ _ _ _) S Aa x.attrs.length ca (x.attrs.flatMap atCells) (by rfl) ((HRA.out.behind V1.out).drew) (fm_one atCells_one x.attrs) (by simp only [maxLen]; omega) (by omega) (by first | exact Nat.le_refl _ | (simp)) ?_
      intro A3 c3 w3 hown3 hg3 _ _
      rw [Nat.zero_add] at hown3 ⊢
      rw [List.nil_append] at hown3
      have hb3 : Below W1.heap.size W1 w3 := ((Below.refl W1.heap.size W1).drew).grown hg3 (Nat.le_refl _) (by intro k hk; simp [Value.ownBlock] at hk)
      have t0 := (hb3.cell (p := ⟨wr.heap.size, 0, none⟩) y1l).trans a0
      have t1 := (hb3.cell (p := ⟨wr.heap.size, 1, none⟩) y1l).trans a1
      have t2 := (hb3.cell (p := ⟨wr.heap.size, 2, none⟩) y1l).trans a2
      have t3 := (hb3.cell (p := ⟨wr.heap.size, 3, none⟩) y1l).trans a3
      have hrow3 := Row.of_own hown3
      have ROW := Lib.hid hrow3
      have V3 := Lib.hid (V1.out.trans (hb3.mono l1))
      have l3 := hb3.size
      clear hown3 hg3 hb3 a0 a1 a2 a3 hrow3
      refine hK.out _ _ ⟨t0, t1, t2, t3⟩ (fun hHeld => ?_)
      clear hK K
      simp only [Act.put, List.setIfInBounds_toArray, List.set_cons_zero, List.set_cons_succ]
      refine plan_op rfl (by decide) (fun K hK => ?_)
      go_simp
      have IHD := Lib.hid (HID.out w3 Ak ck (HNK.out.behind V3.out) (HS.out w3 (by omega)))
      refine IHD.out.mono ?_
      rintro e w4 ⟨v4, rfl, A4, c4, rfl, hn4, hb4⟩
      have s0 := (hb4.cell (p := ⟨wr.heap.size, 0, none⟩) (by simp; omega)).trans t0
      have s1 := (hb4.cell (p := ⟨wr.heap.size, 1, none⟩) (by simp; omega)).trans t1
      have s2 := (hb4.cell (p := ⟨wr.heap.size, 2, none⟩) (by simp; omega)).trans t2
      have s3 := (hb4.cell (p := ⟨wr.heap.size, 3, none⟩) (by simp; omega)).trans t3
      have V4 := Lib.hid (V3.out.trans (hb4.mono V3.out.size))
      have ROW4 := Lib.hid (ROW.out.behind hb4)
      have NS4 := Lib.hid hn4
      have l4 := hb4.size
      have b4 := HCS.out.below V4.out hblt
      have g0 := (b4.cell (k * 4)).trans (Array.getElem?_eq_getElem (by omega))
      have g1 := (b4.cell (k * 4 + 1)).trans (Array.getElem?_eq_getElem (by omega))
      have g2 := (b4.cell (k * 4 + 2)).trans (Array.getElem?_eq_getElem (by omega))
      have g3 := (b4.cell (k * 4 + 3)).trans (Array.getElem?_eq_getElem (by omega))
      have f0 := b4.frozen (k * 4)
      have f1 := b4.frozen (k * 4 + 1)
      have f2 := b4.frozen (k * 4 + 2)
      have f3 := b4.frozen (k * 4 + 3)
      have B4 := Lib.hid b4
      clear hn4 hb4 b4 t0 t1 t2 t3
      refine hK.out _ _ ⟨s0, s1, s2, s3⟩ (fun hHeld => ?_)
      clear hK K
      try simp only [Act.put, List.getElem_toArray, List.getElem_cons_zero, List.getElem_cons_succ, List.setIfInBounds_toArray, List.set_cons_zero, List.set_cons_succ]
      iterate 2 (refine plan_take (v := ?_) rfl (by assumption) rfl (fun _ _ _ h => h) ?_ ?_; rotate_left; (· (intro w hSw; (try dsimp only at hSw); go_simp; try with_reducible rfl)); all_goals (simp only [Act.put, List.getElem_toArray, List.getElem_cons_zero, List.getElem_cons_succ, List.setIfInBounds_toArray, List.set_cons_zero, List.set_cons_succ]))
      refine plan_last rfl (by decide) (fun K hK => ?_)
      simp only [List.getElem_toArray, List.getElem_cons_zero, List.getElem_cons_succ]
      go_simp
      refine hK.out _ _ ?_
      clear hK K
      simp only [wpPlan]
      have hb4' := V4.out
      go_wp2
      go_roundw
      case rel =>
        refine ⟨k + 1, by omega, by go_num, ⟨_, (((B4.out.set_ _ _).set_ _ _).set_ _ _).set_ _ _, by simp; exact hcz⟩, ?_, ?_⟩
        · refine (HD.out.behind V4.out hblt).push B4.out hcz HX.out ?_ ?_
          · exact ROW4.out.more (fun j _ hj => ⟨by omega, by omega⟩) (by decide)
          · exact NS4.out.wide (fun j _ hj => ⟨by omega, by omega⟩)
        · have hb := HB.out.trans (V4.out.mono lb)
          exact (((hb.setCell (p := ⟨W.heap.size, k * 4, none⟩) (Nat.le_refl _) _).setCell (p := ⟨W.heap.size, k * 4 + 1, none⟩) (Nat.le_refl _) _).setCell (p := ⟨W.heap.size, k * 4 + 2, none⟩) (Nat.le_refl _) _).setCell (p := ⟨W.heap.size, k * 4 + 3, none⟩) (Nat.le_refl _) _
      case measure => simp [intOf]; omega
    · have hkm : k = L.length := by omega
      subst hkm
      go_wp2
      go_ret
      exact ⟨_, rfl, _, _, rfl, (HD.out.all (Nat.le_refl _) hcs.lt), HB.out⟩
end Go.Proofs.YtcogoiphpfgkdaaDoor
namespace Go.Proofs.YtcogoiphpfgkdaaDoor
open Go.RowKit
set_option linter.unusedVariables false

/-- These cells are these trees'. -/
def Cells (S : Nat → Prop) (w : World) : List Value → List Nd → Prop
  | [], [] => True
  | v0 :: v1 :: v2 :: v3 :: xs, d :: L => (∃ (Aa : Option Addr) (ca : Nat) (Ak : Option Addr) (ck : Nat), v0 = .string (str d.name) ∧ v1 = .string (str d.text) ∧ v2 = .slice Aa d.attrs.length ca ∧ v3 = .slice Ak d.kids.length ck ∧
      Row S w 2 Aa d.attrs.length (d.attrs.flatMap atCells) ∧ Ns S w Ak d.kids.length d.kids) ∧ Cells S w xs L
  | _, _ => False
section
variable {S T : Nat → Prop} {w w' : World}
theorem Cells.length : ∀ {L : List Nd} {xs : List Value}, Cells S w xs L → xs.length = L.length * 4
  | [], [], _ => rfl
  | d :: L, v0 :: v1 :: v2 :: v3 :: xs, h => by
    have := Cells.length h.2
    simp only [List.length_cons]
    omega
  | [], _ :: _, h => by simp [Cells] at h
  | _ :: _, [], h => by simp [Cells] at h
  | _ :: _, [_], h => by simp [Cells] at h
  | _ :: _, [_, _], h => by simp [Cells] at h
  | _ :: _, [_, _, _], h => by simp [Cells] at h
theorem Cells.one : ∀ {L : List Nd} {xs : List Value}, Cells S w xs L → ∀ u ∈ xs, u.oneCell' = true
  | [], [], _ => by simp
  | d :: L, v0 :: v1 :: v2 :: v3 :: xs, h => by
    obtain ⟨⟨_, _, _, _, rfl, rfl, rfl, rfl, _, _⟩, h2⟩ := h
    have := Cells.one h2
    intro u hu
    simp only [List.mem_cons] at hu
    rcases hu with rfl | rfl | rfl | rfl | hu
    · rfl
    · rfl
    · rfl
    · rfl
    · exact this u hu
  | [], _ :: _, h => by simp [Cells] at h
  | _ :: _, [], h => by simp [Cells] at h
  | _ :: _, [_], h => by simp [Cells] at h
  | _ :: _, [_, _], h => by simp [Cells] at h
  | _ :: _, [_, _, _], h => by simp [Cells] at h
theorem Cells.append : ∀ {L M : List Nd} {xs ys : List Value}, Cells S w xs L → Cells S w ys M → Cells S w (xs ++ ys) (L ++ M)
  | [], M, [], ys, _, h => h
  | d :: L, M, v0 :: v1 :: v2 :: v3 :: xs, ys, h, k => ⟨h.1, Cells.append h.2 k⟩
  | [], _, _ :: _, _, h, _ => by simp [Cells] at h
  | _ :: _, _, [], _, h, _ => by simp [Cells] at h
  | _ :: _, _, [_], _, h, _ => by simp [Cells] at h
  | _ :: _, _, [_, _], _, h, _ => by simp [Cells] at h
  | _ :: _, _, [_, _, _], _, h, _ => by simp [Cells] at h
theorem Cells.imp (hr : ∀ A n xs, Row S w 2 A n xs → Row T w' 2 A n xs) (hn : ∀ A n L, Ns S w A n L → Ns T w' A n L) : ∀ {L : List Nd} {xs : List Value}, Cells S w xs L → Cells T w' xs L
  | [], [], h => trivial
  | d :: L, v0 :: v1 :: v2 :: v3 :: xs, h => by
    obtain ⟨⟨Aa, ca, Ak, ck, h0, h1, h2, h3, h4, h5⟩, h6⟩ := h
    exact ⟨⟨Aa, ca, Ak, ck, h0, h1, h2, h3, hr _ _ _ h4, hn _ _ _ h5⟩, Cells.imp hr hn h6⟩
  | [], _ :: _, h => by simp [Cells] at h
  | _ :: _, [], h => by simp [Cells] at h
  | _ :: _, [_], h => by simp [Cells] at h
  | _ :: _, [_, _], h => by simp [Cells] at h
  | _ :: _, [_, _, _], h => by simp [Cells] at h
theorem Cells.behind {L : List Nd} {xs : List Value} (h : Cells S w xs L) (hb : Below w.heap.size w w') : Cells S w' xs L := h.imp (fun _ _ _ h => h.behind hb) fun _ _ _ h => h.behind hb
theorem Cells.keep {L : List Nd} {xs : List Value} (h : Cells S w xs L) (hk : Keep T w w') (hST : ∀ k, S k → ¬ T k) : Cells S w' xs L := h.imp (fun _ _ _ h => h.keep hk hST) fun _ _ _ h => h.keep hk hST
theorem Cells.wide {L : List Nd} {xs : List Value} (h : Cells S w xs L) (hk : ∀ k, k < w.heap.size → S k → T k) : Cells T w xs L := h.imp (fun _ _ _ h => h.more hk (by decide)) fun _ _ _ h => h.wide hk
theorem Cells.nodesAt {ad : Addr} : ∀ (L : List Nd) (xs : List Value) (k : Nat), Cells S w xs L → (∀ j u, xs[j]? = some u → w.cell? (ad.add (k * 4 + j)) = some u) → NodesAt S w ad k L
  | [], [], k, _, _ => by rw [NodesAt]; trivial
  | d :: L, v0 :: v1 :: v2 :: v3 :: xs, k, h, hc => by
    obtain ⟨⟨Aa, ca, Ak, ck, rfl, rfl, rfl, rfl, h4, h5⟩, h6⟩ := h
    obtain ⟨nm, tx, ats, kids⟩ := d
    rw [NodesAt]
    refine ⟨⟨Aa, ca, Ak, ck, hc 0 _ rfl, hc 1 _ rfl, hc 2 _ rfl, hc 3 _ rfl, h4, h5.2⟩, Cells.nodesAt L xs (k + 1) h6 fun j u hu => ?_⟩
    have := hc (j + 4) u (by simpa using hu)
    rwa [show k * 4 + (j + 4) = (k + 1) * 4 + j by omega] at this
  | [], _ :: _, _, h, _ => by simp [Cells] at h
  | _ :: _, [], _, h, _ => by simp [Cells] at h
  | _ :: _, [_], _, h, _ => by simp [Cells] at h
  | _ :: _, [_, _], _, h, _ => by simp [Cells] at h
  | _ :: _, [_, _, _], _, h, _ => by simp [Cells] at h
theorem NodesAt.cells {ad : Addr} : ∀ (L : List Nd) (k : Nat), NodesAt S w ad k L → ∃ xs, Cells S w xs L ∧ ∀ j u, xs[j]? = some u → w.cell? (ad.add (k * 4 + j)) = some u
  | [], k, _ => ⟨[], trivial, fun j u h => by simp at h⟩
  | .mk nm tx ats kids :: L, k, h => by
    rw [NodesAt] at h
    obtain ⟨⟨Aa, ca, Ak, ck, h0, h1, h2, h3, h4, h5⟩, h6⟩ := h
    obtain ⟨xs, g1, g2⟩ := NodesAt.cells L (k + 1) h6
    refine ⟨_ :: _ :: _ :: _ :: xs, ⟨⟨Aa, ca, Ak, ck, rfl, rfl, rfl, rfl, h4, rfl, h5⟩, g1⟩, fun j u hu => ?_⟩
    match j, hu with
    | 0, hu => obtain rfl := Option.some.inj hu; exact h0
    | 1, hu => obtain rfl := Option.some.inj hu; exact h1
    | 2, hu => obtain rfl := Option.some.inj hu; exact h2
    | 3, hu => obtain rfl := Option.some.inj hu; exact h3
    | j + 4, hu =>
      have := g2 j u (by simpa using hu)
      rwa [show (k + 1) * 4 + j = k * 4 + (j + 4) by omega] at this
/-- A slice of trees as a row of cells, and back. -/
theorem Ns.row {A : Option Addr} {n : Nat} {L : List Nd} (h : Ns S w A n L) : ∃ xs, Row S w 4 A n xs ∧ Cells S w xs L := by
  obtain ⟨rfl, h⟩ := h
  by_cases hL : L = []
  · subst hL
    exact ⟨[], Row.none_, trivial⟩
  · obtain ⟨ad, e, hs, h1⟩ := h hL
    obtain ⟨xs, g1, g2⟩ := NodesAt.cells L 0 h1
    exact ⟨xs, ⟨g1.length, fun _ => ⟨ad, e, hs, fun j u hu => by have := g2 j u hu; rwa [Nat.zero_mul, Nat.zero_add] at this⟩⟩, g1⟩
theorem Cells.ns {A : Option Addr} {n : Nat} {L : List Nd} {xs : List Value} (h : Cells S w xs L) (hr : Row S w 4 A n xs) : Ns S w A n L := by
  have hl := h.length
  have hn := hr.1
  refine ⟨by omega, fun hL => ?_⟩
  obtain ⟨ad, e, hs, hc⟩ := hr.2 (by have := List.length_pos_iff.2 hL; omega)
  exact ⟨ad, e, hs, h.nodesAt L xs 0 fun j u hu => by rw [Nat.zero_mul, Nat.zero_add]; exact hc j u hu⟩
end
end Go.Proofs.YtcogoiphpfgkdaaDoor
