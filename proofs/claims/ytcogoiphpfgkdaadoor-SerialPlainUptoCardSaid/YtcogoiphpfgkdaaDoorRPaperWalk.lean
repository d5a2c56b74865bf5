/-
  The reference's lines: breaks, nodes.
-/
import Derived.Test.YtcogoiphpfgkdaaDoorPaperNodes
import Derived.Test.YtcogoiphpfgkdaaDoorRPaperText
import Derived.Test.YtcogoiphpfgkdaaDoorPaperWalk
namespace Go.Proofs.YtcogoiphpfgkdaaDoor
open Go.RowKit
set_option linter.unusedVariables false
set_option linter.unusedSimpArgs false

def RNodesLAs (S : Nat → Prop) (w0 : World) (L : List Nd) : Prop := ∀ (kept : Bool) (s : Ls) (W : World) (A : Option Addr) (c bp : Nat), mayB L = true → Ns S w0 A L.length L → LinAt W w0.heap.size bp s → Below w0.heap.size w0 W → s.sz + 15 * wt L ≤ 67108864 →
  Calls Tryd.prog 51 #[.pointer (some ⟨bp, 0, none⟩), .slice A L.length c, .bool kept] W fun e w' => e = .returned (.tuple #[]) ∧ LinAt w' w0.heap.size bp (nodesL L kept s) ∧ Fr w0.heap.size W w'

theorem rsz_after {w : World} {lo bp n : Nat} {L : List Nd} {k : Bool} {s : Ls} (h : LinAt w lo bp (nodesL L k s)) (hs : s.sz ≤ n) : (nodesL L k s).sz ≤ n + 15 * wt L := Nat.le_trans (sz_nodes L k s) (Nat.add_le_add_right hs _)
/-- The mark is set. -/
theorem LinAt.mark {w : World} {lo bp : Nat} {s : Ls} (h : LinAt w lo bp s) (m : Bool) : LinAt (w.setCell ⟨bp, 2, none⟩ (.string (str (markB m)))) lo bp ⟨s.told, s.line, m⟩ ∧ Fr lo w (w.setCell ⟨bp, 2, none⟩ (.string (str (markB m)))) := by
  obtain ⟨hlo, vl, hb, hl⟩ := h
  exact lin_line hlo hb hl ((Keep.refl (fun k => k = bp ∨ vl.ownBlock = some k) w).setCell (p := ⟨bp, 2, none⟩) (.inl (.inl rfl)) _) (hb.set_ 2 _) (own_setCell hl (p := ⟨bp, 2, none⟩) (own_ne hl hb (by decide)) _)
theorem LinAt.mark_cell {w : World} {lo bp : Nat} {s : Ls} (h : LinAt w lo bp s) : w.cell? ⟨bp, 2, none⟩ = some (.string (str (markB s.mark))) ∧ w.frozen? ⟨bp, 2, none⟩ = false := by
  obtain ⟨hlo, vl, hb, hl⟩ := h
  exact ⟨hb.cell 2, hb.frozen 2⟩
theorem may_kids {L : List Nd} (h : mayB L = true) {d : Nd} (hd : d ∈ L) : (d.name ≠ [] → mayB d.kids = true) ∧ (d.name = [98, 114] → d.kids = []) := by
  induction L with
  | nil => cases hd
  | cons x L ih =>
    rw [mayB_cons, Bool.and_eq_true] at h
    rcases List.mem_cons.1 hd with rfl | hd
    · have h1 := h.1
      unfold mayOne at h1
      refine ⟨fun hn => ?_, fun hn => ?_⟩
      · rw [mayF_elem hn] at h1
        simp only [Bool.and_eq_true] at h1
        exact h1.2
      · rw [mayF_elem (by rw [hn]; decide), hn, show decide (([98, 114] : List UInt8) ∈ setNames0) = true by decide +kernel] at h1
        simp only [Bool.and_eq_true, Bool.true_and, Bool.not_not] at h1
        simpa using h1.1.2
    · exact ih h.2 hd
set_option maxHeartbeats 1000000 in
set_option maxRecDepth 100000 in
theorem breaks_any (nm : List UInt8) (w : World) : Calls Tryd.prog 73 #[.string (str nm)] w fun e w' => e = .returned (.bool (linedB nm)) ∧ Below w.heap.size w w' := by
  have K6 := Lib.hid (rin6_any nm w)
  have K14 := Lib.hid (fun W => rin14_any nm W)
  unfold linedB
  obtain ⟨b6, h6⟩ : ∃ b, decide (nm ∈ setNames6) = b := ⟨_, rfl⟩
  obtain ⟨b14, h14⟩ : ∃ b, decide (nm ∈ setNames14) = b := ⟨_, rfl⟩
  rw [h6] at K6 ⊢
  rw [h14] at K14 ⊢
  obtain ⟨t1, ht1⟩ : ∃ b, (nm == [116, 100]) = b := ⟨_, rfl⟩
  obtain ⟨t2, ht2⟩ : ∃ b, (nm == [116, 104]) = b := ⟨_, rfl⟩
  have hn1 : (nm != [116, 100]) = !t1 := by rw [bne, ht1]
  have hn2 : (nm != [116, 104]) = !t2 := by rw [bne, ht2]
  rw [ht1, ht2]
  clear h6 h14
  go_enter Tryd.func73, Tryd.ntmps73
  go_wp2_with fail
  refine K6.out.mono ?_
  rintro e w1 ⟨rfl, hb1⟩
  cases b6 with
  | true =>
    go_wp2
    go_ret
    exact ⟨rfl, hb1⟩
  | false =>
    have B1 := Lib.hid hb1
    clear hb1
    go_wp2_with fail
    refine (K14.out w1).mono ?_
    rintro e w2 ⟨rfl, hb2⟩
    have B2 := Lib.hid (B1.out.trans (hb2.mono B1.out.size))
    clear hb2
    cases b14 with
    | false =>
      go_wp2
      go_ret
      exact ⟨rfl, B2.out⟩
    | true =>
      cases t1 with
      | true =>
        go_wp2
        go_ret
        exact ⟨rfl, B2.out⟩
      | false =>
        cases t2 with
        | true =>
          go_wp2
          go_ret
          exact ⟨rfl, B2.out⟩
        | false =>
          go_wp2
          go_ret
          exact ⟨rfl, B2.out⟩

set_option maxHeartbeats 4000000 in
set_option maxRecDepth 100000 in
theorem rnodesL_any (S : Nat → Prop) (w0 : World) (hS : ∀ k, S k → k < w0.heap.size) (L : List Nd) (hl : wt L ≤ 1048576) : RNodesLAs S w0 L := by
  induction L using nds_ind with
  | _ L IH =>
  intro kept s W A c bp hY hN hP hW hM
  have hll := wt_length L
  have HIH := Lib.hid (fun d (h : d ∈ L) => IH d h (by have := wt_mem h; omega))
  have HN := Lib.hid hN
  have HS := Lib.hid hS
  have HMY := Lib.hid (fun d (h : d ∈ L) => may_kids hY h)
  have HP := Lib.hid hP
  have HW := Lib.hid hW
  have hPl := hP.lt
  obtain ⟨R, hR⟩ : ∃ R, nodesL L kept s = R := ⟨_, rfl⟩
  rw [hR]
  have HR := Lib.hid hR
  have HM := Lib.hid hM
  clear IH hN hS hY hP hW hR hM
  go_enter Tryd.func51, Tryd.ntmps51
  go_wp2_with fail
  go_loopw [10] (fun i wr => ∃ (k : Nat) (s1 : Ls), k ≤ L.length ∧ i = .int .i64 k ∧ Hid (nodesL (L.drop k) kept s1 = R) ∧ Hid (s1.sz + 15 * wt (L.drop k) ≤ 67108864) ∧ Hid (LinAt wr w0.heap.size bp s1) ∧ Hid (Fr w0.heap.size W wr)) (fun i _ => L.length - (intOf i).toNat)
  case atStart => exact ⟨0, s, Nat.zero_le _, rfl, HR.out, HM.out, HP.out, Fr.refl _ _⟩
  case round =>
    obtain ⟨k, s1, hk, rfl, HK, HMr, HPr, HF⟩ := hrel
    by_cases hlt : k < L.length
    · obtain ⟨x, hx⟩ : ∃ x, L[k]? = some x := ⟨L[k], List.getElem?_eq_getElem hlt⟩
      have hmem := List.mem_of_getElem? hx
      have hb0 := HW.out.trans HF.out.below
      obtain ⟨ad, Aa, ca, Ak, ck, rfl, hsa, hsb, c0, c1, c2, c3, hra, hnk⟩ := HN.out.get hx
      replace c0 := (hb0.cell (p := ad.add (k * 4)) (HS.out _ hsb)).trans c0
      replace c1 := (hb0.cell (p := ⟨(ad.add (k * 4)).block, (ad.add (k * 4)).off + 1, none⟩) (HS.out _ hsb)).trans c1
      replace c2 := (hb0.cell (p := ⟨(ad.add (k * 4)).block, (ad.add (k * 4)).off + 2, none⟩) (HS.out _ hsb)).trans c2
      replace c3 := (hb0.cell (p := ⟨(ad.add (k * 4)).block, (ad.add (k * 4)).off + 3, none⟩) (HS.out _ hsb)).trans c3
      have hdk : L.drop k = x :: L.drop (k + 1) := by
        rw [List.drop_eq_getElem_cons hlt]
        rw [List.getElem?_eq_getElem hlt] at hx
        rw [Option.some.inj hx]
      have hv := HK.out
      have hm := HMr.out
      rw [hdk, nodesL_cons] at hv
      rw [hdk, wt_cons] at hm
      have hs1 := sz_one kept x.name x.text (fun k t => nodesL x.kids k t) (wt x.kids) (fun k t => sz_nodes x.kids k t) s1
      have i1 : (0 : Int) ≤ (k : Int) := by omega
      have i2 : (k : Int) < (L.length : Int) := by omega
      have l0 := hb0.size
      have hbl := HS.out _ hsa
      have hbl2 := HS.out _ hsb
      have HID := Lib.hid (HIH.out x hmem)
      have hmy := HMY.out x hmem
      have HNK := Lib.hid hnk
      have HB0 := Lib.hid hb0
      obtain ⟨nm, tx, ats, kids⟩ := x
      simp only [Nd.name, Nd.text, Nd.attrs, Nd.kids] at c0 c1 c2 c3 hv hm hs1 HID HNK hmy
      clear hdk hx hmem hra hnk hb0 HK HMr
      obtain ⟨W1, hW1⟩ : ∃ W1, wr.alloc (.cells #[.string (str nm), .string (str tx), .slice Aa ats.length ca, .slice Ak kids.length ck] 41) = W1 := ⟨_, rfl⟩
      have hb1 : Below wr.heap.size wr W1 := by rw [← hW1]; exact (Below.refl _ wr).alloc (Nat.le_refl _) _
      have y1 : Blk W1 wr.heap.size 41 #[.string (str nm), .string (str tx), .slice Aa ats.length ca, .slice Ak kids.length ck] := by rw [← hW1]; exact Blk.new _ _ _
      have a0 := y1.cell 0
      have a1 := y1.cell 1
      have a3 := y1.cell 3
      simp only [List.getElem?_toArray, List.getElem?_cons_zero, List.getElem?_cons_succ] at a0 a1 a3
      have y1l := y1.lt
      have HY := Lib.hid y1
      have HB1 := Lib.hid (HB0.out.trans (hb1.mono l0))
      have HCUR := Lib.hid (HPr.out.behind hb1)
      have HFR := Lib.hid (Fr.refl w0.heap.size W1)
      have HF1 := Lib.hid (HF.out.trans (Fr.of_below (lo := w0.heap.size) hb1 l0))
      have HSZ := Lib.hid (show s1.sz ≤ 67108864 - 15 * (1 + tx.length + wt kids) by omega)
      have HFIN := Lib.hid (fun (t : Ls) (w5 : World) (e : t = oneL kept nm tx (fun k t => nodesL kids k t) s1) (hp : LinAt w5 w0.heap.size bp t) (hf : Fr w0.heap.size W1 w5) =>
        (show ∃ (k' : Nat) (s1 : Ls), k' ≤ L.length ∧ Value.int .i64 ((k + 1 : Nat) : Int) = .int .i64 k' ∧ Hid (nodesL (L.drop k') kept s1 = R) ∧ Hid (s1.sz + 15 * wt (L.drop k') ≤ 67108864) ∧ Hid (LinAt w5 w0.heap.size bp s1) ∧ Hid (Fr w0.heap.size W w5) from
          ⟨k + 1, t, by omega, rfl, Lib.hid (by rw [e]; exact hv), Lib.hid (by rw [e]; omega), hp, HF1.out.trans hf⟩))
      have m3 := HCUR.out.mark_cell.1
      have m4 := HCUR.out.mark_cell.2
      have hml : 15 * (1 + tx.length + wt kids) ≤ 67108864 := by omega
      clear hb1 y1 hv hs1 HF HPr HB0
      by_cases h0 : nm = []
      · subst h0
        have KT := Lib.hid (rtextL_any HCUR.out tx kept (by have := HSZ.out; omega))
        go_wp2_with fail
        refine KT.out.mono ?_
        rintro e w5 ⟨rfl, h5, f5⟩
        have H5 := Lib.hid h5
        have F5 := Lib.hid f5
        clear h5 f5
        go_wp2
        go_roundw
        case rel => exact HFIN.out _ _ (by simp [oneL]) H5.out F5.out
        case measure => simp [intOf]; omega
      have KL := Lib.hid (fun W => breaks_any nm W)
      have KW := Lib.hid (fun W => rraw_any nm W)
      have KK := Lib.hid (fun (kp : Bool) (st : Ls) (w6 : World) (hp : LinAt w6 w0.heap.size bp st) (hb : Below w0.heap.size w0 w6) (hz : st.sz + 15 * wt kids ≤ 67108864) => HID.out kp st w6 Ak ck bp (hmy.1 h0) HNK.out hp hb hz)
      by_cases h1 : nm = [98, 114]
      · subst h1
        have HKN := Lib.hid (hmy.2 rfl)
        clear hmy
        have hlf : linedB [98, 114] = false := by decide +kernel
        rw [hlf] at KL
        rw [show decide (([98, 114] : List UInt8) ∈ rawNames) = false by decide] at KW
        cases kept <;> go_wp2_with (first | (go_at_call 73; refine (KL.out _).mono ?_; rintro e w5 ⟨rfl, hb5⟩; have h5 := HCUR.out.behind hb5; have f5 := Fr.of_below (lo := w0.heap.size) hb5 (HB1.out.trans HFR.out.below).size; (try (replace x2 := (hb5.cell (p := ⟨bp, 1, none⟩) HCUR.out.lt.2).trans x2)); clear hb5; replace HCUR := Lib.hid h5; replace HFR := Lib.hid (HFR.out.trans f5); replace HY := Lib.hid (f5.blk HY.out oddT_node); replace a0 := HY.out.cell 0; replace a3 := HY.out.cell 3; replace m3 := HCUR.out.mark_cell.1; replace m4 := HCUR.out.mark_cell.2; simp only [List.getElem?_toArray, List.getElem?_cons_zero, List.getElem?_cons_succ] at a0 a3; clear h5 f5) | (go_at_call 39; refine (KW.out _).mono ?_; rintro e w5 ⟨rfl, hb5⟩; have h5 := HCUR.out.behind hb5; have f5 := Fr.of_below (lo := w0.heap.size) hb5 (HB1.out.trans HFR.out.below).size; clear hb5; replace HCUR := Lib.hid h5; replace HFR := Lib.hid (HFR.out.trans f5); replace HY := Lib.hid (f5.blk HY.out oddT_node); replace a0 := HY.out.cell 0; replace a3 := HY.out.cell 3; replace m3 := HCUR.out.mark_cell.1; replace m4 := HCUR.out.mark_cell.2; simp only [List.getElem?_toArray, List.getElem?_cons_zero, List.getElem?_cons_succ] at a0 a3; clear h5 f5) | (go_at_call 52; refine (rend_any HCUR.out (by have := HSZ.out; unfold Ls.sz at this; omega)).mono ?_; rintro e w5 ⟨rfl, h5, f5⟩; replace HSZ := Lib.hid (Nat.le_trans (sz_fin _) HSZ.out); replace HCUR := Lib.hid h5; replace HFR := Lib.hid (HFR.out.trans f5); replace HY := Lib.hid (f5.blk HY.out oddT_node); replace a0 := HY.out.cell 0; replace a3 := HY.out.cell 3; replace m3 := HCUR.out.mark_cell.1; replace m4 := HCUR.out.mark_cell.2; simp only [List.getElem?_toArray, List.getElem?_cons_zero, List.getElem?_cons_succ] at a0 a3; clear h5 f5) | (go_at_call 74; refine (rput_any HCUR.out 9 (by have := HSZ.out; unfold Ls.sz at this; omega)).mono ?_; rintro e w5 ⟨rfl, h5, f5⟩; replace HSZ := Lib.hid (Nat.le_trans (sz_put _ 9) (Nat.add_le_add_right HSZ.out 15)); replace HCUR := Lib.hid h5; replace HFR := Lib.hid (HFR.out.trans f5); replace HY := Lib.hid (f5.blk HY.out oddT_node); replace a0 := HY.out.cell 0; replace a3 := HY.out.cell 3; replace m3 := HCUR.out.mark_cell.1; replace m4 := HCUR.out.mark_cell.2; simp only [List.getElem?_toArray, List.getElem?_cons_zero, List.getElem?_cons_succ] at a0 a3; clear h5 f5) | (go_at_call 51; refine (KK.out _ _ _ HCUR.out (HB1.out.trans HFR.out.below) (by have := HSZ.out; omega)).mono ?_; rintro e w5 ⟨rfl, h5, f5⟩; replace HSZ := Lib.hid (rsz_after h5 HSZ.out); replace HCUR := Lib.hid h5; replace HFR := Lib.hid (HFR.out.trans f5); replace HY := Lib.hid (f5.blk HY.out oddT_node); replace a0 := HY.out.cell 0; replace a3 := HY.out.cell 3; replace m3 := HCUR.out.mark_cell.1; replace m4 := HCUR.out.mark_cell.2; simp only [List.getElem?_toArray, List.getElem?_cons_zero, List.getElem?_cons_succ] at a0 a3; clear h5 f5))
        all_goals
          go_roundw
          case rel => exact HFIN.out _ _ (by simp [oneL, HKN.out, nodesL_nil]) HCUR.out HFR.out
          case measure => simp [intOf]; omega
      obtain ⟨Al, cl, x2, _, _, _⟩ := HCUR.out.line
      by_cases h_td : nm = [116, 100]
      · subst h_td
        have hlf : linedB [116, 100] = false := by decide +kernel
        have hrf : [116, 100] ∉ rawNames := by decide
        rw [hlf] at KL
        rw [show decide (([116, 100] : List UInt8) ∈ rawNames) = false by decide] at KW
        cases hln : s1.line with
        | nil =>
          rw [hln] at x2
          have x2' : s1.line = [] := hln
          have HLN := Lib.hid x2'
          clear hln x2'
          cases kept <;> go_wp2_with (first | (go_at_call 73; refine (KL.out _).mono ?_; rintro e w5 ⟨rfl, hb5⟩; have h5 := HCUR.out.behind hb5; have f5 := Fr.of_below (lo := w0.heap.size) hb5 (HB1.out.trans HFR.out.below).size; (try (replace x2 := (hb5.cell (p := ⟨bp, 1, none⟩) HCUR.out.lt.2).trans x2)); clear hb5; replace HCUR := Lib.hid h5; replace HFR := Lib.hid (HFR.out.trans f5); replace HY := Lib.hid (f5.blk HY.out oddT_node); replace a0 := HY.out.cell 0; replace a3 := HY.out.cell 3; replace m3 := HCUR.out.mark_cell.1; replace m4 := HCUR.out.mark_cell.2; simp only [List.getElem?_toArray, List.getElem?_cons_zero, List.getElem?_cons_succ] at a0 a3; clear h5 f5) | (go_at_call 39; refine (KW.out _).mono ?_; rintro e w5 ⟨rfl, hb5⟩; have h5 := HCUR.out.behind hb5; have f5 := Fr.of_below (lo := w0.heap.size) hb5 (HB1.out.trans HFR.out.below).size; clear hb5; replace HCUR := Lib.hid h5; replace HFR := Lib.hid (HFR.out.trans f5); replace HY := Lib.hid (f5.blk HY.out oddT_node); replace a0 := HY.out.cell 0; replace a3 := HY.out.cell 3; replace m3 := HCUR.out.mark_cell.1; replace m4 := HCUR.out.mark_cell.2; simp only [List.getElem?_toArray, List.getElem?_cons_zero, List.getElem?_cons_succ] at a0 a3; clear h5 f5) | (go_at_call 52; refine (rend_any HCUR.out (by have := HSZ.out; unfold Ls.sz at this; omega)).mono ?_; rintro e w5 ⟨rfl, h5, f5⟩; replace HSZ := Lib.hid (Nat.le_trans (sz_fin _) HSZ.out); replace HCUR := Lib.hid h5; replace HFR := Lib.hid (HFR.out.trans f5); replace HY := Lib.hid (f5.blk HY.out oddT_node); replace a0 := HY.out.cell 0; replace a3 := HY.out.cell 3; replace m3 := HCUR.out.mark_cell.1; replace m4 := HCUR.out.mark_cell.2; simp only [List.getElem?_toArray, List.getElem?_cons_zero, List.getElem?_cons_succ] at a0 a3; clear h5 f5) | (go_at_call 74; refine (rput_any HCUR.out 9 (by have := HSZ.out; unfold Ls.sz at this; omega)).mono ?_; rintro e w5 ⟨rfl, h5, f5⟩; replace HSZ := Lib.hid (Nat.le_trans (sz_put _ 9) (Nat.add_le_add_right HSZ.out 15)); replace HCUR := Lib.hid h5; replace HFR := Lib.hid (HFR.out.trans f5); replace HY := Lib.hid (f5.blk HY.out oddT_node); replace a0 := HY.out.cell 0; replace a3 := HY.out.cell 3; replace m3 := HCUR.out.mark_cell.1; replace m4 := HCUR.out.mark_cell.2; simp only [List.getElem?_toArray, List.getElem?_cons_zero, List.getElem?_cons_succ] at a0 a3; clear h5 f5) | (go_at_call 51; refine (KK.out _ _ _ HCUR.out (HB1.out.trans HFR.out.below) (by have := HSZ.out; omega)).mono ?_; rintro e w5 ⟨rfl, h5, f5⟩; replace HSZ := Lib.hid (rsz_after h5 HSZ.out); replace HCUR := Lib.hid h5; replace HFR := Lib.hid (HFR.out.trans f5); replace HY := Lib.hid (f5.blk HY.out oddT_node); replace a0 := HY.out.cell 0; replace a3 := HY.out.cell 3; replace m3 := HCUR.out.mark_cell.1; replace m4 := HCUR.out.mark_cell.2; simp only [List.getElem?_toArray, List.getElem?_cons_zero, List.getElem?_cons_succ] at a0 a3; clear h5 f5))
          all_goals
            go_roundw
            case rel => exact HFIN.out _ _ (by simp [oneL, hlf, hrf, HLN.out]) HCUR.out HFR.out
            case measure => simp [intOf]; omega
        | cons r0 rs =>
          rw [hln] at x2
          have x2' : s1.line ≠ [] := by rw [hln]; simp
          have HLN := Lib.hid x2'
          obtain ⟨n, hn⟩ : ∃ n, rs.length = n := ⟨_, rfl⟩
          rw [List.length_cons, hn] at x2
          have i3 : decide ((0 : Int) < (n : Int) + 1) = true := decide_eq_true (by omega)
          clear hln x2' hn
          cases kept <;> go_wp2_with (first | (go_at_call 73; refine (KL.out _).mono ?_; rintro e w5 ⟨rfl, hb5⟩; have h5 := HCUR.out.behind hb5; have f5 := Fr.of_below (lo := w0.heap.size) hb5 (HB1.out.trans HFR.out.below).size; (try (replace x2 := (hb5.cell (p := ⟨bp, 1, none⟩) HCUR.out.lt.2).trans x2)); clear hb5; replace HCUR := Lib.hid h5; replace HFR := Lib.hid (HFR.out.trans f5); replace HY := Lib.hid (f5.blk HY.out oddT_node); replace a0 := HY.out.cell 0; replace a3 := HY.out.cell 3; replace m3 := HCUR.out.mark_cell.1; replace m4 := HCUR.out.mark_cell.2; simp only [List.getElem?_toArray, List.getElem?_cons_zero, List.getElem?_cons_succ] at a0 a3; clear h5 f5) | (go_at_call 39; refine (KW.out _).mono ?_; rintro e w5 ⟨rfl, hb5⟩; have h5 := HCUR.out.behind hb5; have f5 := Fr.of_below (lo := w0.heap.size) hb5 (HB1.out.trans HFR.out.below).size; clear hb5; replace HCUR := Lib.hid h5; replace HFR := Lib.hid (HFR.out.trans f5); replace HY := Lib.hid (f5.blk HY.out oddT_node); replace a0 := HY.out.cell 0; replace a3 := HY.out.cell 3; replace m3 := HCUR.out.mark_cell.1; replace m4 := HCUR.out.mark_cell.2; simp only [List.getElem?_toArray, List.getElem?_cons_zero, List.getElem?_cons_succ] at a0 a3; clear h5 f5) | (go_at_call 52; refine (rend_any HCUR.out (by have := HSZ.out; unfold Ls.sz at this; omega)).mono ?_; rintro e w5 ⟨rfl, h5, f5⟩; replace HSZ := Lib.hid (Nat.le_trans (sz_fin _) HSZ.out); replace HCUR := Lib.hid h5; replace HFR := Lib.hid (HFR.out.trans f5); replace HY := Lib.hid (f5.blk HY.out oddT_node); replace a0 := HY.out.cell 0; replace a3 := HY.out.cell 3; replace m3 := HCUR.out.mark_cell.1; replace m4 := HCUR.out.mark_cell.2; simp only [List.getElem?_toArray, List.getElem?_cons_zero, List.getElem?_cons_succ] at a0 a3; clear h5 f5) | (go_at_call 74; refine (rput_any HCUR.out 9 (by have := HSZ.out; unfold Ls.sz at this; omega)).mono ?_; rintro e w5 ⟨rfl, h5, f5⟩; replace HSZ := Lib.hid (Nat.le_trans (sz_put _ 9) (Nat.add_le_add_right HSZ.out 15)); replace HCUR := Lib.hid h5; replace HFR := Lib.hid (HFR.out.trans f5); replace HY := Lib.hid (f5.blk HY.out oddT_node); replace a0 := HY.out.cell 0; replace a3 := HY.out.cell 3; replace m3 := HCUR.out.mark_cell.1; replace m4 := HCUR.out.mark_cell.2; simp only [List.getElem?_toArray, List.getElem?_cons_zero, List.getElem?_cons_succ] at a0 a3; clear h5 f5) | (go_at_call 51; refine (KK.out _ _ _ HCUR.out (HB1.out.trans HFR.out.below) (by have := HSZ.out; omega)).mono ?_; rintro e w5 ⟨rfl, h5, f5⟩; replace HSZ := Lib.hid (rsz_after h5 HSZ.out); replace HCUR := Lib.hid h5; replace HFR := Lib.hid (HFR.out.trans f5); replace HY := Lib.hid (f5.blk HY.out oddT_node); replace a0 := HY.out.cell 0; replace a3 := HY.out.cell 3; replace m3 := HCUR.out.mark_cell.1; replace m4 := HCUR.out.mark_cell.2; simp only [List.getElem?_toArray, List.getElem?_cons_zero, List.getElem?_cons_succ] at a0 a3; clear h5 f5))
          all_goals
            go_roundw
            case rel => exact HFIN.out _ _ (by simp [oneL, hlf, hrf, HLN.out]) HCUR.out HFR.out
            case measure => simp [intOf]; omega
      by_cases h_th : nm = [116, 104]
      · subst h_th
        have hlf : linedB [116, 104] = false := by decide +kernel
        have hrf : [116, 104] ∉ rawNames := by decide
        rw [hlf] at KL
        rw [show decide (([116, 104] : List UInt8) ∈ rawNames) = false by decide] at KW
        cases hln : s1.line with
        | nil =>
          rw [hln] at x2
          have x2' : s1.line = [] := hln
          have HLN := Lib.hid x2'
          clear hln x2'
          cases kept <;> go_wp2_with (first | (go_at_call 73; refine (KL.out _).mono ?_; rintro e w5 ⟨rfl, hb5⟩; have h5 := HCUR.out.behind hb5; have f5 := Fr.of_below (lo := w0.heap.size) hb5 (HB1.out.trans HFR.out.below).size; (try (replace x2 := (hb5.cell (p := ⟨bp, 1, none⟩) HCUR.out.lt.2).trans x2)); clear hb5; replace HCUR := Lib.hid h5; replace HFR := Lib.hid (HFR.out.trans f5); replace HY := Lib.hid (f5.blk HY.out oddT_node); replace a0 := HY.out.cell 0; replace a3 := HY.out.cell 3; replace m3 := HCUR.out.mark_cell.1; replace m4 := HCUR.out.mark_cell.2; simp only [List.getElem?_toArray, List.getElem?_cons_zero, List.getElem?_cons_succ] at a0 a3; clear h5 f5) | (go_at_call 39; refine (KW.out _).mono ?_; rintro e w5 ⟨rfl, hb5⟩; have h5 := HCUR.out.behind hb5; have f5 := Fr.of_below (lo := w0.heap.size) hb5 (HB1.out.trans HFR.out.below).size; clear hb5; replace HCUR := Lib.hid h5; replace HFR := Lib.hid (HFR.out.trans f5); replace HY := Lib.hid (f5.blk HY.out oddT_node); replace a0 := HY.out.cell 0; replace a3 := HY.out.cell 3; replace m3 := HCUR.out.mark_cell.1; replace m4 := HCUR.out.mark_cell.2; simp only [List.getElem?_toArray, List.getElem?_cons_zero, List.getElem?_cons_succ] at a0 a3; clear h5 f5) | (go_at_call 52; refine (rend_any HCUR.out (by have := HSZ.out; unfold Ls.sz at this; omega)).mono ?_; rintro e w5 ⟨rfl, h5, f5⟩; replace HSZ := Lib.hid (Nat.le_trans (sz_fin _) HSZ.out); replace HCUR := Lib.hid h5; replace HFR := Lib.hid (HFR.out.trans f5); replace HY := Lib.hid (f5.blk HY.out oddT_node); replace a0 := HY.out.cell 0; replace a3 := HY.out.cell 3; replace m3 := HCUR.out.mark_cell.1; replace m4 := HCUR.out.mark_cell.2; simp only [List.getElem?_toArray, List.getElem?_cons_zero, List.getElem?_cons_succ] at a0 a3; clear h5 f5) | (go_at_call 74; refine (rput_any HCUR.out 9 (by have := HSZ.out; unfold Ls.sz at this; omega)).mono ?_; rintro e w5 ⟨rfl, h5, f5⟩; replace HSZ := Lib.hid (Nat.le_trans (sz_put _ 9) (Nat.add_le_add_right HSZ.out 15)); replace HCUR := Lib.hid h5; replace HFR := Lib.hid (HFR.out.trans f5); replace HY := Lib.hid (f5.blk HY.out oddT_node); replace a0 := HY.out.cell 0; replace a3 := HY.out.cell 3; replace m3 := HCUR.out.mark_cell.1; replace m4 := HCUR.out.mark_cell.2; simp only [List.getElem?_toArray, List.getElem?_cons_zero, List.getElem?_cons_succ] at a0 a3; clear h5 f5) | (go_at_call 51; refine (KK.out _ _ _ HCUR.out (HB1.out.trans HFR.out.below) (by have := HSZ.out; omega)).mono ?_; rintro e w5 ⟨rfl, h5, f5⟩; replace HSZ := Lib.hid (rsz_after h5 HSZ.out); replace HCUR := Lib.hid h5; replace HFR := Lib.hid (HFR.out.trans f5); replace HY := Lib.hid (f5.blk HY.out oddT_node); replace a0 := HY.out.cell 0; replace a3 := HY.out.cell 3; replace m3 := HCUR.out.mark_cell.1; replace m4 := HCUR.out.mark_cell.2; simp only [List.getElem?_toArray, List.getElem?_cons_zero, List.getElem?_cons_succ] at a0 a3; clear h5 f5))
          all_goals
            go_roundw
            case rel => exact HFIN.out _ _ (by simp [oneL, hlf, hrf, HLN.out]) HCUR.out HFR.out
            case measure => simp [intOf]; omega
        | cons r0 rs =>
          rw [hln] at x2
          have x2' : s1.line ≠ [] := by rw [hln]; simp
          have HLN := Lib.hid x2'
          obtain ⟨n, hn⟩ : ∃ n, rs.length = n := ⟨_, rfl⟩
          rw [List.length_cons, hn] at x2
          have i3 : decide ((0 : Int) < (n : Int) + 1) = true := decide_eq_true (by omega)
          clear hln x2' hn
          cases kept <;> go_wp2_with (first | (go_at_call 73; refine (KL.out _).mono ?_; rintro e w5 ⟨rfl, hb5⟩; have h5 := HCUR.out.behind hb5; have f5 := Fr.of_below (lo := w0.heap.size) hb5 (HB1.out.trans HFR.out.below).size; (try (replace x2 := (hb5.cell (p := ⟨bp, 1, none⟩) HCUR.out.lt.2).trans x2)); clear hb5; replace HCUR := Lib.hid h5; replace HFR := Lib.hid (HFR.out.trans f5); replace HY := Lib.hid (f5.blk HY.out oddT_node); replace a0 := HY.out.cell 0; replace a3 := HY.out.cell 3; replace m3 := HCUR.out.mark_cell.1; replace m4 := HCUR.out.mark_cell.2; simp only [List.getElem?_toArray, List.getElem?_cons_zero, List.getElem?_cons_succ] at a0 a3; clear h5 f5) | (go_at_call 39; refine (KW.out _).mono ?_; rintro e w5 ⟨rfl, hb5⟩; have h5 := HCUR.out.behind hb5; have f5 := Fr.of_below (lo := w0.heap.size) hb5 (HB1.out.trans HFR.out.below).size; clear hb5; replace HCUR := Lib.hid h5; replace HFR := Lib.hid (HFR.out.trans f5); replace HY := Lib.hid (f5.blk HY.out oddT_node); replace a0 := HY.out.cell 0; replace a3 := HY.out.cell 3; replace m3 := HCUR.out.mark_cell.1; replace m4 := HCUR.out.mark_cell.2; simp only [List.getElem?_toArray, List.getElem?_cons_zero, List.getElem?_cons_succ] at a0 a3; clear h5 f5) | (go_at_call 52; refine (rend_any HCUR.out (by have := HSZ.out; unfold Ls.sz at this; omega)).mono ?_; rintro e w5 ⟨rfl, h5, f5⟩; replace HSZ := Lib.hid (Nat.le_trans (sz_fin _) HSZ.out); replace HCUR := Lib.hid h5; replace HFR := Lib.hid (HFR.out.trans f5); replace HY := Lib.hid (f5.blk HY.out oddT_node); replace a0 := HY.out.cell 0; replace a3 := HY.out.cell 3; replace m3 := HCUR.out.mark_cell.1; replace m4 := HCUR.out.mark_cell.2; simp only [List.getElem?_toArray, List.getElem?_cons_zero, List.getElem?_cons_succ] at a0 a3; clear h5 f5) | (go_at_call 74; refine (rput_any HCUR.out 9 (by have := HSZ.out; unfold Ls.sz at this; omega)).mono ?_; rintro e w5 ⟨rfl, h5, f5⟩; replace HSZ := Lib.hid (Nat.le_trans (sz_put _ 9) (Nat.add_le_add_right HSZ.out 15)); replace HCUR := Lib.hid h5; replace HFR := Lib.hid (HFR.out.trans f5); replace HY := Lib.hid (f5.blk HY.out oddT_node); replace a0 := HY.out.cell 0; replace a3 := HY.out.cell 3; replace m3 := HCUR.out.mark_cell.1; replace m4 := HCUR.out.mark_cell.2; simp only [List.getElem?_toArray, List.getElem?_cons_zero, List.getElem?_cons_succ] at a0 a3; clear h5 f5) | (go_at_call 51; refine (KK.out _ _ _ HCUR.out (HB1.out.trans HFR.out.below) (by have := HSZ.out; omega)).mono ?_; rintro e w5 ⟨rfl, h5, f5⟩; replace HSZ := Lib.hid (rsz_after h5 HSZ.out); replace HCUR := Lib.hid h5; replace HFR := Lib.hid (HFR.out.trans f5); replace HY := Lib.hid (f5.blk HY.out oddT_node); replace a0 := HY.out.cell 0; replace a3 := HY.out.cell 3; replace m3 := HCUR.out.mark_cell.1; replace m4 := HCUR.out.mark_cell.2; simp only [List.getElem?_toArray, List.getElem?_cons_zero, List.getElem?_cons_succ] at a0 a3; clear h5 f5))
          all_goals
            go_roundw
            case rel => exact HFIN.out _ _ (by simp [oneL, hlf, hrf, HLN.out]) HCUR.out HFR.out
            case measure => simp [intOf]; omega
      clear x2
      by_cases h_pre : nm = [112, 114, 101]
      · subst h_pre
        have hrf : [112, 114, 101] ∉ rawNames := by decide
        rw [show decide (([112, 114, 101] : List UInt8) ∈ rawNames) = false by decide] at KW
        obtain ⟨bl, hbl⟩ : ∃ b, linedB [112, 114, 101] = b := ⟨_, rfl⟩
        rw [hbl] at KL
        have HBL := Lib.hid hbl
        clear hbl
        cases bl <;> cases kept <;> go_wp2_with (first | (go_at_call 73; refine (KL.out _).mono ?_; rintro e w5 ⟨rfl, hb5⟩; have h5 := HCUR.out.behind hb5; have f5 := Fr.of_below (lo := w0.heap.size) hb5 (HB1.out.trans HFR.out.below).size; (try (replace x2 := (hb5.cell (p := ⟨bp, 1, none⟩) HCUR.out.lt.2).trans x2)); clear hb5; replace HCUR := Lib.hid h5; replace HFR := Lib.hid (HFR.out.trans f5); replace HY := Lib.hid (f5.blk HY.out oddT_node); replace a0 := HY.out.cell 0; replace a3 := HY.out.cell 3; replace m3 := HCUR.out.mark_cell.1; replace m4 := HCUR.out.mark_cell.2; simp only [List.getElem?_toArray, List.getElem?_cons_zero, List.getElem?_cons_succ] at a0 a3; clear h5 f5) | (go_at_call 39; refine (KW.out _).mono ?_; rintro e w5 ⟨rfl, hb5⟩; have h5 := HCUR.out.behind hb5; have f5 := Fr.of_below (lo := w0.heap.size) hb5 (HB1.out.trans HFR.out.below).size; clear hb5; replace HCUR := Lib.hid h5; replace HFR := Lib.hid (HFR.out.trans f5); replace HY := Lib.hid (f5.blk HY.out oddT_node); replace a0 := HY.out.cell 0; replace a3 := HY.out.cell 3; replace m3 := HCUR.out.mark_cell.1; replace m4 := HCUR.out.mark_cell.2; simp only [List.getElem?_toArray, List.getElem?_cons_zero, List.getElem?_cons_succ] at a0 a3; clear h5 f5) | (go_at_call 52; refine (rend_any HCUR.out (by have := HSZ.out; unfold Ls.sz at this; omega)).mono ?_; rintro e w5 ⟨rfl, h5, f5⟩; replace HSZ := Lib.hid (Nat.le_trans (sz_fin _) HSZ.out); replace HCUR := Lib.hid h5; replace HFR := Lib.hid (HFR.out.trans f5); replace HY := Lib.hid (f5.blk HY.out oddT_node); replace a0 := HY.out.cell 0; replace a3 := HY.out.cell 3; replace m3 := HCUR.out.mark_cell.1; replace m4 := HCUR.out.mark_cell.2; simp only [List.getElem?_toArray, List.getElem?_cons_zero, List.getElem?_cons_succ] at a0 a3; clear h5 f5) | (go_at_call 74; refine (rput_any HCUR.out 9 (by have := HSZ.out; unfold Ls.sz at this; omega)).mono ?_; rintro e w5 ⟨rfl, h5, f5⟩; replace HSZ := Lib.hid (Nat.le_trans (sz_put _ 9) (Nat.add_le_add_right HSZ.out 15)); replace HCUR := Lib.hid h5; replace HFR := Lib.hid (HFR.out.trans f5); replace HY := Lib.hid (f5.blk HY.out oddT_node); replace a0 := HY.out.cell 0; replace a3 := HY.out.cell 3; replace m3 := HCUR.out.mark_cell.1; replace m4 := HCUR.out.mark_cell.2; simp only [List.getElem?_toArray, List.getElem?_cons_zero, List.getElem?_cons_succ] at a0 a3; clear h5 f5) | (go_at_call 51; refine (KK.out _ _ _ HCUR.out (HB1.out.trans HFR.out.below) (by have := HSZ.out; omega)).mono ?_; rintro e w5 ⟨rfl, h5, f5⟩; replace HSZ := Lib.hid (rsz_after h5 HSZ.out); replace HCUR := Lib.hid h5; replace HFR := Lib.hid (HFR.out.trans f5); replace HY := Lib.hid (f5.blk HY.out oddT_node); replace a0 := HY.out.cell 0; replace a3 := HY.out.cell 3; replace m3 := HCUR.out.mark_cell.1; replace m4 := HCUR.out.mark_cell.2; simp only [List.getElem?_toArray, List.getElem?_cons_zero, List.getElem?_cons_succ] at a0 a3; clear h5 f5))
        all_goals
          go_roundw
          case rel => exact HFIN.out _ _ (by simp [oneL, HBL.out, hrf]) HCUR.out HFR.out
          case measure => simp [intOf]; omega
      by_cases h_ta : nm = [116, 101, 120, 116, 97, 114, 101, 97]
      · subst h_ta
        have hrf : [116, 101, 120, 116, 97, 114, 101, 97] ∉ rawNames := by decide
        rw [show decide (([116, 101, 120, 116, 97, 114, 101, 97] : List UInt8) ∈ rawNames) = false by decide] at KW
        obtain ⟨bl, hbl⟩ : ∃ b, linedB [116, 101, 120, 116, 97, 114, 101, 97] = b := ⟨_, rfl⟩
        rw [hbl] at KL
        have HBL := Lib.hid hbl
        clear hbl
        cases bl <;> cases kept <;> go_wp2_with (first | (go_at_call 73; refine (KL.out _).mono ?_; rintro e w5 ⟨rfl, hb5⟩; have h5 := HCUR.out.behind hb5; have f5 := Fr.of_below (lo := w0.heap.size) hb5 (HB1.out.trans HFR.out.below).size; (try (replace x2 := (hb5.cell (p := ⟨bp, 1, none⟩) HCUR.out.lt.2).trans x2)); clear hb5; replace HCUR := Lib.hid h5; replace HFR := Lib.hid (HFR.out.trans f5); replace HY := Lib.hid (f5.blk HY.out oddT_node); replace a0 := HY.out.cell 0; replace a3 := HY.out.cell 3; replace m3 := HCUR.out.mark_cell.1; replace m4 := HCUR.out.mark_cell.2; simp only [List.getElem?_toArray, List.getElem?_cons_zero, List.getElem?_cons_succ] at a0 a3; clear h5 f5) | (go_at_call 39; refine (KW.out _).mono ?_; rintro e w5 ⟨rfl, hb5⟩; have h5 := HCUR.out.behind hb5; have f5 := Fr.of_below (lo := w0.heap.size) hb5 (HB1.out.trans HFR.out.below).size; clear hb5; replace HCUR := Lib.hid h5; replace HFR := Lib.hid (HFR.out.trans f5); replace HY := Lib.hid (f5.blk HY.out oddT_node); replace a0 := HY.out.cell 0; replace a3 := HY.out.cell 3; replace m3 := HCUR.out.mark_cell.1; replace m4 := HCUR.out.mark_cell.2; simp only [List.getElem?_toArray, List.getElem?_cons_zero, List.getElem?_cons_succ] at a0 a3; clear h5 f5) | (go_at_call 52; refine (rend_any HCUR.out (by have := HSZ.out; unfold Ls.sz at this; omega)).mono ?_; rintro e w5 ⟨rfl, h5, f5⟩; replace HSZ := Lib.hid (Nat.le_trans (sz_fin _) HSZ.out); replace HCUR := Lib.hid h5; replace HFR := Lib.hid (HFR.out.trans f5); replace HY := Lib.hid (f5.blk HY.out oddT_node); replace a0 := HY.out.cell 0; replace a3 := HY.out.cell 3; replace m3 := HCUR.out.mark_cell.1; replace m4 := HCUR.out.mark_cell.2; simp only [List.getElem?_toArray, List.getElem?_cons_zero, List.getElem?_cons_succ] at a0 a3; clear h5 f5) | (go_at_call 74; refine (rput_any HCUR.out 9 (by have := HSZ.out; unfold Ls.sz at this; omega)).mono ?_; rintro e w5 ⟨rfl, h5, f5⟩; replace HSZ := Lib.hid (Nat.le_trans (sz_put _ 9) (Nat.add_le_add_right HSZ.out 15)); replace HCUR := Lib.hid h5; replace HFR := Lib.hid (HFR.out.trans f5); replace HY := Lib.hid (f5.blk HY.out oddT_node); replace a0 := HY.out.cell 0; replace a3 := HY.out.cell 3; replace m3 := HCUR.out.mark_cell.1; replace m4 := HCUR.out.mark_cell.2; simp only [List.getElem?_toArray, List.getElem?_cons_zero, List.getElem?_cons_succ] at a0 a3; clear h5 f5) | (go_at_call 51; refine (KK.out _ _ _ HCUR.out (HB1.out.trans HFR.out.below) (by have := HSZ.out; omega)).mono ?_; rintro e w5 ⟨rfl, h5, f5⟩; replace HSZ := Lib.hid (rsz_after h5 HSZ.out); replace HCUR := Lib.hid h5; replace HFR := Lib.hid (HFR.out.trans f5); replace HY := Lib.hid (f5.blk HY.out oddT_node); replace a0 := HY.out.cell 0; replace a3 := HY.out.cell 3; replace m3 := HCUR.out.mark_cell.1; replace m4 := HCUR.out.mark_cell.2; simp only [List.getElem?_toArray, List.getElem?_cons_zero, List.getElem?_cons_succ] at a0 a3; clear h5 f5))
        all_goals
          go_roundw
          case rel => exact HFIN.out _ _ (by simp [oneL, HBL.out, hrf]) HCUR.out HFR.out
          case measure => simp [intOf]; omega
      by_cases h_li : nm = [108, 105]
      · subst h_li
        have hrf : [108, 105] ∉ rawNames := by decide
        rw [show decide (([108, 105] : List UInt8) ∈ rawNames) = false by decide] at KW
        obtain ⟨bl, hbl⟩ : ∃ b, linedB [108, 105] = b := ⟨_, rfl⟩
        rw [hbl] at KL
        have HBL := Lib.hid hbl
        clear hbl
        cases bl <;> cases kept
        all_goals
          go_wp2_with (first | (go_at_call 73; refine (KL.out _).mono ?_; rintro e w5 ⟨rfl, hb5⟩; have h5 := HCUR.out.behind hb5; have f5 := Fr.of_below (lo := w0.heap.size) hb5 (HB1.out.trans HFR.out.below).size; (try (replace x2 := (hb5.cell (p := ⟨bp, 1, none⟩) HCUR.out.lt.2).trans x2)); clear hb5; replace HCUR := Lib.hid h5; replace HFR := Lib.hid (HFR.out.trans f5); replace HY := Lib.hid (f5.blk HY.out oddT_node); replace a0 := HY.out.cell 0; replace a3 := HY.out.cell 3; replace m3 := HCUR.out.mark_cell.1; replace m4 := HCUR.out.mark_cell.2; simp only [List.getElem?_toArray, List.getElem?_cons_zero, List.getElem?_cons_succ] at a0 a3; clear h5 f5) | (go_at_call 52; refine (rend_any HCUR.out (by have := HSZ.out; unfold Ls.sz at this; omega)).mono ?_; rintro e w5 ⟨rfl, h5, f5⟩; replace HSZ := Lib.hid (Nat.le_trans (sz_fin _) HSZ.out); replace HCUR := Lib.hid h5; replace HFR := Lib.hid (HFR.out.trans f5); replace HY := Lib.hid (f5.blk HY.out oddT_node); replace a0 := HY.out.cell 0; replace a3 := HY.out.cell 3; replace m3 := HCUR.out.mark_cell.1; replace m4 := HCUR.out.mark_cell.2; simp only [List.getElem?_toArray, List.getElem?_cons_zero, List.getElem?_cons_succ] at a0 a3; clear h5 f5))
          have hm1 := HCUR.out.mark true
          change LinAt (World.setCell _ _ (.string ⟨#[45, 32]⟩)) _ _ _ ∧ Fr _ _ (World.setCell _ _ (.string ⟨#[45, 32]⟩)) at hm1
          generalize w5.setCell ⟨bp, 2, none⟩ (.string ⟨#[45, 32]⟩) = W6 at hm1 ⊢
          obtain ⟨h5, f5⟩ := hm1
          replace HSZ := Lib.hid (mark_sz true HSZ.out)
          replace HCUR := Lib.hid h5; replace HFR := Lib.hid (HFR.out.trans f5); replace HY := Lib.hid (f5.blk HY.out oddT_node); replace a0 := HY.out.cell 0; replace a3 := HY.out.cell 3; replace m3 := HCUR.out.mark_cell.1; replace m4 := HCUR.out.mark_cell.2; simp only [List.getElem?_toArray, List.getElem?_cons_zero, List.getElem?_cons_succ] at a0 a3; clear h5 f5
          go_wp2_with (first | (go_at_call 73; refine (KL.out _).mono ?_; rintro e w5 ⟨rfl, hb5⟩; have h5 := HCUR.out.behind hb5; have f5 := Fr.of_below (lo := w0.heap.size) hb5 (HB1.out.trans HFR.out.below).size; (try (replace x2 := (hb5.cell (p := ⟨bp, 1, none⟩) HCUR.out.lt.2).trans x2)); clear hb5; replace HCUR := Lib.hid h5; replace HFR := Lib.hid (HFR.out.trans f5); replace HY := Lib.hid (f5.blk HY.out oddT_node); replace a0 := HY.out.cell 0; replace a3 := HY.out.cell 3; replace m3 := HCUR.out.mark_cell.1; replace m4 := HCUR.out.mark_cell.2; simp only [List.getElem?_toArray, List.getElem?_cons_zero, List.getElem?_cons_succ] at a0 a3; clear h5 f5) | (go_at_call 39; refine (KW.out _).mono ?_; rintro e w5 ⟨rfl, hb5⟩; have h5 := HCUR.out.behind hb5; have f5 := Fr.of_below (lo := w0.heap.size) hb5 (HB1.out.trans HFR.out.below).size; clear hb5; replace HCUR := Lib.hid h5; replace HFR := Lib.hid (HFR.out.trans f5); replace HY := Lib.hid (f5.blk HY.out oddT_node); replace a0 := HY.out.cell 0; replace a3 := HY.out.cell 3; replace m3 := HCUR.out.mark_cell.1; replace m4 := HCUR.out.mark_cell.2; simp only [List.getElem?_toArray, List.getElem?_cons_zero, List.getElem?_cons_succ] at a0 a3; clear h5 f5) | (go_at_call 52; refine (rend_any HCUR.out (by have := HSZ.out; unfold Ls.sz at this; omega)).mono ?_; rintro e w5 ⟨rfl, h5, f5⟩; replace HSZ := Lib.hid (Nat.le_trans (sz_fin _) HSZ.out); replace HCUR := Lib.hid h5; replace HFR := Lib.hid (HFR.out.trans f5); replace HY := Lib.hid (f5.blk HY.out oddT_node); replace a0 := HY.out.cell 0; replace a3 := HY.out.cell 3; replace m3 := HCUR.out.mark_cell.1; replace m4 := HCUR.out.mark_cell.2; simp only [List.getElem?_toArray, List.getElem?_cons_zero, List.getElem?_cons_succ] at a0 a3; clear h5 f5) | (go_at_call 74; refine (rput_any HCUR.out 9 (by have := HSZ.out; unfold Ls.sz at this; omega)).mono ?_; rintro e w5 ⟨rfl, h5, f5⟩; replace HSZ := Lib.hid (Nat.le_trans (sz_put _ 9) (Nat.add_le_add_right HSZ.out 15)); replace HCUR := Lib.hid h5; replace HFR := Lib.hid (HFR.out.trans f5); replace HY := Lib.hid (f5.blk HY.out oddT_node); replace a0 := HY.out.cell 0; replace a3 := HY.out.cell 3; replace m3 := HCUR.out.mark_cell.1; replace m4 := HCUR.out.mark_cell.2; simp only [List.getElem?_toArray, List.getElem?_cons_zero, List.getElem?_cons_succ] at a0 a3; clear h5 f5) | (go_at_call 51; refine (KK.out _ _ _ HCUR.out (HB1.out.trans HFR.out.below) (by have := HSZ.out; omega)).mono ?_; rintro e w5 ⟨rfl, h5, f5⟩; replace HSZ := Lib.hid (rsz_after h5 HSZ.out); replace HCUR := Lib.hid h5; replace HFR := Lib.hid (HFR.out.trans f5); replace HY := Lib.hid (f5.blk HY.out oddT_node); replace a0 := HY.out.cell 0; replace a3 := HY.out.cell 3; replace m3 := HCUR.out.mark_cell.1; replace m4 := HCUR.out.mark_cell.2; simp only [List.getElem?_toArray, List.getElem?_cons_zero, List.getElem?_cons_succ] at a0 a3; clear h5 f5))
          go_roundw
          case rel => exact HFIN.out _ _ (by simp [oneL, HBL.out, hrf]) (HCUR.out.mark false).1 (HFR.out.trans (HCUR.out.mark false).2)
          case measure => simp [intOf]; omega
      have q0 : (nm == []) = false := by simpa using h0
      have q1 : (nm == [98, 114]) = false := by simpa using h1
      have q2 : (nm == [116, 100]) = false := by simpa using h_td
      have q3 : (nm == [116, 104]) = false := by simpa using h_th
      have q4 : (nm == [112, 114, 101]) = false := by simpa using h_pre
      have q5 : (nm == [116, 101, 120, 116, 97, 114, 101, 97]) = false := by simpa using h_ta
      have q6 : (nm == [108, 105]) = false := by simpa using h_li
      obtain ⟨bl, hbl⟩ : ∃ b, linedB nm = b := ⟨_, rfl⟩
      rw [hbl] at KL
      have HBL := Lib.hid hbl
      obtain ⟨br, hbr⟩ : ∃ b, decide (nm ∈ rawNames) = b := ⟨_, rfl⟩
      rw [hbr] at KW
      have HBR := Lib.hid hbr
      have HQ := Lib.hid (And.intro h0 (And.intro h1 (And.intro h_td (And.intro h_th (And.intro h_pre (And.intro h_ta h_li))))))
      clear hbl hbr h0 h1 h_td h_th h_pre h_ta h_li
      cases bl <;> cases br <;> cases kept <;> go_wp2_with (first | (go_at_call 73; refine (KL.out _).mono ?_; rintro e w5 ⟨rfl, hb5⟩; have h5 := HCUR.out.behind hb5; have f5 := Fr.of_below (lo := w0.heap.size) hb5 (HB1.out.trans HFR.out.below).size; (try (replace x2 := (hb5.cell (p := ⟨bp, 1, none⟩) HCUR.out.lt.2).trans x2)); clear hb5; replace HCUR := Lib.hid h5; replace HFR := Lib.hid (HFR.out.trans f5); replace HY := Lib.hid (f5.blk HY.out oddT_node); replace a0 := HY.out.cell 0; replace a3 := HY.out.cell 3; replace m3 := HCUR.out.mark_cell.1; replace m4 := HCUR.out.mark_cell.2; simp only [List.getElem?_toArray, List.getElem?_cons_zero, List.getElem?_cons_succ] at a0 a3; clear h5 f5) | (go_at_call 39; refine (KW.out _).mono ?_; rintro e w5 ⟨rfl, hb5⟩; have h5 := HCUR.out.behind hb5; have f5 := Fr.of_below (lo := w0.heap.size) hb5 (HB1.out.trans HFR.out.below).size; clear hb5; replace HCUR := Lib.hid h5; replace HFR := Lib.hid (HFR.out.trans f5); replace HY := Lib.hid (f5.blk HY.out oddT_node); replace a0 := HY.out.cell 0; replace a3 := HY.out.cell 3; replace m3 := HCUR.out.mark_cell.1; replace m4 := HCUR.out.mark_cell.2; simp only [List.getElem?_toArray, List.getElem?_cons_zero, List.getElem?_cons_succ] at a0 a3; clear h5 f5) | (go_at_call 52; refine (rend_any HCUR.out (by have := HSZ.out; unfold Ls.sz at this; omega)).mono ?_; rintro e w5 ⟨rfl, h5, f5⟩; replace HSZ := Lib.hid (Nat.le_trans (sz_fin _) HSZ.out); replace HCUR := Lib.hid h5; replace HFR := Lib.hid (HFR.out.trans f5); replace HY := Lib.hid (f5.blk HY.out oddT_node); replace a0 := HY.out.cell 0; replace a3 := HY.out.cell 3; replace m3 := HCUR.out.mark_cell.1; replace m4 := HCUR.out.mark_cell.2; simp only [List.getElem?_toArray, List.getElem?_cons_zero, List.getElem?_cons_succ] at a0 a3; clear h5 f5) | (go_at_call 74; refine (rput_any HCUR.out 9 (by have := HSZ.out; unfold Ls.sz at this; omega)).mono ?_; rintro e w5 ⟨rfl, h5, f5⟩; replace HSZ := Lib.hid (Nat.le_trans (sz_put _ 9) (Nat.add_le_add_right HSZ.out 15)); replace HCUR := Lib.hid h5; replace HFR := Lib.hid (HFR.out.trans f5); replace HY := Lib.hid (f5.blk HY.out oddT_node); replace a0 := HY.out.cell 0; replace a3 := HY.out.cell 3; replace m3 := HCUR.out.mark_cell.1; replace m4 := HCUR.out.mark_cell.2; simp only [List.getElem?_toArray, List.getElem?_cons_zero, List.getElem?_cons_succ] at a0 a3; clear h5 f5) | (go_at_call 51; refine (KK.out _ _ _ HCUR.out (HB1.out.trans HFR.out.below) (by have := HSZ.out; omega)).mono ?_; rintro e w5 ⟨rfl, h5, f5⟩; replace HSZ := Lib.hid (rsz_after h5 HSZ.out); replace HCUR := Lib.hid h5; replace HFR := Lib.hid (HFR.out.trans f5); replace HY := Lib.hid (f5.blk HY.out oddT_node); replace a0 := HY.out.cell 0; replace a3 := HY.out.cell 3; replace m3 := HCUR.out.mark_cell.1; replace m4 := HCUR.out.mark_cell.2; simp only [List.getElem?_toArray, List.getElem?_cons_zero, List.getElem?_cons_succ] at a0 a3; clear h5 f5))
      all_goals
        go_roundw
        case rel =>
          obtain ⟨g0, g1, g2, g3, g4, g5, g6⟩ := HQ.out
          have hr := HBR.out
          simp at hr
          exact HFIN.out _ _ (by simp [oneL, HBL.out, hr, g0, g1, g2, g3, g4, g5, g6, q4, q5]) HCUR.out HFR.out
        case measure => simp [intOf]; omega
    · have hfin : s1 = R := by
        have := HK.out
        rw [List.drop_eq_nil_of_le (by omega), nodesL_nil] at this
        exact this
      subst hfin
      go_wp2
      go_end0
      exact ⟨rfl, HPr.out, HF.out⟩
end Go.Proofs.YtcogoiphpfgkdaaDoor
