/-
  The program's paper: nodes, Plain.
-/
import Derived.Test.YtcogoiphpfgkdaaDoorPaperNodes
import Derived.Test.YtcogoiphpfgkdaaDoorCheckBoth
namespace Go.Proofs.YtcogoiphpfgkdaaDoor
open Go.RowKit
set_option linter.unusedVariables false
set_option linter.unusedSimpArgs false

def NodesLAs (S : Nat → Prop) (w0 : World) (L : List Nd) : Prop := ∀ (kept : Bool) (s : Ls) (W : World) (A : Option Addr) (c bp : Nat), Ns S w0 A L.length L → PapAt W w0.heap.size bp s → Below w0.heap.size w0 W → s.sz + 15 * wt L ≤ 67108864 →
  Calls Tryd.prog 48 #[.pointer (some ⟨bp, 0, none⟩), .slice A L.length c, .bool kept] W fun e w' => e = .returned (.tuple #[]) ∧ PapAt w' w0.heap.size bp (nodesL L kept s) ∧ Fr w0.heap.size W w'

theorem oddT_node : ¬ oddT 41 := by unfold oddT; decide
theorem sz_after {w : World} {lo bp n : Nat} {L : List Nd} {k : Bool} {s : Ls} (h : PapAt w lo bp (nodesL L k s)) (hs : s.sz ≤ n) : (nodesL L k s).sz ≤ n + 15 * wt L := Nat.le_trans (sz_nodes L k s) (Nat.add_le_add_right hs _)
theorem mark_sz {s : Ls} {n : Nat} (m : Bool) (h : s.sz ≤ n) : (⟨s.told, s.line, m⟩ : Ls).sz ≤ n := h
/-- The mark is set. -/
theorem PapAt.mark {w : World} {lo bp : Nat} {s : Ls} (h : PapAt w lo bp s) (m : Bool) : PapAt (w.setCell ⟨bp, 3, none⟩ (.string (str (markB m)))) lo bp ⟨s.told, s.line, m⟩ ∧ Fr lo w (w.setCell ⟨bp, 3, none⟩ (.string (str (markB m)))) := by
  obtain ⟨hlo, p, v, vl, hp, hb, hu, hnil, hl⟩ := h
  exact pap_line hlo hp hb hu hnil hl ((Keep.refl (fun k => k = bp ∨ vl.ownBlock = some k) w).setCell (p := ⟨bp, 3, none⟩) (.inl (.inl rfl)) _) (hb.set_ 3 _) (own_setCell hl (p := ⟨bp, 3, none⟩) (own_ne hl hb (by decide)) _)
theorem PapAt.mark_cell {w : World} {lo bp : Nat} {s : Ls} (h : PapAt w lo bp s) : w.cell? ⟨bp, 3, none⟩ = some (.string (str (markB s.mark))) ∧ w.frozen? ⟨bp, 3, none⟩ = false := by
  obtain ⟨hlo, p, v, vl, hp, hb, hu, hnil, hl⟩ := h
  exact ⟨hb.cell 3, hb.frozen 3⟩

set_option maxHeartbeats 4000000 in
set_option maxRecDepth 100000 in
theorem nodesL_any (S : Nat → Prop) (w0 : World) (hT : Tab w0) (hRT : RawTab w0) (hS : ∀ k, S k → k < w0.heap.size) (L : List Nd) (hl : wt L ≤ 1048576) : NodesLAs S w0 L := by
  induction L using nds_ind with
  | _ L IH =>
  intro kept s W A c bp hN hP hW hM
  have hll := wt_length L
  have HIH := Lib.hid (fun d (h : d ∈ L) => IH d h (by have := wt_mem h; omega))
  have HN := Lib.hid hN
  have HS := Lib.hid hS
  have HT := Lib.hid (fun W (h : Below w0.heap.size w0 W) => hT.behind h)
  have HRT := Lib.hid (fun W (h : Below w0.heap.size w0 W) => hRT.behind h)
  have HP := Lib.hid hP
  have HW := Lib.hid hW
  have hPl := hP.lt
  obtain ⟨R, hR⟩ : ∃ R, nodesL L kept s = R := ⟨_, rfl⟩
  rw [hR]
  have HR := Lib.hid hR
  have HM := Lib.hid hM
  clear IH hN hS hT hRT hP hW hR hM
  go_enter Tryd.func48, Tryd.ntmps48
  go_wp2_with fail
  go_loopw [10] (fun i wr => ∃ (k : Nat) (s1 : Ls), k ≤ L.length ∧ i = .int .i64 k ∧ Hid (nodesL (L.drop k) kept s1 = R) ∧ Hid (s1.sz + 15 * wt (L.drop k) ≤ 67108864) ∧ Hid (PapAt wr w0.heap.size bp s1) ∧ Hid (Fr w0.heap.size W wr)) (fun i _ => L.length - (intOf i).toNat)
  case atStart => exact ⟨0, s, Nat.zero_le _, rfl, HR.out, HM.out, HP.out, Fr.refl _ _⟩
  case round =>
    obtain ⟨k, s1, hk, rfl, HK, HMr, HPr, HF⟩ := hrel
    by_cases hlt : k < L.length
    · obtain ⟨x, hx⟩ : ∃ x, L[k]? = some x := ⟨L[k], List.getElem?_eq_getElem hlt⟩
      have hmem := List.mem_of_getElem? hx
      have hb0 := HW.out.trans HF.out.below
      obtain ⟨ad, Aa, ca, Ak, ck, rfl, hsa, hsb, c0, c1, c2, c3, hra, hnk⟩ := HN.out.get hx
      replace c0 := (hb0.cell (p := ad.add (k * 4)) (HS.out _ hsb)).trans c0
      replace c1 := (hb0.cell (p := ⟨(ad.add (k * 4)).block, (ad.add (k * 4)).off + 1, none⟩) (HS.out _ hsb)).trans c1
      replace c2 := (hb0.cell (p := ⟨(ad.add (k * 4)).block, (ad.add (k * 4)).off + 2, none⟩) (HS.out _ hsb)).trans c2
      replace c3 := (hb0.cell (p := ⟨(ad.add (k * 4)).block, (ad.add (k * 4)).off + 3, none⟩) (HS.out _ hsb)).trans c3
      have hdk : L.drop k = x :: L.drop (k + 1) := by
        rw [List.drop_eq_getElem_cons hlt]
        rw [List.getElem?_eq_getElem hlt] at hx
        rw [Option.some.inj hx]
      have hv := HK.out
      have hm := HMr.out
      rw [hdk, nodesL_cons] at hv
      rw [hdk, wt_cons] at hm
      have hs1 := sz_one kept x.name x.text (fun k t => nodesL x.kids k t) (wt x.kids) (fun k t => sz_nodes x.kids k t) s1
      have i1 : (0 : Int) ≤ (k : Int) := by omega
      have i2 : (k : Int) < (L.length : Int) := by omega
      have l0 := hb0.size
      have hbl := HS.out _ hsa
      have hbl2 := HS.out _ hsb
      have HID := Lib.hid (HIH.out x hmem)
      have HNK := Lib.hid hnk
      have HB0 := Lib.hid hb0
      obtain ⟨nm, tx, ats, kids⟩ := x
      simp only [Nd.name, Nd.text, Nd.attrs, Nd.kids] at c0 c1 c2 c3 hv hm hs1 HID HNK
      clear hdk hx hmem hra hnk hb0 HK HMr
      obtain ⟨W1, hW1⟩ : ∃ W1, wr.alloc (.cells #[.string (str nm), .string (str tx), .slice Aa ats.length ca, .slice Ak kids.length ck] 41) = W1 := ⟨_, rfl⟩
      have hb1 : Below wr.heap.size wr W1 := by rw [← hW1]; exact (Below.refl _ wr).alloc (Nat.le_refl _) _
      have y1 : Blk W1 wr.heap.size 41 #[.string (str nm), .string (str tx), .slice Aa ats.length ca, .slice Ak kids.length ck] := by rw [← hW1]; exact Blk.new _ _ _
      have a0 := y1.cell 0
      have a1 := y1.cell 1
      have a3 := y1.cell 3
      simp only [List.getElem?_toArray, List.getElem?_cons_zero, List.getElem?_cons_succ] at a0 a1 a3
      have y1l := y1.lt
      have HY := Lib.hid y1
      have HB1 := Lib.hid (HB0.out.trans (hb1.mono l0))
      have HCUR := Lib.hid (HPr.out.behind hb1)
      have HFR := Lib.hid (Fr.refl w0.heap.size W1)
      have HF1 := Lib.hid (HF.out.trans (Fr.of_below (lo := w0.heap.size) hb1 l0))
      have HSZ := Lib.hid (show s1.sz ≤ 67108864 - 15 * (1 + tx.length + wt kids) by omega)
      have HFIN := Lib.hid (fun (t : Ls) (w5 : World) (e : t = oneL kept nm tx (fun k t => nodesL kids k t) s1) (hp : PapAt w5 w0.heap.size bp t) (hf : Fr w0.heap.size W1 w5) =>
        (show ∃ (k' : Nat) (s1 : Ls), k' ≤ L.length ∧ Value.int .i64 ((k + 1 : Nat) : Int) = .int .i64 k' ∧ Hid (nodesL (L.drop k') kept s1 = R) ∧ Hid (s1.sz + 15 * wt (L.drop k') ≤ 67108864) ∧ Hid (PapAt w5 w0.heap.size bp s1) ∧ Hid (Fr w0.heap.size W w5) from
          ⟨k + 1, t, by omega, rfl, Lib.hid (by rw [e]; exact hv), Lib.hid (by rw [e]; omega), hp, HF1.out.trans hf⟩))
      have m3 := HCUR.out.mark_cell.1
      have m4 := HCUR.out.mark_cell.2
      have hml : 15 * (1 + tx.length + wt kids) ≤ 67108864 := by omega
      clear hb1 y1 hv hs1 HF HPr HB0
      by_cases h0 : nm = []
      · subst h0
        have KT := Lib.hid (text_any HCUR.out tx kept (by have := HSZ.out; omega))
        go_wp2_with fail
        refine KT.out.mono ?_
        rintro e w5 ⟨rfl, h5, f5⟩
        have H5 := Lib.hid h5
        have F5 := Lib.hid f5
        clear h5 f5
        go_wp2
        go_roundw
        case rel => exact HFIN.out _ _ (by simp [oneL]) H5.out F5.out
        case measure => simp [intOf]; omega
      by_cases h1 : nm = [98, 114]
      · subst h1
        go_wp2_with (first | (go_at_call 69; refine (KL.out _ (HB1.out.trans HFR.out.below)).mono ?_; rintro e w5 ⟨rfl, hb5⟩; have h5 := HCUR.out.behind hb5; have f5 := Fr.of_below (lo := w0.heap.size) hb5 (HB1.out.trans HFR.out.below).size; (try (replace x2 := (hb5.cell (p := ⟨bp, 2, none⟩) HCUR.out.lt.2).trans x2)); clear hb5; replace HCUR := Lib.hid h5; replace HFR := Lib.hid (HFR.out.trans f5); replace HY := Lib.hid (f5.blk HY.out oddT_node); replace a0 := HY.out.cell 0; replace a3 := HY.out.cell 3; replace m3 := HCUR.out.mark_cell.1; replace m4 := HCUR.out.mark_cell.2; simp only [List.getElem?_toArray, List.getElem?_cons_zero, List.getElem?_cons_succ] at a0 a3; clear h5 f5) | (go_at_call 58; (first | refine (KW.out _ (HB1.out.trans HFR.out.below)).mono ?_ | refine (KW.out _ (HB1.out.trans (HFR.out.trans (HCUR.out.mark true).2).below)).mono ?_); rintro e w5 ⟨rfl, rfl⟩) | (go_at_call 49; refine (end_any HCUR.out (by have := HSZ.out; unfold Ls.sz at this; omega)).mono ?_; rintro e w5 ⟨rfl, h5, f5⟩; replace HSZ := Lib.hid (Nat.le_trans (sz_fin _) HSZ.out); replace HCUR := Lib.hid h5; replace HFR := Lib.hid (HFR.out.trans f5); replace HY := Lib.hid (f5.blk HY.out oddT_node); replace a0 := HY.out.cell 0; replace a3 := HY.out.cell 3; replace m3 := HCUR.out.mark_cell.1; replace m4 := HCUR.out.mark_cell.2; simp only [List.getElem?_toArray, List.getElem?_cons_zero, List.getElem?_cons_succ] at a0 a3; clear h5 f5) | (go_at_call 70; refine (put_any HCUR.out 9 (by have := HSZ.out; unfold Ls.sz at this; omega)).mono ?_; rintro e w5 ⟨rfl, h5, f5⟩; replace HSZ := Lib.hid (Nat.le_trans (sz_put _ 9) (Nat.add_le_add_right HSZ.out 15)); replace HCUR := Lib.hid h5; replace HFR := Lib.hid (HFR.out.trans f5); replace HY := Lib.hid (f5.blk HY.out oddT_node); replace a0 := HY.out.cell 0; replace a3 := HY.out.cell 3; replace m3 := HCUR.out.mark_cell.1; replace m4 := HCUR.out.mark_cell.2; simp only [List.getElem?_toArray, List.getElem?_cons_zero, List.getElem?_cons_succ] at a0 a3; clear h5 f5) | (go_at_call 48; refine (KK.out _ _ _ HCUR.out (HB1.out.trans HFR.out.below) (by have := HSZ.out; omega)).mono ?_; rintro e w5 ⟨rfl, h5, f5⟩; replace HSZ := Lib.hid (sz_after h5 HSZ.out); replace HCUR := Lib.hid h5; replace HFR := Lib.hid (HFR.out.trans f5); replace HY := Lib.hid (f5.blk HY.out oddT_node); replace a0 := HY.out.cell 0; replace a3 := HY.out.cell 3; replace m3 := HCUR.out.mark_cell.1; replace m4 := HCUR.out.mark_cell.2; simp only [List.getElem?_toArray, List.getElem?_cons_zero, List.getElem?_cons_succ] at a0 a3; clear h5 f5))
        go_roundw
        case rel => exact HFIN.out _ _ (by simp [oneL]) HCUR.out HFR.out
        case measure => simp [intOf]; omega
      have KL := Lib.hid (fun W (h : Below w0.heap.size w0 W) => lined_any nm W (HT.out W h))
      have KW := Lib.hid (fun W (h : Below w0.heap.size w0 W) => rawParent_any nm W (HRT.out W h))
      have KK := Lib.hid (fun (kp : Bool) (st : Ls) (w6 : World) (hp : PapAt w6 w0.heap.size bp st) (hb : Below w0.heap.size w0 w6) (hz : st.sz + 15 * wt kids ≤ 67108864) => HID.out kp st w6 Ak ck bp HNK.out hp hb hz)
      obtain ⟨Al, cl, x2, _⟩ := HCUR.out.line
      by_cases h_td : nm = [116, 100]
      · subst h_td
        have hlf : linedB [116, 100] = false := by decide +kernel
        have hrf : [116, 100] ∉ rawNames := by decide
        rw [hlf] at KL
        rw [show decide (([116, 100] : List UInt8) ∈ rawNames) = false by decide] at KW
        cases hln : s1.line with
        | nil =>
          rw [hln] at x2
          have x2' : s1.line = [] := hln
          have HLN := Lib.hid x2'
          clear hln x2'
          cases kept <;> go_wp2_with (first | (go_at_call 69; refine (KL.out _ (HB1.out.trans HFR.out.below)).mono ?_; rintro e w5 ⟨rfl, hb5⟩; have h5 := HCUR.out.behind hb5; have f5 := Fr.of_below (lo := w0.heap.size) hb5 (HB1.out.trans HFR.out.below).size; (try (replace x2 := (hb5.cell (p := ⟨bp, 2, none⟩) HCUR.out.lt.2).trans x2)); clear hb5; replace HCUR := Lib.hid h5; replace HFR := Lib.hid (HFR.out.trans f5); replace HY := Lib.hid (f5.blk HY.out oddT_node); replace a0 := HY.out.cell 0; replace a3 := HY.out.cell 3; replace m3 := HCUR.out.mark_cell.1; replace m4 := HCUR.out.mark_cell.2; simp only [List.getElem?_toArray, List.getElem?_cons_zero, List.getElem?_cons_succ] at a0 a3; clear h5 f5) | (go_at_call 58; (first | refine (KW.out _ (HB1.out.trans HFR.out.below)).mono ?_ | refine (KW.out _ (HB1.out.trans (HFR.out.trans (HCUR.out.mark true).2).below)).mono ?_); rintro e w5 ⟨rfl, rfl⟩) | (go_at_call 49; refine (end_any HCUR.out (by have := HSZ.out; unfold Ls.sz at this; omega)).mono ?_; rintro e w5 ⟨rfl, h5, f5⟩; replace HSZ := Lib.hid (Nat.le_trans (sz_fin _) HSZ.out); replace HCUR := Lib.hid h5; replace HFR := Lib.hid (HFR.out.trans f5); replace HY := Lib.hid (f5.blk HY.out oddT_node); replace a0 := HY.out.cell 0; replace a3 := HY.out.cell 3; replace m3 := HCUR.out.mark_cell.1; replace m4 := HCUR.out.mark_cell.2; simp only [List.getElem?_toArray, List.getElem?_cons_zero, List.getElem?_cons_succ] at a0 a3; clear h5 f5) | (go_at_call 70; refine (put_any HCUR.out 9 (by have := HSZ.out; unfold Ls.sz at this; omega)).mono ?_; rintro e w5 ⟨rfl, h5, f5⟩; replace HSZ := Lib.hid (Nat.le_trans (sz_put _ 9) (Nat.add_le_add_right HSZ.out 15)); replace HCUR := Lib.hid h5; replace HFR := Lib.hid (HFR.out.trans f5); replace HY := Lib.hid (f5.blk HY.out oddT_node); replace a0 := HY.out.cell 0; replace a3 := HY.out.cell 3; replace m3 := HCUR.out.mark_cell.1; replace m4 := HCUR.out.mark_cell.2; simp only [List.getElem?_toArray, List.getElem?_cons_zero, List.getElem?_cons_succ] at a0 a3; clear h5 f5) | (go_at_call 48; refine (KK.out _ _ _ HCUR.out (HB1.out.trans HFR.out.below) (by have := HSZ.out; omega)).mono ?_; rintro e w5 ⟨rfl, h5, f5⟩; replace HSZ := Lib.hid (sz_after h5 HSZ.out); replace HCUR := Lib.hid h5; replace HFR := Lib.hid (HFR.out.trans f5); replace HY := Lib.hid (f5.blk HY.out oddT_node); replace a0 := HY.out.cell 0; replace a3 := HY.out.cell 3; replace m3 := HCUR.out.mark_cell.1; replace m4 := HCUR.out.mark_cell.2; simp only [List.getElem?_toArray, List.getElem?_cons_zero, List.getElem?_cons_succ] at a0 a3; clear h5 f5))
          all_goals
            go_roundw
            case rel => exact HFIN.out _ _ (by simp [oneL, hlf, hrf, HLN.out]) HCUR.out HFR.out
            case measure => simp [intOf]; omega
        | cons r0 rs =>
          rw [hln] at x2
          have x2' : s1.line ≠ [] := by rw [hln]; simp
          have HLN := Lib.hid x2'
          obtain ⟨n, hn⟩ : ∃ n, rs.length = n := ⟨_, rfl⟩
          rw [List.length_cons, hn] at x2
          have i3 : decide ((0 : Int) < (n : Int) + 1) = true := decide_eq_true (by omega)
          clear hln x2' hn
          cases kept <;> go_wp2_with (first | (go_at_call 69; refine (KL.out _ (HB1.out.trans HFR.out.below)).mono ?_; rintro e w5 ⟨rfl, hb5⟩; have h5 := HCUR.out.behind hb5; have f5 := Fr.of_below (lo := w0.heap.size) hb5 (HB1.out.trans HFR.out.below).size; (try (replace x2 := (hb5.cell (p := ⟨bp, 2, none⟩) HCUR.out.lt.2).trans x2)); clear hb5; replace HCUR := Lib.hid h5; replace HFR := Lib.hid (HFR.out.trans f5); replace HY := Lib.hid (f5.blk HY.out oddT_node); replace a0 := HY.out.cell 0; replace a3 := HY.out.cell 3; replace m3 := HCUR.out.mark_cell.1; replace m4 := HCUR.out.mark_cell.2; simp only [List.getElem?_toArray, List.getElem?_cons_zero, List.getElem?_cons_succ] at a0 a3; clear h5 f5) | (go_at_call 58; (first | refine (KW.out _ (HB1.out.trans HFR.out.below)).mono ?_ | refine (KW.out _ (HB1.out.trans (HFR.out.trans (HCUR.out.mark true).2).below)).mono ?_); rintro e w5 ⟨rfl, rfl⟩) | (go_at_call 49; refine (end_any HCUR.out (by have := HSZ.out; unfold Ls.sz at this; omega)).mono ?_; rintro e w5 ⟨rfl, h5, f5⟩; replace HSZ := Lib.hid (Nat.le_trans (sz_fin _) HSZ.out); replace HCUR := Lib.hid h5; replace HFR := Lib.hid (HFR.out.trans f5); replace HY := Lib.hid (f5.blk HY.out oddT_node); replace a0 := HY.out.cell 0; replace a3 := HY.out.cell 3; replace m3 := HCUR.out.mark_cell.1; replace m4 := HCUR.out.mark_cell.2; simp only [List.getElem?_toArray, List.getElem?_cons_zero, List.getElem?_cons_succ] at a0 a3; clear h5 f5) | (go_at_call 70; refine (put_any HCUR.out 9 (by have := HSZ.out; unfold Ls.sz at this; omega)).mono ?_; rintro e w5 ⟨rfl, h5, f5⟩; replace HSZ := Lib.hid (Nat.le_trans (sz_put _ 9) (Nat.add_le_add_right HSZ.out 15)); replace HCUR := Lib.hid h5; replace HFR := Lib.hid (HFR.out.trans f5); replace HY := Lib.hid (f5.blk HY.out oddT_node); replace a0 := HY.out.cell 0; replace a3 := HY.out.cell 3; replace m3 := HCUR.out.mark_cell.1; replace m4 := HCUR.out.mark_cell.2; simp only [List.getElem?_toArray, List.getElem?_cons_zero, List.getElem?_cons_succ] at a0 a3; clear h5 f5) | (go_at_call 48; refine (KK.out _ _ _ HCUR.out (HB1.out.trans HFR.out.below) (by have := HSZ.out; omega)).mono ?_; rintro e w5 ⟨rfl, h5, f5⟩; replace HSZ := Lib.hid (sz_after h5 HSZ.out); replace HCUR := Lib.hid h5; replace HFR := Lib.hid (HFR.out.trans f5); replace HY := Lib.hid (f5.blk HY.out oddT_node); replace a0 := HY.out.cell 0; replace a3 := HY.out.cell 3; replace m3 := HCUR.out.mark_cell.1; replace m4 := HCUR.out.mark_cell.2; simp only [List.getElem?_toArray, List.getElem?_cons_zero, List.getElem?_cons_succ] at a0 a3; clear h5 f5))
          all_goals
            go_roundw
            case rel => exact HFIN.out _ _ (by simp [oneL, hlf, hrf, HLN.out]) HCUR.out HFR.out
            case measure => simp [intOf]; omega
      by_cases h_th : nm = [116, 104]
      · subst h_th
        have hlf : linedB [116, 104] = false := by decide +kernel
        have hrf : [116, 104] ∉ rawNames := by decide
        rw [hlf] at KL
        rw [show decide (([116, 104] : List UInt8) ∈ rawNames) = false by decide] at KW
        cases hln : s1.line with
        | nil =>
          rw [hln] at x2
          have x2' : s1.line = [] := hln
          have HLN := Lib.hid x2'
          clear hln x2'
          cases kept <;> go_wp2_with (first | (go_at_call 69; refine (KL.out _ (HB1.out.trans HFR.out.below)).mono ?_; rintro e w5 ⟨rfl, hb5⟩; have h5 := HCUR.out.behind hb5; have f5 := Fr.of_below (lo := w0.heap.size) hb5 (HB1.out.trans HFR.out.below).size; (try (replace x2 := (hb5.cell (p := ⟨bp, 2, none⟩) HCUR.out.lt.2).trans x2)); clear hb5; replace HCUR := Lib.hid h5; replace HFR := Lib.hid (HFR.out.trans f5); replace HY := Lib.hid (f5.blk HY.out oddT_node); replace a0 := HY.out.cell 0; replace a3 := HY.out.cell 3; replace m3 := HCUR.out.mark_cell.1; replace m4 := HCUR.out.mark_cell.2; simp only [List.getElem?_toArray, List.getElem?_cons_zero, List.getElem?_cons_succ] at a0 a3; clear h5 f5) | (go_at_call 58; (first | refine (KW.out _ (HB1.out.trans HFR.out.below)).mono ?_ | refine (KW.out _ (HB1.out.trans (HFR.out.trans (HCUR.out.mark true).2).below)).mono ?_); rintro e w5 ⟨rfl, rfl⟩) | (go_at_call 49; refine (end_any HCUR.out (by have := HSZ.out; unfold Ls.sz at this; omega)).mono ?_; rintro e w5 ⟨rfl, h5, f5⟩; replace HSZ := Lib.hid (Nat.le_trans (sz_fin _) HSZ.out); replace HCUR := Lib.hid h5; replace HFR := Lib.hid (HFR.out.trans f5); replace HY := Lib.hid (f5.blk HY.out oddT_node); replace a0 := HY.out.cell 0; replace a3 := HY.out.cell 3; replace m3 := HCUR.out.mark_cell.1; replace m4 := HCUR.out.mark_cell.2; simp only [List.getElem?_toArray, List.getElem?_cons_zero, List.getElem?_cons_succ] at a0 a3; clear h5 f5) | (go_at_call 70; refine (put_any HCUR.out 9 (by have := HSZ.out; unfold Ls.sz at this; omega)).mono ?_; rintro e w5 ⟨rfl, h5, f5⟩; replace HSZ := Lib.hid (Nat.le_trans (sz_put _ 9) (Nat.add_le_add_right HSZ.out 15)); replace HCUR := Lib.hid h5; replace HFR := Lib.hid (HFR.out.trans f5); replace HY := Lib.hid (f5.blk HY.out oddT_node); replace a0 := HY.out.cell 0; replace a3 := HY.out.cell 3; replace m3 := HCUR.out.mark_cell.1; replace m4 := HCUR.out.mark_cell.2; simp only [List.getElem?_toArray, List.getElem?_cons_zero, List.getElem?_cons_succ] at a0 a3; clear h5 f5) | (go_at_call 48; refine (KK.out _ _ _ HCUR.out (HB1.out.trans HFR.out.below) (by have := HSZ.out; omega)).mono ?_; rintro e w5 ⟨rfl, h5, f5⟩; replace HSZ := Lib.hid (sz_after h5 HSZ.out); replace HCUR := Lib.hid h5; replace HFR := Lib.hid (HFR.out.trans f5); replace HY := Lib.hid (f5.blk HY.out oddT_node); replace a0 := HY.out.cell 0; replace a3 := HY.out.cell 3; replace m3 := HCUR.out.mark_cell.1; replace m4 := HCUR.out.mark_cell.2; simp only [List.getElem?_toArray, List.getElem?_cons_zero, List.getElem?_cons_succ] at a0 a3; clear h5 f5))
          all_goals
            go_roundw
            case rel => exact HFIN.out _ _ (by simp [oneL, hlf, hrf, HLN.out]) HCUR.out HFR.out
            case measure => simp [intOf]; omega
        | cons r0 rs =>
          rw [hln] at x2
          have x2' : s1.line ≠ [] := by rw [hln]; simp
          have HLN := Lib.hid x2'
          obtain ⟨n, hn⟩ : ∃ n, rs.length = n := ⟨_, rfl⟩
          rw [List.length_cons, hn] at x2
          have i3 : decide ((0 : Int) < (n : Int) + 1) = true := decide_eq_true (by omega)
          clear hln x2' hn
          cases kept <;> go_wp2_with (first | (go_at_call 69; refine (KL.out _ (HB1.out.trans HFR.out.below)).mono ?_; rintro e w5 ⟨rfl, hb5⟩; have h5 := HCUR.out.behind hb5; have f5 := Fr.of_below (lo := w0.heap.size) hb5 (HB1.out.trans HFR.out.below).size; (try (replace x2 := (hb5.cell (p := ⟨bp, 2, none⟩) HCUR.out.lt.2).trans x2)); clear hb5; replace HCUR := Lib.hid h5; replace HFR := Lib.hid (HFR.out.trans f5); replace HY := Lib.hid (f5.blk HY.out oddT_node); replace a0 := HY.out.cell 0; replace a3 := HY.out.cell 3; replace m3 := HCUR.out.mark_cell.1; replace m4 := HCUR.out.mark_cell.2; simp only [List.getElem?_toArray, List.getElem?_cons_zero, List.getElem?_cons_succ] at a0 a3; clear h5 f5) | (go_at_call 58; (first | refine (KW.out _ (HB1.out.trans HFR.out.below)).mono ?_ | refine (KW.out _ (HB1.out.trans (HFR.out.trans (HCUR.out.mark true).2).below)).mono ?_); rintro e w5 ⟨rfl, rfl⟩) | (go_at_call 49; refine (end_any HCUR.out (by have := HSZ.out; unfold Ls.sz at this; omega)).mono ?_; rintro e w5 ⟨rfl, h5, f5⟩; replace HSZ := Lib.hid (Nat.le_trans (sz_fin _) HSZ.out); replace HCUR := Lib.hid h5; replace HFR := Lib.hid (HFR.out.trans f5); replace HY := Lib.hid (f5.blk HY.out oddT_node); replace a0 := HY.out.cell 0; replace a3 := HY.out.cell 3; replace m3 := HCUR.out.mark_cell.1; replace m4 := HCUR.out.mark_cell.2; simp only [List.getElem?_toArray, List.getElem?_cons_zero, List.getElem?_cons_succ] at a0 a3; clear h5 f5) | (go_at_call 70; refine (put_any HCUR.out 9 (by have := HSZ.out; unfold Ls.sz at this; omega)).mono ?_; rintro e w5 ⟨rfl, h5, f5⟩; replace HSZ := Lib.hid (Nat.le_trans (sz_put _ 9) (Nat.add_le_add_right HSZ.out 15)); replace HCUR := Lib.hid h5; replace HFR := Lib.hid (HFR.out.trans f5); replace HY := Lib.hid (f5.blk HY.out oddT_node); replace a0 := HY.out.cell 0; replace a3 := HY.out.cell 3; replace m3 := HCUR.out.mark_cell.1; replace m4 := HCUR.out.mark_cell.2; simp only [List.getElem?_toArray, List.getElem?_cons_zero, List.getElem?_cons_succ] at a0 a3; clear h5 f5) | (go_at_call 48; refine (KK.out _ _ _ HCUR.out (HB1.out.trans HFR.out.below) (by have := HSZ.out; omega)).mono ?_; rintro e w5 ⟨rfl, h5, f5⟩; replace HSZ := Lib.hid (sz_after h5 HSZ.out); replace HCUR := Lib.hid h5; replace HFR := Lib.hid (HFR.out.trans f5); replace HY := Lib.hid (f5.blk HY.out oddT_node); replace a0 := HY.out.cell 0; replace a3 := HY.out.cell 3; replace m3 := HCUR.out.mark_cell.1; replace m4 := HCUR.out.mark_cell.2; simp only [List.getElem?_toArray, List.getElem?_cons_zero, List.getElem?_cons_succ] at a0 a3; clear h5 f5))
          all_goals
            go_roundw
            case rel => exact HFIN.out _ _ (by simp [oneL, hlf, hrf, HLN.out]) HCUR.out HFR.out
            case measure => simp [intOf]; omega
      clear x2
      by_cases h_pre : nm = [112, 114, 101]
      · subst h_pre
        have hrf : [112, 114, 101] ∉ rawNames := by decide
        rw [show decide (([112, 114, 101] : List UInt8) ∈ rawNames) = false by decide] at KW
        obtain ⟨bl, hbl⟩ : ∃ b, linedB [112, 114, 101] = b := ⟨_, rfl⟩
        rw [hbl] at KL
        have HBL := Lib.hid hbl
        clear hbl
        cases bl <;> cases kept <;> go_wp2_with (first | (go_at_call 69; refine (KL.out _ (HB1.out.trans HFR.out.below)).mono ?_; rintro e w5 ⟨rfl, hb5⟩; have h5 := HCUR.out.behind hb5; have f5 := Fr.of_below (lo := w0.heap.size) hb5 (HB1.out.trans HFR.out.below).size; (try (replace x2 := (hb5.cell (p := ⟨bp, 2, none⟩) HCUR.out.lt.2).trans x2)); clear hb5; replace HCUR := Lib.hid h5; replace HFR := Lib.hid (HFR.out.trans f5); replace HY := Lib.hid (f5.blk HY.out oddT_node); replace a0 := HY.out.cell 0; replace a3 := HY.out.cell 3; replace m3 := HCUR.out.mark_cell.1; replace m4 := HCUR.out.mark_cell.2; simp only [List.getElem?_toArray, List.getElem?_cons_zero, List.getElem?_cons_succ] at a0 a3; clear h5 f5) | (go_at_call 58; (first | refine (KW.out _ (HB1.out.trans HFR.out.below)).mono ?_ | refine (KW.out _ (HB1.out.trans (HFR.out.trans (HCUR.out.mark true).2).below)).mono ?_); rintro e w5 ⟨rfl, rfl⟩) | (go_at_call 49; refine (end_any HCUR.out (by have := HSZ.out; unfold Ls.sz at this; omega)).mono ?_; rintro e w5 ⟨rfl, h5, f5⟩; replace HSZ := Lib.hid (Nat.le_trans (sz_fin _) HSZ.out); replace HCUR := Lib.hid h5; replace HFR := Lib.hid (HFR.out.trans f5); replace HY := Lib.hid (f5.blk HY.out oddT_node); replace a0 := HY.out.cell 0; replace a3 := HY.out.cell 3; replace m3 := HCUR.out.mark_cell.1; replace m4 := HCUR.out.mark_cell.2; simp only [List.getElem?_toArray, List.getElem?_cons_zero, List.getElem?_cons_succ] at a0 a3; clear h5 f5) | (go_at_call 70; refine (put_any HCUR.out 9 (by have := HSZ.out; unfold Ls.sz at this; omega)).mono ?_; rintro e w5 ⟨rfl, h5, f5⟩; replace HSZ := Lib.hid (Nat.le_trans (sz_put _ 9) (Nat.add_le_add_right HSZ.out 15)); replace HCUR := Lib.hid h5; replace HFR := Lib.hid (HFR.out.trans f5); replace HY := Lib.hid (f5.blk HY.out oddT_node); replace a0 := HY.out.cell 0; replace a3 := HY.out.cell 3; replace m3 := HCUR.out.mark_cell.1; replace m4 := HCUR.out.mark_cell.2; simp only [List.getElem?_toArray, List.getElem?_cons_zero, List.getElem?_cons_succ] at a0 a3; clear h5 f5) | (go_at_call 48; refine (KK.out _ _ _ HCUR.out (HB1.out.trans HFR.out.below) (by have := HSZ.out; omega)).mono ?_; rintro e w5 ⟨rfl, h5, f5⟩; replace HSZ := Lib.hid (sz_after h5 HSZ.out); replace HCUR := Lib.hid h5; replace HFR := Lib.hid (HFR.out.trans f5); replace HY := Lib.hid (f5.blk HY.out oddT_node); replace a0 := HY.out.cell 0; replace a3 := HY.out.cell 3; replace m3 := HCUR.out.mark_cell.1; replace m4 := HCUR.out.mark_cell.2; simp only [List.getElem?_toArray, List.getElem?_cons_zero, List.getElem?_cons_succ] at a0 a3; clear h5 f5))
        all_goals
          go_roundw
          case rel => exact HFIN.out _ _ (by simp [oneL, HBL.out, hrf]) HCUR.out HFR.out
          case measure => simp [intOf]; omega
      by_cases h_ta : nm = [116, 101, 120, 116, 97, 114, 101, 97]
      · subst h_ta
        have hrf : [116, 101, 120, 116, 97, 114, 101, 97] ∉ rawNames := by decide
        rw [show decide (([116, 101, 120, 116, 97, 114, 101, 97] : List UInt8) ∈ rawNames) = false by decide] at KW
        obtain ⟨bl, hbl⟩ : ∃ b, linedB [116, 101, 120, 116, 97, 114, 101, 97] = b := ⟨_, rfl⟩
        rw [hbl] at KL
        have HBL := Lib.hid hbl
        clear hbl
        cases bl <;> cases kept <;> go_wp2_with (first | (go_at_call 69; refine (KL.out _ (HB1.out.trans HFR.out.below)).mono ?_; rintro e w5 ⟨rfl, hb5⟩; have h5 := HCUR.out.behind hb5; have f5 := Fr.of_below (lo := w0.heap.size) hb5 (HB1.out.trans HFR.out.below).size; (try (replace x2 := (hb5.cell (p := ⟨bp, 2, none⟩) HCUR.out.lt.2).trans x2)); clear hb5; replace HCUR := Lib.hid h5; replace HFR := Lib.hid (HFR.out.trans f5); replace HY := Lib.hid (f5.blk HY.out oddT_node); replace a0 := HY.out.cell 0; replace a3 := HY.out.cell 3; replace m3 := HCUR.out.mark_cell.1; replace m4 := HCUR.out.mark_cell.2; simp only [List.getElem?_toArray, List.getElem?_cons_zero, List.getElem?_cons_succ] at a0 a3; clear h5 f5) | (go_at_call 58; (first | refine (KW.out _ (HB1.out.trans HFR.out.below)).mono ?_ | refine (KW.out _ (HB1.out.trans (HFR.out.trans (HCUR.out.mark true).2).below)).mono ?_); rintro e w5 ⟨rfl, rfl⟩) | (go_at_call 49; refine (end_any HCUR.out (by have := HSZ.out; unfold Ls.sz at this; omega)).mono ?_; rintro e w5 ⟨rfl, h5, f5⟩; replace HSZ := Lib.hid (Nat.le_trans (sz_fin _) HSZ.out); replace HCUR := Lib.hid h5; replace HFR := Lib.hid (HFR.out.trans f5); replace HY := Lib.hid (f5.blk HY.out oddT_node); replace a0 := HY.out.cell 0; replace a3 := HY.out.cell 3; replace m3 := HCUR.out.mark_cell.1; replace m4 := HCUR.out.mark_cell.2; simp only [List.getElem?_toArray, List.getElem?_cons_zero, List.getElem?_cons_succ] at a0 a3; clear h5 f5) | (go_at_call 70; refine (put_any HCUR.out 9 (by have := HSZ.out; unfold Ls.sz at this; omega)).mono ?_; rintro e w5 ⟨rfl, h5, f5⟩; replace HSZ := Lib.hid (Nat.le_trans (sz_put _ 9) (Nat.add_le_add_right HSZ.out 15)); replace HCUR := Lib.hid h5; replace HFR := Lib.hid (HFR.out.trans f5); replace HY := Lib.hid (f5.blk HY.out oddT_node); replace a0 := HY.out.cell 0; replace a3 := HY.out.cell 3; replace m3 := HCUR.out.mark_cell.1; replace m4 := HCUR.out.mark_cell.2; simp only [List.getElem?_toArray, List.getElem?_cons_zero, List.getElem?_cons_succ] at a0 a3; clear h5 f5) | (go_at_call 48; refine (KK.out _ _ _ HCUR.out (HB1.out.trans HFR.out.below) (by have := HSZ.out; omega)).mono ?_; rintro e w5 ⟨rfl, h5, f5⟩; replace HSZ := Lib.hid (sz_after h5 HSZ.out); replace HCUR := Lib.hid h5; replace HFR := Lib.hid (HFR.out.trans f5); replace HY := Lib.hid (f5.blk HY.out oddT_node); replace a0 := HY.out.cell 0; replace a3 := HY.out.cell 3; replace m3 := HCUR.out.mark_cell.1; replace m4 := HCUR.out.mark_cell.2; simp only [List.getElem?_toArray, List.getElem?_cons_zero, List.getElem?_cons_succ] at a0 a3; clear h5 f5))
        all_goals
          go_roundw
          case rel => exact HFIN.out _ _ (by simp [oneL, HBL.out, hrf]) HCUR.out HFR.out
          case measure => simp [intOf]; omega
      by_cases h_li : nm = [108, 105]
      · subst h_li
        have hrf : [108, 105] ∉ rawNames := by decide
        rw [show decide (([108, 105] : List UInt8) ∈ rawNames) = false by decide] at KW
        obtain ⟨bl, hbl⟩ : ∃ b, linedB [108, 105] = b := ⟨_, rfl⟩
        rw [hbl] at KL
        have HBL := Lib.hid hbl
        clear hbl
        cases bl <;> cases kept
        all_goals
          go_wp2_with (first | (go_at_call 69; refine (KL.out _ (HB1.out.trans HFR.out.below)).mono ?_; rintro e w5 ⟨rfl, hb5⟩; have h5 := HCUR.out.behind hb5; have f5 := Fr.of_below (lo := w0.heap.size) hb5 (HB1.out.trans HFR.out.below).size; (try (replace x2 := (hb5.cell (p := ⟨bp, 2, none⟩) HCUR.out.lt.2).trans x2)); clear hb5; replace HCUR := Lib.hid h5; replace HFR := Lib.hid (HFR.out.trans f5); replace HY := Lib.hid (f5.blk HY.out oddT_node); replace a0 := HY.out.cell 0; replace a3 := HY.out.cell 3; replace m3 := HCUR.out.mark_cell.1; replace m4 := HCUR.out.mark_cell.2; simp only [List.getElem?_toArray, List.getElem?_cons_zero, List.getElem?_cons_succ] at a0 a3; clear h5 f5) | (go_at_call 49; refine (end_any HCUR.out (by have := HSZ.out; unfold Ls.sz at this; omega)).mono ?_; rintro e w5 ⟨rfl, h5, f5⟩; replace HSZ := Lib.hid (Nat.le_trans (sz_fin _) HSZ.out); replace HCUR := Lib.hid h5; replace HFR := Lib.hid (HFR.out.trans f5); replace HY := Lib.hid (f5.blk HY.out oddT_node); replace a0 := HY.out.cell 0; replace a3 := HY.out.cell 3; replace m3 := HCUR.out.mark_cell.1; replace m4 := HCUR.out.mark_cell.2; simp only [List.getElem?_toArray, List.getElem?_cons_zero, List.getElem?_cons_succ] at a0 a3; clear h5 f5))
          have hm1 := HCUR.out.mark true
          change PapAt (World.setCell _ _ (.string ⟨#[45, 32]⟩)) _ _ _ ∧ Fr _ _ (World.setCell _ _ (.string ⟨#[45, 32]⟩)) at hm1
          generalize w5.setCell ⟨bp, 3, none⟩ (.string ⟨#[45, 32]⟩) = W6 at hm1 ⊢
          obtain ⟨h5, f5⟩ := hm1
          replace HSZ := Lib.hid (mark_sz true HSZ.out)
          replace HCUR := Lib.hid h5; replace HFR := Lib.hid (HFR.out.trans f5); replace HY := Lib.hid (f5.blk HY.out oddT_node); replace a0 := HY.out.cell 0; replace a3 := HY.out.cell 3; replace m3 := HCUR.out.mark_cell.1; replace m4 := HCUR.out.mark_cell.2; simp only [List.getElem?_toArray, List.getElem?_cons_zero, List.getElem?_cons_succ] at a0 a3; clear h5 f5
          go_wp2_with (first | (go_at_call 69; refine (KL.out _ (HB1.out.trans HFR.out.below)).mono ?_; rintro e w5 ⟨rfl, hb5⟩; have h5 := HCUR.out.behind hb5; have f5 := Fr.of_below (lo := w0.heap.size) hb5 (HB1.out.trans HFR.out.below).size; (try (replace x2 := (hb5.cell (p := ⟨bp, 2, none⟩) HCUR.out.lt.2).trans x2)); clear hb5; replace HCUR := Lib.hid h5; replace HFR := Lib.hid (HFR.out.trans f5); replace HY := Lib.hid (f5.blk HY.out oddT_node); replace a0 := HY.out.cell 0; replace a3 := HY.out.cell 3; replace m3 := HCUR.out.mark_cell.1; replace m4 := HCUR.out.mark_cell.2; simp only [List.getElem?_toArray, List.getElem?_cons_zero, List.getElem?_cons_succ] at a0 a3; clear h5 f5) | (go_at_call 58; (first | refine (KW.out _ (HB1.out.trans HFR.out.below)).mono ?_ | refine (KW.out _ (HB1.out.trans (HFR.out.trans (HCUR.out.mark true).2).below)).mono ?_); rintro e w5 ⟨rfl, rfl⟩) | (go_at_call 49; refine (end_any HCUR.out (by have := HSZ.out; unfold Ls.sz at this; omega)).mono ?_; rintro e w5 ⟨rfl, h5, f5⟩; replace HSZ := Lib.hid (Nat.le_trans (sz_fin _) HSZ.out); replace HCUR := Lib.hid h5; replace HFR := Lib.hid (HFR.out.trans f5); replace HY := Lib.hid (f5.blk HY.out oddT_node); replace a0 := HY.out.cell 0; replace a3 := HY.out.cell 3; replace m3 := HCUR.out.mark_cell.1; replace m4 := HCUR.out.mark_cell.2; simp only [List.getElem?_toArray, List.getElem?_cons_zero, List.getElem?_cons_succ] at a0 a3; clear h5 f5) | (go_at_call 70; refine (put_any HCUR.out 9 (by have := HSZ.out; unfold Ls.sz at this; omega)).mono ?_; rintro e w5 ⟨rfl, h5, f5⟩; replace HSZ := Lib.hid (Nat.le_trans (sz_put _ 9) (Nat.add_le_add_right HSZ.out 15)); replace HCUR := Lib.hid h5; replace HFR := Lib.hid (HFR.out.trans f5); replace HY := Lib.hid (f5.blk HY.out oddT_node); replace a0 := HY.out.cell 0; replace a3 := HY.out.cell 3; replace m3 := HCUR.out.mark_cell.1; replace m4 := HCUR.out.mark_cell.2; simp only [List.getElem?_toArray, List.getElem?_cons_zero, List.getElem?_cons_succ] at a0 a3; clear h5 f5) | (go_at_call 48; refine (KK.out _ _ _ HCUR.out (HB1.out.trans HFR.out.below) (by have := HSZ.out; omega)).mono ?_; rintro e w5 ⟨rfl, h5, f5⟩; replace HSZ := Lib.hid (sz_after h5 HSZ.out); replace HCUR := Lib.hid h5; replace HFR := Lib.hid (HFR.out.trans f5); replace HY := Lib.hid (f5.blk HY.out oddT_node); replace a0 := HY.out.cell 0; replace a3 := HY.out.cell 3; replace m3 := HCUR.out.mark_cell.1; replace m4 := HCUR.out.mark_cell.2; simp only [List.getElem?_toArray, List.getElem?_cons_zero, List.getElem?_cons_succ] at a0 a3; clear h5 f5))
          go_roundw
          case rel => exact HFIN.out _ _ (by simp [oneL, HBL.out, hrf]) (HCUR.out.mark false).1 (HFR.out.trans (HCUR.out.mark false).2)
          case measure => simp [intOf]; omega
      have q0 : (nm == []) = false := by simpa using h0
      have q1 : (nm == [98, 114]) = false := by simpa using h1
      have q2 : (nm == [116, 100]) = false := by simpa using h_td
      have q3 : (nm == [116, 104]) = false := by simpa using h_th
      have q4 : (nm == [112, 114, 101]) = false := by simpa using h_pre
      have q5 : (nm == [116, 101, 120, 116, 97, 114, 101, 97]) = false := by simpa using h_ta
      have q6 : (nm == [108, 105]) = false := by simpa using h_li
      obtain ⟨bl, hbl⟩ : ∃ b, linedB nm = b := ⟨_, rfl⟩
      rw [hbl] at KL
      have HBL := Lib.hid hbl
      obtain ⟨br, hbr⟩ : ∃ b, decide (nm ∈ rawNames) = b := ⟨_, rfl⟩
      rw [hbr] at KW
      have HBR := Lib.hid hbr
      have HQ := Lib.hid (And.intro h0 (And.intro h1 (And.intro h_td (And.intro h_th (And.intro h_pre (And.intro h_ta h_li))))))
      clear hbl hbr h0 h1 h_td h_th h_pre h_ta h_li
      cases bl <;> cases br <;> cases kept <;> go_wp2_with (first | (go_at_call 69; refine (KL.out _ (HB1.out.trans HFR.out.below)).mono ?_; rintro e w5 ⟨rfl, hb5⟩; have h5 := HCUR.out.behind hb5; have f5 := Fr.of_below (lo := w0.heap.size) hb5 (HB1.out.trans HFR.out.below).size; (try (replace x2 := (hb5.cell (p := ⟨bp, 2, none⟩) HCUR.out.lt.2).trans x2)); clear hb5; replace HCUR := Lib.hid h5; replace HFR := Lib.hid (HFR.out.trans f5); replace HY := Lib.hid (f5.blk HY.out oddT_node); replace a0 := HY.out.cell 0; replace a3 := HY.out.cell 3; replace m3 := HCUR.out.mark_cell.1; replace m4 := HCUR.out.mark_cell.2; simp only [List.getElem?_toArray, List.getElem?_cons_zero, List.getElem?_cons_succ] at a0 a3; clear h5 f5) | (go_at_call 58; (first | refine (KW.out _ (HB1.out.trans HFR.out.below)).mono ?_ | refine (KW.out _ (HB1.out.trans (HFR.out.trans (HCUR.out.mark true).2).below)).mono ?_); rintro e w5 ⟨rfl, rfl⟩) | (go_at_call 49; refine (end_any HCUR.out (by have := HSZ.out; unfold Ls.sz at this; omega)).mono ?_; rintro e w5 ⟨rfl, h5, f5⟩; replace HSZ := Lib.hid (Nat.le_trans (sz_fin _) HSZ.out); replace HCUR := Lib.hid h5; replace HFR := Lib.hid (HFR.out.trans f5); replace HY := Lib.hid (f5.blk HY.out oddT_node); replace a0 := HY.out.cell 0; replace a3 := HY.out.cell 3; replace m3 := HCUR.out.mark_cell.1; replace m4 := HCUR.out.mark_cell.2; simp only [List.getElem?_toArray, List.getElem?_cons_zero, List.getElem?_cons_succ] at a0 a3; clear h5 f5) | (go_at_call 70; refine (put_any HCUR.out 9 (by have := HSZ.out; unfold Ls.sz at this; omega)).mono ?_; rintro e w5 ⟨rfl, h5, f5⟩; replace HSZ := Lib.hid (Nat.le_trans (sz_put _ 9) (Nat.add_le_add_right HSZ.out 15)); replace HCUR := Lib.hid h5; replace HFR := Lib.hid (HFR.out.trans f5); replace HY := Lib.hid (f5.blk HY.out oddT_node); replace a0 := HY.out.cell 0; replace a3 := HY.out.cell 3; replace m3 := HCUR.out.mark_cell.1; replace m4 := HCUR.out.mark_cell.2; simp only [List.getElem?_toArray, List.getElem?_cons_zero, List.getElem?_cons_succ] at a0 a3; clear h5 f5) | (go_at_call 48; refine (KK.out _ _ _ HCUR.out (HB1.out.trans HFR.out.below) (by have := HSZ.out; omega)).mono ?_; rintro e w5 ⟨rfl, h5, f5⟩; replace HSZ := Lib.hid (sz_after h5 HSZ.out); replace HCUR := Lib.hid h5; replace HFR := Lib.hid (HFR.out.trans f5); replace HY := Lib.hid (f5.blk HY.out oddT_node); replace a0 := HY.out.cell 0; replace a3 := HY.out.cell 3; replace m3 := HCUR.out.mark_cell.1; replace m4 := HCUR.out.mark_cell.2; simp only [List.getElem?_toArray, List.getElem?_cons_zero, List.getElem?_cons_succ] at a0 a3; clear h5 f5))
      all_goals
        go_roundw
        case rel =>
          obtain ⟨g0, g1, g2, g3, g4, g5, g6⟩ := HQ.out
          have hr := HBR.out
          simp at hr
          exact HFIN.out _ _ (by simp [oneL, HBL.out, hr, g0, g1, g2, g3, g4, g5, g6, q4, q5]) HCUR.out HFR.out
        case measure => simp [intOf]; omega
    · have hfin : s1 = R := by
        have := HK.out
        rw [List.drop_eq_nil_of_le (by omega), nodesL_nil] at this
        exact this
      subst hfin
      go_wp2
      go_end0
      exact ⟨rfl, HPr.out, HF.out⟩
end Go.Proofs.YtcogoiphpfgkdaaDoor
