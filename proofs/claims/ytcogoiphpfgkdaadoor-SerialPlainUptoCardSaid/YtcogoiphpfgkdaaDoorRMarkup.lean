/-
  The contracts of the reference's End and Pieces.
-/
import Derived.Test.YtcogoiphpfgkdaaDoorRStart
import Derived.Test.YtcogoiphpfgkdaaDoorMarkupYield
namespace Go.Proofs.YtcogoiphpfgkdaaDoor
open Go.RowKit
set_option linter.unusedVariables false
set_option linter.unusedSimpArgs false

def endB (nm : List UInt8) : List UInt8 := if nm ∈ setNames1 then [] else endTag nm
set_option maxHeartbeats 1000000 in
set_option maxRecDepth 100000 in
theorem rEnd_any (nm tx : List UInt8) (va vk : Value) (w : World) (hn : nm.length ≤ 1048576) :
    Calls Tryd.prog 25 #[.agg #[.string (str nm), .string (str tx), va, vk]] w fun e w' => e = .returned (.string (str (endB nm))) ∧ Below w.heap.size w w' := by
  have K := Lib.hid (rbare_any nm)
  obtain ⟨b, hb⟩ : ∃ b, decide (nm ∈ setNames1) = b := ⟨_, rfl⟩
  have hE : endB nm = if b then [] else endTag nm := by rw [← hb]; unfold endB; simp
  rw [hb] at K
  have e1 : (⟨#[60, 47]⟩ : ByteArray) ++ str nm = str ([60, 47] ++ nm) := str_append [60, 47] nm
  have e2 : str ([60, 47] ++ nm) ++ (⟨#[62]⟩ : ByteArray) = str (endTag nm) := str_append _ [62]
  have z1 : (str nm).size ≤ 1048576 := by rw [str_size]; omega
  have z2 : (str ([60, 47] ++ nm)).size ≤ 1048579 := by rw [str_size]; simp; omega
  rw [hE]
  generalize endTag nm = y at e2 hE ⊢
  obtain ⟨y1, hy1⟩ : ∃ y1, [60, 47] ++ nm = y1 := ⟨_, rfl⟩
  rw [hy1] at e1 e2 z2
  clear hb hE hy1
  go_enter Tryd.func25, Tryd.ntmps25
  go_wp2_with fail
  obtain ⟨W1, hW1⟩ : ∃ W1, (w.alloc (.cells #[.string (str nm), .string (str tx), va, vk] 41)) = W1 := ⟨_, rfl⟩
  rw [hW1]
  have B1 : Below w.heap.size w W1 := by rw [← hW1]; exact (Below.refl _ w).alloc (Nat.le_refl _) _
  have hb1 : Blk W1 w.heap.size 41 #[.string (str nm), .string (str tx), va, vk] := by rw [← hW1]; exact Blk.new w _ _
  have hl1 := hb1.lt
  refine (K.out W1).mono ?_
  rintro e w2 ⟨rfl, hb2⟩
  have HB2 := Lib.hid (B1.trans (hb2.mono B1.size))
  have y2 := hb1.below hb2 hl1
  have x0 := y2.cell 0
  simp only [List.getElem?_toArray, List.getElem?_cons_zero] at x0
  clear hW1 B1 hb1 hb2 y2
  cases b with
  | true =>
    go_wp2
    go_ret
    exact ⟨rfl, HB2.out⟩
  | false =>
    go_wp2
    go_ret
    exact ⟨rfl, HB2.out⟩

def ptCells (p : PT) : List Value := [.int .i64 p.d, .string (str p.t)]
theorem ptCells_length (p : PT) : (ptCells p).length = 2 := rfl
theorem ptCells_one (p : PT) : ∀ u ∈ ptCells p, u.oneCell' = true := by intro u hu; simp [ptCells] at hu; rcases hu with rfl | rfl <;> rfl
theorem ptinfo : (Tryd.prog.info? 43).map (fun i => (i.zero, i.size, i.bytes)) = some (some (.agg #[.int .i64 0, .string ⟨#[]⟩]), 2, 24) := by kernel_rfl
def PtsAs (S : Nat → Prop) (L : List Nd) : Prop := ∀ (parent : List UInt8) (d : Nat) (W : World) (A : Option Addr) (c : Nat), Ns S W A L.length L → (∀ k, S k → k < W.heap.size) → d + wt L ≤ 1099511627776 →
  Calls Tryd.prog 17 #[.string (str parent), .int .i64 d, .slice A L.length c] W (Gives fun v w' => w'.ownsRow W.heap.size 43 2 v (ptB parent d L).length ((ptB parent d L).flatMap ptCells) ∧ Below W.heap.size W w')

set_option maxHeartbeats 2000000 in
set_option maxRecDepth 100000 in
theorem rpts_any (S : Nat → Prop) (L : List Nd) : wt L ≤ 1048576 → PtsAs S L := by
  obtain ⟨i0, hi, hz0, hz1, hz2⟩ := info_parts ptinfo
  induction L using nds_ind with
  | _ L IH =>
  intro hw parent d W A c hN hS hdd
  have hPl := (ptB_le L parent d).1
  obtain ⟨R, hR⟩ : ∃ R, ptB parent d L = R := ⟨_, rfl⟩
  rw [hR] at hPl ⊢
  have hll := wt_length L
  have HIH := Lib.hid IH
  have HN := Lib.hid hN
  have HS := Lib.hid (fun (W' : World) (h : W.heap.size ≤ W'.heap.size) (k : Nat) (hk : S k) => Nat.lt_of_lt_of_le (hS k hk) h)
  have HR := Lib.hid hR
  have HW := Lib.hid (fun d (h : d ∈ L) => wt_mem h)
  clear IH hN hS hR
  go_enter Tryd.func17, Tryd.ntmps17
  go_wp2
  go_loopw [7, 12] (fun v i wr => ∃ (k : Nat) (acc : List PT), k ≤ L.length ∧ i = .int .i64 k ∧ Hid (wr.ownsRow W.heap.size 43 2 v acc.length (acc.flatMap ptCells)) ∧ Hid (Below W.heap.size W wr) ∧ Hid (acc ++ ptB parent d (L.drop k) = R)) (fun _ i _ => L.length - (intOf i).toNat)
  case atStart => exact ⟨0, [], Nat.zero_le _, rfl, World.ownsRow_nil _ _ _ _, Below.refl _ _, HR.out⟩
  case round =>
    obtain ⟨k, acc, hk, rfl, HO, HB, HK⟩ := hrel
    obtain ⟨Av, cv, rfl, _, _⟩ := own_slice HO.out
    by_cases hlt : k < L.length
    · obtain ⟨x, hd⟩ : ∃ x, L[k]? = some x := ⟨L[k], List.getElem?_eq_getElem hlt⟩
      have hmem := List.mem_of_getElem? hd
      have hwd := HW.out x hmem
      obtain ⟨ad, Aa, ca, Ak, ck, rfl, hsa, hsb, c0, c1, c2, c3, hra, hnk⟩ := (HN.out.behind HB.out).get hd
      have hdk : L.drop k = x :: L.drop (k + 1) := by
        rw [List.drop_eq_getElem_cons hlt]
        rw [List.getElem?_eq_getElem hlt] at hd
        rw [Option.some.inj hd]
      have hv := HK.out
      rw [hdk, ptB_cons, ← List.append_assoc] at hv
      have lb := HB.out.size
      have hbl := HS.out W (Nat.le_refl _) _ hsa
      have hbl2 := HS.out W (Nat.le_refl _) _ hsb
      have i1 : (0 : Int) ≤ (k : Int) := by omega
      have i2 : (k : Int) < (L.length : Int) := by omega
      have IHd := HIH.out x hmem (by omega)
      obtain ⟨nm, tx, ats, kids⟩ := x
      simp only [Nd.name, Nd.text, Nd.attrs, Nd.kids] at hwd c0 c1 c2 c3 hra hnk hv IHd
      have hkl := (ptB_le kids nm (d + 1)).1
      have HVV := Lib.hid hv
      have HID := Lib.hid IHd
      have HRA := Lib.hid hra
      have HNK := Lib.hid hnk
      clear hv HK hdk hd hmem hra hnk IHd
      obtain ⟨W1, hW1⟩ : ∃ W1, wr.alloc (.cells #[.string (str nm), .string (str tx), .slice Aa ats.length ca, .slice Ak kids.length ck] 41) = W1 := ⟨_, rfl⟩
      have hb1 : Below wr.heap.size wr W1 := by rw [← hW1]; exact (Below.refl _ wr).alloc (Nat.le_refl _) _
      have B1 := Lib.hid (HB.out.trans (hb1.mono lb))
      have O1 := Lib.hid (own_behind HO.out hb1)
      have RA1 := Lib.hid (HRA.out.behind hb1)
      have NK1 := Lib.hid (HNK.out.behind hb1)
      have l1 := hb1.size
      have y1 : Blk W1 wr.heap.size 41 #[.string (str nm), .string (str tx), .slice Aa ats.length ca, .slice Ak kids.length ck] := by rw [← hW1]; exact Blk.new _ _ _
      have y1l := y1.lt
      have a0 := y1.cell 0
      have a1 := y1.cell 1
      have a2 := y1.cell 2
      have a3 := y1.cell 3
      simp only [List.getElem?_toArray, List.getElem?_cons_zero, List.getElem?_cons_succ] at a0 a1 a2 a3
      have HY := Lib.hid y1
      clear hb1 y1 HO HB HRA HNK
      have hkle : acc.length ≤ 2097152 := by
        have := congrArg List.length HVV.out
        rw [List.length_append, List.length_append] at this
        omega
      by_cases hnm : nm = []
      · subst hnm
        have K := Lib.hid (rraw_any parent)
        have hpt : ∀ ks, ptOne parent d [] tx ats ks = [⟨d, textB parent tx⟩] := fun ks => by unfold ptOne; rw [if_pos rfl]
        have hv2 := HVV.out
        rw [hpt] at hv2
        unfold textB at hv2
        obtain ⟨b, hb⟩ : ∃ b, decide (parent ∈ rawNames) = b := ⟨_, rfl⟩
        rw [hb] at K
        cases b with
        | true =>
          rw [if_pos (of_decide_eq_true hb)] at hv2
          have HV2 := Lib.hid hv2
          clear hv2 hb hpt
          go_wp2_with fail
          refine (K.out W1).mono ?_
          rintro e w2 ⟨rfl, hb2⟩
          have l2 := hb2.size
          have B2 := Lib.hid (B1.out.trans (hb2.mono B1.out.size))
          have O2 := Lib.hid (own_behind O1.out hb2)
          have y2 := HY.out.below hb2 y1l
          have z1 := y2.cell 1
          simp only [List.getElem?_toArray, List.getElem?_cons_zero, List.getElem?_cons_succ] at z1
          clear hb2 y2 a0 a1 a2 a3 hW1
          go_wp2_with (at_builtin; refine wpList_append_row _ rfl _ _ 33 rfl W.heap.size 43 i0 _ 2 24 Tryd.underlying33 hi hz0 hz1 hz2 rfl (by decide) _ (acc).length ((acc).flatMap ptCells) rfl (O2.out.alloc _) (fun j => j = w2.heap.size) (some ⟨w2.heap.size, 0, none⟩) 1 1 [.int .i64 d, .string (str tx)] rfl (Row.new w2 43 #[.int .i64 d, .string (str tx)] 2 1 rfl) (ptCells_one ⟨d, tx⟩) (by simp only [maxLen]; omega) (by omega) (by have := B2.out.size; simp; omega) ?_; intro v3 w3 ho_w3 hg_w3 hat_w3; have O3 := Lib.hid ho_w3; have B3 := Lib.hid ((B2.out.alloc B2.out.size (.cells #[.int .i64 d, .string (str tx)] 43)).grown hg_w3 (by have := B2.out.size; simp; omega) (fun j e => (O2.out.lt j e).1)); clear ho_w3 hg_w3 hat_w3)
          go_roundw
          case rel =>
            refine ⟨k + 1, acc ++ [⟨d, tx⟩], by omega, by go_num, ?_, B3, HV2⟩
            show w3.ownsRow _ _ _ _ _ _
            rw [List.length_append, fm_snoc]
            exact O3.out
          case measure => simp [intOf]; omega
        | false =>
          rw [if_neg (of_decide_eq_false hb)] at hv2
          have hel := escB_le false tx
          have K2 := Lib.hid (fun W => rEscape_any false tx W (by omega))
          obtain ⟨es, hes⟩ : ∃ es, escB false tx = es := ⟨_, rfl⟩
          rw [hes] at hv2 K2 hel
          have HV2 := Lib.hid hv2
          clear hv2 hb hpt hes
          go_wp2_with fail
          refine (K.out W1).mono ?_
          rintro e w2 ⟨rfl, hb2⟩
          have l2 := hb2.size
          have B2 := Lib.hid (B1.out.trans (hb2.mono B1.out.size))
          have O2 := Lib.hid (own_behind O1.out hb2)
          have y2 := HY.out.below hb2 y1l
          have y2l := y2.lt
          have z0 := y2.cell 0
          have z1 := y2.cell 1
          simp only [List.getElem?_toArray, List.getElem?_cons_zero, List.getElem?_cons_succ] at z0 z1
          clear hb2 y2 a0 a1 a2 a3 hW1
          go_wp2_with fail
          refine (K2.out w2).mono ?_
          rintro e w4 ⟨rfl, hb4⟩
          have B4 := Lib.hid (B2.out.trans (hb4.mono B2.out.size))
          have O4 := Lib.hid (own_behind O2.out hb4)
          clear hb4 z0 z1
          go_wp2_with (at_builtin; refine wpList_append_row _ rfl _ _ 33 rfl W.heap.size 43 i0 _ 2 24 Tryd.underlying33 hi hz0 hz1 hz2 rfl (by decide) _ (acc).length ((acc).flatMap ptCells) rfl (O4.out.alloc _) (fun j => j = w4.heap.size) (some ⟨w4.heap.size, 0, none⟩) 1 1 [.int .i64 d, .string (str es)] rfl (Row.new w4 43 #[.int .i64 d, .string (str es)] 2 1 rfl) (ptCells_one ⟨d, es⟩) (by simp only [maxLen]; omega) (by omega) (by have := B4.out.size; simp; omega) ?_; intro v3 w3 ho_w3 hg_w3 hat_w3; have O3 := Lib.hid ho_w3; have B3 := Lib.hid ((B4.out.alloc B4.out.size (.cells #[.int .i64 d, .string (str es)] 43)).grown hg_w3 (by have := B4.out.size; simp; omega) (fun j e => (O4.out.lt j e).1)); clear ho_w3 hg_w3 hat_w3)
          go_roundw
          case rel =>
            refine ⟨k + 1, acc ++ [⟨d, es⟩], by omega, by go_num, ?_, B3, HV2⟩
            show w3.ownsRow _ _ _ _ _ _
            rw [List.length_append, fm_snoc]
            exact O3.out
          case measure => simp [intOf]; omega
      · have q0 : (nm == []) = false := by simpa using hnm
        have K := Lib.hid (rbare_any nm)
        have hpt : ∀ ks, ptOne parent d nm tx ats ks = if nm ∈ setNames1 then [⟨d, startB nm ats⟩] else ⟨d, startB nm ats⟩ :: (ks ++ [⟨d, endTag nm⟩]) := fun ks => by unfold ptOne; rw [if_neg hnm]
        have hv2 := HVV.out
        rw [hpt] at hv2
        have hsl := startB_le nm ats
        have KS := Lib.hid (fun (W' : World) (hr : Row S W' 2 Aa ats.length (ats.flatMap atCells)) hs => rStart_any S nm tx ats Aa Ak ca kids.length ck W' hr hs (by omega))
        have KE := Lib.hid (fun W => rEnd_any nm tx (.slice Aa ats.length ca) (.slice Ak kids.length ck) W (by omega))
        obtain ⟨b, hb⟩ : ∃ b, decide (nm ∈ setNames1) = b := ⟨_, rfl⟩
        obtain ⟨ss, hss⟩ : ∃ ss, startB nm ats = ss := ⟨_, rfl⟩
        rw [hb] at K
        rw [hss] at KS hsl hv2
        cases b with
        | true =>
          rw [if_pos (of_decide_eq_true hb)] at hv2
          have HV2 := Lib.hid hv2
          clear hv2 hb hpt hss hnm
          go_wp2_with fail
          refine (K.out W1).mono ?_
          rintro e w2 ⟨rfl, hb2⟩
          have l2 := hb2.size
          have B2 := Lib.hid (B1.out.trans (hb2.mono B1.out.size))
          have O2 := Lib.hid (own_behind O1.out hb2)
          have RA2 := Lib.hid (RA1.out.behind hb2)
          have y2 := HY.out.below hb2 y1l
          have y2l := y2.lt
          have z0 := y2.cell 0
          have z1 := y2.cell 1
          have z2 := y2.cell 2
          have z3 := y2.cell 3
          simp only [List.getElem?_toArray, List.getElem?_cons_zero, List.getElem?_cons_succ] at z0 z1 z2 z3
          clear hb2 y2 a0 a1 a2 a3 hW1
          go_wp2_with fail
          refine (KS.out w2 RA2.out (HS.out w2 B2.out.size)).mono ?_
          rintro e w4 ⟨rfl, hb4⟩
          have B4 := Lib.hid (B2.out.trans (hb4.mono B2.out.size))
          have O4 := Lib.hid (own_behind O2.out hb4)
          clear hb4 z0 z1 z2 z3
          go_wp2_with (at_builtin; refine wpList_append_row _ rfl _ _ 33 rfl W.heap.size 43 i0 _ 2 24 Tryd.underlying33 hi hz0 hz1 hz2 rfl (by decide) _ (acc).length ((acc).flatMap ptCells) rfl (O4.out.alloc _) (fun j => j = w4.heap.size) (some ⟨w4.heap.size, 0, none⟩) 1 1 [.int .i64 d, .string (str ss)] rfl (Row.new w4 43 #[.int .i64 d, .string (str ss)] 2 1 rfl) (ptCells_one ⟨d, ss⟩) (by simp only [maxLen]; omega) (by omega) (by have := B4.out.size; simp; omega) ?_; intro v3 w3 ho_w3 hg_w3 hat_w3; have O3 := Lib.hid ho_w3; have B3 := Lib.hid ((B4.out.alloc B4.out.size (.cells #[.int .i64 d, .string (str ss)] 43)).grown hg_w3 (by have := B4.out.size; simp; omega) (fun j e => (O4.out.lt j e).1)); clear ho_w3 hg_w3 hat_w3)
          go_roundw
          case rel =>
            refine ⟨k + 1, acc ++ [⟨d, ss⟩], by omega, by go_num, ?_, B3, HV2⟩
            show w3.ownsRow _ _ _ _ _ _
            rw [List.length_append, fm_snoc]
            exact O3.out
          case measure => simp [intOf]; omega
        | false =>
          rw [if_neg (of_decide_eq_false hb)] at hv2
          have hend : endB nm = endTag nm := by unfold endB; rw [if_neg (of_decide_eq_false hb)]
          rw [hend] at KE
          obtain ⟨ks, hks⟩ : ∃ ks, ptB nm (d + 1) kids = ks := ⟨_, rfl⟩
          have KK := Lib.hid (fun (W' : World) (hN : Ns S W' Ak kids.length kids) hs => HID.out nm (d + 1) W' Ak ck hN hs (by omega))
          rw [hks] at hv2 hkl KK
          simp only [Int.natCast_add, Int.natCast_one] at KK
          have hv3 : acc ++ [⟨d, ss⟩] ++ ks ++ [⟨d, endTag nm⟩] ++ ptB parent d (L.drop (k + 1)) = R := by rw [← hv2]; simp
          obtain ⟨en, hen⟩ : ∃ en, endTag nm = en := ⟨_, rfl⟩
          rw [hen] at hv3 KE
          have HV2 := Lib.hid hv3
          clear hv2 hv3 hb hpt hss hnm hend hks hen
          go_wp2_with fail
          refine (K.out W1).mono ?_
          rintro e w2 ⟨rfl, hb2⟩
          have l2 := hb2.size
          have B2 := Lib.hid (B1.out.trans (hb2.mono B1.out.size))
          have O2 := Lib.hid (own_behind O1.out hb2)
          have RA2 := Lib.hid (RA1.out.behind hb2)
          have NK2 := Lib.hid (NK1.out.behind hb2)
          have y2 := HY.out.below hb2 y1l
          have y2l := y2.lt
          have z0 := y2.cell 0
          have z1 := y2.cell 1
          have z2 := y2.cell 2
          have z3 := y2.cell 3
          simp only [List.getElem?_toArray, List.getElem?_cons_zero, List.getElem?_cons_succ] at z0 z1 z2 z3
          have Y2 := Lib.hid y2
          clear hb2 y2 a0 a1 a2 a3 hW1
          go_wp2_with fail
          refine (KS.out w2 RA2.out (HS.out w2 B2.out.size)).mono ?_
          rintro e w4 ⟨rfl, hb4⟩
          have B4 := Lib.hid (B2.out.trans (hb4.mono B2.out.size))
          have O4 := Lib.hid (own_behind O2.out hb4)
          have NK4 := Lib.hid (NK2.out.behind hb4)
          have y4 := Y2.out.below hb4 y2l
          have y4l := y4.lt
          have Y4 := Lib.hid y4
          clear hb4 z0 z1 z2 z3 y4
          go_wp2_with (at_builtin; refine wpList_append_row _ rfl _ _ 33 rfl W.heap.size 43 i0 _ 2 24 Tryd.underlying33 hi hz0 hz1 hz2 rfl (by decide) _ (acc).length ((acc).flatMap ptCells) rfl (O4.out.alloc _) (fun j => j = w4.heap.size) (some ⟨w4.heap.size, 0, none⟩) 1 1 [.int .i64 d, .string (str ss)] rfl (Row.new w4 43 #[.int .i64 d, .string (str ss)] 2 1 rfl) (ptCells_one ⟨d, ss⟩) (by simp only [maxLen]; omega) (by omega) (by have := B4.out.size; simp; omega) ?_; intro v3 w3 ho_w3 hg_w3 hat_w3; obtain ⟨A3, c3, rfl, _, _⟩ := own_slice ho_w3; have O3 := Lib.hid ho_w3; have B3 := Lib.hid ((B4.out.alloc B4.out.size (.cells #[.int .i64 d, .string (str ss)] 43)).grown hg_w3 (by have := B4.out.size; simp; omega) (fun j e => (O4.out.lt j e).1)); have y3 : Blk w3 wr.heap.size 41 #[.string (str nm), .string (str tx), .slice Aa ats.length ca, .slice Ak kids.length ck] := (hg_w3.block _ (Y4.out.alloc _).lt (fun e => own_ne O4.out Y4.out (by decide) e.symm)).trans (Y4.out.alloc _); have z0 := y3.cell 0; have z1 := y3.cell 1; have z2 := y3.cell 2; have z3 := y3.cell 3; simp only [List.getElem?_toArray, List.getElem?_cons_zero, List.getElem?_cons_succ] at z0 z1 z2 z3; have y3l := y3.lt; have Y3 := Lib.hid y3; have N3 := Lib.hid (NK4.out.same (w' := w3) (fun p hs _ => (((Below.refl W.heap.size w4).alloc B4.out.size (.cells #[.int .i64 d, .string (str ss)] 43)).grown hg_w3 (by have := B4.out.size; simp; omega) (fun j e => (O4.out.lt j e).1)).cell (HS.out W (Nat.le_refl _) _ hs))); clear ho_w3 hg_w3 hat_w3 y3)
          refine (KK.out w3 N3.out (HS.out w3 B3.out.size)).mono ?_
          rintro e w5 ⟨v5, rfl, ho5, hb5⟩
          obtain ⟨A5, c5, rfl, _, _⟩ := own_slice ho5
          have B5 := Lib.hid (B3.out.trans (hb5.mono B3.out.size))
          have O5 := Lib.hid (own_behind O3.out hb5)
          have K5 := Lib.hid (Row.of_own ho5)
          have y5 := Y3.out.below hb5 y3l
          have Y5 := Lib.hid y5
          have b35 := B3.out.size
          clear hb5 ho5 y5 z0 z1 z2 z3
          go_wp2_with (at_builtin; refine wpList_append_row _ rfl _ _ 33 rfl W.heap.size 43 i0 _ 2 24 Tryd.underlying33 hi hz0 hz1 hz2 rfl (by decide) _ (acc.length + 1) _ rfl O5.out (fun j => w3.heap.size ≤ j) A5 ks.length c5 (ks.flatMap ptCells) rfl K5.out (fm_one ptCells_one ks) (by simp only [maxLen]; omega) (by omega) (by have := B5.out.size; omega) ?_; intro v6 w6 ho6 hg6 hat6; obtain ⟨A6, c6, rfl, _, _⟩ := own_slice ho6; have O6 := Lib.hid ho6; have B6 := Lib.hid (B5.out.grown hg6 (by have := B5.out.size; omega) (fun j e => (O5.out.lt j e).1)); have y6 : Blk w6 wr.heap.size 41 #[.string (str nm), .string (str tx), .slice Aa ats.length ca, .slice Ak kids.length ck] := (hg6.block _ Y5.out.lt (fun e => own_ne O5.out Y5.out (by decide) e.symm)).trans Y5.out; have z0 := y6.cell 0; have z1 := y6.cell 1; have z2 := y6.cell 2; have z3 := y6.cell 3; simp only [List.getElem?_toArray, List.getElem?_cons_zero, List.getElem?_cons_succ] at z0 z1 z2 z3; have y6l := y6.lt; clear ho6 hg6 hat6 y6)
          refine (KE.out w6).mono ?_
          rintro e w7 ⟨rfl, hb7⟩
          have B7 := Lib.hid (B6.out.trans (hb7.mono B6.out.size))
          have O7 := Lib.hid (own_behind O6.out hb7)
          clear hb7 z0 z1 z2 z3
          go_wp2_with (at_builtin; refine wpList_append_row _ rfl _ _ 33 rfl W.heap.size 43 i0 _ 2 24 Tryd.underlying33 hi hz0 hz1 hz2 rfl (by decide) _ (acc.length + 1 + ks.length) _ rfl (O7.out.alloc _) (fun j => j = w7.heap.size) (some ⟨w7.heap.size, 0, none⟩) 1 1 [.int .i64 d, .string (str en)] rfl (Row.new w7 43 #[.int .i64 d, .string (str en)] 2 1 rfl) (ptCells_one ⟨d, en⟩) (by simp only [maxLen]; omega) (by omega) (by have := B7.out.size; simp; omega) ?_; intro v8 w8 ho8 hg8 hat8; have O8 := Lib.hid ho8; have B8 := Lib.hid ((B7.out.alloc B7.out.size (.cells #[.int .i64 d, .string (str en)] 43)).grown hg8 (by have := B7.out.size; simp; omega) (fun j e => (O7.out.lt j e).1)); clear ho8 hg8 hat8)
          go_roundw
          case rel =>
            refine ⟨k + 1, acc ++ [⟨d, ss⟩] ++ ks ++ [⟨d, en⟩], by omega, by go_num, ?_, B8, HV2⟩
            show w8.ownsRow _ _ _ _ _ _
            rw [List.length_append, List.length_append, List.length_append, fm_snoc, List.flatMap_append, fm_snoc]
            exact O8.out
          case measure => simp [intOf]; omega
    · have hfin : acc = R := by
        have := HK.out
        rw [List.drop_eq_nil_of_le (by omega), ptB_nil, List.append_nil] at this
        exact this
      subst hfin
      go_wp2
      go_ret
      exact ⟨_, rfl, HO.out, HB.out⟩
end Go.Proofs.YtcogoiphpfgkdaaDoor
