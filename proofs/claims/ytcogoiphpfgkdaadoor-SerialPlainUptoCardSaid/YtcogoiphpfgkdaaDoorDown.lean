/-
  The contract of the closure in pieces.
-/
import Derived.Test.YtcogoiphpfgkdaaDoorMarkupYield
import Derived.Test.YtcogoiphpfgkdaaDoorPlan
namespace Go.Proofs.YtcogoiphpfgkdaaDoor
open Go.RowKit
set_option linter.unusedVariables false
set_option linter.unusedSimpArgs false

set_option maxHeartbeats 2000000 in
set_option maxRecDepth 100000 in
theorem down_whole {S : Nat → Prop} {w0 : World} {J Jx : List PT → World → Prop} {cap : Value} (hy : Yield w0 (fun p W R => Calls Tryd.prog 54 #[.int .i64 p.d, .string (str p.t), cap] W R) J Jx)
    (hT : Tab w0) (hRT : RawTab w0) (hS0 : ∀ k, S k → k < w0.heap.size) (L : List Nd) : wt L ≤ 1048576 → DownAs S w0 J Jx (.func (.func 54) #[] #[cap]) L := by
  induction L using nds_ind with
  | _ L IH =>
  intro hw parent d acc W A c bE bY bS hN hwell hJ hE hY hD hlen hdd
  obtain ⟨R, hR⟩ : ∃ R, acc ++ ptB parent d L = R := ⟨_, rfl⟩
  have hRl : (ptText R).length ≤ 8388608 := by rw [← hR, ptText_append, List.length_append]; exact hlen
  rw [hR]
  have hll := wt_length L
  have HIH := Lib.hid IH
  have HN := Lib.hid hN
  have HWE := Lib.hid hwell
  have HS := Lib.hid hS0
  have HR := Lib.hid hR
  have HJ0 := Lib.hid hJ
  have HC := Lib.hid hy
  have HT := Lib.hid (fun (W : World) (h : Below w0.heap.size w0 W) => hT.behind h)
  have HRT := Lib.hid (fun (W : World) (h : Below w0.heap.size w0 W) => hRT.behind h)
  have HW := Lib.hid (fun d (h : d ∈ L) => wt_mem h)
  have HE := Lib.hid hE
  have HY := Lib.hid hY
  have HD := Lib.hid hD
  clear IH hN hS0 hR hJ hy hT hRT hlen hE hY hD hwell
  go_enter Tryd.func57, Tryd.ntmps57
  go_wp2
  go_loopw [15] (fun i wr => ∃ (k : Nat) (ac : List PT), k ≤ L.length ∧ i = .int .i64 k ∧ Hid (J ac wr) ∧ Hid (Boxes W wr) ∧ Hid (wellB (L.drop k) = true) ∧ Hid (ac ++ ptB parent d (L.drop k) = R)) (fun i _ => L.length - (intOf i).toNat)
  case atStart => exact ⟨0, acc, Nat.zero_le _, rfl, HJ0.out, Boxes.refl _, HWE.out, HR.out⟩
  case round =>
    obtain ⟨k, ac, hk, rfl, HJ, HB, HWD, HK⟩ := hrel
    by_cases hlt : k < L.length
    · obtain ⟨x, hd⟩ : ∃ x, L[k]? = some x := ⟨L[k], List.getElem?_eq_getElem hlt⟩
      have hmem := List.mem_of_getElem? hd
      have hwd := HW.out x hmem
      have hb0 := HC.out.base _ _ HJ.out
      obtain ⟨ad, Aa, ca, Ak, ck, rfl, hsa, hsb, c0, c1, c2, c3, hra, hnk⟩ := HN.out.get hd
      replace c0 := (hb0.cell (p := ad.add (k * 4)) (HS.out _ hsb)).trans c0
      replace c1 := (hb0.cell (p := ⟨(ad.add (k * 4)).block, (ad.add (k * 4)).off + 1, none⟩) (HS.out _ hsb)).trans c1
      replace c2 := (hb0.cell (p := ⟨(ad.add (k * 4)).block, (ad.add (k * 4)).off + 2, none⟩) (HS.out _ hsb)).trans c2
      replace c3 := (hb0.cell (p := ⟨(ad.add (k * 4)).block, (ad.add (k * 4)).off + 3, none⟩) (HS.out _ hsb)).trans c3
      have hdk : L.drop k = x :: L.drop (k + 1) := by
        rw [List.drop_eq_getElem_cons hlt]
        rw [List.getElem?_eq_getElem hlt] at hd
        rw [Option.some.inj hd]
      have hv := HK.out
      rw [hdk, ptB_cons] at hv
      have hwl := HWD.out
      rw [hdk, wellB_cons] at hwl
      simp only [Bool.and_eq_true] at hwl
      obtain ⟨⟨⟨hvt, hva⟩, hwk⟩, hwr⟩ := hwl
      have i1 : (0 : Int) ≤ (k : Int) := by omega
      have i2 : (k : Int) < (L.length : Int) := by omega
      have IHd := HIH.out x hmem (by omega)
      have l0 := hb0.size
      have hbl := HS.out _ hsa
      have hbl2 := HS.out _ hsb
      obtain ⟨nm, tx, ats, kids⟩ := x
      simp only [Nd.name, Nd.text, Nd.attrs, Nd.kids] at hwd c0 c1 c2 c3 hra hnk hv hvt hva hwk IHd
      have HVV := Lib.hid hv
      have HID := Lib.hid IHd
      have RA := Lib.hid (fun (W : World) (h : Below w0.heap.size w0 W) => hra.same (w' := W) (fun p hs _ => h.cell (HS.out _ hs)))
      have HNK := Lib.hid hnk
      have HWR := Lib.hid hwr
      have HWK := Lib.hid hwk
      have HVT := Lib.hid hvt
      have HVA := Lib.hid (fun a (h : a ∈ ats) => List.all_eq_true.1 hva a h)
      clear hv HK HWD hdk hd hmem hra hnk IHd hvt hva hwk hwr
      obtain ⟨W1, hW1⟩ : ∃ W1, wr.alloc (.cells #[.string (str nm), .string (str tx), .slice Aa ats.length ca, .slice Ak kids.length ck] 41) = W1 := ⟨_, rfl⟩
      have hb1 : Below wr.heap.size wr W1 := by rw [← hW1]; exact (Below.refl _ wr).alloc (Nat.le_refl _) _
      have B1 := Lib.hid (hb0.trans (hb1.mono l0))
      have X1 := Lib.hid (HB.out.trans (Boxes.of_below hb1))
      have J1 := Lib.hid (HC.out.keep _ _ _ HJ.out hb1)
      have l1 := hb1.size
      have y1 : Blk W1 wr.heap.size 41 #[.string (str nm), .string (str tx), .slice Aa ats.length ca, .slice Ak kids.length ck] := by rw [← hW1]; exact Blk.new _ _ _
      have y1l := y1.lt
      have a0 := y1.cell 0
      have a1 := y1.cell 1
      have a2 := y1.cell 2
      have a3 := y1.cell 3
      have aE := (X1.out.esc HE.out).cell 0
      have aY := (X1.out.yield HY.out).cell 0
      have aD := (X1.out.down HD.out).cell 0
      simp only [List.getElem?_toArray, List.getElem?_cons_zero, List.getElem?_cons_succ, escFn, downFn] at a0 a1 a2 a3 aE aY aD
      have lE := (X1.out.esc HE.out).lt
      have lY := (X1.out.yield HY.out).lt
      have lD := (X1.out.down HD.out).lt
      have Y1 := Lib.hid y1
      clear hb1 y1 HJ HB hb0
      have hac : (ptText ac).length + (ptText (ptOne parent d nm tx ats (ptB nm (d + 1) kids))).length ≤ 8388608 := by
        have := congrArg (fun l => (ptText l).length) HVV.out
        simp only [ptText_append, List.length_append] at this
        omega
      by_cases hnm : nm = []
      · subst hnm
        have hpt : ∀ ks, ptOne parent d [] tx ats ks = [⟨d, textB parent tx⟩] := fun ks => by unfold ptOne; rw [if_pos rfl]
        have hv2 := HVV.out
        rw [hpt] at hv2 hac
        unfold textB at hv2 hac
        have K := Lib.hid (rawParent_any parent W1 (HRT.out W1 B1.out))
        obtain ⟨b, hb⟩ : ∃ b, decide (parent ∈ rawNames) = b := ⟨_, rfl⟩
        rw [hb] at K
        cases b with
        | true =>
          rw [if_pos (of_decide_eq_true hb)] at hv2 hac
          have HV2 := Lib.hid hv2
          have KY := Lib.hid (HC.out.call ac ⟨d, tx⟩ W1 J1.out (by simpa [ptText] using hac) (by simp; omega))
          clear hv2 hb hpt hac
          go_wp2_with fail
          refine K.out.mono ?_
          rintro e w2 ⟨rfl, rfl⟩
          go_wp2_with fail
          refine KY.out.mono ?_
          rintro e w3 (⟨rfl, hJ3, hx3⟩ | ⟨rfl, hx3, _⟩)
          · have X3 := Lib.hid (X1.out.trans hx3)
            have J3 := Lib.hid hJ3
            clear hx3 hJ3
            go_wp2
            go_roundw
            case rel => exact ⟨k + 1, _, by omega, by go_num, J3, X3, HWR, Lib.hid (by have := HV2.out; rwa [← List.append_assoc] at this)⟩
            case measure => simp [intOf]; omega
          · have X3 := Lib.hid hx3
            clear hx3
            go_wp2
            go_ret
            exact .inr ⟨rfl, _, pre_snoc HV2.out, X3.out⟩
        | false =>
          rw [if_neg (of_decide_eq_false hb)] at hv2 hac
          have hel := escB_le false tx
          have K2 := Lib.hid (escape_any false tx W1 HVT.out (by omega))
          obtain ⟨es, hes⟩ : ∃ es, escB false tx = es := ⟨_, rfl⟩
          rw [hes] at hv2 K2 hel hac
          have HV2 := Lib.hid hv2
          have KY := Lib.hid (fun W (h : J ac W) => HC.out.call ac ⟨d, es⟩ W h (by simpa [ptText] using hac) (by simp; omega))
          clear hv2 hb hpt hac hes
          go_wp2_with fail
          refine K.out.mono ?_
          rintro e w2 ⟨rfl, rfl⟩
          go_wp2_with fail
          refine K2.out.mono ?_
          rintro e w2 ⟨rfl, hb2⟩
          have X2 := Lib.hid (X1.out.trans (Boxes.of_below hb2))
          have J2 := Lib.hid (HC.out.keep _ _ _ J1.out hb2)
          have zY := (X2.out.yield HY.out).cell 0
          simp only [List.getElem?_toArray, List.getElem?_cons_zero, List.getElem?_cons_succ] at zY
          clear hb2 a0 a1 a2 a3 aE aY aD
          go_wp2_with fail
          refine (KY.out _ J2.out).mono ?_
          rintro e w3 (⟨rfl, hJ3, hx3⟩ | ⟨rfl, hx3, _⟩)
          · have X3 := Lib.hid (X2.out.trans hx3)
            have J3 := Lib.hid hJ3
            clear hx3 hJ3
            go_wp2
            go_roundw
            case rel => exact ⟨k + 1, _, by omega, by go_num, J3, X3, HWR, Lib.hid (by have := HV2.out; rwa [← List.append_assoc] at this)⟩
            case measure => simp [intOf]; omega
          · have X3 := Lib.hid hx3
            clear hx3
            go_wp2
            go_ret
            exact .inr ⟨rfl, _, pre_snoc HV2.out, X3.out⟩
      · have q0 : (nm == []) = false := by simpa using hnm
        have hpt : ∀ ks, ptOne parent d nm tx ats ks = if nm ∈ setNames1 then [⟨d, startB nm ats⟩] else ⟨d, startB nm ats⟩ :: (ks ++ [⟨d, endTag nm⟩]) := fun ks => by unfold ptOne; rw [if_neg hnm]
        have hv2 := HVV.out
        rw [hpt] at hv2 hac
        have KS := Lib.hid (fun W (hr : Row S W 2 Aa ats.length (ats.flatMap atCells)) hs => start_any S nm tx ats Aa Ak ca kids.length ck W hr hs HVA.out (by omega))
        have KB := Lib.hid (fun W (h : Below w0.heap.size w0 W) => bare_any nm W (HT.out W h))
        obtain ⟨b, hb⟩ : ∃ b, decide (nm ∈ setNames1) = b := ⟨_, rfl⟩
        obtain ⟨ss, hss⟩ : ∃ ss, startB nm ats = ss := ⟨_, rfl⟩
        rw [hb] at KB
        rw [hss] at KS hac hv2
        have hac1 : (ptText ac).length + ss.length ≤ 8388608 := by
          split at hac
          · simpa [ptText] using hac
          · rw [ptText_cons, List.length_append] at hac; simp only at hac; omega
        have KY := Lib.hid (fun W (h : J ac W) => HC.out.call ac ⟨d, ss⟩ W h hac1 (by simp; omega))
        have HV2 := Lib.hid hv2
        have HAC := Lib.hid hac
        have HBB := Lib.hid hb
        clear hv2 hpt hac hss hac1 hnm hb
        go_wp2_with fail
        refine wp_region_plan (S := fun w' => w'.cell? ⟨bY, 0, none⟩ = some (.func (.func 54) #[] #[cap]) ∧ w'.cell? ⟨wr.heap.size, 0, none⟩ = some (.string (str nm)) ∧ w'.cell? ⟨wr.heap.size, 1, none⟩ = some (.string (str tx)) ∧ w'.cell? ⟨wr.heap.size, 2, none⟩ = some (.slice Aa ats.length ca) ∧ w'.cell? ⟨wr.heap.size, 3, none⟩ = some (.slice Ak kids.length ck)) 6
          [(0, true), (1, true), (2, true), (3, false), (4, false), (5, true)] (by kernel_rfl) (by kernel_rfl) ?_ (fun hHeld => ?_)
        · exact ⟨aY, a0, a1, a2, a3⟩
        iterate 3 (refine plan_take (v := ?_) rfl (by assumption) rfl (fun _ _ _ h => h) ?_ ?_; rotate_left; (· (intro w hSw; (try dsimp only at hSw); go_simp; with_reducible rfl)); all_goals (simp only [Act.put, List.setIfInBounds_toArray, List.set_cons_zero, List.set_cons_succ]))
        refine plan_op rfl (by decide) (fun K hK => ?_)
        go_simp
        have l2d : W1.heap.size ≤ W1.drew.heap.size := Nat.le_refl _
        have D1 : Below W1.heap.size W1 W1.drew := (Below.refl _ W1).drew
        refine (KS.out W1.drew (RA.out _ (B1.out.trans (D1.mono B1.out.size))) (fun k hk => Nat.lt_of_lt_of_le (HS.out k hk) (B1.out.trans (D1.mono B1.out.size)).size)).mono ?_
        rintro e w2 ⟨rfl, hb2⟩
        have D2 : Below W1.heap.size W1 w2 := D1.trans hb2
        have X2 := Lib.hid (X1.out.trans (Boxes.of_below D2))
        have J2 := Lib.hid (HC.out.keep _ _ _ J1.out D2)
        have Y2 := Lib.hid (Y1.out.below D2 y1l)
        have q0 := Y2.out.cell 0
        have q1 := Y2.out.cell 1
        have q2 := Y2.out.cell 2
        have q3 := Y2.out.cell 3
        have qY := (X2.out.yield HY.out).cell 0
        simp only [List.getElem?_toArray, List.getElem?_cons_zero, List.getElem?_cons_succ] at q0 q1 q2 q3 qY
        clear hb2 D1 D2 a0 a1 a2 a3 aE aY aD
        refine hK.out _ _ ⟨qY, q0, q1, q2, q3⟩ (fun hHeld => ?_)
        clear hK K
        try simp only [Act.put, List.setIfInBounds_toArray, List.set_cons_zero, List.set_cons_succ]
        refine plan_op rfl (by decide) (fun K hK => ?_)
        go_simp
        refine (KY.out w2 J2.out).mono ?_
        rintro e w3 (⟨rfl, hJ3, hx3⟩ | ⟨rfl, hJ3, hx3⟩)
        all_goals
          have X3 := Lib.hid (X2.out.trans hx3)
          have J3 := Lib.hid hJ3
          have Y3 := Lib.hid (hx3.node Y2.out)
          have p0 := Y3.out.cell 0
          have p1 := Y3.out.cell 1
          have p2 := Y3.out.cell 2
          have p3 := Y3.out.cell 3
          have pY := (X3.out.yield HY.out).cell 0
          have pD := (X3.out.down HD.out).cell 0
          simp only [List.getElem?_toArray, List.getElem?_cons_zero, List.getElem?_cons_succ, downFn] at p0 p1 p2 p3 pY pD
          have y3l := Y3.out.lt
          clear hJ3 hx3 q0 q1 q2 q3 qY
          refine hK.out _ _ ⟨pY, p0, p1, p2, p3⟩ (fun hHeld => ?_)
          clear hK K
          try simp only [Act.put, List.setIfInBounds_toArray, List.set_cons_zero, List.set_cons_succ]
          iterate 1 (refine plan_take (v := ?_) rfl (by assumption) rfl (fun _ _ _ h => h) ?_ ?_; rotate_left; (· (intro w hSw; (try dsimp only at hSw); go_simp; with_reducible rfl)); all_goals (simp only [Act.put, List.setIfInBounds_toArray, List.set_cons_zero, List.set_cons_succ]))
          simp only [wpPlan]
        rotate_left
        · go_wp2
          go_ret
          have hp : ac ++ [⟨d, ss⟩] <+: R := by
            have := HV2.out
            split at this
            · exact pre_snoc (r := ptB parent d (L.drop (k + 1))) (by simpa using this)
            · exact pre_snoc (r := ptB nm (d + 1) kids ++ ⟨d, endTag nm⟩ :: ptB parent d (L.drop (k + 1))) (by simpa using this)
          exact .inr ⟨rfl, _, hp, J3.out⟩
        · have B3 := Lib.hid (HC.out.base _ _ J3.out)
          go_wp2_with fail
          refine (KB.out w3 B3.out).mono ?_
          rintro e w4 ⟨rfl, hb4⟩
          have X4 := Lib.hid (X3.out.trans (Boxes.of_below hb4))
          have J4 := Lib.hid (HC.out.keep _ _ _ J3.out hb4)
          have Y4 := Lib.hid (Y3.out.below hb4 y3l)
          have q0 := Y4.out.cell 0
          have q1 := Y4.out.cell 1
          have q2 := Y4.out.cell 2
          have q3 := Y4.out.cell 3
          have qY := (X4.out.yield HY.out).cell 0
          have qD := (X4.out.down HD.out).cell 0
          simp only [List.getElem?_toArray, List.getElem?_cons_zero, List.getElem?_cons_succ, downFn] at q0 q1 q2 q3 qY qD
          clear hb4 p0 p1 p2 p3 pY pD
          cases b with
          | true =>
            go_wp2
            go_roundw
            case rel => exact ⟨k + 1, _, by omega, by go_num, J4, X4, HWR, Lib.hid (by have := HV2.out; rw [if_pos (of_decide_eq_true HBB.out)] at this; rwa [← List.append_assoc] at this)⟩
            case measure => simp [intOf]; omega
          | false =>
            have hv3 := HV2.out
            rw [if_neg (of_decide_eq_false HBB.out)] at hv3
            have hac3 := HAC.out
            rw [if_neg (of_decide_eq_false HBB.out)] at hac3
            have kk := HID.out nm (d + 1) (ac ++ [⟨d, ss⟩]) w4 Ak ck bE bY bS HNK.out HWK.out J4.out (X4.out.esc HE.out) (X4.out.yield HY.out) (X4.out.down HD.out)
            obtain ⟨ks, hks⟩ : ∃ ks, ptB nm (d + 1) kids = ks := ⟨_, rfl⟩
            obtain ⟨en, hen⟩ : ∃ en, endTag nm = en := ⟨_, rfl⟩
            rw [hks] at kk hv3 hac3
            rw [hen] at hv3 hac3
            rw [ptText_cons, ptText_append, List.length_append, List.length_append] at hac3
            have hen1 : (ptText [(⟨d, en⟩ : PT)]).length = en.length := by simp [ptText]
            simp only [hen1] at hac3
            have e1 : (⟨#[60, 47]⟩ : ByteArray) ++ str nm = str ([60, 47] ++ nm) := str_append [60, 47] nm
            have e2 : str ([60, 47] ++ nm) ++ (⟨#[62]⟩ : ByteArray) = str en := by rw [← hen]; exact str_append _ [62]
            have z1 : (str nm).size ≤ 1048576 := by rw [str_size]; omega
            have z2 : (str ([60, 47] ++ nm)).size ≤ 1048579 := by rw [str_size]; simp; omega
            obtain ⟨y1, hy1⟩ : ∃ y1, [60, 47] ++ nm = y1 := ⟨_, rfl⟩
            rw [hy1] at e1 e2 z2
            have kk2 := kk (by rw [ptText_snoc]; simp only; omega) (by omega)
            simp only [Int.natCast_add, Int.natCast_one] at kk2
            have KK := Lib.hid kk2
            have hv4 : ac ++ [⟨d, ss⟩] ++ ks ++ (⟨d, en⟩ :: ptB parent d (L.drop (k + 1))) = R := by rw [← hv3]; simp
            have HV4 := Lib.hid hv4
            have KE := Lib.hid (fun W (h : J (ac ++ [⟨d, ss⟩] ++ ks) W) => HC.out.call (ac ++ [⟨d, ss⟩] ++ ks) ⟨d, en⟩ W h (by rw [ptText_append, List.length_append, ptText_snoc]; simp only; omega) (by simp; omega))
            have y4l := Y4.out.lt
            clear kk kk2 hv3 hv4 hac3 hen1 hks hen hy1
            go_wp2_with fail
            refine KK.out.mono ?_
            rintro e w5 (⟨rfl, hJ5, hx5⟩ | ⟨rfl, q, hq, hx5⟩)
            · have X5 := Lib.hid (X4.out.trans hx5)
              have J5 := Lib.hid hJ5
              have Y5 := Lib.hid (hx5.node Y4.out)
              have p0 := Y5.out.cell 0
              have pY := (X5.out.yield HY.out).cell 0
              simp only [List.getElem?_toArray, List.getElem?_cons_zero, List.getElem?_cons_succ] at p0 pY
              clear hJ5 hx5 q0 q1 q2 q3 qY qD
              go_wp2_with fail
              refine (KE.out w5 J5.out).mono ?_
              rintro e w6 (⟨rfl, hJ6, hx6⟩ | ⟨rfl, hJ6, hx6⟩)
              · have X6 := Lib.hid (X5.out.trans hx6)
                have J6 := Lib.hid hJ6
                clear hJ6 hx6 p0 pY
                go_wp2
                go_roundw
                case rel => exact ⟨k + 1, _, by omega, by go_num, J6, X6, HWR, Lib.hid (by have := HV4.out; rw [← this]; simp)⟩
                case measure => simp [intOf]; omega
              · have J6 := Lib.hid hJ6
                clear hJ6 hx6 p0 pY
                go_wp2
                go_ret
                exact .inr ⟨rfl, _, pre_snoc HV4.out, J6.out⟩
            · have HX5 := Lib.hid hx5
              have HQ := Lib.hid hq
              clear hx5 hq q0 q1 q2 q3 qY qD
              go_wp2
              go_ret
              exact .inr ⟨rfl, q, HQ.out.trans ⟨_, HV4.out⟩, HX5.out⟩
    · have hfin : ac = R := by
        have := HK.out
        rw [List.drop_eq_nil_of_le (by omega), ptB_nil, List.append_nil] at this
        exact this
      subst hfin
      go_wp2
      go_ret
      exact .inl ⟨rfl, HJ.out, HB.out⟩
set_option maxHeartbeats 2000000 in
set_option maxRecDepth 100000 in
theorem down_len {S : Nat → Prop} {w0 : World} {J Jx : List PT → World → Prop} {cap : Value} (hy : Yield w0 (fun p W R => Calls Tryd.prog 34 #[.int .i64 p.d, .string (str p.t), cap] W R) J Jx)
    (hT : Tab w0) (hRT : RawTab w0) (hS0 : ∀ k, S k → k < w0.heap.size) (L : List Nd) : wt L ≤ 1048576 → DownAs S w0 J Jx (.func (.func 34) #[] #[cap]) L := by
  induction L using nds_ind with
  | _ L IH =>
  intro hw parent d acc W A c bE bY bS hN hwell hJ hE hY hD hlen hdd
  obtain ⟨R, hR⟩ : ∃ R, acc ++ ptB parent d L = R := ⟨_, rfl⟩
  have hRl : (ptText R).length ≤ 8388608 := by rw [← hR, ptText_append, List.length_append]; exact hlen
  rw [hR]
  have hll := wt_length L
  have HIH := Lib.hid IH
  have HN := Lib.hid hN
  have HWE := Lib.hid hwell
  have HS := Lib.hid hS0
  have HR := Lib.hid hR
  have HJ0 := Lib.hid hJ
  have HC := Lib.hid hy
  have HT := Lib.hid (fun (W : World) (h : Below w0.heap.size w0 W) => hT.behind h)
  have HRT := Lib.hid (fun (W : World) (h : Below w0.heap.size w0 W) => hRT.behind h)
  have HW := Lib.hid (fun d (h : d ∈ L) => wt_mem h)
  have HE := Lib.hid hE
  have HY := Lib.hid hY
  have HD := Lib.hid hD
  clear IH hN hS0 hR hJ hy hT hRT hlen hE hY hD hwell
  go_enter Tryd.func57, Tryd.ntmps57
  go_wp2
  go_loopw [15] (fun i wr => ∃ (k : Nat) (ac : List PT), k ≤ L.length ∧ i = .int .i64 k ∧ Hid (J ac wr) ∧ Hid (Boxes W wr) ∧ Hid (wellB (L.drop k) = true) ∧ Hid (ac ++ ptB parent d (L.drop k) = R)) (fun i _ => L.length - (intOf i).toNat)
  case atStart => exact ⟨0, acc, Nat.zero_le _, rfl, HJ0.out, Boxes.refl _, HWE.out, HR.out⟩
  case round =>
    obtain ⟨k, ac, hk, rfl, HJ, HB, HWD, HK⟩ := hrel
    by_cases hlt : k < L.length
    · obtain ⟨x, hd⟩ : ∃ x, L[k]? = some x := ⟨L[k], List.getElem?_eq_getElem hlt⟩
      have hmem := List.mem_of_getElem? hd
      have hwd := HW.out x hmem
      have hb0 := HC.out.base _ _ HJ.out
      obtain ⟨ad, Aa, ca, Ak, ck, rfl, hsa, hsb, c0, c1, c2, c3, hra, hnk⟩ := HN.out.get hd
      replace c0 := (hb0.cell (p := ad.add (k * 4)) (HS.out _ hsb)).trans c0
      replace c1 := (hb0.cell (p := ⟨(ad.add (k * 4)).block, (ad.add (k * 4)).off + 1, none⟩) (HS.out _ hsb)).trans c1
      replace c2 := (hb0.cell (p := ⟨(ad.add (k * 4)).block, (ad.add (k * 4)).off + 2, none⟩) (HS.out _ hsb)).trans c2
      replace c3 := (hb0.cell (p := ⟨(ad.add (k * 4)).block, (ad.add (k * 4)).off + 3, none⟩) (HS.out _ hsb)).trans c3
      have hdk : L.drop k = x :: L.drop (k + 1) := by
        rw [List.drop_eq_getElem_cons hlt]
        rw [List.getElem?_eq_getElem hlt] at hd
        rw [Option.some.inj hd]
      have hv := HK.out
      rw [hdk, ptB_cons] at hv
      have hwl := HWD.out
      rw [hdk, wellB_cons] at hwl
      simp only [Bool.and_eq_true] at hwl
      obtain ⟨⟨⟨hvt, hva⟩, hwk⟩, hwr⟩ := hwl
      have i1 : (0 : Int) ≤ (k : Int) := by omega
      have i2 : (k : Int) < (L.length : Int) := by omega
      have IHd := HIH.out x hmem (by omega)
      have l0 := hb0.size
      have hbl := HS.out _ hsa
      have hbl2 := HS.out _ hsb
      obtain ⟨nm, tx, ats, kids⟩ := x
      simp only [Nd.name, Nd.text, Nd.attrs, Nd.kids] at hwd c0 c1 c2 c3 hra hnk hv hvt hva hwk IHd
      have HVV := Lib.hid hv
      have HID := Lib.hid IHd
      have RA := Lib.hid (fun (W : World) (h : Below w0.heap.size w0 W) => hra.same (w' := W) (fun p hs _ => h.cell (HS.out _ hs)))
      have HNK := Lib.hid hnk
      have HWR := Lib.hid hwr
      have HWK := Lib.hid hwk
      have HVT := Lib.hid hvt
      have HVA := Lib.hid (fun a (h : a ∈ ats) => List.all_eq_true.1 hva a h)
      clear hv HK HWD hdk hd hmem hra hnk IHd hvt hva hwk hwr
      obtain ⟨W1, hW1⟩ : ∃ W1, wr.alloc (.cells #[.string (str nm), .string (str tx), .slice Aa ats.length ca, .slice Ak kids.length ck] 41) = W1 := ⟨_, rfl⟩
      have hb1 : Below wr.heap.size wr W1 := by rw [← hW1]; exact (Below.refl _ wr).alloc (Nat.le_refl _) _
      have B1 := Lib.hid (hb0.trans (hb1.mono l0))
      have X1 := Lib.hid (HB.out.trans (Boxes.of_below hb1))
      have J1 := Lib.hid (HC.out.keep _ _ _ HJ.out hb1)
      have l1 := hb1.size
      have y1 : Blk W1 wr.heap.size 41 #[.string (str nm), .string (str tx), .slice Aa ats.length ca, .slice Ak kids.length ck] := by rw [← hW1]; exact Blk.new _ _ _
      have y1l := y1.lt
      have a0 := y1.cell 0
      have a1 := y1.cell 1
      have a2 := y1.cell 2
      have a3 := y1.cell 3
      have aE := (X1.out.esc HE.out).cell 0
      have aY := (X1.out.yield HY.out).cell 0
      have aD := (X1.out.down HD.out).cell 0
      simp only [List.getElem?_toArray, List.getElem?_cons_zero, List.getElem?_cons_succ, escFn, downFn] at a0 a1 a2 a3 aE aY aD
      have lE := (X1.out.esc HE.out).lt
      have lY := (X1.out.yield HY.out).lt
      have lD := (X1.out.down HD.out).lt
      have Y1 := Lib.hid y1
      clear hb1 y1 HJ HB hb0
      have hac : (ptText ac).length + (ptText (ptOne parent d nm tx ats (ptB nm (d + 1) kids))).length ≤ 8388608 := by
        have := congrArg (fun l => (ptText l).length) HVV.out
        simp only [ptText_append, List.length_append] at this
        omega
      by_cases hnm : nm = []
      · subst hnm
        have hpt : ∀ ks, ptOne parent d [] tx ats ks = [⟨d, textB parent tx⟩] := fun ks => by unfold ptOne; rw [if_pos rfl]
        have hv2 := HVV.out
        rw [hpt] at hv2 hac
        unfold textB at hv2 hac
        have K := Lib.hid (rawParent_any parent W1 (HRT.out W1 B1.out))
        obtain ⟨b, hb⟩ : ∃ b, decide (parent ∈ rawNames) = b := ⟨_, rfl⟩
        rw [hb] at K
        cases b with
        | true =>
          rw [if_pos (of_decide_eq_true hb)] at hv2 hac
          have HV2 := Lib.hid hv2
          have KY := Lib.hid (HC.out.call ac ⟨d, tx⟩ W1 J1.out (by simpa [ptText] using hac) (by simp; omega))
          clear hv2 hb hpt hac
          go_wp2_with fail
          refine K.out.mono ?_
          rintro e w2 ⟨rfl, rfl⟩
          go_wp2_with fail
          refine KY.out.mono ?_
          rintro e w3 (⟨rfl, hJ3, hx3⟩ | ⟨rfl, hx3, _⟩)
          · have X3 := Lib.hid (X1.out.trans hx3)
            have J3 := Lib.hid hJ3
            clear hx3 hJ3
            go_wp2
            go_roundw
            case rel => exact ⟨k + 1, _, by omega, by go_num, J3, X3, HWR, Lib.hid (by have := HV2.out; rwa [← List.append_assoc] at this)⟩
            case measure => simp [intOf]; omega
          · have X3 := Lib.hid hx3
            clear hx3
            go_wp2
            go_ret
            exact .inr ⟨rfl, _, pre_snoc HV2.out, X3.out⟩
        | false =>
          rw [if_neg (of_decide_eq_false hb)] at hv2 hac
          have hel := escB_le false tx
          have K2 := Lib.hid (escape_any false tx W1 HVT.out (by omega))
          obtain ⟨es, hes⟩ : ∃ es, escB false tx = es := ⟨_, rfl⟩
          rw [hes] at hv2 K2 hel hac
          have HV2 := Lib.hid hv2
          have KY := Lib.hid (fun W (h : J ac W) => HC.out.call ac ⟨d, es⟩ W h (by simpa [ptText] using hac) (by simp; omega))
          clear hv2 hb hpt hac hes
          go_wp2_with fail
          refine K.out.mono ?_
          rintro e w2 ⟨rfl, rfl⟩
          go_wp2_with fail
          refine K2.out.mono ?_
          rintro e w2 ⟨rfl, hb2⟩
          have X2 := Lib.hid (X1.out.trans (Boxes.of_below hb2))
          have J2 := Lib.hid (HC.out.keep _ _ _ J1.out hb2)
          have zY := (X2.out.yield HY.out).cell 0
          simp only [List.getElem?_toArray, List.getElem?_cons_zero, List.getElem?_cons_succ] at zY
          clear hb2 a0 a1 a2 a3 aE aY aD
          go_wp2_with fail
          refine (KY.out _ J2.out).mono ?_
          rintro e w3 (⟨rfl, hJ3, hx3⟩ | ⟨rfl, hx3, _⟩)
          · have X3 := Lib.hid (X2.out.trans hx3)
            have J3 := Lib.hid hJ3
            clear hx3 hJ3
            go_wp2
            go_roundw
            case rel => exact ⟨k + 1, _, by omega, by go_num, J3, X3, HWR, Lib.hid (by have := HV2.out; rwa [← List.append_assoc] at this)⟩
            case measure => simp [intOf]; omega
          · have X3 := Lib.hid hx3
            clear hx3
            go_wp2
            go_ret
            exact .inr ⟨rfl, _, pre_snoc HV2.out, X3.out⟩
      · have q0 : (nm == []) = false := by simpa using hnm
        have hpt : ∀ ks, ptOne parent d nm tx ats ks = if nm ∈ setNames1 then [⟨d, startB nm ats⟩] else ⟨d, startB nm ats⟩ :: (ks ++ [⟨d, endTag nm⟩]) := fun ks => by unfold ptOne; rw [if_neg hnm]
        have hv2 := HVV.out
        rw [hpt] at hv2 hac
        have KS := Lib.hid (fun W (hr : Row S W 2 Aa ats.length (ats.flatMap atCells)) hs => start_any S nm tx ats Aa Ak ca kids.length ck W hr hs HVA.out (by omega))
        have KB := Lib.hid (fun W (h : Below w0.heap.size w0 W) => bare_any nm W (HT.out W h))
        obtain ⟨b, hb⟩ : ∃ b, decide (nm ∈ setNames1) = b := ⟨_, rfl⟩
        obtain ⟨ss, hss⟩ : ∃ ss, startB nm ats = ss := ⟨_, rfl⟩
        rw [hb] at KB
        rw [hss] at KS hac hv2
        have hac1 : (ptText ac).length + ss.length ≤ 8388608 := by
          split at hac
          · simpa [ptText] using hac
          · rw [ptText_cons, List.length_append] at hac; simp only at hac; omega
        have KY := Lib.hid (fun W (h : J ac W) => HC.out.call ac ⟨d, ss⟩ W h hac1 (by simp; omega))
        have HV2 := Lib.hid hv2
        have HAC := Lib.hid hac
        have HBB := Lib.hid hb
        clear hv2 hpt hac hss hac1 hnm hb
        go_wp2_with fail
        refine wp_region_plan (S := fun w' => w'.cell? ⟨bY, 0, none⟩ = some (.func (.func 34) #[] #[cap]) ∧ w'.cell? ⟨wr.heap.size, 0, none⟩ = some (.string (str nm)) ∧ w'.cell? ⟨wr.heap.size, 1, none⟩ = some (.string (str tx)) ∧ w'.cell? ⟨wr.heap.size, 2, none⟩ = some (.slice Aa ats.length ca) ∧ w'.cell? ⟨wr.heap.size, 3, none⟩ = some (.slice Ak kids.length ck)) 6
          [(0, true), (1, true), (2, true), (3, false), (4, false), (5, true)] (by kernel_rfl) (by kernel_rfl) ?_ (fun hHeld => ?_)
        · exact ⟨aY, a0, a1, a2, a3⟩
        iterate 3 (refine plan_take (v := ?_) rfl (by assumption) rfl (fun _ _ _ h => h) ?_ ?_; rotate_left; (· (intro w hSw; (try dsimp only at hSw); go_simp; with_reducible rfl)); all_goals (simp only [Act.put, List.setIfInBounds_toArray, List.set_cons_zero, List.set_cons_succ]))
        refine plan_op rfl (by decide) (fun K hK => ?_)
        go_simp
        have l2d : W1.heap.size ≤ W1.drew.heap.size := Nat.le_refl _
        have D1 : Below W1.heap.size W1 W1.drew := (Below.refl _ W1).drew
        refine (KS.out W1.drew (RA.out _ (B1.out.trans (D1.mono B1.out.size))) (fun k hk => Nat.lt_of_lt_of_le (HS.out k hk) (B1.out.trans (D1.mono B1.out.size)).size)).mono ?_
        rintro e w2 ⟨rfl, hb2⟩
        have D2 : Below W1.heap.size W1 w2 := D1.trans hb2
        have X2 := Lib.hid (X1.out.trans (Boxes.of_below D2))
        have J2 := Lib.hid (HC.out.keep _ _ _ J1.out D2)
        have Y2 := Lib.hid (Y1.out.below D2 y1l)
        have q0 := Y2.out.cell 0
        have q1 := Y2.out.cell 1
        have q2 := Y2.out.cell 2
        have q3 := Y2.out.cell 3
        have qY := (X2.out.yield HY.out).cell 0
        simp only [List.getElem?_toArray, List.getElem?_cons_zero, List.getElem?_cons_succ] at q0 q1 q2 q3 qY
        clear hb2 D1 D2 a0 a1 a2 a3 aE aY aD
        refine hK.out _ _ ⟨qY, q0, q1, q2, q3⟩ (fun hHeld => ?_)
        clear hK K
        try simp only [Act.put, List.setIfInBounds_toArray, List.set_cons_zero, List.set_cons_succ]
        refine plan_op rfl (by decide) (fun K hK => ?_)
        go_simp
        refine (KY.out w2 J2.out).mono ?_
        rintro e w3 (⟨rfl, hJ3, hx3⟩ | ⟨rfl, hJ3, hx3⟩)
        all_goals
          have X3 := Lib.hid (X2.out.trans hx3)
          have J3 := Lib.hid hJ3
          have Y3 := Lib.hid (hx3.node Y2.out)
          have p0 := Y3.out.cell 0
          have p1 := Y3.out.cell 1
          have p2 := Y3.out.cell 2
          have p3 := Y3.out.cell 3
          have pY := (X3.out.yield HY.out).cell 0
          have pD := (X3.out.down HD.out).cell 0
          simp only [List.getElem?_toArray, List.getElem?_cons_zero, List.getElem?_cons_succ, downFn] at p0 p1 p2 p3 pY pD
          have y3l := Y3.out.lt
          clear hJ3 hx3 q0 q1 q2 q3 qY
          refine hK.out _ _ ⟨pY, p0, p1, p2, p3⟩ (fun hHeld => ?_)
          clear hK K
          try simp only [Act.put, List.setIfInBounds_toArray, List.set_cons_zero, List.set_cons_succ]
          iterate 1 (refine plan_take (v := ?_) rfl (by assumption) rfl (fun _ _ _ h => h) ?_ ?_; rotate_left; (· (intro w hSw; (try dsimp only at hSw); go_simp; with_reducible rfl)); all_goals (simp only [Act.put, List.setIfInBounds_toArray, List.set_cons_zero, List.set_cons_succ]))
          simp only [wpPlan]
        rotate_left
        · go_wp2
          go_ret
          have hp : ac ++ [⟨d, ss⟩] <+: R := by
            have := HV2.out
            split at this
            · exact pre_snoc (r := ptB parent d (L.drop (k + 1))) (by simpa using this)
            · exact pre_snoc (r := ptB nm (d + 1) kids ++ ⟨d, endTag nm⟩ :: ptB parent d (L.drop (k + 1))) (by simpa using this)
          exact .inr ⟨rfl, _, hp, J3.out⟩
        · have B3 := Lib.hid (HC.out.base _ _ J3.out)
          go_wp2_with fail
          refine (KB.out w3 B3.out).mono ?_
          rintro e w4 ⟨rfl, hb4⟩
          have X4 := Lib.hid (X3.out.trans (Boxes.of_below hb4))
          have J4 := Lib.hid (HC.out.keep _ _ _ J3.out hb4)
          have Y4 := Lib.hid (Y3.out.below hb4 y3l)
          have q0 := Y4.out.cell 0
          have q1 := Y4.out.cell 1
          have q2 := Y4.out.cell 2
          have q3 := Y4.out.cell 3
          have qY := (X4.out.yield HY.out).cell 0
          have qD := (X4.out.down HD.out).cell 0
          simp only [List.getElem?_toArray, List.getElem?_cons_zero, List.getElem?_cons_succ, downFn] at q0 q1 q2 q3 qY qD
          clear hb4 p0 p1 p2 p3 pY pD
          cases b with
          | true =>
            go_wp2
            go_roundw
            case rel => exact ⟨k + 1, _, by omega, by go_num, J4, X4, HWR, Lib.hid (by have := HV2.out; rw [if_pos (of_decide_eq_true HBB.out)] at this; rwa [← List.append_assoc] at this)⟩
            case measure => simp [intOf]; omega
          | false =>
            have hv3 := HV2.out
            rw [if_neg (of_decide_eq_false HBB.out)] at hv3
            have hac3 := HAC.out
            rw [if_neg (of_decide_eq_false HBB.out)] at hac3
            have kk := HID.out nm (d + 1) (ac ++ [⟨d, ss⟩]) w4 Ak ck bE bY bS HNK.out HWK.out J4.out (X4.out.esc HE.out) (X4.out.yield HY.out) (X4.out.down HD.out)
            obtain ⟨ks, hks⟩ : ∃ ks, ptB nm (d + 1) kids = ks := ⟨_, rfl⟩
            obtain ⟨en, hen⟩ : ∃ en, endTag nm = en := ⟨_, rfl⟩
            rw [hks] at kk hv3 hac3
            rw [hen] at hv3 hac3
            rw [ptText_cons, ptText_append, List.length_append, List.length_append] at hac3
            have hen1 : (ptText [(⟨d, en⟩ : PT)]).length = en.length := by simp [ptText]
            simp only [hen1] at hac3
            have e1 : (⟨#[60, 47]⟩ : ByteArray) ++ str nm = str ([60, 47] ++ nm) := str_append [60, 47] nm
            have e2 : str ([60, 47] ++ nm) ++ (⟨#[62]⟩ : ByteArray) = str en := by rw [← hen]; exact str_append _ [62]
            have z1 : (str nm).size ≤ 1048576 := by rw [str_size]; omega
            have z2 : (str ([60, 47] ++ nm)).size ≤ 1048579 := by rw [str_size]; simp; omega
            obtain ⟨y1, hy1⟩ : ∃ y1, [60, 47] ++ nm = y1 := ⟨_, rfl⟩
            rw [hy1] at e1 e2 z2
            have kk2 := kk (by rw [ptText_snoc]; simp only; omega) (by omega)
            simp only [Int.natCast_add, Int.natCast_one] at kk2
            have KK := Lib.hid kk2
            have hv4 : ac ++ [⟨d, ss⟩] ++ ks ++ (⟨d, en⟩ :: ptB parent d (L.drop (k + 1))) = R := by rw [← hv3]; simp
            have HV4 := Lib.hid hv4
            have KE := Lib.hid (fun W (h : J (ac ++ [⟨d, ss⟩] ++ ks) W) => HC.out.call (ac ++ [⟨d, ss⟩] ++ ks) ⟨d, en⟩ W h (by rw [ptText_append, List.length_append, ptText_snoc]; simp only; omega) (by simp; omega))
            have y4l := Y4.out.lt
            clear kk kk2 hv3 hv4 hac3 hen1 hks hen hy1
            go_wp2_with fail
            refine KK.out.mono ?_
            rintro e w5 (⟨rfl, hJ5, hx5⟩ | ⟨rfl, q, hq, hx5⟩)
            · have X5 := Lib.hid (X4.out.trans hx5)
              have J5 := Lib.hid hJ5
              have Y5 := Lib.hid (hx5.node Y4.out)
              have p0 := Y5.out.cell 0
              have pY := (X5.out.yield HY.out).cell 0
              simp only [List.getElem?_toArray, List.getElem?_cons_zero, List.getElem?_cons_succ] at p0 pY
              clear hJ5 hx5 q0 q1 q2 q3 qY qD
              go_wp2_with fail
              refine (KE.out w5 J5.out).mono ?_
              rintro e w6 (⟨rfl, hJ6, hx6⟩ | ⟨rfl, hJ6, hx6⟩)
              · have X6 := Lib.hid (X5.out.trans hx6)
                have J6 := Lib.hid hJ6
                clear hJ6 hx6 p0 pY
                go_wp2
                go_roundw
                case rel => exact ⟨k + 1, _, by omega, by go_num, J6, X6, HWR, Lib.hid (by have := HV4.out; rw [← this]; simp)⟩
                case measure => simp [intOf]; omega
              · have J6 := Lib.hid hJ6
                clear hJ6 hx6 p0 pY
                go_wp2
                go_ret
                exact .inr ⟨rfl, _, pre_snoc HV4.out, J6.out⟩
            · have HX5 := Lib.hid hx5
              have HQ := Lib.hid hq
              clear hx5 hq q0 q1 q2 q3 qY qD
              go_wp2
              go_ret
              exact .inr ⟨rfl, q, HQ.out.trans ⟨_, HV4.out⟩, HX5.out⟩
    · have hfin : ac = R := by
        have := HK.out
        rw [List.drop_eq_nil_of_le (by omega), ptB_nil, List.append_nil] at this
        exact this
      subst hfin
      go_wp2
      go_ret
      exact .inl ⟨rfl, HJ.out, HB.out⟩
end Go.Proofs.YtcogoiphpfgkdaaDoor
