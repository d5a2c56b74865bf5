/-
  The contract of the reference's May.
-/
import Derived.Test.YtcogoiphpfgkdaaDoorNodesAll
import Derived.Test.YtcogoiphpfgkdaaDoorRAttrs
import Derived.Test.YtcogoiphpfgkdaaDoorRIn
namespace Go.Proofs.YtcogoiphpfgkdaaDoor
open Go.RowKit
set_option linter.unusedVariables false
set_option linter.unusedSimpArgs false

def MaysAs (S : Nat → Prop) (L : List Nd) : Prop := ∀ (W : World) (A : Option Addr) (c : Nat), Ns S W A L.length L → (∀ k, S k → k < W.heap.size) →
  Calls Tryd.prog 15 #[.slice A L.length c] W fun e w' => e = .returned (.bool (mayB L)) ∧ Below W.heap.size W w'

set_option maxHeartbeats 2000000 in
set_option maxRecDepth 100000 in
theorem rmay_any (S : Nat → Prop) (L : List Nd) : wt L ≤ 1048576 → MaysAs S L := by
  induction L using nds_ind with
  | _ L IH =>
  intro hw W A c hN hS
  obtain ⟨R, hR⟩ : ∃ R, mayB L = R := ⟨_, rfl⟩
  rw [hR]
  have hll := wt_length L
  have HIH := Lib.hid IH
  have HN := Lib.hid hN
  have HS := Lib.hid hS
  have HR := Lib.hid hR
  have HW := Lib.hid (fun d (h : d ∈ L) => wt_mem h)
  clear IH hN hS hR
  go_enter Tryd.func15, Tryd.ntmps15
  go_wp2
  go_loopw [7] (fun i wr => ∃ k : Nat, k ≤ L.length ∧ i = .int .i64 k ∧ Hid (Below W.heap.size W wr) ∧ Hid (mayB (L.drop k) = R)) (fun i _ => L.length - (intOf i).toNat)
  case atStart => exact ⟨0, Nat.zero_le _, rfl, Below.refl _ _, HR.out⟩
  case round =>
    obtain ⟨k, hk, rfl, HB, HK⟩ := hrel
    by_cases hlt : k < L.length
    · obtain ⟨d, hd⟩ : ∃ d, L[k]? = some d := ⟨L[k], List.getElem?_eq_getElem hlt⟩
      have hmem := List.mem_of_getElem? hd
      have hwd := HW.out d hmem
      obtain ⟨ad, Aa, ca, Ak, ck, rfl, hsa, hsb, c0, c1, c2, c3, hra, hnk⟩ := (HN.out.behind HB.out).get hd
      have hdk : L.drop k = d :: L.drop (k + 1) := by
        rw [List.drop_eq_getElem_cons hlt]
        rw [List.getElem?_eq_getElem hlt] at hd
        rw [Option.some.inj hd]
      have hv := HK.out
      rw [hdk, mayB_cons] at hv
      have lb := HB.out.size
      have hbl := HS.out _ hsa
      have hbl2 := HS.out _ hsb
      have i0 : (0 : Int) ≤ (k : Int) := by omega
      have i1 : (k : Int) < (L.length : Int) := by omega
      have IHd := HIH.out d hmem (by omega)
      obtain ⟨nm, tx, ats, kids⟩ := d
      simp only [Nd.name, Nd.text, Nd.attrs, Nd.kids] at hwd c0 c1 c2 c3 hra hnk hv IHd
      have hal := awt_length ats
      have hkl := wt_length kids
      have ham : ∀ a ∈ ats, a.name.length ≤ 1073741824 ∧ a.value.length ≤ 1073741824 := fun a ha => by have := awt_mem ha; omega
      obtain ⟨kb, hkb⟩ : ∃ kb, mayB kids = kb := ⟨_, rfl⟩
      obtain ⟨mb, hmb⟩ : ∃ mb, mayF nm tx ats kids kb = mb := ⟨_, rfl⟩
      have hv2 : (mb && mayB (L.drop (k + 1))) = R := by rw [← hmb, ← hkb]; exact hv
      have HVV := Lib.hid hv2
      have HMB := Lib.hid hmb
      have HKB := Lib.hid hkb
      have HID := Lib.hid IHd
      have HAM := Lib.hid ham
      have HRA := Lib.hid hra
      have HNK := Lib.hid hnk
      clear hv hv2 HK hdk hd hmem hra hnk hmb hkb IHd ham
      obtain ⟨W1, hW1⟩ : ∃ W1, wr.alloc (.cells #[.string (str nm), .string (str tx), .slice Aa ats.length ca, .slice Ak kids.length ck] 41) = W1 := ⟨_, rfl⟩
      have hb1 : Below wr.heap.size wr W1 := by rw [← hW1]; exact (Below.refl _ wr).alloc (Nat.le_refl _) _
      have B1 := Lib.hid (HB.out.trans (hb1.mono lb))
      have l1 := hb1.size
      have y1 : Blk W1 wr.heap.size 41 #[.string (str nm), .string (str tx), .slice Aa ats.length ca, .slice Ak kids.length ck] := by rw [← hW1]; exact Blk.new _ _ _
      have y1l := y1.lt
      have a0 := y1.cell 0
      have a1 := y1.cell 1
      have a2 := y1.cell 2
      have a3 := y1.cell 3
      simp only [List.getElem?_toArray, List.getElem?_cons_zero, List.getElem?_cons_succ] at a0 a1 a2 a3
      have HY := Lib.hid y1
      have V1 := Lib.hid hb1
      clear hb1 y1
      by_cases hnm : nm = []
      · subst hnm
        by_cases htx : tx = []
        · subst htx
          have hmf : mb = false := by rw [← HMB.out, mayF_text rfl]; rfl
          have hRf : R = false := by rw [← HVV.out, hmf]; rfl
          subst hRf
          clear hmf
          go_wp2
          go_ret
          exact ⟨rfl, B1.out⟩
        · have q1 : (tx == []) = false := by simpa using htx
          obtain ⟨c', w3, hcv, hcl, hb3, hrow, hsz⟩ := conv_str tx W1
          have y3 := HY.out.below hb3 y1l
          have K := Lib.hid (rvalid_any _ _ _ c' tx w3 hrow (by omega) hcl (fun j hj => by omega))
          have B3 := Lib.hid (B1.out.trans (hb3.mono (by omega)))
          have l3 := hb3.size
          have y3l := y3.lt
          have HY3 := Lib.hid y3
          have hte : tx.isEmpty = false := by simpa using htx
          have hmf := HMB.out
          rw [mayF_text rfl, hte] at hmf
          have HMF := Lib.hid hmf
          obtain ⟨vb, hvb⟩ : ∃ vb, validB tx = vb := ⟨_, rfl⟩
          have hm2 := HMF.out
          rw [hvb] at hm2 K
          have HM2 := Lib.hid hm2
          clear hb3 hrow hmf hte htx hvb hm2 y3
          go_wp2_with fail
          refine K.out.mono ?_
          rintro e w4 ⟨rfl, hb4⟩
          have y4 := HY3.out.below hb4 y3l
          have B4 := Lib.hid (B3.out.trans (hb4.mono (by omega)))
          have l4 := hb4.size
          have u2 := y4.cell 2
          have u3 := y4.cell 3
          simp only [List.getElem?_toArray, List.getElem?_cons_zero, List.getElem?_cons_succ] at u2 u3
          clear hb4 y4 a0 a1 a2 a3 hW1
          by_cases hok : mb = true
          · subst hok
            have h3 : vb = true ∧ ats.length = 0 ∧ kids.length = 0 := by
              have := HM2.out
              simp only [Bool.not_false, Bool.true_and, Bool.and_eq_true, List.isEmpty_iff_length_eq_zero] at this
              exact ⟨this.1.1, this.1.2, this.2⟩
            obtain ⟨rfl, e1, e2⟩ := h3
            have d1 : decide ((0 : Int) < (ats.length : Int)) = false := decide_eq_false (by omega)
            have d2 : decide (0 < ats.length) = false := decide_eq_false (by omega)
            have d3 : decide ((0 : Int) < (kids.length : Int)) = false := decide_eq_false (by omega)
            have d4 : decide (0 < kids.length) = false := decide_eq_false (by omega)
            clear e1 e2
            go_wp2
            go_roundw
            case rel => exact ⟨k + 1, by omega, by go_num, B4.out, by have := HVV.out; rw [Bool.true_and] at this; exact this⟩
            case measure => simp [intOf]; omega
          · have hmf : mb = false := by simpa using hok
            have hRf : R = false := by rw [← HVV.out, hmf]; rfl
            subst hRf
            have hm3 := HM2.out
            rw [hmf] at hm3
            clear hok hmf
            cases vb with
            | false =>
              go_wp2
              go_ret
              exact ⟨rfl, B4.out⟩
            | true =>
              by_cases e1 : ats.length = 0
              · have e2 : ¬ kids.length = 0 := by
                  intro e2
                  rw [List.isEmpty_iff_length_eq_zero.2 e1, List.isEmpty_iff_length_eq_zero.2 e2] at hm3
                  cases hm3
                have d1 : decide ((0 : Int) < (ats.length : Int)) = false := decide_eq_false (by omega)
                have d2 : decide (0 < ats.length) = false := decide_eq_false (by omega)
                have d3 : decide ((0 : Int) < (kids.length : Int)) = true := decide_eq_true (by omega)
                have d4 : decide (0 < kids.length) = true := decide_eq_true (by omega)
                clear e1 e2 hm3
                go_wp2
                go_ret
                exact ⟨rfl, B4.out⟩
              · have d1 : decide ((0 : Int) < (ats.length : Int)) = true := decide_eq_true (by omega)
                have d2 : decide (0 < ats.length) = true := decide_eq_true (by omega)
                clear e1 hm3
                go_wp2
                go_ret
                exact ⟨rfl, B4.out⟩
      · have q0 : (nm == []) = false := by simpa using hnm
        have hm2 := HMB.out
        rw [mayF_elem hnm] at hm2
        obtain ⟨nb, hnb⟩ : ∃ nb, nameB false nm = nb := ⟨_, rfl⟩
        obtain ⟨ab, hab⟩ : ∃ ab, attrsB ats = ab := ⟨_, rfl⟩
        obtain ⟨vd, hvd⟩ : ∃ vd, decide (nm ∈ setNames0) = vd := ⟨_, rfl⟩
        have K1 := Lib.hid (rtag_any nm W1 (by omega))
        rw [hnb] at K1 hm2
        rw [hab, hvd] at hm2
        have HM2 := Lib.hid hm2
        have HAB := Lib.hid hab
        have HVD := Lib.hid hvd
        clear hnm hm2 hnb hab hvd
        go_wp2_with fail
        refine K1.out.mono ?_
        rintro e w2 ⟨rfl, hb2⟩
        have y2 := HY.out.below hb2 y1l
        have B2 := Lib.hid (B1.out.trans (hb2.mono (by omega)))
        have l2 := hb2.size
        have y2l := y2.lt
        have HY2 := Lib.hid y2
        have V2 := Lib.hid (V1.out.trans (hb2.mono (by omega)))
        have u0 := y2.cell 0
        have u1 := y2.cell 1
        have u2 := y2.cell 2
        simp only [List.getElem?_toArray, List.getElem?_cons_zero, List.getElem?_cons_succ] at u0 u1 u2
        clear hb2 y2 a0 a1 a2 a3 hW1 K1
        cases nb with
        | false =>
          have hmf : mb = false := by rw [← HM2.out]; cases tx.isEmpty <;> rfl
          have hRf : R = false := by rw [← HVV.out, hmf]; rfl
          subst hRf
          clear hmf
          go_wp2
          go_ret
          exact ⟨rfl, B2.out⟩
        | true =>
          by_cases htx : tx = []
          · subst htx
            have K2 := Lib.hid (rattrs_any S Aa ats.length ca ats w2 (HRA.out.behind V2.out) rfl (by omega) (fun j hj => by have := HS.out j hj; omega) HAM.out)
            go_wp2_with fail
            refine K2.out.mono ?_
            rintro e w3 ⟨rfl, hb3⟩
            rw [HAB.out]
            have y3 := HY2.out.below hb3 y2l
            have B3 := Lib.hid (B2.out.trans (hb3.mono (by omega)))
            have V3 := Lib.hid (V2.out.trans (hb3.mono (by omega)))
            have l3 := hb3.size
            have y3l := y3.lt
            have HY3 := Lib.hid y3
            have u3 := y3.cell 3
            simp only [List.getElem?_toArray, List.getElem?_cons_zero, List.getElem?_cons_succ] at u3
            clear hb3 y3 u0 u1 u2 K2
            cases ab with
            | false =>
              have hmf : mb = false := by rw [← HM2.out]; rfl
              have hRf : R = false := by rw [← HVV.out, hmf]; rfl
              subst hRf
              clear hmf
              go_wp2
              go_ret
              exact ⟨rfl, B3.out⟩
            | true =>
              have K3 := Lib.hid (HID.out w3 Ak ck (HNK.out.behind V3.out) (fun j hj => by have := HS.out j hj; omega))
              go_wp2_with fail
              refine K3.out.mono ?_
              rintro e w4 ⟨rfl, hb4⟩
              rw [HKB.out]
              have y4 := HY3.out.below hb4 y3l
              have B4 := Lib.hid (B3.out.trans (hb4.mono (by omega)))
              have l4 := hb4.size
              have y4l := y4.lt
              have HY4 := Lib.hid y4
              have s0 := y4.cell 0
              simp only [List.getElem?_toArray, List.getElem?_cons_zero, List.getElem?_cons_succ] at s0
              clear hb4 y4 u3 K3
              cases kb with
              | false =>
                have hmf : mb = false := by rw [← HM2.out]; simp
                have hRf : R = false := by rw [← HVV.out, hmf]; rfl
                subst hRf
                clear hmf
                go_wp2
                go_ret
                exact ⟨rfl, B4.out⟩
              | true =>
                have K4 := Lib.hid (rin0_any nm w4)
                go_wp2_with fail
                refine K4.out.mono ?_
                rintro e w5 ⟨rfl, hb5⟩
                rw [HVD.out]
                have y5 := HY4.out.below hb5 y4l
                have B5 := Lib.hid (B4.out.trans (hb5.mono (by omega)))
                have r3 := y5.cell 3
                simp only [List.getElem?_toArray, List.getElem?_cons_zero, List.getElem?_cons_succ] at r3
                clear hb5 y5 s0 K4
                cases vd with
                | false =>
                  have hmt : mb = true := by rw [← HM2.out]; rfl
                  go_wp2
                  go_roundw
                  case rel => exact ⟨k + 1, by omega, by go_num, B5.out, by have := HVV.out; rw [hmt, Bool.true_and] at this; exact this⟩
                  case measure => simp [intOf]; omega
                | true =>
                  by_cases e2 : kids.length = 0
                  · have hki : kids.isEmpty = true := by simpa [List.isEmpty_iff_length_eq_zero] using e2
                    have hmt : mb = true := by rw [← HM2.out, hki]; rfl
                    have d3 : decide ((0 : Int) < (kids.length : Int)) = false := decide_eq_false (by omega)
                    have d4 : decide (0 < kids.length) = false := decide_eq_false (by omega)
                    clear e2 hki
                    go_wp2
                    go_roundw
                    case rel => exact ⟨k + 1, by omega, by go_num, B5.out, by have := HVV.out; rw [hmt, Bool.true_and] at this; exact this⟩
                    case measure => simp [intOf]; omega
                  · have hki : kids.isEmpty = false := by simpa [List.isEmpty_iff_length_eq_zero] using e2
                    have hmf : mb = false := by rw [← HM2.out, hki]; rfl
                    have hRf : R = false := by rw [← HVV.out, hmf]; rfl
                    subst hRf
                    have d3 : decide ((0 : Int) < (kids.length : Int)) = true := decide_eq_true (by omega)
                    have d4 : decide (0 < kids.length) = true := decide_eq_true (by omega)
                    clear e2 hki hmf
                    go_wp2
                    go_ret
                    exact ⟨rfl, B5.out⟩
          · have q1 : (tx == []) = false := by simpa using htx
            have hte : tx.isEmpty = false := by simpa using htx
            have hmf : mb = false := by rw [← HM2.out, hte]; rfl
            have hRf : R = false := by rw [← HVV.out, hmf]; rfl
            subst hRf
            clear hmf hte htx
            go_wp2
            go_ret
            exact ⟨rfl, B2.out⟩
    · have hfin : R = true := by
        have := HK.out
        rw [List.drop_eq_nil_of_le (by omega), mayB_nil] at this
        exact this.symm
      subst hfin
      go_wp2
      go_ret
      exact ⟨rfl, HB.out⟩
end Go.Proofs.YtcogoiphpfgkdaaDoor
