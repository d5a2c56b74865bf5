/-
  The contract of the reference's Attrs.
-/
import Derived.Test.YtcogoiphpfgkdaaDoorNodesAll
import Derived.Test.YtcogoiphpfgkdaaDoorRToken
namespace Go.Proofs.YtcogoiphpfgkdaaDoor
open Go.RowKit
set_option linter.unusedVariables false
set_option linter.unusedSimpArgs false

set_option maxHeartbeats 8000000 in
set_option maxRecDepth 100000 in
theorem rattrs_any (S : Nat → Prop) (A : Option Addr) (n c : Nat) (L : List At) (w : World) (hr : Row S w 2 A n (L.flatMap atCells)) (hl : L.length = n) (hn : n ≤ 1073741824) (hS : ∀ k, S k → k < w.heap.size)
    (hb : ∀ a ∈ L, a.name.length ≤ 1073741824 ∧ a.value.length ≤ 1073741824) :
    Calls Tryd.prog 37 #[.slice A n c] w fun e w' => e = .returned (.bool (attrsB L)) ∧ Below w.heap.size w w' := by
  have K1 := Lib.hid (fun (W : World) (x : List UInt8) (h : x.length ≤ 1073741824) => rattr_any x W (by omega))
  have K2 := Lib.hid (fun (W : World) (x : List UInt8) (h : x.length ≤ 1073741824) => rtvalid_any x W (by omega))
  have HB := Lib.hid hb
  have HS := Lib.hid hS
  have HR := Lib.hid hr
  obtain ⟨R, hR⟩ : ∃ R, attrsB L = R := ⟨_, rfl⟩
  rw [hR]
  unfold attrsB at hR
  have HV := Lib.hid hR
  subst hl
  clear hb hS hr hR
  go_enter Tryd.func37, Tryd.ntmps37
  go_wp2
  go_loopw [8] (fun i wr => ∃ (k : Nat), k ≤ L.length ∧ i = .int .i64 k ∧ Hid (Below w.heap.size w wr) ∧ Hid (attrsFrom ((L.take k).map At.name) (L.drop k) = R)) (fun i _ => L.length - (intOf i).toNat)
  case atStart => exact ⟨0, Nat.zero_le _, rfl, Below.refl _ _, HV.out⟩
  case round =>
    obtain ⟨k, hk, rfl, HW, HK⟩ := hrel
    by_cases hlt : k < L.length
    · obtain ⟨a, ha⟩ : ∃ a, L[k]? = some a := ⟨L[k], List.getElem?_eq_getElem hlt⟩
      obtain ⟨ad, rfl, hsa, hsa2, c0, cj⟩ := (HR.out.behind HW.out).walk atCells_length (by omega) rfl ha
      have x0 := c0 _ rfl
      have x1 := cj 0 _ rfl
      have hdk : L.drop k = a :: L.drop (k + 1) := by
        rw [List.drop_eq_getElem_cons hlt]
        rw [List.getElem?_eq_getElem hlt] at ha
        rw [Option.some.inj ha]
      have htk : (L.take (k + 1)).map At.name = (L.take k).map At.name ++ [a.name] := by
        rw [List.take_add_one, ha, List.map_append]
        rfl
      have hab := HB.out a (List.mem_of_getElem? ha)
      have hv := HK.out
      rw [hdk, attrsFrom, ← htk] at hv
      have HVV := Lib.hid hv
      have i0 : (0 : Int) ≤ (k : Int) := by omega
      have i1 : (k : Int) < (L.length : Int) := by omega
      have lw := HW.out.size
      have hblt := HS.out _ hsa
      have hblt2 := HS.out _ hsa2
      clear c0 cj ha hdk hv HK htk
      go_wp2_with fail
      obtain ⟨W1, hW1⟩ : ∃ W1, wr.alloc (.cells #[.string (str a.name), .string (str a.value)] 63) = W1 := ⟨_, rfl⟩
      rw [hW1]
      have HW1 := Lib.hid (show Below w.heap.size w W1 by rw [← hW1]; exact HW.out.alloc lw _)
      have hb1 : Blk W1 wr.heap.size 63 #[.string (str a.name), .string (str a.value)] := by rw [← hW1]; exact Blk.new _ _ _
      clear hW1 HW x0 x1
      have hl1 := hb1.lt
      refine (K1.out W1 a.name hab.1).mono ?_
      rintro e w2 ⟨rfl, hb2⟩
      have l1 := HW1.out.size
      have l2 := hb2.size
      have HW2 := Lib.hid (HW1.out.trans (hb2.mono l1))
      have y2 := hb1.below hb2 hl1
      have z0 := y2.cell 0
      have z1 := y2.cell 1
      simp only [List.getElem?_toArray, List.getElem?_cons_zero, List.getElem?_cons_succ] at z0 z1
      clear HW1 hb1 hb2
      obtain ⟨nb, hnb⟩ : ∃ nb, nameB true a.name = nb := ⟨_, rfl⟩
      obtain ⟨vb, hvb⟩ : ∃ vb, validB a.value = vb := ⟨_, rfl⟩
      obtain ⟨sb, hsb⟩ : ∃ sb, decide (a.name ∈ (L.take k).map At.name) = sb := ⟨_, rfl⟩
      have hv := HVV.out
      rw [hnb, hvb, hsb] at hv
      rw [hnb]
      have HVV2 := Lib.hid hv
      have HVB := Lib.hid hvb
      have HSB := Lib.hid hsb
      clear hv HVV hnb hvb hsb
      cases nb with
      | false =>
        go_wp2
        go_ret
        exact ⟨retb (by rw [← HVV2.out]; rfl), HW2.out⟩
      | true =>
        go_wp2_with fail
        refine (K2.out w2 a.value hab.2).mono ?_
        rintro e w3 ⟨rfl, hb3⟩
        rw [HVB.out]
        have l3 := hb3.size
        have lw2 := HW2.out.size
        have HW3 := Lib.hid (HW2.out.trans (hb3.mono lw2))
        have y3 := y2.below hb3 y2.lt
        have u0 := y3.cell 0
        have u1 := y3.cell 1
        have y3l := y3.lt
        simp only [List.getElem?_toArray, List.getElem?_cons_zero, List.getElem?_cons_succ] at u0 u1
        clear z0 z1 hb3 HW2
        cases vb with
        | false =>
          go_wp2
          go_ret
          exact ⟨retb (by rw [← HVV2.out]; rfl), HW3.out⟩
        | true =>
          go_wp2
          go_loopw [5] (fun j' wj => ∃ j : Nat, j ≤ k ∧ j' = .int .i64 j ∧ Hid (decide (a.name ∈ ((L.take k).map At.name).drop j) = sb) ∧ Hid (Below w3.heap.size w3 wj)) (fun j _ => k - (intOf j).toNat)
          case atStart => exact ⟨0, Nat.zero_le _, rfl, HSB.out, Below.refl _ _⟩
          case round =>
            rename_i wj
            obtain ⟨j, hj, rfl, HJ, HWJ⟩ := hrel
            have lj := HWJ.out.size
            by_cases hjk : j < k
            · obtain ⟨x, hx⟩ : ∃ x, L[j]? = some x := ⟨L[j], List.getElem?_eq_getElem (by omega)⟩
              obtain ⟨ad', e1, hsa', hsb', c0, cj⟩ := ((HR.out.behind HW3.out).behind HWJ.out).walk atCells_length (by omega) rfl hx
              injection e1 with e1
              subst e1
              have v0 := c0 _ rfl
              have y4 := y3.below HWJ.out y3l
              have t0 := y4.cell 0
              simp only [List.getElem?_toArray, List.getElem?_cons_zero] at t0
              have j0 : (0 : Int) ≤ (j : Int) := by omega
              have j1 : (j : Int) < (k : Int) := by omega
              have j2 : (j : Int) < (L.length : Int) := by omega
              have hdj : ((L.take k).map At.name).drop j = x.name :: ((L.take k).map At.name).drop (j + 1) := by
                have hlj : j < ((L.take k).map At.name).length := by rw [List.length_map, List.length_take]; omega
                rw [List.drop_eq_getElem_cons hlj]
                congr 1
                rw [List.getElem_map, List.getElem_take]
                rw [List.getElem?_eq_getElem (by omega)] at hx
                rw [Option.some.inj hx]
              have hv := HJ.out
              rw [hdj] at hv
              have HJ2 := Lib.hid hv
              clear c0 cj u0 u1 hx hdj hv HJ
              by_cases hxa : x.name = a.name
              · have q : (x.name == a.name) = true := by simpa using hxa
                go_wp2
                go_region
                all_goals go_wp2
                go_ret
                have hsb : sb = true := by rw [← HJ2.out]; simp [hxa]
                subst hsb
                have hbj := HW3.out.trans (HWJ.out.mono (by have := HW3.out.size; omega))
                exact ⟨retb (by rw [← HVV2.out]; rfl), hbj.os, hbj.tape, hbj.output, hbj.size, hbj.block⟩
              · have q : (x.name == a.name) = false := by simpa using hxa
                go_wp2
                go_region
                all_goals go_wp2
                go_roundw
                case rel => exact ⟨j + 1, by omega, by go_num, by show _ = sb; rw [← HJ2.out]; simp [Ne.symm hxa], HWJ.out.os, HWJ.out.tape, HWJ.out.output, HWJ.out.size, HWJ.out.block⟩
                case measure => simp [intOf]; omega
            · have hsb : sb = false := by
                have := HJ.out
                rw [List.drop_eq_nil_of_le (by rw [List.length_map, List.length_take]; omega)] at this
                simpa using this.symm
              subst hsb
              have hbj := HW3.out.trans (HWJ.out.mono (by have := HW3.out.size; omega))
              have HBJ := Lib.hid hbj
              clear u0 u1 hbj
              go_wp2
              go_roundw
              case rel =>
                refine ⟨k + 1, by omega, by go_num, HBJ.out, ?_⟩
                show _ = R
                rw [← HVV2.out]
                rfl
              case measure => simp [intOf]; omega
    · have hfin : R = true := by
        have := HK.out
        rw [List.drop_eq_nil_of_le (by omega), attrsFrom] at this
        exact this.symm
      subst hfin
      go_wp2
      go_ret
      exact ⟨rfl, HW.out⟩
end Go.Proofs.YtcogoiphpfgkdaaDoor
