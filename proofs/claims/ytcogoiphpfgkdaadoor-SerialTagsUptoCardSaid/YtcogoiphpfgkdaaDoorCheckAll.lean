/-
  The contract of dom.Check.
-/
import Derived.Test.YtcogoiphpfgkdaaDoorCheck
namespace Go.Proofs.YtcogoiphpfgkdaaDoor
open Go.RowKit
set_option linter.unusedVariables false
set_option linter.unusedSimpArgs false

set_option maxHeartbeats 1000000 in
set_option maxRecDepth 100000 in
theorem check_any (S : Nat → Prop) (L : List Nd) : wt L ≤ 1048576 → ChecksAs S L := by
  induction L using nds_ind with
  | _ L IH =>
  intro hw W A c hN hT hS
  obtain ⟨R, hR⟩ : ∃ R, mayB L = R := ⟨_, rfl⟩
  rw [hR]
  have hll := wt_length L
  have HIH := Lib.hid IH
  have HN := Lib.hid hN
  have HT := Lib.hid hT
  have HS := Lib.hid hS
  have HR := Lib.hid hR
  have HW := Lib.hid (fun d (h : d ∈ L) => wt_mem h)
  clear IH hN hT hS hR
  go_enter Tryd.func31, Tryd.ntmps31
  go_wp2
  go_loopw [7] (fun i wr => ∃ k : Nat, k ≤ L.length ∧ i = .int .i64 k ∧ Hid (Below W.heap.size W wr) ∧ Hid (mayB (L.drop k) = R)) (fun i _ => L.length - (intOf i).toNat)
  case atStart => exact ⟨0, Nat.zero_le _, rfl, Below.refl _ _, HR.out⟩
  case round =>
    obtain ⟨k, hk, rfl, HB, HK⟩ := hrel
    by_cases hlt : k < L.length
    · obtain ⟨d, hd⟩ : ∃ d, L[k]? = some d := ⟨L[k], List.getElem?_eq_getElem hlt⟩
      have hmem := List.mem_of_getElem? hd
      have hwd := HW.out d hmem
      obtain ⟨ad, Aa, ca, Ak, ck, rfl, hsa, hsb, c0, c1, c2, c3, hra, hnk⟩ := (HN.out.behind HB.out).get hd
      have hdk : L.drop k = d :: L.drop (k + 1) := by
        rw [List.drop_eq_getElem_cons hlt]
        rw [List.getElem?_eq_getElem hlt] at hd
        rw [Option.some.inj hd]
      have hv := HK.out
      rw [hdk, mayB_cons] at hv
      have HV := Lib.hid hv
      have lb := HB.out.size
      have hbl := HS.out _ hsa
      have hbl2 := HS.out _ hsb
      have i0 : (0 : Int) ≤ (k : Int) := by omega
      have i1 : (k : Int) < (L.length : Int) := by omega
      have IHd := Lib.hid (HIH.out d hmem (by omega))
      have HRA := Lib.hid hra
      have HNK := Lib.hid hnk
      clear hv HK hdk hd hmem hra hnk
      go_wp2_with fail
      obtain ⟨W1, hW1⟩ : ∃ W1, wr.alloc (.cells #[.string (str d.name), .string (str d.text), .slice Aa d.attrs.length ca, .slice Ak d.kids.length ck] 41) = W1 := ⟨_, rfl⟩
      rw [hW1]
      have hb1 : Below wr.heap.size wr W1 := by rw [← hW1]; exact (Below.refl _ wr).alloc (Nat.le_refl _) _
      have B1 := Lib.hid (HB.out.trans (hb1.mono lb))
      have l1 := hb1.size
      obtain ⟨mb, hmb⟩ : ∃ mb, mayOne d (mayB d.kids) = mb := ⟨_, rfl⟩
      have hm := may_any S d W1 Aa Ak ca ck (HRA.out.behind hb1) (HNK.out.behind hb1) (HT.out.behind B1.out) (fun j hj => by have := HS.out j hj; omega) (by omega) IHd.out
      rw [hmb] at hm
      have hv := HV.out
      rw [hmb] at hv
      have KM := Lib.hid hm
      have HVV := Lib.hid hv
      clear hm hv hmb HV IHd HRA HNK hb1 c0 c1 c2 c3 hW1
      refine KM.out.mono ?_
      rintro e w2 ⟨rfl, hb2⟩
      have B2 := Lib.hid (B1.out.trans (hb2.mono (by omega)))
      clear hb2
      cases mb with
      | true =>
        go_wp2
        go_roundw
        case rel => exact ⟨k + 1, by omega, by go_num, B2.out, by have := HVV.out; rw [Bool.true_and] at this; exact this⟩
        case measure => simp [intOf]; omega
      | false =>
        have hRf : R = false := by rw [← HVV.out]; rfl
        subst hRf
        go_wp2
        go_ret
        exact ⟨rfl, B2.out⟩
    · have hfin : R = true := by
        have := HK.out
        rw [List.drop_eq_nil_of_le (by omega), mayB_nil] at this
        exact this.symm
      subst hfin
      go_wp2
      go_ret
      exact ⟨rfl, HB.out⟩
end Go.Proofs.YtcogoiphpfgkdaaDoor
