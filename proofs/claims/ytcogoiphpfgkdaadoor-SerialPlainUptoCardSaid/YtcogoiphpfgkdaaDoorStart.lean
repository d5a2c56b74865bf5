/-
  Start tags, as plain data; the contract of the program's start.
-/
import Derived.Test.YtcogoiphpfgkdaaDoorEscape
import Derived.Test.YtcogoiphpfgkdaaDoorNodesAll
import Derived.Test.YtcogoiphpfgkdaaDoorPlan
namespace Go.Proofs.YtcogoiphpfgkdaaDoor
open Go.RowKit
set_option linter.unusedVariables false
set_option linter.unusedSimpArgs false

def attrText (a : At) : List UInt8 := [32] ++ a.name ++ [61, 34] ++ escB true a.value ++ [34]
def startB (nm : List UInt8) (ats : List At) : List UInt8 := [60] ++ nm ++ ats.flatMap attrText ++ [62]
theorem str_append (a b : List UInt8) : str a ++ str b = str (a ++ b) := by
  apply ByteArray.ext
  simp [str]

theorem attrText_le (a : At) : (attrText a).length ≤ 6 * (1 + a.name.length + a.value.length) := by
  have := escB_le true a.value
  simp [attrText]
  omega
theorem attrTexts_le (l : List At) : (l.flatMap attrText).length ≤ 6 * awt l := by
  induction l with
  | nil => simp
  | cons a l ih =>
    have h : awt (a :: l) = 1 + a.name.length + a.value.length + awt l := by simp [awt]
    rw [List.flatMap_cons, List.length_append, h]
    have := attrText_le a
    omega
theorem startB_le (nm : List UInt8) (ats : List At) : (startB nm ats).length ≤ 2 + nm.length + 6 * awt ats := by
  have := attrTexts_le ats
  simp only [startB, List.length_append, List.length_cons, List.length_nil]
  omega

set_option maxHeartbeats 1000000 in
set_option maxRecDepth 100000 in
theorem start_any (S : Nat → Prop) (nm tx : List UInt8) (ats : List At) (Aa Ak : Option Addr) (ca nk ck : Nat) (w : World) (hr : Row S w 2 Aa ats.length (ats.flatMap atCells)) (hS : ∀ k, S k → k < w.heap.size)
    (hv : ∀ a ∈ ats, validB a.value = true) (hn : nm.length + awt ats ≤ 1048576) :
    Calls Tryd.prog 46 #[.agg #[.string (str nm), .string (str tx), .slice Aa ats.length ca, .slice Ak nk ck]] w fun e w' => e = .returned (.string (str (startB nm ats))) ∧ Below w.heap.size w w' := by
  have HR := Lib.hid hr
  have HS := Lib.hid hS
  have HV := Lib.hid hv
  have hal := awt_length ats
  clear hr hS hv
  have e1 : (⟨#[60]⟩ : ByteArray) ++ str nm = str (60 :: nm) := str_append [60] nm
  have z1 : (str nm).size ≤ 1048576 := by rw [str_size]; omega
  go_enter Tryd.func46, Tryd.ntmps46
  go_wp2_with fail
  obtain ⟨W1, hW1⟩ : ∃ W1, ((w.alloc (.cells #[.string (str nm), .string (str tx), .slice Aa ats.length ca, .slice Ak nk ck] 41)).alloc (.cells #[.pointer none, .slice none 0 0] 68)) = W1 := ⟨_, rfl⟩
  rw [hW1]
  have B1 : Below w.heap.size w W1 := by rw [← hW1]; exact ((Below.refl _ w).alloc (Nat.le_refl _) _).alloc (by simp) _
  have hN1 : Blk W1 w.heap.size 41 #[.string (str nm), .string (str tx), .slice Aa ats.length ca, .slice Ak nk ck] := by rw [← hW1]; exact (Blk.new w _ _).alloc _
  have hB1 : Blk W1 (w.heap.size + 1) 68 #[.pointer none, .slice none 0 0] := by rw [← hW1]; exact Blk.new_at _ _ (by simp)
  clear hW1
  have hN1l := hN1.lt
  refine (writeString_any (Bld.new hB1 (w.heap.size + 1) (Nat.le_refl _)) (60 :: nm) (by simp; omega)).mono ?_
  rintro e W2 ⟨rfl, v2, hb2, hk2⟩
  have hN2 := hN1.keep hk2 (by rintro (h | h) <;> simp [Value.ownBlock] at h)
  have B2 := B1.trans (hk2.below B1.size (fun i hi h => by rcases h with h | h <;> first | omega | simp [Value.ownBlock] at h))
  have x2 := hN2.cell 2
  simp only [List.getElem?_toArray, List.getElem?_cons_zero, List.getElem?_cons_succ] at x2
  have HB2 := Lib.hid hb2
  have HW2 := Lib.hid B2
  have hl2 := hk2.size
  clear hk2 hb2 B2 B1 hB1 e1
  go_wp2_with fail
  have hR0 : (60 :: nm) ++ ats.flatMap attrText = (60 :: nm) ++ ats.flatMap attrText := rfl
  obtain ⟨R, hR⟩ : ∃ R, (60 :: nm) ++ ats.flatMap attrText = R := ⟨_, rfl⟩
  have hRl : R.length ≤ 7 * 1048576 + 1 := by
    rw [← hR]
    have := attrTexts_le ats
    simp only [List.length_append, List.length_cons]
    omega
  have HRR := Lib.hid hR
  clear hR0 x2 z1 hR
  go_loopw [16] (fun i wr => ∃ (k : Nat) (acc : List UInt8) (v : Value), k ≤ ats.length ∧ i = .int .i64 k ∧ Hid (Bld wr (w.heap.size + 1) (w.heap.size + 1) v acc) ∧ Hid (Below w.heap.size w wr) ∧ Hid (acc ++ (ats.drop k).flatMap attrText = R)) (fun i _ => ats.length - (intOf i).toNat)
  case atStart => exact ⟨0, _, _, Nat.zero_le _, rfl, HB2, HW2, HRR.out⟩
  case round =>
    clear HB2 HW2 hN1 hN2 hN1l hl2
    obtain ⟨k, acc, v, hk, rfl, HB, HW, HK⟩ := hrel
    by_cases hlt : k < ats.length
    · obtain ⟨a, ha⟩ : ∃ a, ats[k]? = some a := ⟨ats[k], List.getElem?_eq_getElem hlt⟩
      obtain ⟨ad, rfl, hsa, hsa2, c0, cj⟩ := (HR.out.behind HW.out).walk atCells_length (by omega) rfl ha
      have x0 := c0 _ rfl
      have x1 := cj 0 _ rfl
      have hdk : ats.drop k = a :: ats.drop (k + 1) := by
        rw [List.drop_eq_getElem_cons hlt]
        rw [List.getElem?_eq_getElem hlt] at ha
        rw [Option.some.inj ha]
      have hmem := List.mem_of_getElem? ha
      have hva := HV.out a hmem
      have hwa := awt_mem hmem
      have hv := HK.out
      rw [hdk, List.flatMap_cons, ← List.append_assoc] at hv
      have hal1 : (acc ++ attrText a).length ≤ 7 * 1048576 + 1 := by
        have := congrArg List.length hv
        rw [List.length_append] at this
        omega
      have HVV := Lib.hid hv
      have HVA := Lib.hid hva
      have i0 : (0 : Int) ≤ (k : Int) := by omega
      have i1 : (k : Int) < (ats.length : Int) := by omega
      have lw := HW.out.size
      have lb := HB.out.lt
      have hblt := HS.out _ hsa
      have hblt2 := HS.out _ hsa2
      have hel := escB_le true a.value
      have HAL := Lib.hid hal1
      clear c0 cj ha hdk hv HK hva hmem hal1
      go_wp2_with fail
      obtain ⟨W1, hW1⟩ : ∃ W1, wr.alloc (.cells #[.string (str a.name), .string (str a.value)] 63) = W1 := ⟨_, rfl⟩
      rw [hW1]
      have hb1 : Blk W1 wr.heap.size 63 #[.string (str a.name), .string (str a.value)] := by rw [← hW1]; exact Blk.new wr _ _
      have B1 : Below wr.heap.size wr W1 := by rw [← hW1]; exact (Below.refl _ wr).alloc (Nat.le_refl _) _
      have HB1 := Lib.hid (HB.out.keep (Keep.of_below B1 (fun _ => False)) id (fun _ _ => id))
      have HW1 := Lib.hid (HW.out.trans (B1.mono lw))
      have hl1 := hb1.lt
      have b0 := hb1.cell 0
      have b1 := hb1.cell 1
      simp only [List.getElem?_toArray, List.getElem?_cons_zero, List.getElem?_cons_succ] at b0 b1
      clear hW1 HB HW x0 x1
      obtain ⟨es, hes⟩ : ∃ es, escB true a.value = es := ⟨_, rfl⟩
      obtain ⟨y2, hy2⟩ : ∃ y, [32] ++ a.name = y := ⟨_, rfl⟩
      obtain ⟨y3, hy3⟩ : ∃ y, y2 ++ [61, 34] = y := ⟨_, rfl⟩
      obtain ⟨y4, hy4⟩ : ∃ y, y3 ++ es = y := ⟨_, rfl⟩
      obtain ⟨y5, hy5⟩ : ∃ y, y4 ++ [34] = y := ⟨_, rfl⟩
      have hy : y5 = attrText a := by rw [← hy5, ← hy4, ← hy3, ← hy2, ← hes]; rfl
      have e2 : (⟨#[32]⟩ : ByteArray) ++ str a.name = str y2 := by rw [← hy2]; exact str_append [32] a.name
      have e3 : str y2 ++ (⟨#[61, 34]⟩ : ByteArray) = str y3 := by rw [← hy3]; exact str_append _ [61, 34]
      have e4 : str y3 ++ str es = str y4 := by rw [← hy4]; exact str_append _ _
      have e5 : str y4 ++ (⟨#[34]⟩ : ByteArray) = str y5 := by rw [← hy5]; exact str_append _ [34]
      have z2 : (str a.name).size ≤ 1048576 := by rw [str_size]; omega
      have z3 : (str y2).size ≤ 1048577 := by rw [str_size, ← hy2]; simp; omega
      have z4 : (str y3).size ≤ 1048579 := by rw [str_size, ← hy3, ← hy2]; simp; omega
      have z5 : (str es).size ≤ 6 * 1048576 := by rw [str_size, ← hes]; omega
      have z6 : (str y4).size ≤ 7 * 1048576 + 4 := by rw [str_size, ← hy4, ← hy3, ← hy2, ← hes]; simp; omega
      have HY := Lib.hid hy
      have K1 := Lib.hid (fun W => escape_any true a.value W HVA.out (by omega))
      rw [hes] at K1
      clear hy hy2 hy3 hy4 hy5 hes
      refine wp_region_plan (S := fun w' => w'.cell? ⟨wr.heap.size, 0, none⟩ = some (.string (str a.name)) ∧ w'.cell? ⟨wr.heap.size, 1, none⟩ = some (.string (str a.value))) 11
        [(0, true), (1, true), (2, true), (3, true), (4, true), (5, true), (6, true), (7, false), (8, true), (9, true), (10, false)] (by kernel_rfl) (by kernel_rfl) ?_ (fun hHeld => ?_)
      · exact ⟨b0, b1⟩
      iterate 7 (refine plan_take (v := ?_) rfl (by assumption) rfl (fun _ _ _ h => h) ?_ ?_; rotate_left; (· (intro w hSw; (try dsimp only at hSw); go_simp; first | with_reducible rfl | (rw [if_neg (by omega)]))); all_goals (simp only [Act.put, List.setIfInBounds_toArray, List.set_cons_zero, List.set_cons_succ]))
      refine plan_op rfl (by decide) (fun K hK => ?_)
      go_simp
      refine (K1.out _).mono ?_
      rintro e w2 ⟨rfl, hb2⟩
      have D2 : Below W1.heap.size W1 w2 := ((Below.refl _ W1).drew).trans hb2
      have q0 := (D2.cell (p := ⟨wr.heap.size, 0, none⟩) hl1).trans b0
      have q1 := (D2.cell (p := ⟨wr.heap.size, 1, none⟩) hl1).trans b1
      have HB2 := Lib.hid (HB1.out.keep (Keep.of_below D2 (fun _ => False)) id (fun _ _ => id))
      have HW2 := Lib.hid (HW1.out.trans (D2.mono HW1.out.size))
      have HQ := Lib.hid (hb1.below D2 hl1)
      have l2 := D2.size
      clear hb2 D2 b0 b1 HB1 HW1 K1 hb1
      refine hK.out _ _ ⟨q0, q1⟩ (fun hHeld => ?_)
      clear hK K
      try simp only [Act.put, List.setIfInBounds_toArray, List.set_cons_zero, List.set_cons_succ]
      iterate 2 (refine plan_take (v := ?_) rfl (by assumption) rfl (fun _ _ _ h => h) ?_ ?_; rotate_left; (· (intro w hSw; (try dsimp only at hSw); go_simp; first | with_reducible rfl | (rw [if_neg (by omega)]))); all_goals (simp only [Act.put, List.setIfInBounds_toArray, List.set_cons_zero, List.set_cons_succ]))
      rw [HY.out]
      have K2 := Lib.hid (writeString_any HB2.out (attrText a) (by have := HAL.out; rw [List.length_append] at this; omega))
      refine plan_op rfl (by decide) (fun K hK => ?_)
      go_simp
      refine K2.out.mono ?_
      rintro e w3 ⟨rfl, v3, hb3, hk3⟩
      have ho := HB2.out.2.2.1
      have hn : ∀ i, i = w.heap.size + 1 ∨ v.ownBlock = some i → i ≠ wr.heap.size := by
        rintro i (e | e) rfl
        · omega
        · exact ownF_not ho HQ.out (fun cs fz e => by cases e) e
      have r0 := (hk3.cell (p := ⟨wr.heap.size, 0, none⟩) (show wr.heap.size < w2.heap.size by omega) (fun e => hn _ e rfl)).trans q0
      have r1 := (hk3.cell (p := ⟨wr.heap.size, 1, none⟩) (show wr.heap.size < w2.heap.size by omega) (fun e => hn _ e rfl)).trans q1
      have HB3 := Lib.hid hb3
      have HW3 := Lib.hid (HW2.out.trans (hk3.below HW2.out.size (fun i hi e => by
        rcases e with e | e
        · omega
        · have := (World.ownsRowF.lt ho i e).1; omega)))
      clear hb3 hk3 K2 HB2 HW2 ho hn
      refine hK.out _ _ ⟨r0, r1⟩ (fun hHeld => ?_)
      clear hK K
      try simp only [Act.put, List.setIfInBounds_toArray, List.set_cons_zero, List.set_cons_succ]
      simp only [wpPlan]
      go_wp2
      go_roundw
      case rel => exact ⟨k + 1, _, _, by omega, by go_num, HB3.out, HW3.out, HVV.out⟩
      case measure => simp [intOf]; omega
    · have hfin : acc = R := by
        have := HK.out
        rw [List.drop_eq_nil_of_le (by omega), List.flatMap_nil, List.append_nil] at this
        exact this
      subst hfin
      have K1 := Lib.hid (writeString_any HB.out [62] (by simp; omega))
      go_wp2_with fail
      refine K1.out.mono ?_
      rintro e w3 ⟨rfl, v3, hb3, hk3⟩
      have HB3 := Lib.hid hb3
      have HW3 := Lib.hid (HW.out.trans (hk3.below HW.out.size (fun i hi e => by
        rcases e with e | e
        · omega
        · have := (World.ownsRowF.lt HB.out.2.2.1 i e).1; omega)))
      clear hb3 hk3 K1 HB HW
      go_wp2_with fail
      refine (builderString_any HB3.out).mono ?_
      rintro e w4 ⟨rfl, hb4⟩
      go_wp2
      go_ret
      refine ⟨?_, HW3.out.trans (hb4.mono (by omega))⟩
      unfold startB
      rw [← HRR.out]
      simp
end Go.Proofs.YtcogoiphpfgkdaaDoor
