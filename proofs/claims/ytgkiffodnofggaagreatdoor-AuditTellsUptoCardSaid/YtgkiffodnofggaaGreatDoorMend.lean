/-
  The contract of the program's Mend of a text.
-/
import Derived.Test.YtgkiffodnofggaaGreatDoorUtfIter
import Derived.Test.YtgkiffodnofggaaGreatDoorTexts
namespace Go.Proofs.YtgkiffodnofggaaGreatDoor
open Go.RowKit
set_option linter.unusedVariables false
set_option linter.unusedSimpArgs false

theorem validB_cons (c : UInt8) (r : List UInt8) : validB (c :: r) = if uLen c ≠ 0 ∧ uGood c r = uLen c then validB (r.drop (uLen c - 1)) else false := by rw [validB]
/-- One step of a range over a text: where it goes, and whether it may be taken for granted. -/
theorem mend_step (l : List UInt8) (pos : Nat) (h : pos < l.length) : ∃ z u : Nat, Utf8.decode (str l) pos = (z, u) ∧ 1 ≤ u ∧ pos + u ≤ l.length ∧
    (validB (l.drop pos) = validB (l.drop (pos + u)) ∨ (z = 65533 ∧ (l.drop pos).take 3 ≠ [239, 191, 189])) := by
  obtain ⟨c, r, hcr⟩ : ∃ c r, l.drop pos = c :: r := by
    cases h2 : l.drop pos with
    | nil => have := congrArg List.length h2; simp at this; omega
    | cons c r => exact ⟨c, r, rfl⟩
  have hlr : r.length + 1 + pos = l.length := by have := congrArg List.length hcr; simp at this; omega
  by_cases hg : uLen c ≠ 0 ∧ uGood c r = uLen c
  · have hg2 := hg.2
    rw [uGood, if_neg hg.1] at hg2
    have := (uRun_le c (uLen c) r 1).2
    refine ⟨_, _, decode_good l pos c r hcr hg, by have := hg.1; omega, by omega, .inl ?_⟩
    rw [hcr, validB_cons, if_pos hg, ← List.drop_drop, hcr]
    obtain ⟨j, hj⟩ : ∃ j, uLen c = j + 1 := ⟨uLen c - 1, by have := hg.1; omega⟩
    rw [hj]
    simp
  · exact ⟨_, _, decode_bad l pos c r hcr hg, Nat.le_refl _, by omega, .inr ⟨rfl, by rw [hcr]; exact not_fffd c r hg⟩⟩

set_option maxHeartbeats 8000000 in
set_option maxRecDepth 100000 in
theorem tmend_any (l : List UInt8) (w : World) (hn : l.length ≤ 1073741824) :
    Calls Tryz.prog 20 #[.string (str l)] w fun e w' => e = .returned (.string (str (mendB l))) ∧ Below w.heap.size w w' := by
  have hz := str_size l
  have K := Lib.hid (fun (S : Nat → Prop) (A : Option Addr) (c : Nat) (W : World) (h : Row S W 1 A l.length (bv l)) => trunes_any S A l.length c l W h hn)
  obtain ⟨W0, hW0⟩ : ∃ W0, w.iter (str l) 0 = W0 := ⟨_, rfl⟩
  have hit0 : W0.heap[w.heap.size]? = some (.stringIter (str l) 0) := by rw [← hW0]; simpa using World.iter_heap w (str l) 0
  have hb0 : Below w.heap.size w W0 := by rw [← hW0]; exact (Below.refl _ w).alloc (Nat.le_refl _) _
  have IT0 := Lib.hid hit0
  have V0 := Lib.hid hb0
  clear hit0 hb0
  go_enter Tryz.func20, Tryz.ntmps20
  go_wp2_with fail
  clear hW0
  go_loopw [3] (fun o wr => ∃ (pos : Nat) (v : Bool), pos ≤ l.length ∧ o = .bool v ∧ Hid (wr.heap[w.heap.size]? = some (.stringIter (str l) pos)) ∧ Hid (v = true → validB l = validB (l.drop pos)) ∧ Hid (Below w.heap.size w wr)) (fun _ wr => l.length - wr.iterPos w.heap.size)
  case atStart => exact ⟨0, true, Nat.zero_le _, rfl, IT0, fun _ => rfl, V0⟩
  case round =>
    obtain ⟨pos, v, hpl, rfl, HI, HV, HB⟩ := hrel
    by_cases hpt : pos < l.length
    · obtain ⟨z, u, hdec, hu1, hu2, hor⟩ := mend_step l pos hpt
      have hnx : ∀ ty, (Instr.next (.pointer (some ⟨w.heap.size, 0, none⟩)) true ty).run Tryz.prog wr = .ok (.tuple #[.bool true, .int .i64 pos, .int .i32 z]) (wr.iterAt w.heap.size (str l) (pos + u)) := fun ty => by
        have := Lib.run_next_any_at (P := Tryz.prog) wr w.heap.size (str l) pos ty HI.out (by rw [hz]; omega)
        rw [hdec] at this
        exact this
      have hit2 := Lib.iterAt_heap wr w.heap.size (str l) pos (pos + u) HI.out
      have hw2 : Below w.heap.size w (wr.iterAt w.heap.size (str l) (pos + u)) := by
        have hki : Keep (fun k => k = w.heap.size) wr (wr.iterAt w.heap.size (str l) (pos + u)) := ⟨rfl, rfl, rfl, by rw [Lib.iterAt_size]; exact Nat.le_refl _, fun k _ hk => Lib.iterAt_other wr _ k _ _ hk⟩
        exact HB.out.trans (hki.below HB.out.size (fun i hi e => by omega))
      have HMS := Lib.hid (show wr.iterPos w.heap.size = pos by simp [World.iterPos, HI.out])
      obtain ⟨W4, hW4⟩ : ∃ W4, wr.iterAt w.heap.size (str l) (pos + u) = W4 := ⟨_, rfl⟩
      rw [hW4] at hnx hit2 hw2
      have HI2 := Lib.hid hit2
      have HB2 := Lib.hid hw2
      have HM2 := Lib.hid (show W4.iterPos w.heap.size = pos + u by simp [World.iterPos, hit2])
      have hsl := str_extract l pos (pos + 3)
      rw [Nat.add_sub_cancel_left] at hsl
      clear hW4 hit2 hw2 hdec
      have HOR := Lib.hid hor
      clear hor
      by_cases q0 : z = 65533
      · have f0 : ((z : Int) == 65533) = true := by rw [q0]; rfl
        by_cases q1 : l.length < pos + 3
        · go_wp2
          go_roundw
          case rel => exact ⟨pos + u, false, hu2, rfl, HI2, (fun h => by cases h), HB2⟩
          case measure => rw [HMS.out, HM2.out]; omega
        · have i0 : (0 : Int) ≤ (pos : Int) := by omega
          have i1 : (pos : Int) + 3 ≤ (l.length : Int) := by omega
          by_cases q2 : (l.drop pos).take 3 = [239, 191, 189]
          · have hv2 : v = true → validB l = validB (l.drop (pos + u)) := fun h => by
              rcases HOR.out with h2 | h2
              · rw [← h2]; exact HV.out h
              · exact absurd q2 h2.2
            have HV2 := Lib.hid hv2
            rw [q2] at hsl
            clear hv2 q2
            go_wp2
            go_roundw
            case rel => exact ⟨pos + u, v, hu2, rfl, HI2, HV2, HB2⟩
            case measure => rw [HMS.out, HM2.out]; omega
          · obtain ⟨ts, hts⟩ : ∃ ts, (l.drop pos).take 3 = ts := ⟨_, rfl⟩
            rw [hts] at hsl q2
            have hsn : (ts == [239, 191, 189]) = false := by rw [beq_eq_false_iff_ne]; exact q2
            clear q2 hts
            go_wp2
            go_roundw
            case rel => exact ⟨pos + u, false, hu2, rfl, HI2, (fun h => by cases h), HB2⟩
            case measure => rw [HMS.out, HM2.out]; omega
      · have f0 : ((z : Int) == 65533) = false := by rw [beq_eq_false_iff_ne]; omega
        have hv2 : v = true → validB l = validB (l.drop (pos + u)) := fun h => by
          rcases HOR.out with h2 | h2
          · rw [← h2]; exact HV.out h
          · exact absurd h2.1 q0
        have HV2 := Lib.hid hv2
        clear hv2
        go_wp2
        go_roundw
        case rel => exact ⟨pos + u, v, hu2, rfl, HI2, HV2, HB2⟩
        case measure => rw [HMS.out, HM2.out]; omega
    · have hnx : ∀ ty, (Instr.next (.pointer (some ⟨w.heap.size, 0, none⟩)) true ty).run Tryz.prog wr = .ok (.tuple #[.bool false]) wr := fun ty => Lib.run_next_end_at (P := Tryz.prog) wr w.heap.size (str l) pos ty HI.out (by rw [hz]; omega)
      cases v with
      | true =>
        have hvl : validB l = true := by
          rw [HV.out rfl, List.drop_eq_nil_of_le (by omega), validB]
        have HM := Lib.hid (mend_valid l hvl)
        go_wp2
        go_ret
        exact ⟨by rw [HM.out]; rfl, HB.out⟩
      | false =>
        obtain ⟨c, w2, hc, hcl, hb, hr, hs⟩ := conv_str l wr
        have HR2 := Lib.hid hr
        have HB2 := Lib.hid (HB.out.trans (hb.mono HB.out.size))
        clear hb hr
        go_wp2_with fail
        refine (K.out _ _ _ w2 HR2.out).mono ?_
        rintro e w3 ⟨v3, rfl, ho3, hb3⟩
        obtain ⟨Av, cv, rfl, _, _⟩ := own_slice ho3
        have hcv := conv_line ho3 (runesOf l).length cv (Nat.le_refl _)
        rw [List.take_length] at hcv
        have HB3 := Lib.hid (HB2.out.trans (hb3.mono HB2.out.size))
        clear ho3 hb3 hc
        go_wp2
        go_ret
        exact ⟨rfl, HB3.out⟩
end Go.Proofs.YtgkiffodnofggaaGreatDoor
