/-
  The contract of the program's utf.Valid.
-/
import Derived.Test.YtcogoiphpfgkdaaDoorUtfRead
namespace Go.Proofs.YtcogoiphpfgkdaaDoor
open Go.RowKit
set_option linter.unusedVariables false
set_option linter.unusedSimpArgs false

theorem validB_cons (c : UInt8) (r : List UInt8) : validB (c :: r) = if uLen c ≠ 0 ∧ uGood c r = uLen c then validB (r.drop (uLen c - 1)) else false := by rw [validB]
theorem uGood_le (c : UInt8) (r : List UInt8) : uGood c r ≤ 1 + r.length := by
  unfold uGood
  split
  · omega
  · exact (uRun_le c _ r 1).2

set_option maxHeartbeats 8000000 in
set_option maxRecDepth 100000 in
theorem utfValid_any (S : Nat → Prop) (A : Option Addr) (n cp : Nat) (l : List UInt8) (w : World) (hr : Row S w 1 A n (bv l)) (hn : n ≤ 140737488355328) (hnc : n ≤ cp) :
    Calls Tryd.prog 77 #[.slice A n cp] w fun e w' => e = .returned (.bool (validB l)) ∧ ∃ q, w' = w.drewN q := by
  have hl : l.length = n := by have := hr.1; rw [bv_length] at this; omega
  obtain ⟨R, hR⟩ : ∃ R, validB l = R := ⟨_, rfl⟩
  rw [hR]
  have HR := Lib.hid hr
  have HV := Lib.hid hR
  clear hr hR
  go_enter Tryd.func77, Tryd.ntmps77
  go_wp2
  go_step3
  go_wp2
  go_step3
  go_wp2
  go_loopw [3, 4] (fun v i wr => ∃ (k q : Nat), k ≤ n ∧ i = .int .i64 k ∧ v = .bool true ∧ wr = w.drewN q ∧ Hid (validB (l.drop k) = R)) (fun _ i _ => n - (intOf i).toNat)
  case atStart => exact ⟨0, 0, Nat.zero_le _, rfl, rfl, rfl, HV.out⟩
  case round =>
    obtain ⟨k, q, hk, rfl, rfl, rfl, HK⟩ := hrel
    by_cases hlt : k < n
    · obtain ⟨c, r, hcr⟩ : ∃ c r, l.drop k = c :: r := by
        cases h : l.drop k with
        | nil => have := congrArg List.length h; simp at this; omega
        | cons c r => exact ⟨c, r, rfl⟩
      obtain ⟨A', hA'⟩ : ∃ A', Option.map (fun x => x.add k) A = A' := ⟨_, rfl⟩
      have hrow := HR.out.cut hk hnc
      rw [Nat.mul_one, if_neg (by omega), hA', ← bv_drop, hcr] at hrow
      have HW := Lib.hid (hrow.drewN q)
      have hlr : r.length + 1 + k = n := by have := congrArg List.length hcr; simp at this; omega
      have hv := HK.out
      rw [hcr, validB_cons] at hv
      have hgl := uGood_le c r
      have HCR := Lib.hid hcr
      have HVV := Lib.hid hv
      have i0 : (0 : Int) ≤ (k : Int) := by omega
      have i1 : (k : Int) ≤ (n : Int) := by omega
      have i2 : (k : Int) ≤ (cp : Int) := by omega
      clear hrow hcr hv
      go_wp2_with fail
      refine (read_any S A' (n - k) (cp - k) c r _ HW.out (by omega)).mono ?_
      rintro e w1 ⟨z, kk, what, rfl, hcase, q2, rfl⟩
      rcases hcase with ⟨hu, hg, rfl, rfl⟩ | ⟨hno, hne⟩
      · have hnext : validB (l.drop (k + uLen c)) = R := by
          have := HVV.out
          rw [if_pos ⟨hu, hg⟩] at this
          rw [← List.drop_drop, HCR.out, ← this]
          obtain ⟨j, hj⟩ : ∃ j, uLen c = j + 1 := ⟨uLen c - 1, by omega⟩
          rw [hj]
          simp
        have HN := Lib.hid hnext
        have u1 : 1 ≤ uLen c := by omega
        have u2 : k + uLen c ≤ n := by omega
        generalize uLen c = u at HN u1 u2
        clear hu hg hnext hgl hA'
        go_wp2
        go_roundw
        case rel => exact ⟨k + u, q + q2, u2, by go_num, rfl, rfl, HN.out⟩
        case measure => simp [intOf]; omega
      · have hfin : R = false := by
          have := HVV.out
          rw [if_neg hno] at this
          exact this.symm
        subst hfin
        clear hno hgl hA'
        go_wp2
        rw [Exit.noGoto_ret]
        go_ret
        exact ⟨rfl, _, rfl⟩
    · have hfin : R = true := by
        have := HK.out
        rw [List.drop_eq_nil_of_le (by omega), validB] at this
        exact this.symm
      subst hfin
      go_wp2
      rw [Exit.noGoto_ret]
      go_ret
      exact ⟨rfl, _, rfl⟩

end Go.Proofs.YtcogoiphpfgkdaaDoor
