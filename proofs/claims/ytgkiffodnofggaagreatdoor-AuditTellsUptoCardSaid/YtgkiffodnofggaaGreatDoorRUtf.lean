/-
  The contracts of the reference's size, second, good.
-/
import Derived.Test.YtgkiffodnofggaaGreatDoorUtfRead
namespace Go.Proofs.YtgkiffodnofggaaGreatDoor
open Go.RowKit
set_option linter.unusedVariables false
set_option linter.unusedSimpArgs false

theorem ret1 {k : IntKind} {a b : Int} (h : a = b) : Ending.returned (.int k a) = .returned (.int k b) := by rw [h]
theorem retb {a b : Bool} (h : a = b) : Ending.returned (.bool a) = .returned (.bool b) := by rw [h]
set_option maxHeartbeats 4000000 in
set_option maxRecDepth 100000 in
theorem rsize_any (c : UInt8) (w : World) : Calls Tryz.prog 100 #[.int .u8 c.toNat] w fun e w' => e = .returned (.int .i64 (uLen c)) ∧ w = w' := by
  obtain ⟨R, hR⟩ : ∃ R, uLen c = R := ⟨_, rfl⟩
  have hR2 := hR
  unfold uLen at hR2
  generalize c.toNat = n at hR2 ⊢
  rw [hR]
  have H := Lib.hid hR2
  clear hR hR2
  go_enter Tryz.func100, Tryz.ntmps100
  go_wp2
  all_goals
    go_ret
    refine ⟨ret1 ?_, rfl⟩
    rw [← H.out]
    repeat' split
    all_goals first | rfl | (exfalso; omega)

set_option maxHeartbeats 4000000 in
set_option maxRecDepth 100000 in
theorem rsecond_any (c d : UInt8) (w : World) : Calls Tryz.prog 101 #[.int .u8 c.toNat, .int .u8 d.toNat] w fun e w' => e = .returned (.bool (uAt c 1 d)) ∧ w' = w := by
  obtain ⟨R, hR⟩ : ∃ R, uAt c 1 d = R := ⟨_, rfl⟩
  have hR2 := hR
  rw [uAt, if_pos rfl] at hR2
  unfold uLo uHi at hR2
  generalize c.toNat = n at hR2 ⊢
  generalize d.toNat = m at hR2 ⊢
  rw [hR]
  have H := Lib.hid hR2
  clear hR hR2
  go_enter Tryz.func101, Tryz.ntmps101
  go_wp2
  all_goals
    go_ret
    refine ⟨retb ?_, rfl⟩
    simp only [beq_iff_eq, beq_eq_false_iff_ne] at *
    rw [← H.out]
    repeat' split
    all_goals first | (exfalso; omega) | (rw [decide_eq_decide]; omega) | (simp; omega) | (symm; simp; omega)

set_option maxHeartbeats 8000000 in
set_option maxRecDepth 100000 in
theorem rgood_any (S : Nat → Prop) (A : Option Addr) (n cp : Nat) (c : UInt8) (r : List UInt8) (w : World) (hr : Row S w 1 A n (bv (c :: r))) (hn : n ≤ 140737488355328) :
    Calls Tryz.prog 81 #[.slice A n cp] w fun e w' => e = .returned (.tuple #[.int .i64 (uGood c r), .bool (decide (uLen c ≠ 0 ∧ uGood c r = uLen c))]) ∧ ∃ q, w' = w.drewN q := by
  have hl : r.length + 1 = n := by have := hr.1; rw [bv_length] at this; simpa using this
  have HR := Lib.hid hr
  obtain ⟨ad, u, rfl, _, hu, e0⟩ := hr.at_ (k := 0) (by omega)
  rw [bv_get _ _ (by simp)] at hu
  obtain rfl := Option.some.inj hu
  simp only [List.getElem_cons_zero] at e0
  rw [show ad.add 0 = ad by simp [Addr.add]] at e0
  have i0 : 0 < n := by omega
  have hb := rsize_any c
  have h4 : uLen c ≤ 4 := by rcases uLen_cases c with h | h | h <;> omega
  obtain ⟨N, hN⟩ : ∃ N, uLen c = N := ⟨_, rfl⟩
  rw [hN] at hb h4 ⊢
  have HB := Lib.hid hb
  by_cases h0 : N = 0
  · subst h0
    have hg : uGood c r = 0 := by rw [uGood, if_pos hN]
    rw [hg]
    clear hb hr hu hN
    go_enter Tryz.func81, Tryz.ntmps81
    go_wp2_with (go_at_call 100; refine (HB.out _).mono ?_; rintro e w1 ⟨rfl, rfl⟩)
    go_ret2
    exact ⟨rfl, 0, rfl⟩
  · have q0 : ((N : Int) == 0) = false := by rw [beq_eq_false_iff_ne]; omega
    have hun : uGood c r = uRun c N 1 r := by rw [uGood, hN, if_neg h0]
    rw [hun]
    obtain ⟨G, hG⟩ : ∃ G, uRun c N 1 r = G := ⟨_, rfl⟩
    rw [hG]
    have HG := Lib.hid hG
    have hN1 : 1 ≤ N := by omega
    clear hb hr hu hN hun hG
    go_enter Tryz.func81, Tryz.ntmps81
    go_wp2_with (go_at_call 100; refine (HB.out _).mono ?_; rintro e w1 ⟨rfl, rfl⟩)
    go_loopw [5] (fun i wr => ∃ (k : Nat), 1 ≤ k ∧ k ≤ N ∧ k ≤ n ∧ i = .int .i64 k ∧ Hid (∃ q, wr = w.drewN q) ∧ Hid (uRun c N k (r.drop (k - 1)) = G)) (fun i _ => n - (intOf i).toNat)
    case atStart => exact ⟨1, Nat.le_refl _, hN1, by omega, rfl, ⟨0, rfl⟩, HG.out⟩
    case round =>
      obtain ⟨k, k1, k2, k3, rfl, HW, HK⟩ := hrel
      have f0 : wr.cell? ad = some (.int .u8 c.toNat) := by obtain ⟨q, h⟩ := HW.out; rw [h]; exact e0
      have HWD : ∀ nq, Hid (∃ q, wr.drewN nq = w.drewN q) := fun nq => by obtain ⟨q, h⟩ := HW.out; exact ⟨q + nq, by rw [h, World.drewN_drewN]⟩
      have HWN := Lib.hid HWD
      clear HWD
      have hfin : ∀ g : Nat, g = G → (Ending.returned (.tuple #[.int .i64 (g : Int), .bool ((g : Int) == (N : Int))]) = .returned (.tuple #[.int .i64 (G : Int), .bool (decide (N ≠ 0 ∧ G = N))])) := by
        rintro g rfl
        have e : ((g : Int) == (N : Int)) = decide (N ≠ 0 ∧ g = N) := by
          rw [Bool.eq_iff_iff]
          simp
          omega
        rw [e]
      have HFIN := Lib.hid hfin
      clear hfin
      by_cases hk : k < N
      · by_cases he : k < n
        · obtain ⟨ad', u, ea, _, hu, e1⟩ := HR.out.at_ he
          injection ea with ea
          subst ea
          have hkr : k - 1 < r.length := by omega
          rw [bv_get _ _ (by simp; omega)] at hu
          obtain rfl := Option.some.inj hu
          have hdk : (c :: r)[k]'(by simp; omega) = r[k - 1] := by
            obtain ⟨j, rfl⟩ : ∃ j, k = j + 1 := ⟨k - 1, by omega⟩
            simp
          rw [hdk] at e1
          have f1 : wr.cell? (ad.add k) = some (.int .u8 (r[k - 1].toNat : Int)) := by obtain ⟨q, h⟩ := HW.out; rw [h]; exact e1
          clear e1
          have hdrop : r.drop (k - 1) = r[k - 1] :: r.drop k := by rw [List.drop_eq_getElem_cons hkr]; congr 2; omega
          have hrun := HK.out
          rw [hdrop, uRun] at hrun
          generalize r[k - 1] = d at hrun f1
          have dl : d.toNat < 256 := d.toNat_lt
          have i1 : (0 : Int) ≤ (k : Int) := by omega
          have i2 : (k : Int) < (n : Int) := by omega
          have hsnd := rsecond_any c d
          by_cases hk1 : k = 1
          · subst hk1
            rw [addr_one] at f1
            by_cases hok : uAt c 1 d = true
            · rw [if_pos ⟨hk, hok⟩] at hrun
              rw [hok] at hsnd
              have HRN := Lib.hid hrun
              have HS := Lib.hid hsnd
              clear hrun hsnd hdrop hu hdk hok
              go_wp2
              go_quiet ((go_at_call 101; exact Calls.quiet_of_same (HS.out _)))
              go_wp2
              go_roundw
              case rel => exact ⟨2, by omega, by omega, by omega, by go_num, HWN.out _, HRN.out⟩
              case measure => simp [intOf]; omega
            · have hno : uAt c 1 d = false := by simpa using hok
              rw [if_neg (by rw [hno]; simp)] at hrun
              rw [hno] at hsnd
              have HRN := Lib.hid hrun
              have HS := Lib.hid hsnd
              clear hrun hsnd hdrop hu hdk hok hno
              go_wp2
              go_quiet ((go_at_call 101; exact Calls.quiet_of_same (HS.out _)))
              go_wp2
              go_ret2
              exact ⟨HFIN.out 1 HRN.out, (HWN.out _).out⟩
          · have q3 : ((k : Int) == 1) = false := by rw [beq_eq_false_iff_ne]; omega
            have d3 : decide (1 < (k : Int)) = true := by simp; omega
            have d4 : decide (1 < k) = true := by simp; omega
            have hat : uAt c k d = decide (128 ≤ d.toNat ∧ d.toNat ≤ 191) := by rw [uAt, if_neg hk1]
            by_cases hlo : d.toNat < 128
            · rw [if_neg (by rw [hat]; simp; omega)] at hrun
              have HRN := Lib.hid hrun
              have d5 : decide ((d.toNat : Int) < 128) = true := by simp; omega
              clear hrun hsnd hdrop hu hdk hat
              go_wp2
              go_quiet (fail)
              go_wp2
              go_ret2
              exact ⟨HFIN.out k HRN.out, (HWN.out _).out⟩
            · have d5 : decide ((d.toNat : Int) < 128) = false := by simp; omega
              by_cases hhi : 191 < d.toNat
              · rw [if_neg (by rw [hat]; simp; omega)] at hrun
                have HRN := Lib.hid hrun
                have d6 : decide (191 < (d.toNat : Int)) = true := by simp; omega
                clear hrun hsnd hdrop hu hdk hat
                go_wp2
                go_quiet (fail)
                go_wp2
                go_ret2
                exact ⟨HFIN.out k HRN.out, (HWN.out _).out⟩
              · rw [if_pos ⟨hk, by rw [hat]; simp; omega⟩] at hrun
                have HRN := Lib.hid hrun
                have d6 : decide (191 < (d.toNat : Int)) = false := by simp; omega
                clear hrun hsnd hdrop hu hdk hat
                go_wp2
                go_quiet (fail)
                go_wp2
                go_roundw
                case rel => exact ⟨k + 1, by omega, by omega, by omega, by go_num, HWN.out _, HRN.out⟩
                case measure => simp [intOf]; omega
        · have hrun := HK.out
          rw [List.drop_eq_nil_of_le (by omega), uRun] at hrun
          have HRN := Lib.hid hrun
          clear hrun
          go_wp2
          go_ret2
          exact ⟨HFIN.out k HRN.out, HW.out⟩
      · have hrun := HK.out
        have hkN : k = N := by omega
        have h1 := uRun_max c N (r.drop (k - 1)) k (by omega)
        have h2 := (uRun_le c N (r.drop (k - 1)) k).1
        have HRN := Lib.hid (show k = G by omega)
        clear hrun h1 h2 hkN
        go_wp2
        go_ret2
        exact ⟨HFIN.out k HRN.out, HW.out⟩
end Go.Proofs.YtgkiffodnofggaaGreatDoor
