/-
  The contracts of the program's utf.read, Valid.
-/
import Derived.Test.YtcogoiphpfgkdaaDoorUtf
namespace Go.Proofs.YtcogoiphpfgkdaaDoor
open Go.RowKit
set_option linter.unusedVariables false
set_option linter.unusedSimpArgs false

/-- What read says, as far as Valid asks. -/
def ReadSays (c : UInt8) (r : List UInt8) (w : World) (e : Ending) (w' : World) : Prop :=
  ∃ z k what : Int, e = .returned (.tuple #[.int .i32 z, .int .i64 k, .int .i64 what]) ∧ ((uLen c ≠ 0 ∧ uGood c r = uLen c ∧ what = 0 ∧ k = uLen c) ∨ (¬ (uLen c ≠ 0 ∧ uGood c r = uLen c) ∧ (what != 0) = true)) ∧ ∃ q, w' = w.drewN q

theorem uLen_cases (c : UInt8) : (c.toNat < 128 ∧ uLen c = 1) ∨ (128 ≤ c.toNat ∧ uLen c = 0) ∨ (128 ≤ c.toNat ∧ 2 ≤ uLen c ∧ uLen c ≤ 4) := by
  unfold uLen
  repeat' split
  all_goals omega

set_option maxHeartbeats 8000000 in
set_option maxRecDepth 100000 in
theorem read_any (S : Nat → Prop) (A : Option Addr) (n cp : Nat) (c : UInt8) (r : List UInt8) (w : World) (hr : Row S w 1 A n (bv (c :: r))) (hn : n ≤ 140737488355328) :
    Calls Tryd.prog 93 #[.slice A n cp] w (ReadSays c r w) := by
  have hl : r.length + 1 = n := by have := hr.1; rw [bv_length] at this; simpa using this
  have HR := Lib.hid hr
  obtain ⟨ad, u, rfl, _, hu, e0⟩ := hr.at_ (k := 0) (by omega)
  rw [bv_get _ _ (by simp)] at hu
  obtain rfl := Option.some.inj hu
  simp only [List.getElem_cons_zero] at e0
  rw [show ad.add 0 = ad by simp [Addr.add]] at e0
  have hb := bounds_any c
  have i0 : 0 < n := by omega
  rcases uLen_cases c with ⟨h1, h2⟩ | ⟨h1, h2⟩ | ⟨h1, h2, h3⟩
  · rw [show uBounds c = (0, 0, 0) by rw [uBounds, if_pos h1]] at hb
    have HB := Lib.hid hb
    have hg : uGood c r = 1 := by
      rw [uGood, if_neg (by omega), h2]
      cases r with
      | nil => rfl
      | cons d r => rw [uRun, if_neg (by omega)]
    have HG := Lib.hid hg
    have H2 := Lib.hid h2
    clear hb hr hu hg h2
    go_enter Tryd.func93, Tryd.ntmps93
    go_wp2_with (go_at_call 107; refine (HB.out _).mono ?_; rintro e w1 ⟨rfl, rfl⟩)
    go_ret3
    exact ⟨_, _, _, rfl, .inl ⟨by rw [H2.out]; decide, by rw [HG.out, H2.out], rfl, by rw [H2.out]; rfl⟩, 0, rfl⟩
  · rw [show uBounds c = (-1, 0, 0) by rw [uBounds, if_neg (by omega), if_pos h2]] at hb
    have HB := Lib.hid hb
    have H2 := Lib.hid h2
    clear hb hr hu h2
    go_enter Tryd.func93, Tryd.ntmps93
    go_wp2_with (go_at_call 107; refine (HB.out _).mono ?_; rintro e w1 ⟨rfl, rfl⟩)
    go_ret3
    exact ⟨_, _, _, rfl, .inr ⟨fun h => h.1 H2.out, rfl⟩, 0, rfl⟩
  · obtain ⟨m, hm⟩ : ∃ m, uLen c = m + 1 := ⟨uLen c - 1, by omega⟩
    rw [show uBounds c = ((m : Int), uLo c, uHi c) by rw [uBounds, if_neg (by omega), if_neg (by omega), hm]; simp] at hb
    have HB := Lib.hid hb
    have HM := Lib.hid hm
    have m1 : 1 ≤ m := by omega
    have m2 : m ≤ 3 := by omega
    have q0 : ((m : Int) == 0) = false := by rw [beq_eq_false_iff_ne]; omega
    have hlo : uLo c < 256 := by unfold uLo; split <;> (try split) <;> omega
    have hhi : uHi c < 256 := by unfold uHi; split <;> (try split) <;> omega
    have q1 : decide ((m : Int) < 0) = false := by simp
    have hun : uGood c r = uRun c (m + 1) 1 r := by rw [uGood, if_neg (by omega), hm]
    have HU := Lib.hid hun
    clear hb hr hu hm h2 h3 hun
    go_enter Tryd.func93, Tryd.ntmps93
    go_wp2_with (go_at_call 107; refine (HB.out _).mono ?_; rintro e w1 ⟨rfl, rfl⟩)
    go_quiet (fail)
    go_wp2
    go_loop [6, 7, 8, 9] (fun lo hi rv i => ∃ (k lo' hi' : Nat) (z : Int), 1 ≤ k ∧ k ≤ m + 1 ∧ i = .int .i64 k ∧ rv = .int .i32 z ∧ lo = .int .u8 lo' ∧ hi = .int .u8 hi' ∧ Hid (∀ d : UInt8, uAt c k d = decide (lo' ≤ d.toNat ∧ d.toNat ≤ hi')) ∧ k ≤ n ∧ Hid (uRun c (m + 1) 1 r = uRun c (m + 1) k (r.drop (k - 1)))) (fun _ _ _ i => m + 2 - (intOf i).toNat)
    case atStart => exact ⟨1, uLo c, uHi c, _, Nat.le_refl _, by omega, rfl, rfl, rfl, rfl, fun d => by rw [uAt, if_pos rfl], by omega, rfl⟩
    case round =>
      obtain ⟨k, lo, hi, z, k1, k2, rfl, rfl, rfl, rfl, HAT, k3, HRUN⟩ := hrel
      by_cases hk : k ≤ m
      · by_cases he : k = n
        · have q2 : ((k : Int) == (n : Int)) = true := by rw [beq_iff_eq]; omega
          have hbad : ¬ (uLen c ≠ 0 ∧ uGood c r = uLen c) := by
            rintro ⟨_, h⟩
            rw [HU.out, HRUN.out, List.drop_eq_nil_of_le (by omega), HM.out, uRun] at h
            omega
          have HBAD := Lib.hid hbad
          clear hbad he
          go_wp2
          go_ret3
          exact ⟨_, _, _, rfl, .inr ⟨HBAD.out, rfl⟩, _, rfl⟩
        · have q2 : ((k : Int) == (n : Int)) = false := by rw [beq_eq_false_iff_ne]; omega
          have hkn : k < n := by omega
          obtain ⟨ad', u, ea, _, hu, e1⟩ := HR.out.at_ hkn
          injection ea with ea
          subst ea
          have hkr : k - 1 < r.length := by omega
          rw [bv_get _ _ (by simp; omega)] at hu
          obtain rfl := Option.some.inj hu
          have hdk : (c :: r)[k]'(by simp; omega) = r[k - 1] := by
            obtain ⟨j, rfl⟩ : ∃ j, k = j + 1 := ⟨k - 1, by omega⟩
            simp
          rw [hdk] at e1
          have hdrop : r.drop (k - 1) = r[k - 1] :: r.drop k := by rw [List.drop_eq_getElem_cons hkr]; congr 2; omega
          have hat := HAT.out r[k - 1]
          have hrun := HRUN.out
          rw [hdrop, uRun] at hrun
          generalize r[k - 1] = d at hat hrun e1
          have dl : d.toNat < 256 := d.toNat_lt
          have i1 : (0 : Int) ≤ (k : Int) := by omega
          have i2 : (k : Int) < (n : Int) := by omega
          by_cases hok : lo ≤ d.toNat ∧ d.toNat ≤ hi
          · rw [if_pos ⟨by omega, by rw [hat]; simpa using hok⟩] at hrun
            obtain ⟨ho1, ho2⟩ := hok
            have HRN := Lib.hid hrun
            clear hat hrun hdrop hu hdk
            go_wp2
            go_round
            case rel => exact ⟨k + 1, 128, 191, _, by omega, by omega, by go_num, rfl, rfl, rfl, fun d => by rw [uAt, if_neg (by omega)], by omega, HRN.out⟩
            case measure => simp [intOf]; omega
          · have hno : uAt c k d = false := by rw [hat]; simpa using hok
            rw [if_neg (by rw [hno]; simp)] at hrun
            have hbad : ¬ (uLen c ≠ 0 ∧ uGood c r = uLen c) := by
              rintro ⟨_, h⟩
              rw [HU.out, hrun, HM.out] at h
              omega
            have HBAD := Lib.hid hbad
            clear hat hrun hdrop hu hdk hno hbad
            by_cases hlo : d.toNat < lo
            · go_wp2
              go_ret3
              exact ⟨_, _, _, rfl, .inr ⟨HBAD.out, rfl⟩, _, rfl⟩
            · have hhi : hi < d.toNat := by omega
              clear hok
              go_wp2
              go_ret3
              exact ⟨_, _, _, rfl, .inr ⟨HBAD.out, rfl⟩, _, rfl⟩
      · have hkm : k = m + 1 := by omega
        subst hkm
        have hgood : uGood c r = uLen c := by
          have h1 := uRun_max c (m + 1) (r.drop (m + 1 - 1)) (m + 1) (Nat.le_refl _)
          have h2 := (uRun_le c (m + 1) (r.drop (m + 1 - 1)) (m + 1)).1
          rw [HU.out, HRUN.out, HM.out]
          omega
        have HGD := Lib.hid hgood
        clear hgood
        go_wp2
        go_ret3
        exact ⟨_, _, _, rfl, .inl ⟨by rw [HM.out]; omega, HGD.out, rfl, by rw [HM.out]; omega⟩, _, rfl⟩

end Go.Proofs.YtcogoiphpfgkdaaDoor
