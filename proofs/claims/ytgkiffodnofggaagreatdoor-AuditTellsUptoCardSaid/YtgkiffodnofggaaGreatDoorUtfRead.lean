/-
  The contract of the program's utf.read.
-/
import Derived.Test.YtgkiffodnofggaaGreatDoorUtf
import Derived.Test.YtgkiffodnofggaaGreatDoorPiecesPlain
import Derived.Laws.BitsLemmas
namespace Go.Proofs.YtgkiffodnofggaaGreatDoor
open Go.RowKit
set_option linter.unusedVariables false
set_option linter.unusedSimpArgs false

/-- What read says: the piece's rune and size. -/
def ReadSays (c : UInt8) (r : List UInt8) (w : World) (e : Ending) (w' : World) : Prop :=
  ∃ what : Int, e = .returned (.tuple #[.int .i32 ((pcOf 0 c r).r : Int), .int .i64 ((pcOf 0 c r).size : Int), .int .i64 what]) ∧ ∃ q, w' = w.drewN q
theorem pcOf_good {c : UInt8} {r : List UInt8} (h : uLen c ≠ 0 ∧ uGood c r = uLen c) : (pcOf 0 c r).r = uVal c r ∧ (pcOf 0 c r).size = uLen c := by rw [pcOf, if_pos h]; exact ⟨rfl, rfl⟩
theorem pcOf_bad {c : UInt8} {r : List UInt8} (h : ¬ (uLen c ≠ 0 ∧ uGood c r = uLen c)) : (pcOf 0 c r).r = 65533 ∧ (pcOf 0 c r).size = if uGood c r = 0 then 1 else uGood c r := by rw [pcOf, if_neg h]; exact ⟨rfl, rfl⟩
theorem says_of {c : UInt8} {r : List UInt8} {w w' : World} {z k what : Int} (h1 : z = ((pcOf 0 c r).r : Int)) (h2 : k = ((pcOf 0 c r).size : Int)) (hw : ∃ q, w' = w.drewN q) : ReadSays c r w (.returned (.tuple #[.int .i32 z, .int .i64 k, .int .i64 what])) w' := by
  subst h1 h2
  exact ⟨what, rfl, hw⟩
theorem wrap32_byte (c : UInt8) : wrap32 (c.toNat : Int) = (c.toNat : Int) := by
  have hc : c.toNat < 256 := c.toNat_lt
  unfold wrap32
  omega
theorem base_and (c : UInt8) (m : Nat) (h1 : 1 ≤ m) (h2 : m ≤ 3) (hm : uLen c = m + 1) : bits .and .i32 (c.toNat : Int) (63 / 2 ^ m) = (uBase c : Int) := by
  have hc : c.toNat < 256 := c.toNat_lt
  rcases (by omega : m = 1 ∨ m = 2 ∨ m = 3) with rfl | rfl | rfl
  · have := bits_mask .i32 31 (by decide) wraps_i32 5 (by decide) (c.toNat : Int) (by omega) (by omega)
    rw [uBase, if_pos hm]
    exact this
  · have := bits_mask .i32 31 (by decide) wraps_i32 4 (by decide) (c.toNat : Int) (by omega) (by omega)
    rw [uBase, if_neg (by omega), if_pos hm]
    exact this
  · have := bits_mask .i32 31 (by decide) wraps_i32 3 (by decide) (c.toNat : Int) (by omega) (by omega)
    rw [uBase, if_neg (by omega), if_neg (by omega), if_pos hm]
    exact this
theorem more_or (z : Nat) (d : UInt8) (hz : z < 131072) : bits .or .i32 (wrap32 ((z : Int) * 64)) ((d.toNat : Int) % 64) = ((z * 64 + d.toNat % 64 : Nat) : Int) := by
  have hd : d.toNat < 256 := d.toNat_lt
  have e : wrap32 ((z : Int) * 64) = (z : Int) * 64 := by unfold wrap32; omega
  rw [e, i32_or6 _ _ (by omega) (by omega) (by omega) (by omega) (by omega)]
  omega

theorem uLen_cases (c : UInt8) : (c.toNat < 128 ∧ uLen c = 1) ∨ (128 ≤ c.toNat ∧ uLen c = 0) ∨ (128 ≤ c.toNat ∧ 2 ≤ uLen c ∧ uLen c ≤ 4) := by
  unfold uLen
  repeat' split
  all_goals omega

set_option maxHeartbeats 8000000 in
set_option maxRecDepth 100000 in
theorem read_any (S : Nat → Prop) (A : Option Addr) (n cp : Nat) (c : UInt8) (r : List UInt8) (w : World) (hr : Row S w 1 A n (bv (c :: r))) (hn : n ≤ 140737488355328) :
    Calls Tryz.prog 79 #[.slice A n cp] w (ReadSays c r w) := by
  have hl : r.length + 1 = n := by have := hr.1; rw [bv_length] at this; simpa using this
  have HR := Lib.hid hr
  obtain ⟨ad, u, rfl, _, hu, e0⟩ := hr.at_ (k := 0) (by omega)
  rw [bv_get _ _ (by simp)] at hu
  obtain rfl := Option.some.inj hu
  simp only [List.getElem_cons_zero] at e0
  rw [show ad.add 0 = ad by simp [Addr.add]] at e0
  have hb := bounds_any c
  have i0 : 0 < n := by omega
  rcases uLen_cases c with ⟨h1, h2⟩ | ⟨h1, h2⟩ | ⟨h1, h2, h3⟩
  · rw [show uBounds c = (0, 0, 0) by rw [uBounds, if_pos h1]] at hb
    have HB := Lib.hid hb
    have hg : uGood c r = 1 := by
      rw [uGood, if_neg (by omega), h2]
      cases r with
      | nil => rfl
      | cons d r => rw [uRun, if_neg (by omega)]
    have HG := Lib.hid hg
    have H2 := Lib.hid h2
    clear hb hr hu hg h2
    go_enter Tryz.func79, Tryz.ntmps79
    go_wp2_with (go_at_call 97; refine (HB.out _).mono ?_; rintro e w1 ⟨rfl, rfl⟩)
    go_ret3
    have hgd := pcOf_good (c := c) (r := r) ⟨by rw [H2.out]; decide, by rw [HG.out, H2.out]⟩
    refine says_of ?_ ?_ ⟨0, rfl⟩
    · rw [hgd.1, uVal, H2.out]
      simp [uMore, uBase, H2.out]
    · rw [hgd.2, H2.out]; rfl
  · rw [show uBounds c = (-1, 0, 0) by rw [uBounds, if_neg (by omega), if_pos h2]] at hb
    have HB := Lib.hid hb
    have H2 := Lib.hid h2
    clear hb hr hu h2
    go_enter Tryz.func79, Tryz.ntmps79
    go_wp2_with (go_at_call 97; refine (HB.out _).mono ?_; rintro e w1 ⟨rfl, rfl⟩)
    go_ret3
    have hbd := pcOf_bad (c := c) (r := r) (fun h => h.1 H2.out)
    have hg0 : uGood c r = 0 := by rw [uGood, if_pos H2.out]
    refine says_of ?_ ?_ ⟨0, rfl⟩
    · rw [hbd.1]; rfl
    · rw [hbd.2, if_pos hg0]; rfl
  · obtain ⟨m, hm⟩ : ∃ m, uLen c = m + 1 := ⟨uLen c - 1, by omega⟩
    rw [show uBounds c = ((m : Int), uLo c, uHi c) by rw [uBounds, if_neg (by omega), if_neg (by omega), hm]; simp] at hb
    have HB := Lib.hid hb
    have HM := Lib.hid hm
    have m1 : 1 ≤ m := by omega
    have m2 : m ≤ 3 := by omega
    have q0 : ((m : Int) == 0) = false := by rw [beq_eq_false_iff_ne]; omega
    have hlo : uLo c < 256 := by unfold uLo; split <;> (try split) <;> omega
    have hhi : uHi c < 256 := by unfold uHi; split <;> (try split) <;> omega
    have q1 : decide ((m : Int) < 0) = false := by simp
    have hun : uGood c r = uRun c (m + 1) 1 r := by rw [uGood, if_neg (by omega), hm]
    have HU := Lib.hid hun
    clear hb hr hu hm h2 h3 hun
    go_enter Tryz.func79, Tryz.ntmps79
    go_wp2_with (go_at_call 97; refine (HB.out _).mono ?_; rintro e w1 ⟨rfl, rfl⟩)
    go_quiet (fail)
    go_wp2
    go_loop [6, 7, 8, 9] (fun lo hi rv i => ∃ (k lo' hi' : Nat) (z : Nat), 1 ≤ k ∧ k ≤ m + 1 ∧ i = .int .i64 k ∧ rv = .int .i32 (z : Int) ∧ lo = .int .u8 lo' ∧ hi = .int .u8 hi' ∧ Hid (∀ d : UInt8, uAt c k d = decide (lo' ≤ d.toNat ∧ d.toNat ≤ hi')) ∧ k ≤ n ∧ Hid (uRun c (m + 1) 1 r = uRun c (m + 1) k (r.drop (k - 1))) ∧ Hid (z = uMore (uBase c) (r.take (k - 1)))) (fun _ _ _ i => m + 2 - (intOf i).toNat)
    case atStart => refine ⟨1, uLo c, uHi c, uBase c, Nat.le_refl _, by omega, rfl, ?_, rfl, rfl, fun d => by rw [uAt, if_pos rfl], by omega, rfl, rfl⟩; rw [← base_and c m m1 m2 HM.out, wrap32_byte]
    case round =>
      obtain ⟨k, lo, hi, z, k1, k2, rfl, rfl, rfl, rfl, HAT, k3, HRUN, HZ⟩ := hrel
      by_cases hk : k ≤ m
      · by_cases he : k = n
        · have q2 : ((k : Int) == (n : Int)) = true := by rw [beq_iff_eq]; omega
          have hbad : ¬ (uLen c ≠ 0 ∧ uGood c r = uLen c) := by
            rintro ⟨_, h⟩
            rw [HU.out, HRUN.out, List.drop_eq_nil_of_le (by omega), HM.out, uRun] at h
            omega
          have hgk : uGood c r = k := by rw [HU.out, HRUN.out, List.drop_eq_nil_of_le (by omega), uRun]
          have HBAD := Lib.hid hbad
          have HGK := Lib.hid hgk
          clear hbad he hgk
          go_wp2
          go_ret3
          have hbd := pcOf_bad HBAD.out
          refine says_of (by rw [hbd.1]; rfl) ?_ ⟨_, rfl⟩
          rw [hbd.2, HGK.out, if_neg (by omega)]
        · have q2 : ((k : Int) == (n : Int)) = false := by rw [beq_eq_false_iff_ne]; omega
          have hkn : k < n := by omega
          obtain ⟨ad', u, ea, _, hu, e1⟩ := HR.out.at_ hkn
          injection ea with ea
          subst ea
          have hkr : k - 1 < r.length := by omega
          rw [bv_get _ _ (by simp; omega)] at hu
          obtain rfl := Option.some.inj hu
          have hdk : (c :: r)[k]'(by simp; omega) = r[k - 1] := by
            obtain ⟨j, rfl⟩ : ∃ j, k = j + 1 := ⟨k - 1, by omega⟩
            simp
          rw [hdk] at e1
          have hdrop : r.drop (k - 1) = r[k - 1] :: r.drop k := by rw [List.drop_eq_getElem_cons hkr]; congr 2; omega
          have hat := HAT.out r[k - 1]
          have hrun := HRUN.out
          rw [hdrop, uRun] at hrun
          have hgd2 : r[k - 1]? = some r[k - 1] := List.getElem?_eq_getElem hkr
          generalize hdd : r[k - 1] = d at hat hrun e1 hgd2
          clear hdd
          have dl : d.toNat < 256 := d.toNat_lt
          have i1 : (0 : Int) ≤ (k : Int) := by omega
          have i2 : (k : Int) < (n : Int) := by omega
          by_cases hok : lo ≤ d.toNat ∧ d.toNat ≤ hi
          · rw [if_pos ⟨by omega, by rw [hat]; simpa using hok⟩] at hrun
            obtain ⟨ho1, ho2⟩ := hok
            have HRN := Lib.hid hrun
            have hzl : z < 131072 := by
              have hb := uMore_lt (uBase c) (uBase_lt c (by rw [HM.out]; omega)) (r.take (k - 1))
              rw [← HZ.out, List.length_take, Nat.min_eq_left (by omega)] at hb
              have : 64 ^ (k - 1) ≤ 64 ^ 2 := Nat.pow_le_pow_right (by decide) (by omega)
              omega
            have hor := more_or z d hzl
            have hz2 : z * 64 + d.toNat % 64 = uMore (uBase c) (r.take k) := by
              have e1 : r.take k = r.take (k - 1) ++ [d] := by
                rw [show k = (k - 1) + 1 by omega, List.take_add_one, show k - 1 + 1 - 1 = k - 1 by omega]
                congr 1
                rw [hgd2]; rfl
              rw [e1, uMore_snoc, ← HZ.out]
            have HZ2 := Lib.hid hz2
            have HOR := Lib.hid hor
            clear hat hrun hdrop hu hdk hgd2 hzl hor hz2
            go_wp2
            go_round
            case rel => refine ⟨k + 1, 128, 191, z * 64 + d.toNat % 64, by omega, by omega, by go_num, ?_, rfl, rfl, fun d => by rw [uAt, if_neg (by omega)], by omega, HRN.out, HZ2.out⟩; rw [← HOR.out]
            case measure => simp [intOf]; omega
          · have hno : uAt c k d = false := by rw [hat]; simpa using hok
            rw [if_neg (by rw [hno]; simp)] at hrun
            have hbad : ¬ (uLen c ≠ 0 ∧ uGood c r = uLen c) := by
              rintro ⟨_, h⟩
              rw [HU.out, hrun, HM.out] at h
              omega
            have hgk : uGood c r = k := by rw [HU.out, hrun]
            have HBAD := Lib.hid hbad
            have HGK := Lib.hid hgk
            clear hat hrun hdrop hu hdk hno hbad hgk hgd2
            by_cases hlo : d.toNat < lo
            · go_wp2
              go_ret3
              have hbd := pcOf_bad HBAD.out
              refine says_of (by rw [hbd.1]; rfl) ?_ ⟨_, rfl⟩
              rw [hbd.2, HGK.out, if_neg (by omega)]
            · have hhi : hi < d.toNat := by omega
              clear hok
              go_wp2
              go_ret3
              have hbd := pcOf_bad HBAD.out
              refine says_of (by rw [hbd.1]; rfl) ?_ ⟨_, rfl⟩
              rw [hbd.2, HGK.out, if_neg (by omega)]
      · have hkm : k = m + 1 := by omega
        subst hkm
        have hgood : uGood c r = uLen c := by
          have h1 := uRun_max c (m + 1) (r.drop (m + 1 - 1)) (m + 1) (Nat.le_refl _)
          have h2 := (uRun_le c (m + 1) (r.drop (m + 1 - 1)) (m + 1)).1
          rw [HU.out, HRUN.out, HM.out]
          omega
        have HGD := Lib.hid hgood
        clear hgood
        go_wp2
        go_ret3
        have hgo := pcOf_good (c := c) (r := r) ⟨by rw [HM.out]; omega, HGD.out⟩
        refine says_of ?_ ?_ ⟨_, rfl⟩
        · rw [hgo.1, uVal, HM.out, HZ.out]
        · rw [hgo.2, HM.out]; rfl

end Go.Proofs.YtgkiffodnofggaaGreatDoor
