/-
  UTF-8, as plain data: how long a good beginning is; whether bytes are valid.
  The contracts of the program's utf.bounds, read, Valid.
  The contracts of the program's utf.read, Valid.
  The contract of the program's utf.Valid.
  The contracts of the reference's size, second, good.
  The contracts of token.blank, valid, name; of the reference's stop, valid, TagName, AttrName.
-/
import Derived.Test.YtcogoiphpfgkdaaDoorBase
import Derived.Test.YtcogoiphpfgkdaaDoorCommon
import Derived.Deep.QuietTactic
import Derived.BigQuiet
import Derived.Lib.ConvBytes
namespace Go.Proofs.YtcogoiphpfgkdaaDoor
set_option linter.unusedVariables false

/-- How many bytes a character has that begins with a byte; 0: none does. -/
def uLen (c : UInt8) : Nat :=
  if c.toNat < 128 then 1 else if 194 ≤ c.toNat ∧ c.toNat ≤ 223 then 2 else if 224 ≤ c.toNat ∧ c.toNat ≤ 239 then 3 else if 240 ≤ c.toNat ∧ c.toNat ≤ 244 then 4 else 0
/-- Between which the second byte must lie. -/
def uLo (c : UInt8) : Nat := if c.toNat = 224 then 160 else if c.toNat = 240 then 144 else 128
def uHi (c : UInt8) : Nat := if c.toNat = 237 then 159 else if c.toNat = 244 then 143 else 191
/-- May byte d stand at place k (from 1 on) behind c? -/
def uAt (c : UInt8) (k : Nat) (d : UInt8) : Bool := if k = 1 then decide (uLo c ≤ d.toNat ∧ d.toNat ≤ uHi c) else decide (128 ≤ d.toNat ∧ d.toNat ≤ 191)
/-- How far a beginning is good, from place k on. -/
def uRun (c : UInt8) (n : Nat) : Nat → List UInt8 → Nat
  | k, [] => k
  | k, d :: r => if k < n ∧ uAt c k d = true then uRun c n (k + 1) r else k
/-- The longest good beginning: its bytes. -/
def uGood (c : UInt8) (r : List UInt8) : Nat := if uLen c = 0 then 0 else uRun c (uLen c) 1 r
/-- Are bytes valid? -/
def validB : List UInt8 → Bool
  | [] => true
  | c :: r => if uLen c ≠ 0 ∧ uGood c r = uLen c then validB (r.drop (uLen c - 1)) else false
termination_by l => l.length
decreasing_by simp; omega
theorem uRun_le (c : UInt8) (n : Nat) : ∀ (r : List UInt8) (k : Nat), k ≤ uRun c n k r ∧ uRun c n k r ≤ k + r.length
  | [], k => by simp [uRun]
  | d :: r, k => by
    simp only [uRun]
    split
    · have := uRun_le c n r (k + 1)
      simp only [List.length_cons]
      omega
    · simp
theorem uRun_max (c : UInt8) (n : Nat) : ∀ (r : List UInt8) (k : Nat), k ≤ n → uRun c n k r ≤ n
  | [], k, h => by simpa [uRun] using h
  | d :: r, k, h => by
    simp only [uRun]
    split
    · exact uRun_max c n r (k + 1) (by omega)
    · exact h
end Go.Proofs.YtcogoiphpfgkdaaDoor
namespace Go.Proofs.YtcogoiphpfgkdaaDoor
open Go.RowKit
set_option linter.unusedVariables false
set_option linter.unusedSimpArgs false

theorem ret3 {a b c a' b' c' : Value} (h1 : a = a') (h2 : b = b') (h3 : c = c') : Ending.returned (.tuple #[a, b, c]) = .returned (.tuple #[a', b', c']) := by rw [h1, h2, h3]
/-- What bounds says. -/
def uBounds (c : UInt8) : Int × Nat × Nat := if c.toNat < 128 then (0, 0, 0) else if uLen c = 0 then (-1, 0, 0) else ((uLen c : Int) - 1, uLo c, uHi c)

set_option maxHeartbeats 4000000 in
set_option maxRecDepth 100000 in
theorem bounds_any (c : UInt8) (w : World) : Calls Tryd.prog 107 #[.int .u8 c.toNat] w fun e w' => e = .returned (.tuple #[.int .i64 (uBounds c).1, .int .u8 ((uBounds c).2.1 : Int), .int .u8 ((uBounds c).2.2 : Int)]) ∧ w = w' := by
  obtain ⟨R, hR⟩ : ∃ R, uBounds c = R := ⟨_, rfl⟩
  have hR2 := hR
  unfold uBounds uLen uLo uHi at hR2
  generalize c.toNat = n at hR2 ⊢
  rw [hR]
  have H := Lib.hid hR2
  clear hR hR2
  go_enter Tryd.func107, Tryd.ntmps107
  go_wp2
  all_goals
    go_ret3
    refine ⟨?_, rfl⟩
    simp only [beq_iff_eq, beq_eq_false_iff_ne] at *
    rw [← H.out]
    repeat' split
    all_goals first | rfl | (exfalso; omega)


end Go.Proofs.YtcogoiphpfgkdaaDoor
namespace Go.Proofs.YtcogoiphpfgkdaaDoor
open Go.RowKit
set_option linter.unusedVariables false
set_option linter.unusedSimpArgs false

/-- What read says, as far as Valid asks. -/
def ReadSays (c : UInt8) (r : List UInt8) (w : World) (e : Ending) (w' : World) : Prop :=
  ∃ z k what : Int, e = .returned (.tuple #[.int .i32 z, .int .i64 k, .int .i64 what]) ∧ ((uLen c ≠ 0 ∧ uGood c r = uLen c ∧ what = 0 ∧ k = uLen c) ∨ (¬ (uLen c ≠ 0 ∧ uGood c r = uLen c) ∧ (what != 0) = true)) ∧ ∃ q, w' = w.drewN q

theorem uLen_cases (c : UInt8) : (c.toNat < 128 ∧ uLen c = 1) ∨ (128 ≤ c.toNat ∧ uLen c = 0) ∨ (128 ≤ c.toNat ∧ 2 ≤ uLen c ∧ uLen c ≤ 4) := by
  unfold uLen
  repeat' split
  all_goals omega

set_option maxHeartbeats 8000000 in
set_option maxRecDepth 100000 in
theorem read_any (S : Nat → Prop) (A : Option Addr) (n cp : Nat) (c : UInt8) (r : List UInt8) (w : World) (hr : Row S w 1 A n (bv (c :: r))) (hn : n ≤ 140737488355328) :
    Calls Tryd.prog 93 #[.slice A n cp] w (ReadSays c r w) := by
  have hl : r.length + 1 = n := by have := hr.1; rw [bv_length] at this; simpa using this
  have HR := Lib.hid hr
  obtain ⟨ad, u, rfl, _, hu, e0⟩ := hr.at_ (k := 0) (by omega)
  rw [bv_get _ _ (by simp)] at hu
  obtain rfl := Option.some.inj hu
  simp only [List.getElem_cons_zero] at e0
  rw [show ad.add 0 = ad by simp [Addr.add]] at e0
  have hb := bounds_any c
  have i0 : 0 < n := by omega
  rcases uLen_cases c with ⟨h1, h2⟩ | ⟨h1, h2⟩ | ⟨h1, h2, h3⟩
  · rw [show uBounds c = (0, 0, 0) by rw [uBounds, if_pos h1]] at hb
    have HB := Lib.hid hb
    have hg : uGood c r = 1 := by
      rw [uGood, if_neg (by omega), h2]
      cases r with
      | nil => rfl
      | cons d r => rw [uRun, if_neg (by omega)]
    have HG := Lib.hid hg
    have H2 := Lib.hid h2
    clear hb hr hu hg h2
    go_enter Tryd.func93, Tryd.ntmps93
    go_wp2_with (go_at_call 107; refine (HB.out _).mono ?_; rintro e w1 ⟨rfl, rfl⟩)
    go_ret3
    exact ⟨_, _, _, rfl, .inl ⟨by rw [H2.out]; decide, by rw [HG.out, H2.out], rfl, by rw [H2.out]; rfl⟩, 0, rfl⟩
  · rw [show uBounds c = (-1, 0, 0) by rw [uBounds, if_neg (by omega), if_pos h2]] at hb
    have HB := Lib.hid hb
    have H2 := Lib.hid h2
    clear hb hr hu h2
    go_enter Tryd.func93, Tryd.ntmps93
    go_wp2_with (go_at_call 107; refine (HB.out _).mono ?_; rintro e w1 ⟨rfl, rfl⟩)
    go_ret3
    exact ⟨_, _, _, rfl, .inr ⟨fun h => h.1 H2.out, rfl⟩, 0, rfl⟩
  · obtain ⟨m, hm⟩ : ∃ m, uLen c = m + 1 := ⟨uLen c - 1, by omega⟩
    rw [show uBounds c = ((m : Int), uLo c, uHi c) by rw [uBounds, if_neg (by omega), if_neg (by omega), hm]; simp] at hb
    have HB := Lib.hid hb
    have HM := Lib.hid hm
    have m1 : 1 ≤ m := by omega
    have m2 : m ≤ 3 := by omega
    have q0 : ((m : Int) == 0) = false := by rw [beq_eq_false_iff_ne]; omega
    have hlo : uLo c < 256 := by unfold uLo; split <;> (try split) <;> omega
    have hhi : uHi c < 256 := by unfold uHi; split <;> (try split) <;> omega
    have q1 : decide ((m : Int) < 0) = false := by simp
    have hun : uGood c r = uRun c (m + 1) 1 r := by rw [uGood, if_neg (by omega), hm]
    have HU := Lib.hid hun
    clear hb hr hu hm h2 h3 hun
    go_enter Tryd.func93, Tryd.ntmps93
    go_wp2_with (go_at_call 107; refine (HB.out _).mono ?_; rintro e w1 ⟨rfl, rfl⟩)
    go_quiet (fail)
    go_wp2
    go_loop [6, 7, 8, 9] (fun lo hi rv i => ∃ (k lo' hi' : Nat) (z : Int), 1 ≤ k ∧ k ≤ m + 1 ∧ i = .int .i64 k ∧ rv = .int .i32 z ∧ lo = .int .u8 lo' ∧ hi = .int .u8 hi' ∧ Hid (∀ d : UInt8, uAt c k d = decide (lo' ≤ d.toNat ∧ d.toNat ≤ hi')) ∧ k ≤ n ∧ Hid (uRun c (m + 1) 1 r = uRun c (m + 1) k (r.drop (k - 1)))) (fun _ _ _ i => m + 2 - (intOf i).toNat)
    case atStart => exact ⟨1, uLo c, uHi c, _, Nat.le_refl _, by omega, rfl, rfl, rfl, rfl, fun d => by rw [uAt, if_pos rfl], by omega, rfl⟩
    case round =>
      obtain ⟨k, lo, hi, z, k1, k2, rfl, rfl, rfl, rfl, HAT, k3, HRUN⟩ := hrel
      by_cases hk : k ≤ m
      · by_cases he : k = n
        · have q2 : ((k : Int) == (n : Int)) = true := by rw [beq_iff_eq]; omega
          have hbad : ¬ (uLen c ≠ 0 ∧ uGood c r = uLen c) := by
            rintro ⟨_, h⟩
            rw [HU.out, HRUN.out, List.drop_eq_nil_of_le (by omega), HM.out, uRun] at h
            omega
          have HBAD := Lib.hid hbad
          clear hbad he
          go_wp2
          go_ret3
          exact ⟨_, _, _, rfl, .inr ⟨HBAD.out, rfl⟩, _, rfl⟩
        · have q2 : ((k : Int) == (n : Int)) = false := by rw [beq_eq_false_iff_ne]; omega
          have hkn : k < n := by omega
          obtain ⟨ad', u, ea, _, hu, e1⟩ := HR.out.at_ hkn
          injection ea with ea
          subst ea
          have hkr : k - 1 < r.length := by omega
          rw [bv_get _ _ (by simp; omega)] at hu
          obtain rfl := Option.some.inj hu
          have hdk : (c :: r)[k]'(by simp; omega) = r[k - 1] := by
            obtain ⟨j, rfl⟩ : ∃ j, k = j + 1 := ⟨k - 1, by omega⟩
            simp
          rw [hdk] at e1
          have hdrop : r.drop (k - 1) = r[k - 1] :: r.drop k := by rw [List.drop_eq_getElem_cons hkr]; congr 2; omega
          have hat := HAT.out r[k - 1]
          have hrun := HRUN.out
          rw [hdrop, uRun] at hrun
          generalize r[k - 1] = d at hat hrun e1
          have dl : d.toNat < 256 := d.toNat_lt
          have i1 : (0 : Int) ≤ (k : Int) := by omega
          have i2 : (k : Int) < (n : Int) := by omega
          by_cases hok : lo ≤ d.toNat ∧ d.toNat ≤ hi
          · rw [if_pos ⟨by omega, by rw [hat]; simpa using hok⟩] at hrun
            obtain ⟨ho1, ho2⟩ := hok
            have HRN := Lib.hid hrun
            clear hat hrun hdrop hu hdk
            go_wp2
            go_round
            case rel => exact ⟨k + 1, 128, 191, _, by omega, by omega, by go_num, rfl, rfl, rfl, fun d => by rw [uAt, if_neg (by omega)], by omega, HRN.out⟩
            case measure => simp [intOf]; omega
          · have hno : uAt c k d = false := by rw [hat]; simpa using hok
            rw [if_neg (by rw [hno]; simp)] at hrun
            have hbad : ¬ (uLen c ≠ 0 ∧ uGood c r = uLen c) := by
              rintro ⟨_, h⟩
              rw [HU.out, hrun, HM.out] at h
              omega
            have HBAD := Lib.hid hbad
            clear hat hrun hdrop hu hdk hno hbad
            by_cases hlo : d.toNat < lo
            · go_wp2
              go_ret3
              exact ⟨_, _, _, rfl, .inr ⟨HBAD.out, rfl⟩, _, rfl⟩
            · have hhi : hi < d.toNat := by omega
              clear hok
              go_wp2
              go_ret3
              exact ⟨_, _, _, rfl, .inr ⟨HBAD.out, rfl⟩, _, rfl⟩
      · have hkm : k = m + 1 := by omega
        subst hkm
        have hgood : uGood c r = uLen c := by
          have h1 := uRun_max c (m + 1) (r.drop (m + 1 - 1)) (m + 1) (Nat.le_refl _)
          have h2 := (uRun_le c (m + 1) (r.drop (m + 1 - 1)) (m + 1)).1
          rw [HU.out, HRUN.out, HM.out]
          omega
        have HGD := Lib.hid hgood
        clear hgood
        go_wp2
        go_ret3
        exact ⟨_, _, _, rfl, .inl ⟨by rw [HM.out]; omega, HGD.out, rfl, by rw [HM.out]; omega⟩, _, rfl⟩

end Go.Proofs.YtcogoiphpfgkdaaDoor
namespace Go.Proofs.YtcogoiphpfgkdaaDoor
open Go.RowKit
set_option linter.unusedVariables false
set_option linter.unusedSimpArgs false

theorem validB_cons (c : UInt8) (r : List UInt8) : validB (c :: r) = if uLen c ≠ 0 ∧ uGood c r = uLen c then validB (r.drop (uLen c - 1)) else false := by rw [validB]
theorem uGood_le (c : UInt8) (r : List UInt8) : uGood c r ≤ 1 + r.length := by
  unfold uGood
  split
  · omega
  · exact (uRun_le c _ r 1).2

set_option maxHeartbeats 8000000 in
set_option maxRecDepth 100000 in
theorem utfValid_any (S : Nat → Prop) (A : Option Addr) (n cp : Nat) (l : List UInt8) (w : World) (hr : Row S w 1 A n (bv l)) (hn : n ≤ 140737488355328) (hnc : n ≤ cp) :
    Calls Tryd.prog 77 #[.slice A n cp] w fun e w' => e = .returned (.bool (validB l)) ∧ ∃ q, w' = w.drewN q := by
  have hl : l.length = n := by have := hr.1; rw [bv_length] at this; omega
  obtain ⟨R, hR⟩ : ∃ R, validB l = R := ⟨_, rfl⟩
  rw [hR]
  have HR := Lib.hid hr
  have HV := Lib.hid hR
  clear hr hR
  go_enter Tryd.func77, Tryd.ntmps77
  go_wp2
  go_step3
  go_wp2
  go_step3
  go_wp2
  go_loopw [3, 4] (fun v i wr => ∃ (k q : Nat), k ≤ n ∧ i = .int .i64 k ∧ v = .bool true ∧ wr = w.drewN q ∧ Hid (validB (l.drop k) = R)) (fun _ i _ => n - (intOf i).toNat)
  case atStart => exact ⟨0, 0, Nat.zero_le _, rfl, rfl, rfl, HV.out⟩
  case round =>
    obtain ⟨k, q, hk, rfl, rfl, rfl, HK⟩ := hrel
    by_cases hlt : k < n
    · obtain ⟨c, r, hcr⟩ : ∃ c r, l.drop k = c :: r := by
        cases h : l.drop k with
        | nil => have := congrArg List.length h; simp at this; omega
        | cons c r => exact ⟨c, r, rfl⟩
      obtain ⟨A', hA'⟩ : ∃ A', Option.map (fun x => x.add k) A = A' := ⟨_, rfl⟩
      have hrow := HR.out.cut hk hnc
      rw [Nat.mul_one, if_neg (by omega), hA', ← bv_drop, hcr] at hrow
      have HW := Lib.hid (hrow.drewN q)
      have hlr : r.length + 1 + k = n := by have := congrArg List.length hcr; simp at this; omega
      have hv := HK.out
      rw [hcr, validB_cons] at hv
      have hgl := uGood_le c r
      have HCR := Lib.hid hcr
      have HVV := Lib.hid hv
      have i0 : (0 : Int) ≤ (k : Int) := by omega
      have i1 : (k : Int) ≤ (n : Int) := by omega
      have i2 : (k : Int) ≤ (cp : Int) := by omega
      clear hrow hcr hv
      go_wp2_with fail
      refine (read_any S A' (n - k) (cp - k) c r _ HW.out (by omega)).mono ?_
      rintro e w1 ⟨z, kk, what, rfl, hcase, q2, rfl⟩
      rcases hcase with ⟨hu, hg, rfl, rfl⟩ | ⟨hno, hne⟩
      · have hnext : validB (l.drop (k + uLen c)) = R := by
          have := HVV.out
          rw [if_pos ⟨hu, hg⟩] at this
          rw [← List.drop_drop, HCR.out, ← this]
          obtain ⟨j, hj⟩ : ∃ j, uLen c = j + 1 := ⟨uLen c - 1, by omega⟩
          rw [hj]
          simp
        have HN := Lib.hid hnext
        have u1 : 1 ≤ uLen c := by omega
        have u2 : k + uLen c ≤ n := by omega
        generalize uLen c = u at HN u1 u2
        clear hu hg hnext hgl hA'
        go_wp2
        go_roundw
        case rel => exact ⟨k + u, q + q2, u2, by go_num, rfl, rfl, HN.out⟩
        case measure => simp [intOf]; omega
      · have hfin : R = false := by
          have := HVV.out
          rw [if_neg hno] at this
          exact this.symm
        subst hfin
        clear hno hgl hA'
        go_wp2
        rw [Exit.noGoto_ret]
        go_ret
        exact ⟨rfl, _, rfl⟩
    · have hfin : R = true := by
        have := HK.out
        rw [List.drop_eq_nil_of_le (by omega), validB] at this
        exact this.symm
      subst hfin
      go_wp2
      rw [Exit.noGoto_ret]
      go_ret
      exact ⟨rfl, _, rfl⟩

end Go.Proofs.YtcogoiphpfgkdaaDoor
namespace Go.Proofs.YtcogoiphpfgkdaaDoor
open Go.RowKit
set_option linter.unusedVariables false
set_option linter.unusedSimpArgs false

theorem ret1 {k : IntKind} {a b : Int} (h : a = b) : Ending.returned (.int k a) = .returned (.int k b) := by rw [h]
theorem retb {a b : Bool} (h : a = b) : Ending.returned (.bool a) = .returned (.bool b) := by rw [h]
set_option maxHeartbeats 4000000 in
set_option maxRecDepth 100000 in
theorem rsize_any (c : UInt8) (w : World) : Calls Tryd.prog 99 #[.int .u8 c.toNat] w fun e w' => e = .returned (.int .i64 (uLen c)) ∧ w = w' := by
  obtain ⟨R, hR⟩ : ∃ R, uLen c = R := ⟨_, rfl⟩
  have hR2 := hR
  unfold uLen at hR2
  generalize c.toNat = n at hR2 ⊢
  rw [hR]
  have H := Lib.hid hR2
  clear hR hR2
  go_enter Tryd.func99, Tryd.ntmps99
  go_wp2
  all_goals
    go_ret
    refine ⟨ret1 ?_, rfl⟩
    rw [← H.out]
    repeat' split
    all_goals first | rfl | (exfalso; omega)

set_option maxHeartbeats 4000000 in
set_option maxRecDepth 100000 in
theorem rsecond_any (c d : UInt8) (w : World) : Calls Tryd.prog 100 #[.int .u8 c.toNat, .int .u8 d.toNat] w fun e w' => e = .returned (.bool (uAt c 1 d)) ∧ w' = w := by
  obtain ⟨R, hR⟩ : ∃ R, uAt c 1 d = R := ⟨_, rfl⟩
  have hR2 := hR
  rw [uAt, if_pos rfl] at hR2
  unfold uLo uHi at hR2
  generalize c.toNat = n at hR2 ⊢
  generalize d.toNat = m at hR2 ⊢
  rw [hR]
  have H := Lib.hid hR2
  clear hR hR2
  go_enter Tryd.func100, Tryd.ntmps100
  go_wp2
  all_goals
    go_ret
    refine ⟨retb ?_, rfl⟩
    simp only [beq_iff_eq, beq_eq_false_iff_ne] at *
    rw [← H.out]
    repeat' split
    all_goals first | (exfalso; omega) | (rw [decide_eq_decide]; omega) | (simp; omega) | (symm; simp; omega)

set_option maxHeartbeats 8000000 in
set_option maxRecDepth 100000 in
theorem rgood_any (S : Nat → Prop) (A : Option Addr) (n cp : Nat) (c : UInt8) (r : List UInt8) (w : World) (hr : Row S w 1 A n (bv (c :: r))) (hn : n ≤ 140737488355328) :
    Calls Tryd.prog 82 #[.slice A n cp] w fun e w' => e = .returned (.tuple #[.int .i64 (uGood c r), .bool (decide (uLen c ≠ 0 ∧ uGood c r = uLen c))]) ∧ ∃ q, w' = w.drewN q := by
  have hl : r.length + 1 = n := by have := hr.1; rw [bv_length] at this; simpa using this
  have HR := Lib.hid hr
  obtain ⟨ad, u, rfl, _, hu, e0⟩ := hr.at_ (k := 0) (by omega)
  rw [bv_get _ _ (by simp)] at hu
  obtain rfl := Option.some.inj hu
  simp only [List.getElem_cons_zero] at e0
  rw [show ad.add 0 = ad by simp [Addr.add]] at e0
  have i0 : 0 < n := by omega
  have hb := rsize_any c
  have h4 : uLen c ≤ 4 := by rcases uLen_cases c with h | h | h <;> omega
  obtain ⟨N, hN⟩ : ∃ N, uLen c = N := ⟨_, rfl⟩
  rw [hN] at hb h4 ⊢
  have HB := Lib.hid hb
  by_cases h0 : N = 0
  · subst h0
    have hg : uGood c r = 0 := by rw [uGood, if_pos hN]
    rw [hg]
    clear hb hr hu hN
    go_enter Tryd.func82, Tryd.ntmps82
    go_wp2_with (go_at_call 99; refine (HB.out _).mono ?_; rintro e w1 ⟨rfl, rfl⟩)
    go_ret2
    exact ⟨rfl, 0, rfl⟩
  · have q0 : ((N : Int) == 0) = false := by rw [beq_eq_false_iff_ne]; omega
    have hun : uGood c r = uRun c N 1 r := by rw [uGood, hN, if_neg h0]
    rw [hun]
    obtain ⟨G, hG⟩ : ∃ G, uRun c N 1 r = G := ⟨_, rfl⟩
    rw [hG]
    have HG := Lib.hid hG
    have hN1 : 1 ≤ N := by omega
    clear hb hr hu hN hun hG
    go_enter Tryd.func82, Tryd.ntmps82
    go_wp2_with (go_at_call 99; refine (HB.out _).mono ?_; rintro e w1 ⟨rfl, rfl⟩)
    go_loopw [5] (fun i wr => ∃ (k : Nat), 1 ≤ k ∧ k ≤ N ∧ k ≤ n ∧ i = .int .i64 k ∧ Hid (∃ q, wr = w.drewN q) ∧ Hid (uRun c N k (r.drop (k - 1)) = G)) (fun i _ => n - (intOf i).toNat)
    case atStart => exact ⟨1, Nat.le_refl _, hN1, by omega, rfl, ⟨0, rfl⟩, HG.out⟩
    case round =>
      obtain ⟨k, k1, k2, k3, rfl, HW, HK⟩ := hrel
      have f0 : wr.cell? ad = some (.int .u8 c.toNat) := by obtain ⟨q, h⟩ := HW.out; rw [h]; exact e0
      have HWD : ∀ nq, Hid (∃ q, wr.drewN nq = w.drewN q) := fun nq => by obtain ⟨q, h⟩ := HW.out; exact ⟨q + nq, by rw [h, World.drewN_drewN]⟩
      have HWN := Lib.hid HWD
      clear HWD
      have hfin : ∀ g : Nat, g = G → (Ending.returned (.tuple #[.int .i64 (g : Int), .bool ((g : Int) == (N : Int))]) = .returned (.tuple #[.int .i64 (G : Int), .bool (decide (N ≠ 0 ∧ G = N))])) := by
        rintro g rfl
        have e : ((g : Int) == (N : Int)) = decide (N ≠ 0 ∧ g = N) := by
          rw [Bool.eq_iff_iff]
          simp
          omega
        rw [e]
      have HFIN := Lib.hid hfin
      clear hfin
      by_cases hk : k < N
      · by_cases he : k < n
        · obtain ⟨ad', u, ea, _, hu, e1⟩ := HR.out.at_ he
          injection ea with ea
          subst ea
          have hkr : k - 1 < r.length := by omega
          rw [bv_get _ _ (by simp; omega)] at hu
          obtain rfl := Option.some.inj hu
          have hdk : (c :: r)[k]'(by simp; omega) = r[k - 1] := by
            obtain ⟨j, rfl⟩ : ∃ j, k = j + 1 := ⟨k - 1, by omega⟩
            simp
          rw [hdk] at e1
          have f1 : wr.cell? (ad.add k) = some (.int .u8 (r[k - 1].toNat : Int)) := by obtain ⟨q, h⟩ := HW.out; rw [h]; exact e1
          clear e1
          have hdrop : r.drop (k - 1) = r[k - 1] :: r.drop k := by rw [List.drop_eq_getElem_cons hkr]; congr 2; omega
          have hrun := HK.out
          rw [hdrop, uRun] at hrun
          generalize r[k - 1] = d at hrun f1
          have dl : d.toNat < 256 := d.toNat_lt
          have i1 : (0 : Int) ≤ (k : Int) := by omega
          have i2 : (k : Int) < (n : Int) := by omega
          have hsnd := rsecond_any c d
          by_cases hk1 : k = 1
          · subst hk1
            rw [addr_one] at f1
            by_cases hok : uAt c 1 d = true
            · rw [if_pos ⟨hk, hok⟩] at hrun
              rw [hok] at hsnd
              have HRN := Lib.hid hrun
              have HS := Lib.hid hsnd
              clear hrun hsnd hdrop hu hdk hok
              go_wp2
              go_quiet ((go_at_call 100; exact Calls.quiet_of_same (HS.out _)))
              go_wp2
              go_roundw
              case rel => exact ⟨2, by omega, by omega, by omega, by go_num, HWN.out _, HRN.out⟩
              case measure => simp [intOf]; omega
            · have hno : uAt c 1 d = false := by simpa using hok
              rw [if_neg (by rw [hno]; simp)] at hrun
              rw [hno] at hsnd
              have HRN := Lib.hid hrun
              have HS := Lib.hid hsnd
              clear hrun hsnd hdrop hu hdk hok hno
              go_wp2
              go_quiet ((go_at_call 100; exact Calls.quiet_of_same (HS.out _)))
              go_wp2
              go_ret2
              exact ⟨HFIN.out 1 HRN.out, (HWN.out _).out⟩
          · have q3 : ((k : Int) == 1) = false := by rw [beq_eq_false_iff_ne]; omega
            have d3 : decide (1 < (k : Int)) = true := by simp; omega
            have d4 : decide (1 < k) = true := by simp; omega
            have hat : uAt c k d = decide (128 ≤ d.toNat ∧ d.toNat ≤ 191) := by rw [uAt, if_neg hk1]
            by_cases hlo : d.toNat < 128
            · rw [if_neg (by rw [hat]; simp; omega)] at hrun
              have HRN := Lib.hid hrun
              have d5 : decide ((d.toNat : Int) < 128) = true := by simp; omega
              clear hrun hsnd hdrop hu hdk hat
              go_wp2
              go_quiet (fail)
              go_wp2
              go_ret2
              exact ⟨HFIN.out k HRN.out, (HWN.out _).out⟩
            · have d5 : decide ((d.toNat : Int) < 128) = false := by simp; omega
              by_cases hhi : 191 < d.toNat
              · rw [if_neg (by rw [hat]; simp; omega)] at hrun
                have HRN := Lib.hid hrun
                have d6 : decide (191 < (d.toNat : Int)) = true := by simp; omega
                clear hrun hsnd hdrop hu hdk hat
                go_wp2
                go_quiet (fail)
                go_wp2
                go_ret2
                exact ⟨HFIN.out k HRN.out, (HWN.out _).out⟩
              · rw [if_pos ⟨hk, by rw [hat]; simp; omega⟩] at hrun
                have HRN := Lib.hid hrun
                have d6 : decide (191 < (d.toNat : Int)) = false := by simp; omega
                clear hrun hsnd hdrop hu hdk hat
                go_wp2
                go_quiet (fail)
                go_wp2
                go_roundw
                case rel => exact ⟨k + 1, by omega, by omega, by omega, by go_num, HWN.out _, HRN.out⟩
                case measure => simp [intOf]; omega
        · have hrun := HK.out
          rw [List.drop_eq_nil_of_le (by omega), uRun] at hrun
          have HRN := Lib.hid hrun
          clear hrun
          go_wp2
          go_ret2
          exact ⟨HFIN.out k HRN.out, HW.out⟩
      · have hrun := HK.out
        have hkN : k = N := by omega
        have h1 := uRun_max c N (r.drop (k - 1)) k (by omega)
        have h2 := (uRun_le c N (r.drop (k - 1)) k).1
        have HRN := Lib.hid (show k = G by omega)
        clear hrun h1 h2 hkN
        go_wp2
        go_ret2
        exact ⟨HFIN.out k HRN.out, HW.out⟩
end Go.Proofs.YtcogoiphpfgkdaaDoor
namespace Go.Proofs.YtcogoiphpfgkdaaDoor
open Go.RowKit
set_option linter.unusedVariables false
set_option linter.unusedSimpArgs false

theorem str_size (l : List UInt8) : (str l).size = l.length := by simp [str, ByteArray.size]
theorem str_data (l : List UInt8) : (str l).data = l.toArray := rfl
/-- '[]byte(s)': a new block. -/
theorem conv_str (l : List UInt8) (w : World) : ∃ c w2, (convert 9 55 (.string (str l))).run Tryd.prog w = .ok (.slice (some ⟨w.heap.size, 0, none⟩) l.length c) w2 ∧ l.length ≤ c ∧ Below w.heap.size w w2 ∧
    Row (fun k => k = w.heap.size) w2 1 (some ⟨w.heap.size, 0, none⟩) l.length (bv l) ∧ w2.heap.size = w.heap.size + 1 := by
  have h := Lib.run_convert_string_bytes (P := Tryd.prog) w 9 55 5 (str l) Tryd.underlying9 Tryd.underlying55 Tryd.underlying5
  rw [str_size] at h
  refine ⟨_, _, h, ?_, ?_, ?_, Lib.bytesWorld_size w _ _⟩
  · exact grownCap_ge w l.length 0 5
  · refine ⟨?_, ?_, ?_, ?_, fun k hk => Lib.bytesWorld_at_old w _ _ k hk⟩
    · rfl
    · rfl
    · rfl
    · rw [Lib.bytesWorld_size]; omega
  · refine ⟨by rw [bv_length]; omega, fun _ => ⟨_, rfl, rfl, fun j u hu => ?_⟩⟩
    have hj : j < l.length := by have := (List.getElem?_eq_some_iff.1 hu).1; rwa [bv_length] at this
    rw [bv_get l j hj] at hu
    obtain rfl := Option.some.inj hu
    rw [addr_lit, Nat.zero_add, Lib.bytesWorld_cell w _ _ j (by rw [str_size]; exact hj)]
    simp [str, List.getD_eq_getElem?_getD, List.getElem?_eq_getElem hj]

/-- A byte that no name may hold. -/
def stopB (c : UInt8) : Bool := decide (c.toNat = 0 ∨ c.toNat = 9 ∨ c.toNat = 10 ∨ c.toNat = 12 ∨ c.toNat = 32 ∨ c.toNat = 47 ∨ c.toNat = 62 ∨ (65 ≤ c.toNat ∧ c.toNat ≤ 90))
def nameRest (attr : Bool) : Nat → List UInt8 → Bool
  | _, [] => true
  | i, c :: r => !(stopB c || (attr && decide (c.toNat = 61) && decide (0 < i))) && nameRest attr (i + 1) r
/-- May a name be, of a tag, or (attr) of an attribute? -/
def nameB (attr : Bool) (l : List UInt8) : Bool :=
  match l with
  | [] => false
  | c :: r => validB (c :: r) && (attr || decide (97 ≤ c.toNat ∧ c.toNat ≤ 122)) && nameRest attr 0 (c :: r)

set_option maxHeartbeats 4000000 in
theorem tvalid_any (l : List UInt8) (w : World) (hn : l.length ≤ 140737488355328) : Calls Tryd.prog 94 #[.string (str l)] w fun e w' => e = .returned (.bool (validB l)) ∧ Below w.heap.size w w' := by
  obtain ⟨c, w2, hc, hcl, hb, hr, hz⟩ := conv_str l w
  have K := Lib.hid (utfValid_any _ _ _ c l w2 hr hn hcl)
  have B := Lib.hid hb
  clear hb hr
  go_enter Tryd.func94, Tryd.ntmps94
  go_wp2_with (go_at_call 77; refine K.out.mono ?_; rintro e w3 ⟨rfl, q, rfl⟩)
  go_ret
  exact ⟨rfl, below_drewN B.out q⟩

set_option maxHeartbeats 4000000 in
theorem tblank_any (c : UInt8) (w : World) : Calls Tryd.prog 108 #[.int .u8 c.toNat] w fun e w' => e = .returned (.bool (decide (c.toNat = 9 ∨ c.toNat = 10 ∨ c.toNat = 12 ∨ c.toNat = 32))) ∧ w = w' := by
  obtain ⟨R, hR⟩ : ∃ R, decide (c.toNat = 9 ∨ c.toNat = 10 ∨ c.toNat = 12 ∨ c.toNat = 32) = R := ⟨_, rfl⟩
  have hR2 := hR
  generalize c.toNat = n at hR2 ⊢
  rw [show (decide (n = 9 ∨ n = 10 ∨ n = 12 ∨ n = 32)) = R from hR2]
  have H := Lib.hid hR2
  clear hR hR2
  go_enter Tryd.func108, Tryd.ntmps108
  go_wp2
  all_goals
    go_ret
    refine ⟨retb ?_, rfl⟩
    rw [← H.out, Bool.eq_iff_iff]
    simp only [Bool.or_eq_true, Bool.and_eq_true, beq_iff_eq, decide_eq_true_eq, true_iff, Bool.false_eq_true, false_iff]
    omega
theorem str_get (l : List UInt8) (i : Nat) (h : i < (str l).size) : (str l)[i] = l[i]'(by rw [str_size] at h; exact h) := rfl

theorem name_bad_true {d : UInt8} {k : Nat} {X R : Bool} (h : (!(stopB d || (true && decide (d.toNat = 61) && decide (0 < k))) && X) = R)
    (hb : (d.toNat = 0 ∨ d.toNat = 9 ∨ d.toNat = 10 ∨ d.toNat = 12 ∨ d.toNat = 32 ∨ d.toNat = 47 ∨ d.toNat = 62 ∨ (65 ≤ d.toNat ∧ d.toNat ≤ 90))∨ (d.toNat = 61 ∧ 0 < k)) : false = R := by
  rw [← h]
  symm
  rw [Bool.and_eq_false_iff]
  left
  simp only [stopB, Bool.not_eq_false', Bool.or_eq_true, Bool.and_eq_true, decide_eq_true_eq, true_and, Bool.false_eq_true, false_and, or_false]
  omega
theorem name_ok_true {d : UInt8} {k : Nat} {X R : Bool} (h : (!(stopB d || (true && decide (d.toNat = 61) && decide (0 < k))) && X) = R)
    (hb : ¬ ((d.toNat = 0 ∨ d.toNat = 9 ∨ d.toNat = 10 ∨ d.toNat = 12 ∨ d.toNat = 32 ∨ d.toNat = 47 ∨ d.toNat = 62 ∨ (65 ≤ d.toNat ∧ d.toNat ≤ 90))∨ (d.toNat = 61 ∧ 0 < k))) : X = R := by
  rw [← h]
  have : (!(stopB d || (true && decide (d.toNat = 61) && decide (0 < k)))) = true := by
    simp only [stopB, Bool.not_eq_true', Bool.or_eq_false_iff, Bool.and_eq_false_iff, decide_eq_false_iff_not]
    simp
    omega
  rw [this, Bool.true_and]
theorem name_bad_false {d : UInt8} {k : Nat} {X R : Bool} (h : (!(stopB d || (false && decide (d.toNat = 61) && decide (0 < k))) && X) = R)
    (hb : (d.toNat = 0 ∨ d.toNat = 9 ∨ d.toNat = 10 ∨ d.toNat = 12 ∨ d.toNat = 32 ∨ d.toNat = 47 ∨ d.toNat = 62 ∨ (65 ≤ d.toNat ∧ d.toNat ≤ 90))) : false = R := by
  rw [← h]
  symm
  rw [Bool.and_eq_false_iff]
  left
  simp only [stopB, Bool.not_eq_false', Bool.or_eq_true, Bool.and_eq_true, decide_eq_true_eq, true_and, Bool.false_eq_true, false_and, or_false]
  omega
theorem name_ok_false {d : UInt8} {k : Nat} {X R : Bool} (h : (!(stopB d || (false && decide (d.toNat = 61) && decide (0 < k))) && X) = R)
    (hb : ¬ ((d.toNat = 0 ∨ d.toNat = 9 ∨ d.toNat = 10 ∨ d.toNat = 12 ∨ d.toNat = 32 ∨ d.toNat = 47 ∨ d.toNat = 62 ∨ (65 ≤ d.toNat ∧ d.toNat ≤ 90)))) : X = R := by
  rw [← h]
  have : (!(stopB d || (false && decide (d.toNat = 61) && decide (0 < k)))) = true := by
    simp only [stopB, Bool.not_eq_true', Bool.or_eq_false_iff, Bool.and_eq_false_iff, decide_eq_false_iff_not]
    simp
    omega
  rw [this, Bool.true_and]
set_option maxHeartbeats 8000000 in
set_option maxRecDepth 100000 in
theorem tname_any (attr : Bool) (l : List UInt8) (w : World) (hn : l.length ≤ 140737488355328) : Calls Tryd.prog 95 #[.string (str l), .bool attr] w fun e w' => e = .returned (.bool (nameB attr l)) ∧ Below w.heap.size w w' := by
  cases l with
  | nil =>
    go_enter Tryd.func95, Tryd.ntmps95
    go_wp2
    go_ret
    exact ⟨rfl, Below.refl _ _⟩
  | cons c r =>
    have K := Lib.hid (fun W => tvalid_any (c :: r) W hn)
    obtain ⟨L, hL⟩ : ∃ L, c :: r = L := ⟨_, rfl⟩
    obtain ⟨n, hln⟩ : ∃ n, L.length = n := ⟨_, rfl⟩
    have hsz : (str L).size = n := by rw [str_size, hln]
    have hn0 : 0 < n := by rw [← hln, ← hL]; simp
    have hq : (L == []) = false := by rw [← hL]; rfl
    have h0 : (str L)[0]'(by omega) = c := by subst hL; rfl
    obtain ⟨V, hV⟩ : ∃ V, validB L = V := ⟨_, rfl⟩
    obtain ⟨R, hR⟩ : ∃ R, nameB attr L = R := ⟨_, rfl⟩
    have hR2 := hR
    rw [← hL, nameB, hL, hV] at hR2
    rw [hL] at K ⊢
    rw [hV] at K
    rw [hL, hln] at hn
    rw [hR]
    have HR := Lib.hid hR2
    have HL := Lib.hid hln
    have cl : c.toNat < 256 := c.toNat_lt
    clear hR hR2 hL hV hln
    by_cases hgo : V = true ∧ (attr = true ∨ (97 ≤ c.toNat ∧ c.toNat ≤ 122))
    · obtain ⟨rfl, hat⟩ := hgo
      have hrest : nameRest attr 0 L = R := by
        have := HR.out
        rw [← this]
        rcases hat with rfl | hat
        · simp
        · simp [hat]
      have HN := Lib.hid hrest
      clear hrest HR
      have hfst : attr = true ∨ (attr = false ∧ decide ((c.toNat : Int) < 97) = false ∧ decide (122 < (c.toNat : Int)) = false) := by
        rcases hat with h | h
        · exact .inl h
        · cases attr with
          | true => exact .inl rfl
          | false => exact .inr ⟨rfl, by simp; omega, by simp; omega⟩
      clear hat
      rcases hfst with rfl | ⟨rfl, d1, d2⟩
      · go_enter Tryd.func95, Tryd.ntmps95
        go_wp2_with (go_at_call 94; refine (K.out _).mono ?_; rintro e w1 ⟨rfl, hb1⟩)
        clear h0 hq
        go_loopw [30] (fun i wr => ∃ k : Nat, k ≤ n ∧ i = .int .i64 k ∧ Hid (nameRest true k (L.drop k) = R) ∧ Hid (Below w.heap.size w wr)) (fun i _ => n - (intOf i).toNat)
        case atStart => exact ⟨0, Nat.zero_le _, rfl, HN.out, hb1⟩
        case round =>
          obtain ⟨k, hk, rfl, HK, HB⟩ := hrel
          by_cases hlt : k < n
          · obtain ⟨d, hd⟩ : ∃ d, (str L)[k]'(by omega) = d := ⟨_, rfl⟩
            have hdk : L.drop k = d :: L.drop (k + 1) := by
              rw [← hd, str_get, List.drop_eq_getElem_cons]
            have hv := HK.out
            rw [hdk, nameRest] at hv
            have HV := Lib.hid hv
            have K2 := Lib.hid (fun W => tblank_any d W)
            have i0 : (0 : Int) ≤ (k : Int) := by omega
            have i1 : (k : Int) < (n : Int) := by omega
            clear hdk hv HK
            go_wp2_with (go_at_call 108; refine (K2.out _).mono ?_; rintro e w2 ⟨rfl, rfl⟩)
            all_goals first
              | (go_ret
                 refine ⟨retb (name_bad_true HV.out ?_), HB.out⟩
                 (try simp only [beq_iff_eq, beq_eq_false_iff_ne, ne_eq] at *)
                 omega)
              | (refine ⟨⟨k + 1, by omega, by go_num, name_ok_true HV.out ?_, HB.out⟩, ?_⟩
                 · (try simp only [beq_iff_eq, beq_eq_false_iff_ne, ne_eq] at *)
                   omega
                 · simp [intOf]
                   omega)
          · have hfin : R = true := by
              have := HK.out
              rw [List.drop_eq_nil_of_le (by rw [HL.out]; omega), nameRest] at this
              exact this.symm
            subst hfin
            go_wp2
            go_ret
            exact ⟨rfl, HB.out⟩
      · go_enter Tryd.func95, Tryd.ntmps95
        go_wp2_with (go_at_call 94; refine (K.out _).mono ?_; rintro e w1 ⟨rfl, hb1⟩)
        clear h0 hq
        go_loopw [30] (fun i wr => ∃ k : Nat, k ≤ n ∧ i = .int .i64 k ∧ Hid (nameRest false k (L.drop k) = R) ∧ Hid (Below w.heap.size w wr)) (fun i _ => n - (intOf i).toNat)
        case atStart => exact ⟨0, Nat.zero_le _, rfl, HN.out, hb1⟩
        case round =>
          obtain ⟨k, hk, rfl, HK, HB⟩ := hrel
          by_cases hlt : k < n
          · obtain ⟨d, hd⟩ : ∃ d, (str L)[k]'(by omega) = d := ⟨_, rfl⟩
            have hdk : L.drop k = d :: L.drop (k + 1) := by
              rw [← hd, str_get, List.drop_eq_getElem_cons]
            have hv := HK.out
            rw [hdk, nameRest] at hv
            have HV := Lib.hid hv
            have K2 := Lib.hid (fun W => tblank_any d W)
            have i0 : (0 : Int) ≤ (k : Int) := by omega
            have i1 : (k : Int) < (n : Int) := by omega
            clear hdk hv HK
            go_wp2_with (go_at_call 108; refine (K2.out _).mono ?_; rintro e w2 ⟨rfl, rfl⟩)
            all_goals first
              | (go_ret
                 refine ⟨retb (name_bad_false HV.out ?_), HB.out⟩
                 (try simp only [beq_iff_eq, beq_eq_false_iff_ne, ne_eq] at *)
                 omega)
              | (refine ⟨⟨k + 1, by omega, by go_num, name_ok_false HV.out ?_, HB.out⟩, ?_⟩
                 · (try simp only [beq_iff_eq, beq_eq_false_iff_ne, ne_eq] at *)
                   omega
                 · simp [intOf]
                   omega)
          · have hfin : R = true := by
              have := HK.out
              rw [List.drop_eq_nil_of_le (by rw [HL.out]; omega), nameRest] at this
              exact this.symm
            subst hfin
            go_wp2
            go_ret
            exact ⟨rfl, HB.out⟩
    · have hRf : R = false := by
        rw [← HR.out]
        cases V
        · simp
        · cases attr
          · simp at hgo ⊢
            intro h1
            omega
          · simp at hgo
      subst hRf
      clear HR
      cases V with
      | false =>
        go_enter Tryd.func95, Tryd.ntmps95
        go_wp2_with (go_at_call 94; refine (K.out _).mono ?_; rintro e w1 ⟨rfl, hb1⟩)
        go_ret
        exact ⟨rfl, hb1⟩
      | true =>
        cases attr with
        | true => simp at hgo
        | false =>
          by_cases h1 : c.toNat < 97
          · have d1 : decide ((c.toNat : Int) < 97) = true := by simp; omega
            clear hgo
            go_enter Tryd.func95, Tryd.ntmps95
            go_wp2_with (go_at_call 94; refine (K.out _).mono ?_; rintro e w1 ⟨rfl, hb1⟩)
            go_ret
            exact ⟨rfl, hb1⟩
          · have d1 : decide ((c.toNat : Int) < 97) = false := by simp; omega
            have d2 : decide (122 < (c.toNat : Int)) = true := by
              simp at hgo ⊢
              omega
            clear hgo
            go_enter Tryd.func95, Tryd.ntmps95
            go_wp2_with (go_at_call 94; refine (K.out _).mono ?_; rintro e w1 ⟨rfl, hb1⟩)
            go_ret
            exact ⟨rfl, hb1⟩
end Go.Proofs.YtcogoiphpfgkdaaDoor
