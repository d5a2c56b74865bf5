/-
  ChunkKeeps: the walk.
-/
import Derived.Test.YtadnceiohgjdhaaTakeLeft
import Derived.Test.YtadnceiohgjdhaaBuffersWalk
namespace Go.Proofs.Ytadnceiohgjdhaa
open Go.RowKit
set_option linter.unusedVariables false
set_option linter.unusedSimpArgs false

theorem isSrc_ok {S : Nat → Prop} {w : World} {g : Nat} {s : Src} (h : IsSrc S w g s) : s.ok := by
  obtain ⟨_, _, _, _, _, h⟩ := h
  exact h
theorem bel_keep {T : Nat → Prop} {a w w' : World} (h : Below a.heap.size a w) (hk : Keep T w w') (hT : ∀ k, T k → a.heap.size ≤ k) : Below a.heap.size a w' :=
  h.trans (hk.below h.size (fun i hi hT' => by have := hT i hT'; omega))
section
variable (A : Option Addr) (n c : Nat) (N Z : Int) (L : List Stp) (w : World)

set_option maxHeartbeats 8000000 in
set_option maxRecDepth 100000 in
theorem chunkKeeps_a (h : N < 1) : Calls Try.prog 9 #[.slice A n c, .int .i64 N, .int .i64 Z] w fun e w' => e = .returned (.bool true) ∧ Below w.heap.size w w' := by
  have d1 : decide (N < 1) = true := by simp; omega
  have d2 : decide (Z < 1) = decide (Z < 1) := by first | rfl | (simp; omega)
  have d3 : decide (1048576 < Z) = decide (1048576 < Z) := by first | rfl | (simp; omega)
  first | clear d2 d3 | skip
  go_enter Try.func9, Try.ntmps9
  go_wp2_with (go_at_call 14; refine (awake_any _).mono ?_; rintro e w5 ⟨rfl, hb5⟩)
  go_ret
  exact ⟨rfl, hb5⟩
set_option maxHeartbeats 8000000 in
set_option maxRecDepth 100000 in
theorem chunkKeeps_b (h : ¬ N < 1 ∧ Z < 1) : Calls Try.prog 9 #[.slice A n c, .int .i64 N, .int .i64 Z] w fun e w' => e = .returned (.bool true) ∧ Below w.heap.size w w' := by
  have d1 : decide (N < 1) = false := by simp; omega
  have d2 : decide (Z < 1) = true := by first | rfl | (simp; omega)
  have d3 : decide (1048576 < Z) = decide (1048576 < Z) := by first | rfl | (simp; omega)
  first | clear d2 d3 | skip
  go_enter Try.func9, Try.ntmps9
  go_wp2_with (go_at_call 14; refine (awake_any _).mono ?_; rintro e w5 ⟨rfl, hb5⟩)
  go_ret
  exact ⟨rfl, hb5⟩
set_option maxHeartbeats 8000000 in
set_option maxRecDepth 100000 in
theorem chunkKeeps_c (h : ¬ N < 1 ∧ ¬ Z < 1 ∧ 1048576 < Z) : Calls Try.prog 9 #[.slice A n c, .int .i64 N, .int .i64 Z] w fun e w' => e = .returned (.bool true) ∧ Below w.heap.size w w' := by
  have d1 : decide (N < 1) = false := by simp; omega
  have d2 : decide (Z < 1) = false := by first | rfl | (simp; omega)
  have d3 : decide (1048576 < Z) = true := by first | rfl | (simp; omega)
  first | clear d2 d3 | skip
  go_enter Try.func9, Try.ntmps9
  go_wp2_with (go_at_call 14; refine (awake_any _).mono ?_; rintro e w5 ⟨rfl, hb5⟩)
  go_ret
  exact ⟨rfl, hb5⟩

set_option maxHeartbeats 8000000 in
set_option maxRecDepth 100000 in
/-- a script that is too large -/
theorem chunkKeeps_large (hA : Steps (fun k => k < w.heap.size) w A n L) (hn : n ≤ 1048576) (ht : total L ≤ 1048576) (hlb : (bytesOf L).1.length ≤ 1048576) (hlg : large L = true) (h1 : ¬ N < 1) (h2 : ¬ Z < 1) (h3 : ¬ 1048576 < Z) :
    Calls Try.prog 9 #[.slice A n c, .int .i64 N, .int .i64 Z] w fun e w' => e = .returned (.bool true) ∧ Below w.heap.size w w' := by
  have hLn := hA.1
  have k1 := fun (S : Nat → Prop) W h => steps_any S A n c L W h (by omega)
  have k2 := fun (S : Nat → Prop) A' c' W h => new_any S A' n c' L W h (by omega)
  have k3 := fun (S : Nat → Prop) W h => large_any S A n c L W h (by omega)
  have k4 := fun (S : Nat → Prop) A' c' W h => bytes_any S A' n c' L W h (by omega) (by omega)
  rw [hlg] at k3
  have K1 := Lib.hid k1
  have K2 := Lib.hid k2
  have K3 := Lib.hid k3
  have K4 := Lib.hid k4
  have HA := Lib.hid hA
  have HLn := Lib.hid hLn
  have HLG := Lib.hid hlg
  have d1 : decide (N < 1) = false := by simpa using h1
  have d2 : decide (Z < 1) = false := by simpa using h2
  have d3 : decide (1048576 < Z) = false := by simpa using h3
  clear k1 k2 k3 k4 hA hLn hlg ht hlb
  go_enter Try.func9, Try.ntmps9
  go_wp2_with fail
  refine (K1.out _ _ HA.out).mono ?_
  rintro e w1 ⟨vx, rfl, hx, hb1⟩
  obtain ⟨Ax, cx, hvx, _, _⟩ := hx.form
  rw [HLn.out] at hvx
  subst hvx
  have Hx := Lib.hid hx
  have B1 := Lib.hid hb1
  clear hx hb1
  go_wp2_with fail
  refine (K4.out _ _ _ _ Hx.out.steps).mono ?_
  rintro e w2 ⟨v, rfl, va, rfl, _, hb2⟩
  have B2 := Lib.hid (B1.out.trans (hb2.mono B1.out.size))
  clear hb2
  go_wp2_with fail
  refine (K1.out _ _ (HA.out.behind B2.out)).mono ?_
  rintro e w3 ⟨vx, rfl, hx, hb3⟩
  obtain ⟨Ay, cy, hvx, _, _⟩ := hx.form
  rw [HLn.out] at hvx
  subst hvx
  have Hy := Lib.hid hx
  have B3 := Lib.hid (B2.out.trans (hb3.mono B2.out.size))
  clear hx hb3
  go_wp2_with fail
  refine (K2.out _ _ _ _ Hy.out.steps).mono ?_
  rintro e w4 ⟨v, rfl, hb4, hcase⟩
  rcases hcase with ⟨_, rfl⟩ | ⟨hf, _⟩
  case inr => have := HLG.out; rw [hf] at this; cases this
  have B4 := Lib.hid (B3.out.trans (hb4.mono B3.out.size))
  clear hb4
  go_wp2_with fail
  refine (K1.out _ _ (HA.out.behind B4.out)).mono ?_
  rintro e w5 ⟨vx, rfl, hx, hb5⟩
  obtain ⟨Az, cz, hvx, _, _⟩ := hx.form
  rw [HLn.out] at hvx
  subst hvx
  have Hz := Lib.hid hx
  have B5 := Lib.hid (B4.out.trans (hb5.mono B4.out.size))
  clear hx hb5
  go_wp2_with fail
  refine (K2.out _ _ _ _ Hz.out.steps).mono ?_
  rintro e w6 ⟨v, rfl, hb6, hcase⟩
  rcases hcase with ⟨_, rfl⟩ | ⟨hf, _⟩
  case inr => have := HLG.out; rw [hf] at this; cases this
  have B6 := Lib.hid (B5.out.trans (hb6.mono B5.out.size))
  clear hb6
  go_wp2_with (first
    | (go_at_call 26; refine (K3.out _ _ (HA.out.behind B6.out)).mono ?_; rintro e w7 ⟨rfl, hb7⟩)
    | (go_at_call 13; refine (num_any _ _).mono ?_; rintro e w4 ⟨rfl, rfl⟩)
    | (go_at_call 14; refine (awake_any _).mono ?_; rintro e w8 ⟨rfl, hb8⟩))
  go_ret
  exact ⟨rfl, (B6.out.trans (hb7.mono B6.out.size)).trans (hb8.mono (Nat.le_trans B6.out.size hb7.size))⟩

set_option maxHeartbeats 16000000 in
set_option maxRecDepth 100000 in
/-- a script that is read -/
theorem chunkKeeps_main (M K : Nat) (hA : Steps (fun k => k < w.heap.size) w A n L) (hn : n ≤ 1048576) (ht : total L ≤ 1048576) (hlb : (bytesOf L).1.length ≤ 1048576) (hlg : large L = false) (h1 : 1 ≤ M) (h2 : 1 ≤ K) (h3 : K ≤ 1048576) :
    Calls Try.prog 9 #[.slice A n c, .int .i64 M, .int .i64 K] w fun e w' => e = .returned (.bool true) ∧ Below w.heap.size w w' := by
  obtain ⟨i0', hi, hz0, hz1, hz2⟩ := info_parts u8info
  have hLn := hA.1
  have k1 := fun (S : Nat → Prop) W h => steps_any S A n c L W h (by omega)
  have k2 := fun (S : Nat → Prop) A' c' W h => new_any S A' n c' L W h (by omega)
  obtain ⟨all, fails, hall⟩ : ∃ all fails, bytesOf L = (all, fails) := ⟨_, _, rfl⟩
  have hleft := Src.left_new L
  rw [hall] at hleft hlb
  have k4 := fun (S : Nat → Prop) A' c' W h => bytes_any S A' n c' L W h (by rw [hall]; simp only at hlb ⊢; omega) (by omega)
  rw [hall] at k4
  have hok : (Src.new L).ok := Src.new_ok (by omega) (by omega)
  have hst := (large_not hlg).2
  rw [hLn] at hst
  have K1 := Lib.hid k1
  have K2 := Lib.hid k2
  have K4 := Lib.hid k4
  have HA := Lib.hid hA
  have HLn := Lib.hid hLn
  have HLG := Lib.hid hlg
  have HOK := Lib.hid hok
  have HLF := Lib.hid hleft
  have d1 : decide ((M : Int) < 1) = false := by simp; omega
  have d2 : decide ((K : Int) < 1) = false := by simp; omega
  have d3 : decide (1048576 < (K : Int)) = false := by simp; omega
  have d4 : decide (M < 1) = false := by simp; omega
  have d5 : decide (K < 1) = false := by simp; omega
  have d6 : decide (1048576 < K) = false := by simp; omega
  simp only at hlb
  clear k1 k2 k4 hA hLn hlg ht hall hleft hok
  go_enter Try.func9, Try.ntmps9
  go_wp2_with fail
  refine (K1.out _ _ HA.out).mono ?_
  rintro e w1 ⟨vx, rfl, hx, hb1⟩
  obtain ⟨Ax, cx, hvx, _, _⟩ := hx.form
  rw [HLn.out] at hvx
  subst hvx
  have Hx := Lib.hid hx
  have B1 := Lib.hid hb1
  clear hx hb1
  go_wp2_with fail
  refine (K4.out _ _ _ _ Hx.out.steps).mono ?_
  rintro e w2 ⟨v, rfl, va, rfl, hoa, hb2⟩
  obtain ⟨Aa, ca, rfl, _, _⟩ := own_slice hoa
  have O2 := Lib.hid ((Row.of_own hoa).more (T := fun k => k < w2.heap.size) (fun k h1 _ => h1) (by omega))
  have l2 := hb2.size
  have B2 := Lib.hid (B1.out.trans (hb2.mono B1.out.size))
  clear hb2 hoa
  go_wp2_with fail
  refine (K1.out _ _ (HA.out.behind B2.out)).mono ?_
  rintro e w3 ⟨vx, rfl, hx, hb3⟩
  obtain ⟨Ay, cy, hvx, _, _⟩ := hx.form
  rw [HLn.out] at hvx
  subst hvx
  have Hy := Lib.hid hx
  have l3 := hb3.size
  have O3 := Lib.hid (O2.out.behind hb3)
  have B3 := Lib.hid (B2.out.trans (hb3.mono B2.out.size))
  clear hx hb3
  go_wp2_with fail
  refine (K2.out _ _ _ _ Hy.out.steps).mono ?_
  rintro e w4 ⟨v, rfl, hb4, hcase⟩
  rcases hcase with ⟨hf, _⟩ | ⟨_, g, rfl, hg, hsrc⟩
  case inl => have := HLG.out; rw [hf] at this; cases this
  have O4 := Lib.hid (O3.out.behind hb4)
  have B4 := Lib.hid (B3.out.trans (hb4.mono B3.out.size))
  have G4 := Lib.hid hsrc
  have lg4 := hsrc.lt
  have l4 := hb4.size
  clear hb4 hsrc
  go_wp2_with fail
  refine (K1.out _ _ (HA.out.behind B4.out)).mono ?_
  rintro e w5 ⟨vx, rfl, hx, hb5⟩
  obtain ⟨Az, cz, hvx, _, _⟩ := hx.form
  rw [HLn.out] at hvx
  subst hvx
  have Hz := Lib.hid hx
  have O5 := Lib.hid (O4.out.behind hb5)
  have B5 := Lib.hid (B4.out.trans (hb5.mono B4.out.size))
  have G5 := Lib.hid (G4.out.behind hb5)
  have l5 := hb5.size
  clear hx hb5
  go_wp2_with fail
  refine (K2.out _ _ _ _ Hz.out.steps).mono ?_
  rintro e w6 ⟨v, rfl, hb6, hcase⟩
  rcases hcase with ⟨hf, _⟩ | ⟨_, t, rfl, ht, hsrc⟩
  case inl => have := HLG.out; rw [hf] at this; cases this
  have O6 := Lib.hid (O5.out.behind hb6)
  have B6 := Lib.hid (B5.out.trans (hb6.mono B5.out.size))
  have G6 := Lib.hid (G5.out.behind hb6)
  have T6 := Lib.hid hsrc
  have lt6 := hsrc.lt
  have l6 := hb6.size
  have lw6 := B6.out.size
  clear hb6 hsrc O2 O3 O4 O5 B2 B3 B4 B5 G4 G5
  go_wp2_with (go_at_call 13; refine (num_any _ _).mono ?_; rintro e w4 ⟨rfl, rfl⟩)
  go_loopw [13, 14, 15] (fun got en calls wr => ∃ (k : Nat) (e : Int) (s : Src) (acc : List UInt8), calls = .int .i64 k ∧ en = .int .i64 e ∧ Hid (wr.ownsRow w6.heap.size 5 1 got acc.length (bv acc)) ∧ Hid (IsSrc (fun k => g < k ∧ k < w4.heap.size) wr g s) ∧ Hid (s.L = L) ∧ Hid (s.told = acc.length) ∧ Hid (Keep (fun k => k = g) w6 wr) ∧
    ((e = 0 ∧ k ≤ acc.length + s.step ∧ Hid (s.left.2 = fails) ∧ Hid (acc ++ s.left.1 = all)) ∨ (e = (if fails then 20 else 21) ∧ Hid (s.endOf = e) ∧ Hid (acc = all)))) (fun _ _ calls _ => 4194304 - (intOf calls).toNat)
  case atStart => exact ⟨0, 0, Src.new L, [], rfl, rfl, World.ownsRow_nil _ _ _ _, G6.out, rfl, rfl, Keep.refl _ _, .inl ⟨rfl, Nat.zero_le _, congrArg Prod.snd HLF.out, congrArg Prod.fst HLF.out⟩⟩
  case round =>
    obtain ⟨k, e, s, acc, rfl, rfl, HO, HG, HSL, HTD, HK, hst2⟩ := hrel
    obtain ⟨Ag, cg, rfl, _, _⟩ := own_slice HO.out
    have hsl : s.step ≤ n := by have h1 := (isSrc_ok HG.out).1; rw [HSL.out, HLn.out] at h1; exact h1
    have lwr := HK.out.size
    rcases hst2 with ⟨rfl, hk, HF, HA2⟩ | ⟨he, HEN, HAC⟩
    · have hal := congrArg List.length HA2.out
      rw [List.length_append] at hal
      obtain ⟨bs, er, s', hrd⟩ : ∃ bs er s', s.read M = ((bs, er), s') := ⟨_, _, _, rfl⟩
      have hlen := Src.read_le (isSrc_ok HG.out) M
      have hlr := Src.read_left (isSrc_ok HG.out) M h1
      have hend := Src.read_err_end (s := s) M
      have hL2 := Src.read_L (s := s) M
      have hT2 := Src.read_told (s := s) M
      rw [hrd] at hlen hlr hend hL2 hT2
      simp only at hlen hlr hend hL2 hT2
      have hbl : acc.length + bs.length ≤ all.length := by
        rcases hlr with ⟨_, h5, _⟩ | ⟨_, _, h5, _⟩
        · have h6 := congrArg (fun p => p.1.length) h5
          simp only [List.length_append] at h6
          omega
        · rw [h5]; simp; omega
      have HRD := Lib.hid hrd
      have HLR := Lib.hid hlr
      have HEND := Lib.hid hend
      have HL2 := Lib.hid hL2
      have HT2 := Lib.hid hT2
      have q1 : decide ((all.length : Int) + (n : Int) < (k : Int)) = false := by simp; omega
      have q2 : decide (all.length + n < k) = false := by simp; omega
      have q3 : decide (all.length < acc.length + bs.length) = false := by simp; omega
      have q4 : decide ((all.length : Int) < (acc.length : Int) + (bs.length : Int)) = false := by simp; omega
      have q5 : decide (M < bs.length) = false := by simp; omega
      clear hrd hlr hend hL2 hT2 hal
      go_wp2_with fail
      refine (srcRead_any M HG.out h1).mono ?_
      rintro e w7 ⟨v, rfl, h7⟩
      obtain ⟨A8, c8, rfl, ho8, hs8, hk8⟩ := h7.at_ HRD.out
      have O8 := Lib.hid ho8
      have S8 := Lib.hid hs8
      have K8 := Lib.hid (HK.out.trans hk8)
      have P8 := Lib.hid (own_keep HO.out hk8 (fun k h1 h2 => by have := (HO.out.lt k h1).1; omega))
      have l8 := hk8.size
      clear h7 ho8 hs8 hk8
      dsimp only
      go_wp2_with (first
        | (at_builtin; refine wpList_append_row _ rfl _ _ 26 rfl w6.heap.size 5 i0' (.int .u8 0) 1 1 Try.underlying26 hi hz0 hz1 hz2 rfl (by decide) _ acc.length (bv acc) rfl P8.out (fun k => wr.heap.size ≤ k) A8 bs.length c8 (bv bs) rfl (Row.of_own O8.out) (bv_one _) (by simp only [maxLen]; omega) (by omega) (by omega) ?_; intro v3 w9 ho3 hg3 hat3; obtain ⟨A3, c3, rfl, _, _⟩ := own_slice ho3; have HO3 := Lib.hid ho3; have HG3 := Lib.hid hg3; clear ho3 hg3 hat3)
        | (go_at_call 13; refine (num_any _ _).mono ?_; rintro e w4 ⟨rfl, rfl⟩))
      have HKT := (Keep.refl (fun k => (Value.slice Ag acc.length cg).ownBlock = some k) w7).grown HG3.out (fun k e => .inl e)
      have hfar : ∀ k, (Value.slice Ag acc.length cg).ownBlock = some k → w6.heap.size ≤ k := fun k e => (P8.out.lt k e).1
      go_roundw
      case rel =>
        have hcommon : Hid (w9.ownsRow w6.heap.size 5 1 (.slice A3 (acc.length + bs.length) c3) (acc ++ bs).length (bv (acc ++ bs))) := by
          have := HO3.out
          rw [bv_append, List.length_append]
          exact this
        refine ⟨k + 1, er, s', acc ++ bs, by go_num, rfl, hcommon, S8.out.keep HKT (fun h => by have := hfar _ h; omega) (fun k h1 h2 => by have := hfar _ h2; omega), HL2.out.trans HSL.out, ?_, K8.out.trans_ HKT (fun i hi h => by have := hfar i h; omega), ?_⟩
        · show s'.told = (acc ++ bs).length
          rw [List.length_append, HT2.out, HTD.out]
        · rcases HLR.out with ⟨h5, h6, h7, h8⟩ | ⟨h5, h6, h7, h8⟩
          · refine .inl ⟨h5, ?_, ?_, ?_⟩
            · rw [List.length_append]
              by_cases hb : bs = []
              · have := h8 hb; omega
              · have := List.length_pos_iff.2 hb; omega
            · show s'.left.2 = fails
              rw [← HF.out, h6]
            · have := HA2.out
              rw [h6] at this
              rw [List.append_assoc]
              exact this
          · refine .inr ⟨by rw [h5, HF.out], ?_, ?_⟩
            · subst h8
              exact HEND.out (by rw [h5]; split <;> decide)
            · have := HA2.out
              rw [h6, List.append_nil] at this
              rw [h7, List.append_nil]
              exact this
      case measure => simp [intOf]; omega
    · have hac := HAC.out
      subst hac
      have c1 := conv_row (Row.of_own HO.out) cg
      have hrow := O6.out.keep HK.out (fun k h1 h2 => by omega)
      have c2 := conv_row hrow ca
      have HE := Lib.hid HEN.out
      have k5 := srcOver_any HG.out
      rw [HEN.out] at k5
      have k6 := fun q => srcTold_any (HG.out.drewN q)
      rw [HTD.out] at k6
      have K5 := Lib.hid k5
      have K6 := Lib.hid k6
      have HE2 := Lib.hid he
      have HR2 := Lib.hid hrow
      have qe : (e == 0) = false := by rw [he]; cases fails <;> rfl
      have qn : (e != 0) = true := by rw [he]; cases fails <;> rfl
      have q20 : (e == 20) = fails := by rw [he]; cases fails <;> rfl
      have q21 : (e == 21) = !fails := by rw [he]; cases fails <;> rfl
      clear k5 k6 he hrow HE
      go_wp2_with fail
      refine K5.out.mono ?_
      rintro r w7 ⟨rfl, q, rfl⟩
      go_wp2_with fail
      refine (K6.out q).mono ?_
      rintro r w7 ⟨rfl, rfl⟩
      have T7 := Lib.hid ((T6.out.keep HK.out (by omega) (fun k h1 h2 => by omega)).drewN q)
      have K7 := Lib.hid (HK.out.drewN q)
      have R7 := Lib.hid (HR2.out.drewN q)
      clear K5 K6 T6 HK HR2 c1 c2 O6
      go_wp2_with fail
      refine (newBuffer_any K T7.out HOK.out rfl (fun k h => by have := h.2; exact Nat.lt_of_lt_of_le this lwr) h2 (by omega)).mono ?_
      rintro r w8 ⟨rfl, hbuf, hb8, hs8⟩
      obtain ⟨b, hbb⟩ : ∃ b, (wr.drewN q).heap.size = b := ⟨_, rfl⟩
      have hbw : wr.heap.size = b := hbb
      rw [hbb] at hbuf hb8 hs8
      rw [hbb]
      have F8 := Lib.hid hbuf
      have K8 := Lib.hid (K7.out.then_below (hbb ▸ hb8))
      have R8 := Lib.hid (R7.out.same (w' := w8) (fun p h1 h2 => (hb8.cell (by have : p.block < wr.heap.size := h2; omega))))
      have hL0 : (Buf.new (Src.new L) K).left = (acc, fails) := by rw [show (Buf.new (Src.new L) K).left = (Src.new L).left from by simp [Buf.left, Buf.new], HLF.out]
      have HL0 := Lib.hid hL0
      clear hbuf hb8 K7 R7 T7 hL0 hbb
      go_wp2_with (go_at_call 13; refine (num_any _ _).mono ?_; rintro r w4 ⟨rfl, rfl⟩)
      generalize hS2 : (fun k => t < k ∧ k < w6.heap.size) = S2 at F8
      have HS2 := Lib.hid (show ∀ k, S2 k → k < b by intro k h; rw [← hS2] at h; omega)
      clear hS2
      obtain ⟨wo, hwo⟩ : ∃ wo : World, wo = wr := ⟨_, rfl⟩
      subst hwo
      go_loopw [20, 21, 22] (fun tk st calls wq => ∃ (j u : Nat) (x : Buf) (tak : List UInt8) (H : Nat → Prop), calls = .int .i64 j ∧ st = .int .i64 u ∧ Hid (wq.ownsRow w8.heap.size 5 1 tk tak.length (bv tak)) ∧ Hid (IsBuf H S2 wq b t x) ∧ Hid (x.src.L = L) ∧ Hid (x.size = K) ∧ Hid (x.taken = tak.length) ∧
        j ≤ tak.length + x.src.step ∧ u ≤ x.src.step ∧ Hid (tak ++ x.left.1 = acc) ∧ Hid (x.left.2 = fails) ∧ Hid (Keep (fun k => k = b ∨ k = t) w8 wq) ∧ Hid (∀ k, H k → w8.heap.size ≤ k) ∧ Hid (∀ k, tk.ownBlock = some k → ¬ H k)) (fun _ _ calls _ => 4194304 - (intOf calls).toNat)
      case atStart => exact ⟨0, 0, _, [], _, rfl, rfl, World.ownsRow_nil _ _ _ _, F8.out, rfl, rfl, rfl, Nat.zero_le _, Nat.zero_le _, congrArg Prod.fst HL0.out, congrArg Prod.snd HL0.out, Keep.refl _ _, fun _ h => h.elim, fun _ _ h => h.elim⟩
      case round =>
        obtain ⟨j, u, x, tak, H, rfl, rfl, HO, HB, HXL, HXK, HXT, hj, hu, HXA, HXF, HXW, HXH, HXD⟩ := hrel
        obtain ⟨At, ct, rfl, _, _⟩ := own_slice HO.out
        have hxs : x.src.step ≤ n := by have h1 := (isSrc_ok HB.out.src).1; rw [HXL.out, HLn.out] at h1; exact h1
        have hal := congrArg List.length HXA.out
        rw [List.length_append] at hal
        have lwr := HXW.out.size
        obtain ⟨m, hm2⟩ : ∃ m : Nat, m = min M K := ⟨_, rfl⟩
        have hm3 := Lib.hid (show min (M : Int) (K : Int) = (m : Int) by omega)
        have hmK : m ≤ x.size := by rw [HXK.out]; omega
        have hm1 : 1 ≤ m := by omega
        obtain ⟨l, er, y, htk⟩ : ∃ l er y, x.takeB m = ((l, er), y) := ⟨_, _, _, rfl⟩
        obtain ⟨p1, p2, p3, p4, p5, p6, p7⟩ := Buf.takeB_left HB.out.ok hmK hm1 htk
        have hal2 := congrArg List.length p1
        rw [List.length_append] at hal2
        have hlt : tak.length + l.length ≤ acc.length := by omega
        have q1 : decide ((acc.length : Int) + 2 * (n : Int) + 2 < (j : Int)) = false := by simp; omega
        have q2 : decide (acc.length + 2 * n + 2 < j) = false := by simp; omega
        have q3 : decide (acc.length < tak.length + l.length) = false := by simp; omega
        have q4 : decide ((acc.length : Int) < (tak.length : Int) + (l.length : Int)) = false := by simp; omega
        have q5 : decide ((u : Int) ≤ 65536) = true := by simp; omega
        have q6 : decide (u ≤ 65536) = true := by simp; omega
        have HTK := Lib.hid htk
        have HP1 := Lib.hid p1
        have HP2 := Lib.hid p2
        have HP3 := Lib.hid p3
        have HP4 := Lib.hid p4
        have HP5 := Lib.hid p5
        have HP7 := Lib.hid p7
        clear htk p1 p2 p3 p4 p5 p7 hal hal2 hm2 qe qn q20 q21
        go_wp2_with fail
        rw [hm3.out]
        refine (bufTake_any m HB.out hmK).mono ?_
        clear q1 q2 d1 d2 d3 d4 d5 d6
        rintro r w9 ⟨v, rfl, g9⟩
        rw [HTK.out] at g9
        obtain ⟨A9, c9, rfl, ho9, ⟨H9, hsub9, hdis9, hb9⟩, hk9⟩ := g9
        simp only at ho9 hb9 hdis9
        have O9 := Lib.hid ho9
        have B9 := Lib.hid hb9
        have SU9 := Lib.hid hsub9
        have tlt := lt6
        have P9 := Lib.hid (own_keep HO.out hk9 (fun k h1 h2 => by
          have h3 := (HO.out.lt k h1).1
          rcases h2 with h2 | h2 | h2
          · omega
          · omega
          · exact HXD.out k h1 h2))
        have K9 := Lib.hid (HXW.out.trans_ hk9 (fun i hi h => by
          rcases h with h | h | h
          · exact .inl h
          · exact .inr h
          · have := HXH.out i h; omega))
        have l9 := hk9.size
        have hH9 := Lib.hid (show ∀ k, H9 k → w8.heap.size ≤ k from fun k h => by
          rcases hsub9 k h with h | h
          · exact HXH.out k h
          · omega)
        have hD9 := Lib.hid (show ∀ k, (Value.slice At tak.length ct).ownBlock = some k → ¬ H9 k from fun k h1 h2 => by
          have h3 := (HO.out.lt k h1).2
          rcases hsub9 k h2 with h | h
          · exact HXD.out k h1 h
          · omega)
        clear ho9 hsub9 hdis9 hb9 hk9
        dsimp only
        have HKT := Lib.hid (fun (w10 : World) (h : w9.grownBy w10 (Value.slice At tak.length ct).ownBlock) => (Keep.refl (fun k => (Value.slice At tak.length ct).ownBlock = some k) w9).grown h (fun k e => .inl e))
        have hfar := Lib.hid (show ∀ k, (Value.slice At tak.length ct).ownBlock = some k → w8.heap.size ≤ k from fun k e => (P9.out.lt k e).1)
        have HB10 := Lib.hid (fun (w10 : World) (h : w9.grownBy w10 (Value.slice At tak.length ct).ownBlock) => B9.out.keep (HKT.out w10 h) (fun e => by have := hfar.out _ e; omega) (fun e => by have := hfar.out _ e; omega) (fun k h1 h2 => by have := hfar.out _ h2; have := HS2.out k h1; omega) (fun k h1 h2 => hD9.out k h2 h1))
        have HK10 := Lib.hid (fun (w10 : World) (h : w9.grownBy w10 (Value.slice At tak.length ct).ownBlock) => K9.out.trans_ (HKT.out w10 h) (fun i hi e => by have := hfar.out i e; omega))
        have HND := Lib.hid (fun (A3 : Option Addr) (c3 : Nat) (hat : (Value.slice A3 (tak.length + l.length) c3).ownBlock = (Value.slice At tak.length ct).ownBlock ∨ (Value.slice A3 (tak.length + l.length) c3).ownBlock = some w9.heap.size) => (show ∀ k, (Value.slice A3 (tak.length + l.length) c3).ownBlock = some k → ¬ H9 k from fun k e h => by
          rcases hat with h1 | h1
          · exact hD9.out k (h1 ▸ e) h
          · have := (B9.out.held k h).1
            rw [h1] at e
            injection e with e
            omega))
        rcases HP7.out with ⟨rfl, hl1⟩ | ⟨rfl, hl1⟩ | ⟨he, hl1, hl2⟩
        · go_wp2_with (first
            | (at_builtin; refine wpList_append_row _ rfl _ _ 26 rfl w8.heap.size 5 i0' (.int .u8 0) 1 1 Try.underlying26 hi hz0 hz1 hz2 rfl (by decide) _ tak.length (bv tak) rfl P9.out (fun k => wr.heap.size ≤ k) A9 l.length c9 (bv l) rfl (Row.of_own O9.out) (bv_one _) (by simp only [maxLen]; omega) (by omega) (by omega) ?_; intro v3 w10 ho3 hg3 hat3; obtain ⟨A3, c3, rfl, _, _⟩ := own_slice ho3; have HO3 := Lib.hid ho3; have HG3 := Lib.hid hg3; have HAT := Lib.hid hat3; clear ho3 hg3 hat3)
            | (go_at_call 13; refine (num_any _ _).mono ?_; rintro e w4 ⟨rfl, rfl⟩))
          go_roundw
          case rel =>
            have hcommon : Hid (w10.ownsRow w8.heap.size 5 1 (.slice A3 (tak.length + l.length) c3) (tak ++ l).length (bv (tak ++ l))) := by
              have := HO3.out
              rw [bv_append, List.length_append]
              exact this
            refine ⟨j + 1, u, y, tak ++ l, H9, by go_num, by go_num, hcommon, HB10.out w10 HG3.out, HP4.out.trans HXL.out, HP5.out.trans HXK.out, ?_, ?_, by omega, ?_, HP2.out.trans HXF.out, HK10.out w10 HG3.out, hH9.out, HND.out A3 c3 HAT.out⟩
            · show y.taken = (tak ++ l).length
              rw [HP3.out, HXT.out, List.length_append]
            · rw [List.length_append]; omega
            · show (tak ++ l) ++ y.left.1 = acc
              rw [List.append_assoc, HP1.out]
              exact HXA.out
          case measure => simp [intOf]; omega
        · go_wp2_with (first
            | (at_builtin; refine wpList_append_row _ rfl _ _ 26 rfl w8.heap.size 5 i0' (.int .u8 0) 1 1 Try.underlying26 hi hz0 hz1 hz2 rfl (by decide) _ tak.length (bv tak) rfl P9.out (fun k => wr.heap.size ≤ k) A9 l.length c9 (bv l) rfl (Row.of_own O9.out) (bv_one _) (by simp only [maxLen]; omega) (by omega) (by omega) ?_; intro v3 w10 ho3 hg3 hat3; obtain ⟨A3, c3, rfl, _, _⟩ := own_slice ho3; have HO3 := Lib.hid ho3; have HG3 := Lib.hid hg3; have HAT := Lib.hid hat3; clear ho3 hg3 hat3)
            | (go_at_call 13; refine (num_any _ _).mono ?_; rintro e w4 ⟨rfl, rfl⟩))
          go_roundw
          case rel =>
            have hcommon : Hid (w10.ownsRow w8.heap.size 5 1 (.slice A3 (tak.length + l.length) c3) (tak ++ l).length (bv (tak ++ l))) := by
              have := HO3.out
              rw [bv_append, List.length_append]
              exact this
            refine ⟨j + 1, u + 1, y, tak ++ l, H9, by go_num, by go_num, hcommon, HB10.out w10 HG3.out, HP4.out.trans HXL.out, HP5.out.trans HXK.out, ?_, ?_, by omega, ?_, HP2.out.trans HXF.out, HK10.out w10 HG3.out, hH9.out, HND.out A3 c3 HAT.out⟩
            · show y.taken = (tak ++ l).length
              rw [HP3.out, HXT.out, List.length_append]
            · rw [List.length_append]; omega
            · show (tak ++ l) ++ y.left.1 = acc
              rw [List.append_assoc, HP1.out]
              exact HXA.out
          case measure => simp [intOf]; omega
        · have hacc : tak ++ l = acc := by
            have h1 := HP1.out
            rw [hl1, List.append_nil] at h1
            rw [h1]
            exact HXA.out
          rw [HXF.out] at he
          have qe : (er == 22) = false := by rw [he]; cases fails <;> rfl
          have qn : (er != 0) = true := by rw [he]; cases fails <;> rfl
          have q20 : (er == 20) = fails := by rw [he]; cases fails <;> rfl
          have hlen2 : acc.length = tak.length + l.length := by rw [← hacc, List.length_append]
          have HACC := Lib.hid hacc
          have HLL := Lib.hid hlen2
          have HH2 := Lib.hid hl2
          clear hacc hlen2 hl2 hl1 he
          go_wp2_with (first
            | (at_builtin; refine wpList_append_row _ rfl _ _ 26 rfl w8.heap.size 5 i0' (.int .u8 0) 1 1 Try.underlying26 hi hz0 hz1 hz2 rfl (by decide) _ tak.length (bv tak) rfl P9.out (fun k => wr.heap.size ≤ k) A9 l.length c9 (bv l) rfl (Row.of_own O9.out) (bv_one _) (by simp only [maxLen]; omega) (by omega) (by omega) ?_; intro v3 w10 ho3 hg3 hat3; obtain ⟨A3, c3, rfl, _, _⟩ := own_slice ho3; have HO3 := Lib.hid ho3; have HG3 := Lib.hid hg3; have HAT := Lib.hid hat3; clear ho3 hg3 hat3; have c1 := conv_row (S := fun k => w8.heap.size ≤ k) (l := acc) (w := w10) (A := A3) (n := tak.length + l.length) (by have := Row.of_own HO3.out; rw [← bv_append, HACC.out] at this; exact this) c3; have c2 := conv_row (R8.out.keep (HK10.out w10 HG3.out) (fun k h1 h2 => by omega)) ca)
            | (go_at_call 13; refine (num_any _ _).mono ?_; rintro e w4 ⟨rfl, rfl⟩)
            | (go_at_call 37; refine (bufTaken_any (HB10.out w10 HG3.out)).mono ?_; rw [HP3.out, HXT.out, ← HLL.out]; rintro e w4 ⟨rfl, rfl⟩)
            | (go_at_call 38; refine (bufHas_any (HB10.out w10 HG3.out)).mono ?_; rw [HH2.out]; rintro e w4 ⟨rfl, rfl⟩)
            | (go_at_call 14; refine (awake_any _).mono ?_; rintro e w11 ⟨rfl, hb11⟩))
          go_ret
          have lB1 := B1.out.size
          have x1 := bel_keep B6.out K8.out (fun k h => by omega)
          have x2 := bel_keep x1 (HK10.out w10 HG3.out) (fun k h => by omega)
          exact ⟨rfl, x2.trans (hb11.mono x2.size)⟩

set_option maxRecDepth 100000 in
theorem chunkKeeps_walk (hA : Steps (fun k => k < w.heap.size) w A n L) (hn : n ≤ 1048576) (ht : total L ≤ 1048576) (hlb : (bytesOf L).1.length ≤ 1048576) :
    Calls Try.prog 9 #[.slice A n c, .int .i64 N, .int .i64 Z] w fun e w' => e = .returned (.bool true) ∧ Below w.heap.size w w' := by
  by_cases h1 : N < 1
  · exact chunkKeeps_a A n c N Z w h1
  · by_cases h2 : Z < 1
    · exact chunkKeeps_b A n c N Z w ⟨h1, h2⟩
    · by_cases h3 : 1048576 < Z
      · exact chunkKeeps_c A n c N Z w ⟨h1, h2, h3⟩
      · cases hlg : large L with
        | true => exact chunkKeeps_large A n c N Z L w hA hn ht hlb hlg h1 h2 h3
        | false =>
          obtain ⟨M, rfl⟩ : ∃ y : Nat, N = y := ⟨N.toNat, by omega⟩
          obtain ⟨K, rfl⟩ : ∃ y : Nat, Z = y := ⟨Z.toNat, by omega⟩
          exact chunkKeeps_main A n c L w M K hA hn ht hlb hlg (by omega) (by omega) (by omega)
end
end Go.Proofs.Ytadnceiohgjdhaa
