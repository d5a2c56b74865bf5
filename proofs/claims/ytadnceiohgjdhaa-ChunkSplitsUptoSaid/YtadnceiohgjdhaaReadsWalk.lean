/-
  ChunkReads: the walk.
-/
import Derived.Test.YtadnceiohgjdhaaReadGives
import Derived.Test.YtadnceiohgjdhaaRNew
import Derived.Test.YtadnceiohgjdhaaScriptsWalk
namespace Go.Proofs.Ytadnceiohgjdhaa
open Go.RowKit
set_option linter.unusedVariables false
set_option linter.unusedSimpArgs false

theorem eql_src_nil : ∀ w : World, (binOp .eql 46 (.pointer none) (.pointer none)).run Try.prog w = .ok (.bool true) w := fun w => by kernel_rfl
theorem eql_src (g : Nat) : ∀ w : World, (binOp .eql 46 (.pointer (some ⟨g, 0, none⟩)) (.pointer none)).run Try.prog w = .ok (.bool false) w := fun w => by kernel_rfl

set_option maxHeartbeats 16000000 in
set_option maxRecDepth 100000 in
theorem chunkReads_walk (A B : Option Addr) (n c m d : Nat) (L : List Stp) (ns : List Int) (w : World)
    (hA : Steps (fun k => k < w.heap.size) w A n L) (hB : Row (fun k => k < w.heap.size) w 1 B m (iv ns))
    (hn : n ≤ 1048576) (hm : m ≤ 1048576) (ht : total L ≤ 1048576) :
    Calls Try.prog 6 #[.slice A n c, .slice B m d] w fun e w' => e = .returned (.bool true) ∧ Below w.heap.size w w' := by
  have hnl : ns.length = m := by have := hB.1; rw [iv_length] at this; omega
  have hLn := hA.1
  have k1 := fun (S : Nat → Prop) W h => steps_any S A n c L W h (by omega)
  have k2 := fun (S : Nat → Prop) A' c' W h => new_any S A' n c' L W h (by omega)
  have k3 := fun (S : Nat → Prop) W h => large_any S A n c L W h (by omega)
  have k4 := fun (S T : Nat → Prop) A' c' W h1 h2 => lsame_any S T A' A n c' n c L L W h1 h2 (by omega) (by omega)
  have k5 := fun (S : Nat → Prop) W h => rnew_any S A n c L W h (by omega) (by omega)
  have k6 := fun (lo : Nat) (T : Nat → Prop) v B d W (X : List UInt8) (e : Int) h1 h2 => alike_any lo T v B X.length X.length d X X e e W h1 h2
  have eL : decide (L = L) = true := by simp
  rw [eL] at k4
  simp only [alikeB_refl] at k6
  have K1 := Lib.hid k1
  have K2 := Lib.hid k2
  have K4 := Lib.hid k4
  have K5 := Lib.hid k5
  have K6 := Lib.hid k6
  have HA := Lib.hid hA
  have HB := Lib.hid hB
  have HnL := Lib.hid hnl
  have HLn := Lib.hid hLn
  cases hlg : large L with
  | true =>
    rw [hlg] at k3
    have K3 := Lib.hid k3
    have HLG := Lib.hid hlg
    have hq := eql_src_nil
    clear k1 k2 k3 k4 k5 k6 hA hB hnl hLn eL ht hlg
    go_enter Try.func6, Try.ntmps6
    go_wp2_with fail
    refine (K1.out _ _ HA.out).mono ?_
    rintro e w1 ⟨vx, rfl, hx, hb1⟩
    obtain ⟨Ax, cx, hvx, _, _⟩ := hx.form
    rw [HLn.out] at hvx
    subst hvx
    have Hx := Lib.hid hx
    have B1 := Lib.hid hb1
    clear hx hb1
    go_wp2_with fail
    refine (K2.out _ _ _ _ Hx.out.steps).mono ?_
    rintro e w2 ⟨v, rfl, hb2, hcase⟩
    rcases hcase with ⟨_, rfl⟩ | ⟨hf, _⟩
    case inr => have := HLG.out; rw [hf] at this; cases this
    have B2 := Lib.hid (B1.out.trans (hb2.mono B1.out.size))
    clear hb2
    go_wp2_with (first
      | (go_at_call 26; refine (K3.out _ _ (HA.out.behind B2.out)).mono ?_; rintro e w3 ⟨rfl, hb3⟩)
      | (go_at_call 13; refine (num_any _ _).mono ?_; rintro e w4 ⟨rfl, rfl⟩)
      | (go_at_call 14; refine (awake_any _).mono ?_; rintro e w5 ⟨rfl, hb5⟩))
    go_ret
    exact ⟨rfl, (B2.out.trans (hb3.mono B2.out.size)).trans (hb5.mono (Nat.le_trans B2.out.size hb3.size))⟩
  | false =>
    rw [hlg] at k3
    have K3 := Lib.hid k3
    have HLG := Lib.hid hlg
    clear k1 k2 k3 k4 k5 k6 hA hB hnl hLn eL ht hlg
    go_enter Try.func6, Try.ntmps6
    go_wp2_with fail
    refine (K1.out _ _ HA.out).mono ?_
    rintro e w1 ⟨vx, rfl, hx, hb1⟩
    obtain ⟨Ax, cx, hvx, _, _⟩ := hx.form
    rw [HLn.out] at hvx
    subst hvx
    have Hx := Lib.hid hx
    have B1 := Lib.hid hb1
    have l1 := hb1.size
    clear hx hb1
    go_wp2_with fail
    refine (K2.out _ _ _ _ Hx.out.steps).mono ?_
    rintro e w2 ⟨v, rfl, hb2, hcase⟩
    rcases hcase with ⟨hf, _⟩ | ⟨_, g, rfl, hg, hsrc⟩
    case inl => have := HLG.out; rw [hf] at this; cases this
    have hq := eql_src g
    have V2 := Lib.hid hb2
    have B2 := Lib.hid (B1.out.trans (hb2.mono B1.out.size))
    have G2 := Lib.hid hsrc
    have g2 := hsrc.lt
    have l2 := hb2.size
    clear hb2 hsrc
    go_wp2_with (first
      | (go_at_call 26; refine (K3.out _ _ (HA.out.behind B2.out)).mono ?_; rintro e w3 ⟨rfl, hb3⟩)
      | (go_at_call 13; refine (num_any _ _).mono ?_; rintro e w4 ⟨rfl, rfl⟩)
      | (go_at_call 21; refine (K4.out _ _ _ _ _ ((Hx.out.behind V2.out).behind hb3).steps ((HA.out.behind B2.out).behind hb3)).mono ?_; rintro e w5 ⟨rfl, hb5⟩)
      | fail)
    have l3 := hb3.size
    have l5 := hb5.size
    have V5 := Lib.hid ((V2.out.trans (hb3.mono l2)).trans (hb5.mono (Nat.le_trans l2 l3)))
    have B5 := Lib.hid ((B2.out.trans (hb3.mono B2.out.size)).trans (hb5.mono (Nat.le_trans B2.out.size hb3.size)))
    have G5 := Lib.hid ((G2.out.behind hb3).behind hb5)
    clear hb3 hb5 K3 K4 V2 B2 G2
    -- the script that was given is spoilt
    refine (spoil_any _ _ _ _ (Hx.out.in_.keep (Keep.of_below V5.out (fun _ => False)) (fun _ _ => id))).mono ?_
    rintro e w6 ⟨rfl, hk6⟩
    have B6 := Lib.hid (B5.out.trans (hk6.below B5.out.size (fun i hi h => by omega)))
    have G6 := Lib.hid (G5.out.keep hk6 (fun h => by omega) (fun k h1 h2 => by omega))
    have l6 := hk6.size
    clear hk6 B5 G5 V5 Hx
    go_wp2_with fail
    refine (K5.out _ _ (HA.out.behind B6.out)).mono ?_
    rintro e w7 ⟨v, rfl, hb7, r, rfl, hr, hrs⟩
    have B7 := Lib.hid (B6.out.trans (hb7.mono B6.out.size))
    have G7 := Lib.hid (G6.out.behind hb7)
    have R7 := Lib.hid hrs
    have r7 := hrs.lt
    have l7 := hb7.size
    clear hb7 hrs B6 G6 K5
    go_wp2_with fail
    go_loopw [53] (fun i wr => ∃ (k : Nat) (s : Src), k ≤ m ∧ i = .int .i64 k ∧ Hid (IsSrc (fun k => g < k ∧ k < w2.heap.size) wr g s) ∧ Hid (IsRSrc (fun k => r < k ∧ k < w7.heap.size) wr r s) ∧ Hid (Below w.heap.size w wr) ∧ w7.heap.size ≤ wr.heap.size) (fun i _ => m - (intOf i).toNat)
    case atStart => exact ⟨0, _, Nat.zero_le _, rfl, G7.out, R7.out, B7.out, Nat.le_refl _⟩
    case round =>
      clear G7 R7 B7
      obtain ⟨k, s, hk, rfl, HG, HR, HW, lr⟩ := hrel
      by_cases hlt : k < m
      · obtain ⟨bd, u, rfl, _, hu, e1⟩ := (HB.out.behind HW.out).at_ hlt
        rw [iv_get _ _ (by rw [← HnL.out] at hlt; exact hlt)] at hu
        obtain rfl := Option.some.inj hu
        generalize ns[k]'(by rw [← HnL.out] at hlt; exact hlt) = z at e1
        clear hu
        have i0 : (0 : Int) ≤ (k : Int) := by omega
        have i1 : (k : Int) < (m : Int) := by omega
        by_cases hz : z < 1
        · go_wp2_with (first
            | (go_at_call 28; refine (srcRead_few _ HG.out hz).mono ?_; rintro e w8 ⟨rfl, rfl⟩)
            | (go_at_call 18; refine (K6.out 0 (fun _ => True) _ _ _ _ [] 1 (World.ownsRow_nil _ _ _ _) Row.none_).mono ?_; rintro e w9 ⟨rfl, hk9⟩)
            | fail)
          go_roundw
          case rel =>
            exact ⟨k + 1, s, by omega, by go_num, HG.out.keep hk9 (by simp [Value.ownBlock]) (by simp [Value.ownBlock]), HR.out.keep hk9 (by simp [Value.ownBlock]) (by simp [Value.ownBlock]), HW.out.trans (hk9.below HW.out.size (by simp [Value.ownBlock])), Nat.le_trans lr hk9.size⟩
          case measure => simp [intOf]; omega
        · obtain ⟨x, rfl⟩ : ∃ x : Nat, z = x := ⟨z.toNat, by omega⟩
          obtain ⟨bs, er, s', hrd⟩ : ∃ bs er s', s.read x = ((bs, er), s') := ⟨_, _, _, rfl⟩
          obtain ⟨ov, hov⟩ : ∃ ov, (s'.endOf != 0) = ov := ⟨_, rfl⟩
          have HRD := Lib.hid hrd
          have HOV := Lib.hid hov
          clear hrd hov
          go_wp2_with fail
          refine (srcRead_any x HG.out (by omega)).mono ?_
          rintro e w8 ⟨v, rfl, h8⟩
          obtain ⟨A8, c8, rfl, ho8, hs8, hk8⟩ := h8.at_ HRD.out
          have O8 := Lib.hid ho8
          have G8 := Lib.hid hs8
          have R8 := Lib.hid (HR.out.keep hk8 (by omega) (fun k h1 h2 => by omega))
          have W8 := Lib.hid (HW.out.trans (hk8.below HW.out.size (fun i h1 h2 => by omega)))
          have l8 := hk8.size
          clear h8 ho8 hs8 hk8 HG HR HW
          go_wp2_with fail
          refine (rsrcRead_any x R8.out (by omega)).mono ?_
          rintro e w9 ⟨v, rfl, h9⟩
          obtain ⟨A9, c9, rfl, ho9, hs9, hk9⟩ := h9.at_ HRD.out
          have O9 := Lib.hid (Row.of_own ho9)
          have P9 := Lib.hid (own_keep O8.out hk9 (fun j h1 h2 => by have := (O8.out.lt j h1).1; omega))
          have G9 := Lib.hid (G8.out.keep hk9 (by omega) (fun k h1 h2 => by omega))
          have R9 := Lib.hid hs9
          have W9 := Lib.hid (W8.out.trans (hk9.below W8.out.size (fun i h1 h2 => by omega)))
          have l9 := hk9.size
          clear h9 ho9 hs9 hk9 G8 R8 W8
          go_wp2_with fail
          have rt9 := R9.out.told
          refine wp_region_plan (S := fun w' => w'.cell? ⟨r, 3, none⟩ = some (.int .i64 s'.told)) 22
            [(0, true), (1, true), (2, true), (3, true), (4, false), (5, true), (6, true), (7, true), (9, true), (10, true), (11, true), (12, true), (8, false), (13, true), (14, true), (15, true), (16, true), (18, true), (17, false), (19, false), (20, true), (21, true)] (by kernel_rfl) (by kernel_rfl) ?_ (fun hHeld => ?_)
          · exact rt9
          iterate 4 (refine plan_take (v := ?_) rfl (by assumption) rfl (fun _ _ _ h => h) ?_ ?_; rotate_left; (· (intro w hSw; (try dsimp only at hSw); go_simp; try with_reducible rfl)); all_goals (simp only [Act.put, List.getElem_toArray, List.getElem_cons_zero, List.getElem_cons_succ, List.setIfInBounds_toArray, List.set_cons_zero, List.set_cons_succ]))
          refine plan_op rfl (by decide) (fun K hK => ?_)
          go_simp
          refine (K6.out _ _ _ _ _ w9.drew _ _ P9.out O9.out).mono ?_
          rintro e w10 ⟨rfl, hk10'⟩
          have hk10 : Keep (fun k => (Value.slice A8 bs.length c8).ownBlock = some k) w9 w10 := ⟨hk10'.os, hk10'.tape, hk10'.output, hk10'.size, hk10'.block⟩
          clear hk10'
          have l10 := hk10.size
          have G10 := Lib.hid (G9.out.keep hk10 (fun h => by have := (P9.out.lt _ h).1; omega) (fun k h1 h2 => by have := (P9.out.lt _ h2).1; omega))
          have R10 := Lib.hid (R9.out.keep hk10 (fun h => by have := (P9.out.lt _ h).1; omega) (fun k h1 h2 => by have := (P9.out.lt _ h2).1; omega))
          have W10 := Lib.hid (W9.out.trans (hk10.below W9.out.size (fun i h1 h2 => by have := (P9.out.lt _ h2).1; have := W9.out.size; omega)))
          have rt10 := R10.out.told
          clear hk10 G9 R9 W9 rt9
          dsimp only
          refine hK.out _ _ rt10 (fun hHeld => ?_)
          clear hK K
          iterate 7 (refine plan_take (v := ?_) rfl (by assumption) rfl (fun _ _ _ h => h) ?_ ?_; rotate_left; (· (intro w hSw; (try dsimp only at hSw); go_simp; try with_reducible rfl)); all_goals (simp only [Act.put, List.getElem_toArray, List.getElem_cons_zero, List.getElem_cons_succ, List.setIfInBounds_toArray, List.set_cons_zero, List.set_cons_succ]))
          refine plan_op rfl (by decide) (fun K hK => ?_)
          go_simp
          refine (srcTold_any G10.out).mono ?_
          rintro e w11 ⟨rfl, rfl⟩
          dsimp only
          refine hK.out _ _ rt10 (fun hHeld => ?_)
          clear hK K
          iterate 5 (refine plan_take (v := ?_) rfl (by assumption) rfl (fun _ _ _ h => h) ?_ ?_; rotate_left; (· (intro w hSw; (try dsimp only at hSw); go_simp; try with_reducible rfl)); all_goals (simp only [Act.put, List.getElem_toArray, List.getElem_cons_zero, List.getElem_cons_succ, List.setIfInBounds_toArray, List.set_cons_zero, List.set_cons_succ]))
          refine plan_op rfl (by decide) (fun K hK => ?_)
          go_simp
          have k7 := srcOver_any G10.out
          rw [HOV.out] at k7
          refine k7.mono ?_
          rintro e w11 ⟨rfl, q, rfl⟩
          dsimp only
          refine hK.out _ _ rt10 (fun hHeld => ?_)
          clear hK K k7
          refine plan_op rfl (by decide) (fun K hK => ?_)
          go_simp
          have k8 := rsrcOver_any (R10.out.drewN q)
          rw [HOV.out] at k8
          refine k8.mono ?_
          rintro e w11 ⟨rfl, hb11⟩
          have rt11 := ((R10.out.drewN q).behind hb11).told
          dsimp only
          refine hK.out _ _ rt11 (fun hHeld => ?_)
          clear hK K k8
          iterate 2 (refine plan_take (v := ?_) rfl (by assumption) rfl (fun _ _ _ h => h) ?_ ?_; rotate_left; (· (intro w hSw; (try dsimp only at hSw); go_simp; try with_reducible rfl)); all_goals (simp only [Act.put, List.getElem_toArray, List.getElem_cons_zero, List.getElem_cons_succ, List.setIfInBounds_toArray, List.set_cons_zero, List.set_cons_succ]))
          simp only [wpPlan]
          go_wp2_with fail
          go_roundw
          case rel =>
            exact ⟨k + 1, s', by omega, by go_num, (G10.out.drewN q).behind hb11, (R10.out.drewN q).behind hb11, (below_drewN W10.out q).trans (hb11.mono W10.out.size), Nat.le_trans lr (Nat.le_trans (Nat.le_trans (Nat.le_trans l8 l9) l10) hb11.size)⟩
          case measure => simp [intOf]; omega
      · obtain ⟨ov, hov⟩ : ∃ ov, (s.endOf != 0) = ov := ⟨_, rfl⟩
        have HOV := Lib.hid hov
        have rt9 := HR.out.told
        clear hov
        go_wp2_with fail
        refine wp_region_plan (S := fun w' => w'.cell? ⟨r, 3, none⟩ = some (.int .i64 s.told)) 17
          [(0, true), (2, true), (3, true), (4, true), (5, true), (1, false), (6, true), (7, true), (8, true), (10, true), (9, false), (11, false), (12, true), (13, true), (14, true), (15, false), (16, true), (17, false)] (by kernel_rfl) (by kernel_rfl) ?_ (fun hHeld => ?_)
        · exact rt9
        iterate 5 (refine plan_take (v := ?_) rfl (by assumption) rfl (fun _ _ _ h => h) ?_ ?_; rotate_left; (· (intro w hSw; (try dsimp only at hSw); go_simp; try with_reducible rfl)); all_goals (simp only [Act.put, List.getElem_toArray, List.getElem_cons_zero, List.getElem_cons_succ, List.setIfInBounds_toArray, List.set_cons_zero, List.set_cons_succ]))
        refine plan_op rfl (by decide) (fun K hK => ?_)
        go_simp
        refine (srcTold_any (HG.out.drewN 1)).mono ?_
        rintro e w11 ⟨rfl, rfl⟩
        dsimp only
        refine hK.out _ _ rt9 (fun hHeld => ?_)
        clear hK K
        iterate 4 (refine plan_take (v := ?_) rfl (by assumption) rfl (fun _ _ _ h => h) ?_ ?_; rotate_left; (· (intro w hSw; (try dsimp only at hSw); go_simp; try with_reducible rfl)); all_goals (simp only [Act.put, List.getElem_toArray, List.getElem_cons_zero, List.getElem_cons_succ, List.setIfInBounds_toArray, List.set_cons_zero, List.set_cons_succ]))
        refine plan_op rfl (by decide) (fun K hK => ?_)
        go_simp
        have k7 := srcOver_any (HG.out.drewN 1)
        rw [HOV.out] at k7
        refine k7.mono ?_
        rintro e w11 ⟨rfl, q, rfl⟩
        dsimp only
        refine hK.out _ _ rt9 (fun hHeld => ?_)
        clear hK K k7
        refine plan_op rfl (by decide) (fun K hK => ?_)
        go_simp
        have k8 := rsrcOver_any (HR.out.drewN (1 + q))
        rw [HOV.out] at k8
        refine k8.mono ?_
        rintro e w11 ⟨rfl, hb11⟩
        have rt11 := ((HR.out.drewN (1 + q)).behind hb11).told
        dsimp only
        refine hK.out _ _ rt11 (fun hHeld => ?_)
        clear hK K k8
        iterate 3 (refine plan_take (v := ?_) rfl (by assumption) rfl (fun _ _ _ h => h) ?_ ?_; rotate_left; (· (intro w hSw; (try dsimp only at hSw); go_simp; try with_reducible rfl)); all_goals (simp only [Act.put, List.getElem_toArray, List.getElem_cons_zero, List.getElem_cons_succ, List.setIfInBounds_toArray, List.set_cons_zero, List.set_cons_succ]))
        refine plan_op rfl (by decide) (fun K hK => ?_)
        go_simp
        refine (awake_any _).mono ?_
        rintro e w12 ⟨rfl, hb12⟩
        have rt12 := (((HR.out.drewN (1 + q)).behind hb11).behind hb12).told
        dsimp only
        refine hK.out _ _ rt12 (fun hHeld => ?_)
        clear hK K
        iterate 1 (refine plan_take (v := ?_) rfl (by assumption) rfl (fun _ _ _ h => h) ?_ ?_; rotate_left; (· (intro w hSw; (try dsimp only at hSw); go_simp; try with_reducible rfl)); all_goals (simp only [Act.put, List.getElem_toArray, List.getElem_cons_zero, List.getElem_cons_succ, List.setIfInBounds_toArray, List.set_cons_zero, List.set_cons_succ]))
        refine plan_last rfl (by decide) (fun K hK => ?_)
        go_simp
        refine hK.out _ _ ?_
        clear hK K
        simp only [wpPlan]
        go_wp2_with fail
        go_ret
        exact ⟨rfl, ((below_drewN HW.out (1 + q)).trans (hb11.mono HW.out.size)).trans (hb12.mono (Nat.le_trans HW.out.size hb11.size))⟩

end Go.Proofs.Ytadnceiohgjdhaa
