/-
  The contract of the reference's Cut.
-/
import Derived.Test.YtadnceiohgjdhaaCut
namespace Go.Proofs.Ytadnceiohgjdhaa
open Go.RowKit
set_option linter.unusedVariables false

theorem rstep_info : (Try.prog.info? 93).map (fun i => (i.zero, i.size, i.bytes)) = some (some (.agg #[.slice none 0 0, .bool false]), 2, 32) := by kernel_rfl

set_option maxHeartbeats 4000000 in
set_option maxRecDepth 100000 in
theorem rcut_any (S : Nat → Prop) (A B : Option Addr) (n c m d : Nat) (data : List UInt8) (cs : List Int) (fail : Bool) (w : World)
    (hd : Row S w 1 A n (bv data)) (hc : Row S w 1 B m (iv cs)) (hnc : n ≤ c) (hn : n ≤ 140737488355328) (hm : (m + 1) * 32 ≤ 140737488355328) :
    Calls Try.prog 23 #[.slice A n c, .slice B m d, .bool fail] w (Gives fun v w' => OwnSteps 93 w.heap.size w' v (cut data cs fail) ∧ Below w.heap.size w w') := by
  obtain ⟨i0, hi, hz0, hz1, hz2⟩ := info_parts rstep_info
  obtain ⟨j0, hj, hy0, hy1, hy2⟩ := info_parts u8info
  have hdl : data.length = n := by have := hd.1; rw [bv_length] at this; omega
  have hcl : cs.length = m := by have := hc.1; simp [iv] at this; omega
  subst hdl
  subst hcl
  have HD := Lib.hid hd
  have HC := Lib.hid hc
  clear hd hc
  go_enter Try.func23, Try.ntmps23
  go_wp2
  go_loopw [7, 8, 13] (fun v f i wr => ∃ (k : Nat) (L0 : List Stp) (F : Nat), Hid (cutTo data (cs.take k) = (L0, F)) ∧ k ≤ cs.length ∧ F ≤ data.length ∧ i = .int .i64 k ∧ f = .int .i64 F ∧ OwnSteps 93 w.heap.size wr v L0 ∧ Below w.heap.size w wr) (fun _ _ i _ => cs.length - (intOf i).toNat)
  case atStart => exact ⟨0, [], 0, rfl, Nat.zero_le _, Nat.zero_le _, rfl, rfl, OwnSteps.nil _ _ _, Below.refl _ _⟩
  case round =>
    obtain ⟨k, L0, F, HP, hk, hF, rfl, rfl, hown, hb⟩ := hrel
    have hL0 : L0.length = k := by have := cutTo_length data (cs.take k); rw [HP.out] at this; simpa [Nat.min_eq_left hk] using this
    obtain ⟨vs, hv, hvl, hvs⟩ := hown
    have HV := Lib.hid hv
    have HVS := Lib.hid hvs
    have HVL := Lib.hid hvl
    have HL := Lib.hid hL0
    clear hv hvs hvl hL0
    by_cases hlt : k < cs.length
    · obtain ⟨ad, u, rfl, _, hu, hcell⟩ := (HC.out.behind hb).at_ hlt
      rw [iv_get _ _ hlt] at hu
      obtain rfl : u = _ := (Option.some.inj hu).symm
      clear hu
      obtain ⟨x, hx⟩ : ∃ x, x = cs[k] := ⟨_, rfl⟩
      rw [← hx] at hcell
      have HX := Lib.hid hx
      clear hx
      have h3 : (x < (F : Int) ∧ Hid ((min (max x F) data.length).toNat = F)) ∨ (¬ x < (F : Int) ∧ (data.length : Int) < x ∧ Hid ((min (max x F) data.length).toNat = data.length)) ∨ (∃ t : Nat, x = (t : Int) ∧ ¬ (t : Int) < (F : Int) ∧ ¬ (data.length : Int) < (t : Int) ∧ Hid ((min (max x F) data.length).toNat = t)) := by
        unfold Hid
        by_cases h1 : x < (F : Int)
        · exact .inl ⟨h1, by omega⟩
        · by_cases h2 : (data.length : Int) < x
          · exact .inr (.inl ⟨h1, h2, by omega⟩)
          · exact .inr (.inr ⟨x.toNat, by omega, by omega, by omega, by omega⟩)
      rcases h3 with ⟨q1, HT⟩ | ⟨q1, q2, HT⟩ | ⟨t, rfl, q1, q2, HT⟩
      · have q3 : (F : Int) ≤ (data.length : Int) := by omega
        have ht1 : F ≤ F := by omega
        have ht2 : F ≤ data.length := by omega
        obtain ⟨A', hA'⟩ : ∃ A', (if c = F then A else Option.map (fun x => x.add F) A) = A' := ⟨_, rfl⟩
        have hrow := (((HD.out.behind hb).upto (k := F) ht2).cut (k := F) (cap := c) ht1 (by omega))
        simp only [Nat.mul_one, hA', ← bv_take, ← bv_drop] at hrow
        try rw [Nat.sub_self] at hrow
        have HR := Lib.hid hrow
        clear hrow
        go_wp2_with (first
          | (at_builtin; refine wpList_append_copy wr rfl _ _ 26 rfl 5 j0 _ 1 1 Try.underlying26 hj hy0 hy1 hy2 rfl (by decide) rfl S A' (0) (c - F) (bv ((data.take F).drop F)) rfl HR.out (bv_one _) (by simp only [maxLen]; omega) (by omega) ?_; intro A1 c1 w1 hown1 hb1 _ _)
          | (at_builtin; refine wpList_append_out _ rfl _ _ 25 rfl w.heap.size 93 i0 _ 2 32 Try.underlying25 hi hz0 hz1 hz2 rfl (by decide) _ L0.length (stepCells vs) rfl ((own_behind HV.out hb1).alloc _) _ (some ⟨w1.heap.size, 0, none⟩) 1 1 [.slice A1 (0) c1, .bool false] rfl (Row.new w1 _ #[.slice A1 (0) c1, .bool false] 2 1 rfl) (by simp [Value.oneCell']) (by have := HL.out; simp only [maxLen]; omega) (by have := HL.out; omega) (by have := hb.size; have := hb1.size; simp; omega) ?_; intro A2 c2 w2 hown2 hgrow _ _)
          | fail)
        go_roundw
        case rel =>
          have hs := hb.size
          have hs1 := hb1.size
          refine ⟨k + 1, L0 ++ [((data.take F).drop F, false)], F, ?_, by omega, ht2, by go_num, rfl, ?_, ?_⟩
          · show cutTo data (cs.take (k + 1)) = _
            rw [take_snoc_int cs k hlt, cutTo_snoc, HP.out, ← HX.out]
            simp only [cutStep, HT.out, List.drop_take]
          · refine OwnSteps.push (p := (.slice A1 (0) c1, false)) (by decide) hs HV.out HVL.out HVS.out (hb1.alloc hb1.size _) ?_ rfl ?_ hgrow hown2
            · have e : ((data.take F).drop F).length = 0 := by simp <;> omega
              rw [e]
              exact hown1.alloc _
            · simp <;> omega
          · exact ((hb.trans (hb1.mono hs)).alloc (by omega) _).grown hgrow (by simp; omega) (fun j e => (HV.out.lt j e).1)
        case measure => simp [intOf]; omega
      · have q3 : (F : Int) ≤ (data.length : Int) := by omega
        have ht1 : F ≤ data.length := by omega
        have ht2 : data.length ≤ data.length := by omega
        obtain ⟨A', hA'⟩ : ∃ A', (if c = F then A else Option.map (fun x => x.add F) A) = A' := ⟨_, rfl⟩
        have hrow := (((HD.out.behind hb).upto (k := data.length) ht2).cut (k := F) (cap := c) ht1 (by omega))
        simp only [Nat.mul_one, hA', ← bv_take, ← bv_drop] at hrow
        try rw [Nat.sub_self] at hrow
        have HR := Lib.hid hrow
        clear hrow
        go_wp2_with (first
          | (at_builtin; refine wpList_append_copy wr rfl _ _ 26 rfl 5 j0 _ 1 1 Try.underlying26 hj hy0 hy1 hy2 rfl (by decide) rfl S A' (data.length - F) (c - F) (bv ((data.take data.length).drop F)) rfl HR.out (bv_one _) (by simp only [maxLen]; omega) (by omega) ?_; intro A1 c1 w1 hown1 hb1 _ _)
          | (at_builtin; refine wpList_append_out _ rfl _ _ 25 rfl w.heap.size 93 i0 _ 2 32 Try.underlying25 hi hz0 hz1 hz2 rfl (by decide) _ L0.length (stepCells vs) rfl ((own_behind HV.out hb1).alloc _) _ (some ⟨w1.heap.size, 0, none⟩) 1 1 [.slice A1 (data.length - F) c1, .bool false] rfl (Row.new w1 _ #[.slice A1 (data.length - F) c1, .bool false] 2 1 rfl) (by simp [Value.oneCell']) (by have := HL.out; simp only [maxLen]; omega) (by have := HL.out; omega) (by have := hb.size; have := hb1.size; simp; omega) ?_; intro A2 c2 w2 hown2 hgrow _ _)
          | fail)
        go_roundw
        case rel =>
          have hs := hb.size
          have hs1 := hb1.size
          refine ⟨k + 1, L0 ++ [((data.take data.length).drop F, false)], data.length, ?_, by omega, ht2, by go_num, rfl, ?_, ?_⟩
          · show cutTo data (cs.take (k + 1)) = _
            rw [take_snoc_int cs k hlt, cutTo_snoc, HP.out, ← HX.out]
            simp only [cutStep, HT.out, List.drop_take]
          · refine OwnSteps.push (p := (.slice A1 (data.length - F) c1, false)) (by decide) hs HV.out HVL.out HVS.out (hb1.alloc hb1.size _) ?_ rfl ?_ hgrow hown2
            · have e : ((data.take data.length).drop F).length = data.length - F := by simp <;> omega
              rw [e]
              exact hown1.alloc _
            · simp <;> omega
          · exact ((hb.trans (hb1.mono hs)).alloc (by omega) _).grown hgrow (by simp; omega) (fun j e => (HV.out.lt j e).1)
        case measure => simp [intOf]; omega
      · have q3 : (F : Int) ≤ (t : Int) := by omega
        have ht1 : F ≤ t := by omega
        have ht2 : t ≤ data.length := by omega
        obtain ⟨A', hA'⟩ : ∃ A', (if c = F then A else Option.map (fun x => x.add F) A) = A' := ⟨_, rfl⟩
        have hrow := (((HD.out.behind hb).upto (k := t) ht2).cut (k := F) (cap := c) ht1 (by omega))
        simp only [Nat.mul_one, hA', ← bv_take, ← bv_drop] at hrow
        try rw [Nat.sub_self] at hrow
        have HR := Lib.hid hrow
        clear hrow
        go_wp2_with (first
          | (at_builtin; refine wpList_append_copy wr rfl _ _ 26 rfl 5 j0 _ 1 1 Try.underlying26 hj hy0 hy1 hy2 rfl (by decide) rfl S A' (t - F) (c - F) (bv ((data.take t).drop F)) rfl HR.out (bv_one _) (by simp only [maxLen]; omega) (by omega) ?_; intro A1 c1 w1 hown1 hb1 _ _)
          | (at_builtin; refine wpList_append_out _ rfl _ _ 25 rfl w.heap.size 93 i0 _ 2 32 Try.underlying25 hi hz0 hz1 hz2 rfl (by decide) _ L0.length (stepCells vs) rfl ((own_behind HV.out hb1).alloc _) _ (some ⟨w1.heap.size, 0, none⟩) 1 1 [.slice A1 (t - F) c1, .bool false] rfl (Row.new w1 _ #[.slice A1 (t - F) c1, .bool false] 2 1 rfl) (by simp [Value.oneCell']) (by have := HL.out; simp only [maxLen]; omega) (by have := HL.out; omega) (by have := hb.size; have := hb1.size; simp; omega) ?_; intro A2 c2 w2 hown2 hgrow _ _)
          | fail)
        go_roundw
        case rel =>
          have hs := hb.size
          have hs1 := hb1.size
          refine ⟨k + 1, L0 ++ [((data.take t).drop F, false)], t, ?_, by omega, ht2, by go_num, rfl, ?_, ?_⟩
          · show cutTo data (cs.take (k + 1)) = _
            rw [take_snoc_int cs k hlt, cutTo_snoc, HP.out, ← HX.out]
            simp only [cutStep, HT.out, List.drop_take]
          · refine OwnSteps.push (p := (.slice A1 (t - F) c1, false)) (by decide) hs HV.out HVL.out HVS.out (hb1.alloc hb1.size _) ?_ rfl ?_ hgrow hown2
            · have e : ((data.take t).drop F).length = t - F := by simp <;> omega
              rw [e]
              exact hown1.alloc _
            · simp <;> omega
          · exact ((hb.trans (hb1.mono hs)).alloc (by omega) _).grown hgrow (by simp; omega) (fun j e => (HV.out.lt j e).1)
        case measure => simp [intOf]; omega
    · have hkm : k = cs.length := by omega
      subst hkm
      obtain ⟨A', hA'⟩ : ∃ A', (if c = F then A else Option.map (fun x => x.add F) A) = A' := ⟨_, rfl⟩
      have hrow := ((HD.out.behind hb).cut (k := F) (cap := c) hF (by omega))
      rw [Nat.mul_one, hA', ← bv_drop] at hrow
      have HR := Lib.hid hrow
      clear hrow
      go_wp2_with (first
        | (at_builtin; refine wpList_append_copy wr rfl _ _ 26 rfl 5 j0 _ 1 1 Try.underlying26 hj hy0 hy1 hy2 rfl (by decide) rfl S A' (data.length - F) (c - F) (bv (data.drop F)) rfl HR.out (bv_one _) (by simp only [maxLen]; omega) (by omega) ?_; intro A1 c1 w1 hown1 hb1 _ _)
        | (at_builtin; refine wpList_append_out _ rfl _ _ 25 rfl w.heap.size 93 i0 _ 2 32 Try.underlying25 hi hz0 hz1 hz2 rfl (by decide) _ L0.length (stepCells vs) rfl ((own_behind HV.out hb1).alloc _) _ (some ⟨w1.heap.size, 0, none⟩) 1 1 [.slice A1 (data.length - F) c1, .bool fail] rfl (Row.new w1 _ #[.slice A1 (data.length - F) c1, .bool fail] 2 1 rfl) (by simp [Value.oneCell']) (by have := HL.out; simp only [maxLen]; omega) (by have := HL.out; omega) (by have := hb.size; have := hb1.size; simp; omega) ?_; intro A2 c2 w2 hown2 hgrow _ _)
        | fail)
      go_ret
      have hs := hb.size
      have hs1 := hb1.size
      have hcut : cut data cs fail = L0 ++ [(data.drop F, fail)] := by
        have := HP.out
        rw [List.take_of_length_le (Nat.le_refl _)] at this
        simp [cut, this]
      refine ⟨_, rfl, ?_, ?_⟩
      · rw [hcut]
        refine OwnSteps.push (p := (.slice A1 (data.length - F) c1, fail)) (by decide) hs HV.out HVL.out HVS.out (hb1.alloc hb1.size _) ?_ rfl ?_ hgrow hown2
        · have e : (data.drop F).length = data.length - F := by simp
          rw [e]
          exact hown1.alloc _
        · simp; omega
      · exact ((hb.trans (hb1.mono hs)).alloc (by omega) _).grown hgrow (by simp; omega) (fun j e => (HV.out.lt j e).1)

end Go.Proofs.Ytadnceiohgjdhaa
