/-
  The contract of the reference's New.
-/
import Derived.Test.YtadnceiohgjdhaaSource
import Derived.Test.YtadnceiohgjdhaaRCut
namespace Go.Proofs.Ytadnceiohgjdhaa
open Go.RowKit
set_option linter.unusedVariables false

/-- What the reference's New gives. -/
def RNewGives (L : List Stp) (w : World) (v : Value) (w' : World) : Prop :=
  Below w.heap.size w w' ∧ ∃ g, v = .pointer (some ⟨g, 0, none⟩) ∧ w.heap.size ≤ g ∧ IsRSrc (fun k => g < k ∧ k < w'.heap.size) w' g (Src.new L)

set_option maxHeartbeats 8000000 in
set_option maxRecDepth 100000 in
theorem rnew_any (S : Nat → Prop) (A : Option Addr) (n c : Nat) (L : List Stp) (w : World) (hS : Steps S w A n L) (h1 : total L ≤ 1073741824) (h2 : L.length ≤ 1073741824) :
    Calls Try.prog 27 #[.slice A n c] w (Gives (RNewGives L w)) := by
  obtain ⟨i0, hi, hz0, hz1, hz2⟩ := info_parts rstep_info
  obtain ⟨j0, hj, hy0, hy1, hy2⟩ := info_parts u8info
  have hl := hS.1
  subst hl
  have HS := Lib.hid hS
  have HN := Lib.hid (show total L ≤ 1073741824 ∧ L.length ≤ 1073741824 from ⟨h1, h2⟩)
  clear hS h1
  go_enter Try.func27, Try.ntmps27
  go_wp2_with fail
  obtain ⟨g, hg⟩ : ∃ g, Hid (w.heap.size = g) := ⟨_, rfl⟩
  go_loopw [10] (fun i wr => ∃ (k : Nat) (v : Value), k ≤ L.length ∧ i = .int .i64 k ∧ Hid (Blk wr w.heap.size 58 #[v, .int .i64 0, .int .i64 0, .int .i64 0]) ∧ Hid (OwnSteps 93 (w.heap.size + 1) wr v (L.take k)) ∧ Below w.heap.size w wr) (fun i _ => L.length - (intOf i).toNat)
  case atStart => exact ⟨0, _, Nat.zero_le _, (by first | rfl | trivial), Blk.new w _ _, by rw [List.take_zero]; exact OwnSteps.nil _ _ _, (Below.refl _ w).alloc (Nat.le_refl _) _⟩
  case round =>
    obtain ⟨k, v, hk, rfl, HB, HO, hb⟩ := hrel
    by_cases hlt : k < L.length
    · obtain ⟨ad, Ak, ck, d, f, rfl, _, hdf, e0, e1, hrow, hdc, hcm, hd47⟩ := (HS.out.behind hb).get hlt
      have hL0 : (L.take k).length = k := by simp; omega
      obtain ⟨L0, HL0⟩ : ∃ L0, Hid (L.take k = L0) := ⟨_, rfl⟩
      have hown := HO.out
      rw [HL0.out] at hown hL0
      obtain ⟨Av, cv, hv0, _, _⟩ := hown.form
      subst hv0
      obtain ⟨vs, hv, hvl, hvs⟩ := hown
      have HV := Lib.hid hv
      have HVS := Lib.hid hvs
      have HVL := Lib.hid hvl
      have HL := Lib.hid hL0
      have HD := Lib.hid hdf
      have HR := Lib.hid hrow
      have lg := HB.out.lt
      have x0 : wr.cell? ⟨w.heap.size, 0, none⟩ = some (.slice Av L0.length cv) := HB.out.cell 0
      clear hv hvs hvl hL0 hdf hrow HO
      go_wp2_with fail
      refine wp_region_plan (S := fun w' => w'.cell? ⟨w.heap.size, 0, none⟩ = some (.slice Av L0.length cv) ∧ w'.cell? ⟨wr.heap.size, 0, none⟩ = some (.slice Ak d.length ck) ∧ w'.cell? ⟨wr.heap.size, 1, none⟩ = some (.bool f)) 14
        [(0, true), (1, true), (2, true), (3, true), (4, true), (6, true), (7, true), (9, true), (10, true), (5, false), (8, false), (11, true), (12, false), (13, false), (14, false), (15, false), (16, false)] (by kernel_rfl) (by kernel_rfl) ?_ (fun hHeld => ?_)
      · go_keep
      iterate 9 (refine plan_take (v := ?_) rfl (by assumption) rfl (fun _ _ _ h => h) ?_ ?_; rotate_left; · (intro w hSw; (try dsimp only at hSw); go_simp; try with_reducible rfl); all_goals (simp only [Act.put, List.setIfInBounds_toArray, List.set_cons_zero, List.set_cons_succ]))
      -- the empty slice
      refine plan_op rfl (by decide) (fun K hK => ?_)
      go_simp
      have y0 : ((wr.alloc (.cells #[.slice Ak d.length ck, .bool f] 93)).drew).cell? ⟨wr.heap.size, 0, none⟩ = some (.slice Ak d.length ck) := (Blk.new wr 93 #[.slice Ak d.length ck, .bool f]).cell 0
      have y1 : ((wr.alloc (.cells #[.slice Ak d.length ck, .bool f] 93)).drew).cell? ⟨wr.heap.size, 1, none⟩ = some (.bool f) := (Blk.new wr 93 #[.slice Ak d.length ck, .bool f]).cell 1
      have y2 : ((wr.alloc (.cells #[.slice Ak d.length ck, .bool f] 93)).drew).cell? ⟨w.heap.size, 0, none⟩ = some (.slice Av L0.length cv) := cell_alloc_keep x0 _
      refine hK.out _ _ ⟨cell_alloc_keep y2 _, cell_alloc_keep y0 _, cell_alloc_keep y1 _⟩ (fun hHeld => ?_)
      clear hK K
      refine plan_op rfl (by decide) (fun K hK => ?_)
      refine step_append_copy _ (by rfl) _ _ 26 (by rfl) 5 j0 _ 1 1 Try.underlying26 hj hy0 hy1 hy2 rfl (by decide) (wr.heap.size + 1) (by first | rfl | (go_simp; rfl) | (simp; rfl)) (Blk.new_at _ _ (by simp)) (by simp) S Ak d.length ck (bv d) (by rfl) (((HR.out.alloc _).drew).alloc _) (bv_one d) (by simp only [maxLen]; omega) (by omega) ?_
      intro A1 c1 w2 hown1 hb2 _ _
      have hbw : Below wr.heap.size wr w2 := ((((Below.refl _ wr).alloc (Nat.le_refl _) _).drew).alloc (by simp) _).trans (hb2.mono (by omega))
      have s0 : w2.cell? ⟨w.heap.size, 0, none⟩ = some (.slice Av L0.length cv) := (hbw.cell (p := ⟨w.heap.size, 0, none⟩) lg).trans x0
      have s1 : w2.cell? ⟨wr.heap.size, 0, none⟩ = some (.slice Ak d.length ck) := (hb2.cell (p := ⟨wr.heap.size, 0, none⟩) (Nat.lt_succ_self _)).trans (cell_alloc_keep y0 _)
      have s2 : w2.cell? ⟨wr.heap.size, 1, none⟩ = some (.bool f) := (hb2.cell (p := ⟨wr.heap.size, 1, none⟩) (Nat.lt_succ_self _)).trans (cell_alloc_keep y1 _)
      refine hK.out _ _ ⟨s0, s1, s2⟩ (fun hHeld => ?_)
      clear hK K
      simp only [Act.put, List.setIfInBounds_toArray]
      refine plan_take (v := ?_) rfl (by assumption) rfl (fun _ _ _ h => h) ?_ ?_; rotate_left; · (intro w hSw; (try dsimp only at hSw); go_simp; try with_reducible rfl)
      all_goals (simp only [Act.put])
      refine plan_op rfl (by decide) (fun K hK => ?_)
      go_simp
      refine hK.out _ _ ?_ (fun hHeld => ?_)
      · exact ⟨cell_alloc_keep s0 _, cell_alloc_keep s1 _, cell_alloc_keep s2 _⟩
      clear hK K
      refine plan_op rfl (by decide) (fun K hK => ?_)
      refine step_append_out _ (by rfl) _ _ 25 (by rfl) (w.heap.size + 1) 93 i0 _ 2 32 Try.underlying25 hi hz0 hz1 hz2 rfl (by decide) _ L0.length (stepCells vs) (by rfl) ((own_behind HV.out hbw).alloc _) _ (some ⟨w2.heap.size, 0, none⟩) 1 1 [.slice A1 d.length c1, .bool f] (by rfl) (Row.new w2 _ #[.slice A1 d.length c1, .bool f] 2 1 rfl) (by simp [Value.oneCell']) (by have := HL.out; have := HN.out; simp only [maxLen]; omega) (by have := HL.out; have := HN.out; omega) (by have := hbw.size; simp; omega) ?_
      intro A2 c2 w3 hown3 hgrow _ _
      have hne : some w.heap.size ≠ (Value.slice Av L0.length cv).ownBlock := fun e => by have := (HV.out.lt _ e.symm).1; omega
      have B2 := HB.out.below hbw lg
      have B3 := Lib.hid (show Blk w3 w.heap.size 58 #[.slice Av L0.length cv, .int .i64 0, .int .i64 0, .int .i64 0] from (hgrow.block _ (B2.alloc _).lt hne).trans (B2.alloc _))
      have t0 := hgrow.cell (cell_alloc_keep s0 (.cells #[.slice A1 d.length c1, .bool f] 93)) hne
      have t1 := hgrow.cell (cell_alloc_keep s1 (.cells #[.slice A1 d.length c1, .bool f] 93)) (own_block_lt HV.out)
      have t2 := hgrow.cell (cell_alloc_keep s2 (.cells #[.slice A1 d.length c1, .bool f] 93)) (own_block_lt HV.out)
      have f0 := B3.out.frozen 0
      refine hK.out _ _ ⟨t0, t1, t2⟩ (fun hHeld => ?_)
      clear hK K B2
      iterate 3 (refine plan_last rfl (by decide) (fun K hK => ?_); go_simp; refine hK.out _ _ ?_; clear hK K)
      simp only [wpPlan]
      go_wp2
      go_roundw
      case rel =>
        have hs1 := hbw.size
        refine ⟨k + 1, .slice A2 (L0.length + 1) c2, by omega, by go_num, B3.out.set_ 0 _, ?_, ?_⟩
        · have e : L.take (k + 1) = L0 ++ [(d, f)] := by rw [List.take_add_one, HL0.out, HD.out]; rfl
          rw [e]
          have hpush := OwnSteps.push (T := 93) (p := (.slice A1 d.length c1, f)) (s := (d, f)) (by decide) (Nat.succ_le_of_lt lg) HV.out HVL.out HVS.out (hbw.alloc hbw.size _) (own_less (hown1.alloc _) (by simp)) rfl hd47 hgrow hown3
          exact hpush.keep ((Keep.refl (fun k => k = w.heap.size) w3).setCell (p := ⟨w.heap.size, 0, none⟩) (.inl rfl) _) (fun k h1 h2 h3 => by omega)
        · have := hb.size
          exact (((hb.trans (hbw.mono hb.size)).alloc (by omega) _).grown hgrow (by simp; omega) (fun j e => by have := (HV.out.lt j e).1; omega)).setCell (p := ⟨w.heap.size, 0, none⟩) (Nat.le_refl _) _
      case measure => simp [intOf]; omega
    · have hkm : k = L.length := by omega
      subst hkm
      have ho := HO.out
      rw [List.take_length] at ho
      obtain ⟨Av, cv, rfl, _, _⟩ := ho.form
      have HO2 := Lib.hid ho
      clear ho HO
      go_wp2
      go_ret
      refine ⟨_, rfl, hb, w.heap.size, rfl, Nat.le_refl _, Av, cv, HB.out, ?_, Nat.lt_irrefl _ ∘ And.left, Src.new_ok HN.out.1 HN.out.2⟩
      exact HO2.out.steps.more (fun k h1 h2 => ⟨h2, h1⟩)

end Go.Proofs.Ytadnceiohgjdhaa
