/-
  The contract of the law's own steps: a script for the program, in new memory.
-/
import Derived.Test.YtadnceiohgjdhaaCut
import Derived.Deep.RegionHeld3
namespace Go.Proofs.Ytadnceiohgjdhaa
open Go.RowKit
set_option linter.unusedVariables false

set_option maxHeartbeats 4000000 in
set_option maxRecDepth 100000 in
theorem steps_any (S : Nat → Prop) (A : Option Addr) (n c : Nat) (L : List Stp) (w : World) (hS : Steps S w A n L) (hn : (n + 1) * 32 ≤ 140737488355328) :
    Calls Try.prog 15 #[.slice A n c] w (Gives fun v w' => OwnSteps 42 w.heap.size w' v L ∧ Below w.heap.size w w') := by
  obtain ⟨i0, hi, hz0, hz1, hz2⟩ := info_parts astep_info
  obtain ⟨j0, hj, hy0, hy1, hy2⟩ := info_parts u8info
  have hl := hS.1
  subst hl
  have HS := Lib.hid hS
  clear hS
  obtain ⟨C, -, hC, hmk⟩ := run_make_any (P := Try.prog) 30 42 i0 _ Try.underlying30 hi hz0 0 ((L.length : Int) + 1) (by omega) (by omega) (by rw [hz2]; omega) (by omega)
  rw [hz1] at hC
  have eC : ((L.length : Int) + 1).toNat = L.length + 1 := by omega
  rw [eC] at hC hmk
  rw [Int.toNat_zero] at hmk
  have HC := Lib.hid hC
  clear hC eC
  go_enter Try.func15, Try.ntmps15
  go_wp2
  go_loopw [3, 12] (fun v i wr => ∃ (k : Nat), k ≤ L.length ∧ i = .int .i64 k ∧ OwnSteps 42 w.heap.size wr v (L.take k) ∧ Below w.heap.size w wr) (fun _ i _ => L.length - (intOf i).toNat)
  case atStart => exact ⟨0, Nat.zero_le _, rfl, by rw [List.take_zero]; exact ⟨[], World.ownsRow_made w C (L.length + 1) (Nat.le_refl _) (by simp only [maxLen]; omega) HC.out, rfl, Parts.nil _ _⟩, (Below.refl _ _).alloc (Nat.le_refl _) _⟩
  case round =>
    obtain ⟨k, hk, rfl, hown, hb⟩ := hrel
    by_cases hlt : k < L.length
    · obtain ⟨ad, Ak, ck, d, f, rfl, _, hdf, e0, e1, hrow, hdc, hcm, hd47⟩ := (HS.out.behind hb).get hlt
      have hL0 : (L.take k).length = k := by simp; omega
      obtain ⟨L0, HL0⟩ : ∃ L0, Hid (L.take k = L0) := ⟨_, rfl⟩
      rw [HL0.out] at hown hL0
      obtain ⟨vs, hv, hvl, hvs⟩ := hown
      have HV := Lib.hid hv
      have HVS := Lib.hid hvs
      have HVL := Lib.hid hvl
      have HL := Lib.hid hL0
      have HD := Lib.hid hdf
      have HR := Lib.hid hrow
      clear hv hvs hvl hL0 hdf hrow
      go_wp2_with fail
      go_region_held3 (fun w' => w'.cell? ⟨wr.heap.size, 0, none⟩ = some (.slice Ak d.length ck) ∧ w'.cell? ⟨wr.heap.size, 1, none⟩ = some (.bool f))
        (go_keep)
        ((first
          | (refine step_append_copy _ (by rfl) _ _ 26 (by rfl) 5 j0 _ 1 1 Try.underlying26 hj hy0 hy1 hy2 rfl (by decide) (wr.heap.size + 1) (by rfl) (Blk.new_at _ _ (by simp)).drew (by simp) S Ak d.length ck (bv d) (by rfl) (((HR.out.alloc _).alloc _).drew) (bv_one d) (by simp only [maxLen]; omega) (by omega) ?_; intro A1 c1 w1 hown1 hb1 _ _; have hbw : Below wr.heap.size wr w1 := ((((Below.refl _ wr).alloc (Nat.le_refl _) _).alloc (by simp) _).drew).trans (hb1.mono (by omega)); have hk0 : w1.cell? ⟨wr.heap.size, 0, none⟩ = some (.slice Ak d.length ck) := (hb1.cell (p := ⟨wr.heap.size, 0, none⟩) (Nat.lt_succ_self _)).trans ((((Blk.new wr 93 #[.slice Ak d.length ck, .bool f]).alloc (.cells #[] 5)).drew).cell 0); have hk1 : w1.cell? ⟨wr.heap.size, 1, none⟩ = some (.bool f) := (hb1.cell (p := ⟨wr.heap.size, 1, none⟩) (Nat.lt_succ_self _)).trans ((((Blk.new wr 93 #[.slice Ak d.length ck, .bool f]).alloc (.cells #[] 5)).drew).cell 1))
          | (refine step_append_out _ (by rfl) _ _ 30 (by rfl) w.heap.size 42 i0 _ 2 32 Try.underlying30 hi hz0 hz1 hz2 rfl (by decide) _ L0.length (stepCells vs) (by rfl) ((own_behind HV.out hbw).alloc _) _ (some ⟨w1.heap.size, 0, none⟩) 1 1 [.slice A1 d.length c1, .bool f] (by rfl) (Row.new w1 _ #[.slice A1 d.length c1, .bool f] 2 1 rfl) (by simp [Value.oneCell']) (by have := HL.out; simp only [maxLen]; omega) (by have := HL.out; omega) (by have := hb.size; have := hbw.size; simp; omega) ?_; intro A2 c2 w2 hown2 hgrow _ _; have hm0 := hgrow.cell (cell_alloc_keep hk0 _) (own_block_lt HV.out); have hm1 := hgrow.cell (cell_alloc_keep hk1 _) (own_block_lt HV.out))))
      go_wp2
      go_roundw
      case rel =>
        have hs := hb.size
        have hs1 := hbw.size
        refine ⟨k + 1, by omega, by go_num, ?_, ?_⟩
        · have e : L.take (k + 1) = L0 ++ [(d, f)] := by rw [List.take_add_one, HL0.out, HD.out]; rfl
          rw [e]
          refine OwnSteps.push (p := (.slice A1 d.length c1, f)) (by decide) hs HV.out HVL.out HVS.out (hbw.alloc hbw.size _) ?_ rfl hd47 hgrow hown2
          exact own_less (hown1.alloc _) (by omega)
        · exact ((hb.trans (hbw.mono hs)).alloc (by omega) _).grown hgrow (by simp; omega) (fun j e => (HV.out.lt j e).1)
      case measure => simp [intOf]; omega
    · have hkm : k = L.length := by omega
      subst hkm
      rw [List.take_length] at hown
      have HO := Lib.hid hown
      obtain ⟨A1, c1, rfl, _, _⟩ := hown.form
      clear hown
      go_wp2
      go_ret
      exact ⟨_, rfl, HO.out, hb⟩

end Go.Proofs.Ytadnceiohgjdhaa
