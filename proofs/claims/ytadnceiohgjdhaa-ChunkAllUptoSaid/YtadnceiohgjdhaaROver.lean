/-
  The contract of the reference's Over.
-/
import Derived.Test.YtadnceiohgjdhaaRRead
namespace Go.Proofs.Ytadnceiohgjdhaa
open Go.RowKit
set_option linter.unusedVariables false

set_option maxHeartbeats 8000000 in
set_option maxRecDepth 100000 in
theorem rsrcOver_any {S : Nat → Prop} {w : World} {g : Nat} {s : Src} (h : IsRSrc S w g s) : Calls Try.prog 32 #[.pointer (some ⟨g, 0, none⟩)] w fun e w' => e = .returned (.bool (s.endOf != 0)) ∧ Below w.heap.size w w' := by
  obtain ⟨A, c, hb, hS, hg, hok⟩ := h
  have hle := hok.1
  have x0 : w.cell? ⟨g, 0, none⟩ = some (.slice A s.L.length c) := hb.cell 0
  have x1 : w.cell? ⟨g, 1, none⟩ = some (.int .i64 s.step) := hb.cell 1
  have x2 : w.cell? ⟨g, 2, none⟩ = some (.int .i64 s.frm) := hb.cell 2
  have lg := hb.lt
  have adr : ∀ (W : World) (j : Nat) (o : Obj), (W.drewN j).alloc o = (W.alloc o).drewN j := fun _ _ _ => rfl
  by_cases hst : s.step = s.L.length
  · have q1 : ((s.step : Int) == (s.L.length : Int)) = true := by rw [beq_iff_eq]; omega
    rw [(Src.at_end hok hst 0).1]
    clear hb hS hg hok hst
    go_enter Try.func32, Try.ntmps32
    go_wp2_with fail
    go_quiet (fail)
    go_wp2_with fail
    go_ret
    exact ⟨rfl, below_drewN (Below.refl _ _) _⟩
  · have q1 : ((s.step : Int) == (s.L.length : Int)) = false := by rw [beq_eq_false_iff_ne]; omega
    have hlt : s.step < s.L.length := by omega
    have i0 : (0 : Int) ≤ (s.step : Int) := by omega
    have i1 : (s.step : Int) < (s.L.length : Int) := by omega
    obtain ⟨ad, Ak, ck, d, f, rfl, _, hdf, e0, e1, hrow, hdc, hcm, hd47⟩ := hS.get hlt
    have hfd := hok.2.1 d f hdf
    obtain ⟨z, hz⟩ : ∃ z : Bool, (f && ((s.frm : Int) == (d.length : Int))) = z := ⟨_, rfl⟩
    have hez : (s.endOf != 0) = z := by
      rw [← hz]
      by_cases h : f = true ∧ s.frm = d.length
      · obtain ⟨rfl, h⟩ := h
        rw [(Src.at_fail hdf h 0).1, h]
        simp
      · rw [Src.endOf_no hdf h]
        cases f with
        | false => rfl
        | true =>
          have : ((s.frm : Int) == (d.length : Int)) = false := by rw [beq_eq_false_iff_ne]; intro e; exact h ⟨rfl, by omega⟩
          simp [this]
    rw [hez]
    have HZ := Lib.hid hz
    have HB := Lib.hid hb
    have HW0 := Lib.hid (show Below w.heap.size w (w.alloc (.cells #[.slice Ak d.length ck, .bool f] 93)) from (Below.refl _ w).alloc (Nat.le_refl _) _)
    have y0 := (Blk.new w 93 #[.slice Ak d.length ck, .bool f]).cell 0
    have y1 := (Blk.new w 93 #[.slice Ak d.length ck, .bool f]).cell 1
    have hne : ¬ g = w.heap.size := by omega
    clear hb hS hg hok hdf hrow hst hle hz hez
    go_enter Try.func32, Try.ntmps32
    go_wp2_with fail
    go_quiet (fail)
    go_wp2_with fail
    refine wp_region_plan (S := fun w' => w'.cell? ⟨g, 0, none⟩ = some (.slice (some ad) s.L.length c) ∧ w'.cell? ⟨g, 1, none⟩ = some (.int .i64 s.step) ∧ w'.cell? (ad.add (s.step * 2)) = some (.slice Ak d.length ck) ∧ w'.cell? ⟨(ad.add (s.step * 2)).block, (ad.add (s.step * 2)).off + 1, none⟩ = some (.bool f)) 11
      [(0, true), (1, true), (2, true), (3, true), (4, true), (5, true), (6, true), (7, true), (8, true), (9, true), (10, false), (11, false)] (by kernel_rfl) (by kernel_rfl) ?_ (fun hHeld => ?_)
    · exact ⟨x0, x1, e0, e1⟩
    iterate 10 (refine plan_take (v := ?_) rfl (by assumption) rfl (fun _ _ _ h => h) ?_ ?_; rotate_left; · (intro w hSw; (try dsimp only at hSw); go_simp; try with_reducible rfl); all_goals (simp only [Act.put, List.setIfInBounds_toArray, List.set_cons_zero, List.set_cons_succ]))
    refine plan_op rfl (by decide) (fun K hK => ?_)
    go_simp
    refine hK.out _ _ ?_ (fun hHeld => ?_)
    · exact ⟨cell_alloc_keep x0 _, cell_alloc_keep x1 _, cell_alloc_keep e0 _, cell_alloc_keep e1 _⟩
    clear hK K
    refine plan_last rfl (by decide) (fun K hK => ?_)
    go_simp
    refine hK.out _ _ ?_
    clear hK K
    simp only [wpPlan]
    go_wp2_with fail
    have x2' : (w.alloc (.cells #[.slice Ak d.length ck, .bool f] 93)).cell? ⟨g, 2, none⟩ = some (.int .i64 s.frm) := cell_alloc_keep x2 _
    cases f with
    | false =>
      go_quiet (fail)
      go_wp2_with fail
      go_ret
      have := HZ.out
      exact ⟨by simpa using this.symm, below_drewN (((below_drewN ((Below.refl _ w).alloc (Nat.le_refl _) _) _).setCell (p := ⟨w.heap.size, 0, none⟩) (Nat.le_refl _) _).setCell (p := ⟨w.heap.size, 1, none⟩) (Nat.le_refl _) _) _⟩
    | true =>
      cases q3 : ((s.frm : Int) == (d.length : Int)) with
      | false =>
        go_quiet (fail)
        go_wp2_with fail
        go_ret
        have := HZ.out
        rw [q3] at this
        exact ⟨by simpa using this.symm, below_drewN (((below_drewN ((Below.refl _ w).alloc (Nat.le_refl _) _) _).setCell (p := ⟨w.heap.size, 0, none⟩) (Nat.le_refl _) _).setCell (p := ⟨w.heap.size, 1, none⟩) (Nat.le_refl _) _) _⟩
      | true =>
        go_quiet (fail)
        go_wp2_with fail
        go_ret
        have := HZ.out
        rw [q3] at this
        exact ⟨by simpa using this.symm, below_drewN (((below_drewN ((Below.refl _ w).alloc (Nat.le_refl _) _) _).setCell (p := ⟨w.heap.size, 0, none⟩) (Nat.le_refl _) _).setCell (p := ⟨w.heap.size, 1, none⟩) (Nat.le_refl _) _) _⟩

end Go.Proofs.Ytadnceiohgjdhaa
