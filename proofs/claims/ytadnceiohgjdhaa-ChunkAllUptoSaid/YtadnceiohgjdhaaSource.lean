/-
  Sources: as plain data, in memory, and made.
-/
import Derived.Test.YtadnceiohgjdhaaCut
import Derived.Test.YtadnceiohgjdhaaLarge
import Derived.Test.YtadnceiohgjdhaaPlan
import Derived.Deep.RegionHeld3
namespace Go.Proofs.Ytadnceiohgjdhaa
open Go.RowKit
set_option linter.unusedVariables false

/-- A source: its script, the step at hand, how many of its bytes were told, how many of all. -/
structure Src where
  L : List Stp
  step : Nat
  frm : Nat
  told : Nat
/-- What holds of every source. -/
def Src.ok (s : Src) : Prop :=
  s.step ≤ s.L.length ∧ (∀ d f, s.L[s.step]? = some (d, f) → s.frm ≤ d.length) ∧ (s.step = s.L.length → s.frm = 0) ∧ s.told = total (s.L.take s.step) + s.frm ∧ total s.L ≤ 1073741824 ∧ s.L.length ≤ 1073741824
def Src.new (L : List Stp) : Src := ⟨L, 0, 0, 0⟩
theorem Src.new_ok {L : List Stp} (h1 : total L ≤ 1073741824) (h2 : L.length ≤ 1073741824) : (Src.new L).ok :=
  ⟨Nat.zero_le _, fun _ _ _ => Nat.zero_le _, fun _ => rfl, by simp [Src.new, total], h1, h2⟩

/-- A source of the program at block g, its script in S. -/
def IsSrc (S : Nat → Prop) (w : World) (g : Nat) (s : Src) : Prop :=
  ∃ A c, Blk w g 72 #[.slice A s.L.length c, .int .i64 s.step, .int .i64 s.frm, .int .i64 s.told, .bool true] ∧ Steps S w A s.L.length s.L ∧ ¬ S g ∧ s.ok
/-- A source of the reference. -/
def IsRSrc (S : Nat → Prop) (w : World) (g : Nat) (s : Src) : Prop :=
  ∃ A c, Blk w g 58 #[.slice A s.L.length c, .int .i64 s.step, .int .i64 s.frm, .int .i64 s.told] ∧ Steps S w A s.L.length s.L ∧ ¬ S g ∧ s.ok
section
variable {S T : Nat → Prop} {w w' : World} {g : Nat} {s : Src}
theorem IsSrc.keep (h : IsSrc S w g s) (hk : Keep T w w') (hg : ¬ T g) (hS : ∀ k, S k → ¬ T k) : IsSrc S w' g s := by
  obtain ⟨A, c, h1, h2, h3, h4⟩ := h
  exact ⟨A, c, h1.keep hk hg, h2.keep hk hS, h3, h4⟩
theorem IsSrc.behind (h : IsSrc S w g s) (hb : Below w.heap.size w w') : IsSrc S w' g s := h.keep (Keep.of_below hb (fun _ => False)) id (fun _ _ => id)
theorem IsSrc.lt (h : IsSrc S w g s) : g < w.heap.size := by
  obtain ⟨A, c, h1, _⟩ := h
  exact h1.lt
theorem IsRSrc.keep (h : IsRSrc S w g s) (hk : Keep T w w') (hg : ¬ T g) (hS : ∀ k, S k → ¬ T k) : IsRSrc S w' g s := by
  obtain ⟨A, c, h1, h2, h3, h4⟩ := h
  exact ⟨A, c, h1.keep hk hg, h2.keep hk hS, h3, h4⟩
theorem IsRSrc.behind (h : IsRSrc S w g s) (hb : Below w.heap.size w w') : IsRSrc S w' g s := h.keep (Keep.of_below hb (fun _ => False)) id (fun _ _ => id)
theorem IsRSrc.lt (h : IsRSrc S w g s) : g < w.heap.size := by
  obtain ⟨A, c, h1, _⟩ := h
  exact h1.lt
end

/-- What New gives. -/
def NewGives (L : List Stp) (w : World) (v : Value) (w' : World) : Prop :=
  Below w.heap.size w w' ∧ ((large L = true ∧ v = .tuple #[.pointer none, .int .i64 24]) ∨
    (large L = false ∧ ∃ g, v = .tuple #[.pointer (some ⟨g, 0, none⟩), .int .i64 0] ∧ w.heap.size ≤ g ∧ IsSrc (fun k => g < k ∧ k < w'.heap.size) w' g (Src.new L)))

set_option maxHeartbeats 8000000 in
set_option maxRecDepth 100000 in
theorem new_any (S : Nat → Prop) (A : Option Addr) (n c : Nat) (L : List Stp) (w : World) (hS : Steps S w A n L) (hn : n ≤ 140737488355328) :
    Calls Try.prog 25 #[.slice A n c] w (Gives (NewGives L w)) := by
  obtain ⟨i0, hi, hz0, hz1, hz2⟩ := info_parts astep_info
  have hl := hS.1
  subst hl
  have HS := Lib.hid hS
  clear hS
  cases hlg : large L with
  | true =>
    have k1 := fun (S : Nat → Prop) W h => fits_any S A L.length c L W h hn
    rw [hlg] at k1
    have K1 := Lib.hid k1
    have hlt := Lib.hid hlg
    clear k1 hlg
    go_enter Try.func25, Try.ntmps25
    go_wp2_with (go_at_call 45; refine (K1.out _ _ HS.out).mono ?_; rintro e w1 ⟨rfl, hb1⟩)
    go_ret2
    exact ⟨_, rfl, hb1, .inl ⟨hlt.out, rfl⟩⟩
  | false =>
    have k1 := fun (S : Nat → Prop) W h => fits_any S A L.length c L W h hn
    rw [hlg] at k1
    have K1 := Lib.hid k1
    have HN := Lib.hid (large_not hlg)
    have hlt0 := Lib.hid hlg
    clear k1 hlg
    go_enter Try.func25, Try.ntmps25
    go_wp2_with (go_at_call 45; refine (K1.out _ _ HS.out).mono ?_; rintro e w1 ⟨rfl, hb1⟩)
    obtain ⟨g, hg⟩ : ∃ g, Hid (w1.heap.size = g) := ⟨_, rfl⟩
    have hwg : w.heap.size ≤ g := by rw [← hg.out]; exact hb1.size
    go_loopw [14] (fun i wr => ∃ (k : Nat) (v : Value), k ≤ L.length ∧ i = .int .i64 k ∧ Hid (Blk wr w1.heap.size 72 #[v, .int .i64 0, .int .i64 0, .int .i64 0, .bool true]) ∧ Hid (OwnSteps 42 (w1.heap.size + 1) wr v (L.take k)) ∧ Below w.heap.size w wr) (fun i _ => L.length - (intOf i).toNat)
    case atStart => exact ⟨0, _, Nat.zero_le _, (by first | rfl | trivial), Blk.new w1 _ _, by rw [List.take_zero]; exact OwnSteps.nil _ _ _, hb1.alloc hb1.size _⟩
    case round =>
      obtain ⟨k, v, hk, rfl, HB, HO, hb⟩ := hrel
      by_cases hlt : k < L.length
      · obtain ⟨ad, Ak, ck, d, f, rfl, _, hdf, e0, e1, hrow, hdc, hcm, hd47⟩ := (HS.out.behind hb).get hlt
        have hL0 : (L.take k).length = k := by simp; omega
        obtain ⟨L0, HL0⟩ : ∃ L0, Hid (L.take k = L0) := ⟨_, rfl⟩
        have hown := HO.out
        rw [HL0.out] at hown hL0
        obtain ⟨Av, cv, hv0, _, _⟩ := hown.form
        subst hv0
        obtain ⟨vs, hv, hvl, hvs⟩ := hown
        have HV := Lib.hid hv
        have HVS := Lib.hid hvs
        have HVL := Lib.hid hvl
        have HL := Lib.hid hL0
        have HD := Lib.hid hdf
        have HR := Lib.hid hrow
        have lg := HB.out.lt
        have x0 : wr.cell? ⟨w1.heap.size, 0, none⟩ = some (.slice Av L0.length cv) := HB.out.cell 0
        clear hv hvs hvl hL0 hdf hrow HO
        go_wp2_with fail
        refine wp_region_plan (S := fun w' => w'.cell? ⟨w1.heap.size, 0, none⟩ = some (.slice Av L0.length cv) ∧ w'.cell? ⟨wr.heap.size, 0, none⟩ = some (.slice Ak d.length ck) ∧ w'.cell? ⟨wr.heap.size, 1, none⟩ = some (.bool f)) 13
          [(0, true), (1, true), (2, true), (3, true), (4, true), (5, true), (6, true), (8, true), (9, true), (7, false), (10, true), (11, false), (12, false), (13, false), (14, false), (15, false)] (by kernel_rfl) (by kernel_rfl) ?_ (fun hHeld => ?_)
        · go_keep
        iterate 9 (refine plan_take (v := ?_) rfl (by assumption) rfl (fun _ _ _ h => h) ?_ ?_; rotate_left; · (intro w hSw; (try dsimp only at hSw); go_simp; try with_reducible rfl); all_goals (simp only [Act.put, List.setIfInBounds_toArray, List.set_cons_zero, List.set_cons_succ]))
        -- the call of Clone
        refine plan_op rfl (by decide) (fun K hK => ?_)
        go_simp
        refine (clone_any S Ak d.length ck d _ ((HR.out.alloc _).drew) hd47).mono ?_
        rintro e w2 ⟨v1, rfl, hown1, hb2⟩
        obtain ⟨A1, c1, rfl, _, _⟩ := own_slice hown1
        have hbw : Below wr.heap.size wr w2 := (((Below.refl _ wr).alloc (Nat.le_refl _) _).drew).trans (hb2.mono (by simp))
        have s0 : w2.cell? ⟨w1.heap.size, 0, none⟩ = some (.slice Av L0.length cv) := (hbw.cell (p := ⟨w1.heap.size, 0, none⟩) lg).trans x0
        have s1 : w2.cell? ⟨wr.heap.size, 0, none⟩ = some (.slice Ak d.length ck) := (hb2.cell (p := ⟨wr.heap.size, 0, none⟩) (by simp)).trans (((Blk.new wr 42 #[.slice Ak d.length ck, .bool f]).drew).cell 0)
        have s2 : w2.cell? ⟨wr.heap.size, 1, none⟩ = some (.bool f) := (hb2.cell (p := ⟨wr.heap.size, 1, none⟩) (by simp)).trans (((Blk.new wr 42 #[.slice Ak d.length ck, .bool f]).drew).cell 1)
        dsimp only
        refine hK.out _ _ ⟨s0, s1, s2⟩ (fun hHeld => ?_)
        clear hK K
        refine plan_take (v := ?_) rfl (by assumption) rfl (fun _ _ _ h => h) ?_ ?_; rotate_left; · (intro w hSw; (try dsimp only at hSw); go_simp; try with_reducible rfl)
        all_goals (simp only [Act.put, List.setIfInBounds_toArray])
        refine plan_op rfl (by decide) (fun K hK => ?_)
        go_simp
        refine hK.out _ _ ?_ (fun hHeld => ?_)
        · exact ⟨cell_alloc_keep s0 _, cell_alloc_keep s1 _, cell_alloc_keep s2 _⟩
        clear hK K
        refine plan_op rfl (by decide) (fun K hK => ?_)
        refine step_append_out _ (by rfl) _ _ 30 (by rfl) (w1.heap.size + 1) 42 i0 _ 2 32 Try.underlying30 hi hz0 hz1 hz2 rfl (by decide) _ L0.length (stepCells vs) (by rfl) ((own_behind HV.out hbw).alloc _) _ (some ⟨w2.heap.size, 0, none⟩) 1 1 [.slice A1 d.length c1, .bool f] (by rfl) (Row.new w2 _ #[.slice A1 d.length c1, .bool f] 2 1 rfl) (by simp [Value.oneCell']) (by have := HL.out; simp only [maxLen]; omega) (by have := HL.out; have := HN.out; omega) (by have := hbw.size; simp; omega) ?_
        intro A2 c2 w3 hown3 hgrow _ _
        have hne : some w1.heap.size ≠ (Value.slice Av L0.length cv).ownBlock := fun e => by have := (HV.out.lt _ e.symm).1; omega
        have B2 := HB.out.below hbw lg
        have B3 := Lib.hid (show Blk w3 w1.heap.size 72 #[.slice Av L0.length cv, .int .i64 0, .int .i64 0, .int .i64 0, .bool true] from (hgrow.block _ (B2.alloc _).lt hne).trans (B2.alloc _))
        have t0 := hgrow.cell (cell_alloc_keep s0 (.cells #[.slice A1 d.length c1, .bool f] 42)) hne
        have t1 := hgrow.cell (cell_alloc_keep s1 (.cells #[.slice A1 d.length c1, .bool f] 42)) (own_block_lt HV.out)
        have t2 := hgrow.cell (cell_alloc_keep s2 (.cells #[.slice A1 d.length c1, .bool f] 42)) (own_block_lt HV.out)
        have f0 := B3.out.frozen 0
        refine hK.out _ _ ⟨t0, t1, t2⟩ (fun hHeld => ?_)
        clear hK K B2
        iterate 3 (refine plan_last rfl (by decide) (fun K hK => ?_); go_simp; refine hK.out _ _ ?_; clear hK K)
        simp only [wpPlan]
        go_wp2
        go_roundw
        case rel =>
          have hs1 := hbw.size
          refine ⟨k + 1, .slice A2 (L0.length + 1) c2, by omega, by go_num, B3.out.set_ 0 _, ?_, ?_⟩
          · have e : L.take (k + 1) = L0 ++ [(d, f)] := by rw [List.take_add_one, HL0.out, HD.out]; rfl
            rw [e]
            have hpush := OwnSteps.push (T := 42) (p := (.slice A1 d.length c1, f)) (s := (d, f)) (by decide) (Nat.succ_le_of_lt lg) HV.out HVL.out HVS.out (hbw.alloc hbw.size _) (own_less (hown1.alloc _) (by simp)) rfl hd47 hgrow hown3
            exact hpush.keep ((Keep.refl (fun k => k = w1.heap.size) w3).setCell (p := ⟨w1.heap.size, 0, none⟩) (.inl rfl) _) (fun k h1 h2 h3 => by omega)
          · have := hb.size
            have := hb1.size
            exact (((hb.trans (hbw.mono hb.size)).alloc (by omega) _).grown hgrow (by simp; omega) (fun j e => by have := (HV.out.lt j e).1; omega)).setCell (p := ⟨w1.heap.size, 0, none⟩) hb1.size _
        case measure => simp [intOf]; omega
      · have hkm : k = L.length := by omega
        subst hkm
        have ho := HO.out
        rw [List.take_length] at ho
        obtain ⟨Av, cv, rfl, _, _⟩ := ho.form
        have HO2 := Lib.hid ho
        clear ho HO
        go_wp2
        go_ret2
        refine ⟨_, rfl, hb, .inr ⟨hlt0.out, w1.heap.size, rfl, hb1.size, Av, cv, HB.out, ?_, Nat.lt_irrefl _ ∘ And.left, Src.new_ok (by have := HN.out; omega) (by have := HN.out; omega)⟩⟩
        exact HO2.out.steps.more (fun k h1 h2 => ⟨h2, h1⟩)

end Go.Proofs.Ytadnceiohgjdhaa
