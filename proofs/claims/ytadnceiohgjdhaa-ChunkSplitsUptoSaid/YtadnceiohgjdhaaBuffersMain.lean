/-
  ChunkBuffers: the walk where a buffer is made.
-/
import Derived.Test.YtadnceiohgjdhaaBuffersWalk
namespace Go.Proofs.Ytadnceiohgjdhaa
open Go.RowKit
set_option linter.unusedVariables false
set_option linter.unusedSimpArgs false

theorem Both.drewN {w : World} {b g rb rg : Nat} {S SR H HR : Nat → Prop} {x y : Buf} (h : Both w b g rb rg S SR H HR x y) (q : Nat) : Both (w.drewN q) b g rb rg S SR H HR x y :=
  h.keep (Keep.drewN (Keep.refl (fun _ => False) _) _) (fun _ _ => id)
/-- Where the two buffers lie. -/
def BothFrom (lo : Nat) (b g rb rg : Nat) (S SR H HR : Nat → Prop) : Prop := ∀ k, BothAll b g rb rg S SR H HR k → lo ≤ k
theorem BothFrom.next {lo hi b g rb rg : Nat} {S SR H HR H' HR' : Nat → Prop} (h : BothFrom lo b g rb rg S SR H HR) (hl : lo ≤ hi) (h1 : ∀ k, H' k → H k ∨ hi ≤ k) (h2 : ∀ k, HR' k → HR k ∨ hi ≤ k) : BothFrom lo b g rb rg S SR H' HR' := by
  rintro k ((hk | hk | hk | hk) | hk | hk | hk | hk)
  · exact h k (.inl (.inl hk))
  · exact h k (.inl (.inr (.inl hk)))
  · exact h k (.inl (.inr (.inr (.inl hk))))
  · rcases h1 k hk with h3 | h3
    · exact h k (.inl (.inr (.inr (.inr h3))))
    · omega
  · exact h k (.inr (.inl hk))
  · exact h k (.inr (.inr (.inl hk)))
  · exact h k (.inr (.inr (.inr (.inl hk))))
  · rcases h2 k hk with h3 | h3
    · exact h k (.inr (.inr (.inr (.inr h3))))
    · omega

theorem below_trans_keep {T : Nat → Prop} {a w w' : World} (h : Below a.heap.size a w) (hk : Keep T w w') (hT : ∀ k, T k → a.heap.size ≤ k) : Below a.heap.size a w' :=
  h.trans (hk.below h.size (fun i hi hT' => by have := hT i hT'; omega))
section
variable (A B : Option Addr) (n c m d : Nat) (z : Nat) (L : List Stp) (acts : List (Int × Int)) (w : World)

set_option maxHeartbeats 16000000 in
set_option maxRecDepth 100000 in
theorem chunkBuffers_main (hA : Steps (fun k => k < w.heap.size) w A n L) (hB : Acts (fun k => k < w.heap.size) w B m acts) (hn : n ≤ 1048576) (hm : m ≤ 1048576) (ht : total L ≤ 1048576) (hlg : large L = false) (h1 : 1 ≤ z) (h2 : z ≤ 16777216) :
    Calls Try.prog 11 #[.slice A n c, .int .i64 z, .slice B m d] w fun e w' => e = .returned (.bool true) ∧ Below w.heap.size w w' := by
  have hLn := hA.1
  have k1 := fun (S : Nat → Prop) W h => steps_any S A n c L W h (by omega)
  have k2 := fun (S : Nat → Prop) A' c' W h => new_any S A' n c' L W h (by omega)
  have k3 := fun (S : Nat → Prop) W h => large_any S A n c L W h (by omega)
  have k5 := fun (S : Nat → Prop) W h => rnew_any S A n c L W h (by omega) (by omega)
  have hok : (Src.new L).ok := Src.new_ok (by omega) (by omega)
  rw [hlg] at k3
  have K1 := Lib.hid k1
  have K2 := Lib.hid k2
  have K3 := Lib.hid k3
  have K5 := Lib.hid k5
  have HA := Lib.hid hA
  have HB := Lib.hid hB
  have HLn := Lib.hid hLn
  have HLG := Lib.hid hlg
  have HOK := Lib.hid hok
  have d1 : decide ((z : Int) < 1) = false := by simp; omega
  have d2 : decide (16777216 < (z : Int)) = false := by simp; omega
  have d3 : decide (z < 1) = false := by simp; omega
  have d4 : decide (16777216 < z) = false := by simp; omega
  clear k1 k2 k3 k5 hA hB hLn hlg ht hok
  go_enter Try.func11, Try.ntmps11
  go_wp2_with fail
  refine (K1.out _ _ HA.out).mono ?_
  rintro e w1 ⟨vx, rfl, hx, hb1⟩
  obtain ⟨Ax, cx, hvx, _, _⟩ := hx.form
  rw [HLn.out] at hvx
  subst hvx
  have Hx := Lib.hid hx
  have B1 := Lib.hid hb1
  have l1 := hb1.size
  clear hx hb1
  go_wp2_with fail
  refine (K2.out _ _ _ _ Hx.out.steps).mono ?_
  rintro e w2 ⟨v, rfl, hb2, hcase⟩
  rcases hcase with ⟨hf, _⟩ | ⟨_, g, rfl, hg, hsrc⟩
  case inl => have := HLG.out; rw [hf] at this; cases this
  have B2 := Lib.hid (B1.out.trans (hb2.mono B1.out.size))
  have G2 := Lib.hid hsrc
  have g2 := hsrc.lt
  have l2 := hb2.size
  clear hb2 hsrc
  go_wp2_with fail
  refine (newBuffer_any z G2.out HOK.out rfl (fun k h => h.2) h1 h2).mono ?_
  rintro e w3 ⟨rfl, hbuf, hb3, hs3⟩
  have hq := eql_buf w2.heap.size
  have F3 := Lib.hid hbuf
  have B3 := Lib.hid (B2.out.trans (hb3.mono B2.out.size))
  have l3 := hb3.size
  clear hbuf hb3
  go_wp2_with (first
    | (go_at_call 26; refine (K3.out _ _ (HA.out.behind B3.out)).mono ?_; rintro e w4 ⟨rfl, hb4⟩)
    | (go_at_call 13; refine (num_any _ _).mono ?_; rintro e w4 ⟨rfl, rfl⟩)
    | fail)
  have F4 := Lib.hid (F3.out.behind hb4)
  have B4 := Lib.hid (B3.out.trans (hb4.mono B3.out.size))
  have l4 := hb4.size
  clear hb4 F3 B3
  refine (K5.out _ _ (HA.out.behind B4.out)).mono ?_
  rintro e w5 ⟨v, rfl, hb5, r, rfl, hr, hrs⟩
  have F5 := Lib.hid (F4.out.behind hb5)
  have B5 := Lib.hid (B4.out.trans (hb5.mono B4.out.size))
  have R5 := Lib.hid hrs
  have r5 := hrs.lt
  have l5 := hb5.size
  have hR : IsRBuf (fun _ => False) (fun k => r < k ∧ k < w5.heap.size) (w5.alloc (.cells #[.pointer (some ⟨r, 0, none⟩), .int .i64 z, .slice none 0 0, .int .i64 0] 85)) w5.heap.size r (Buf.new (Src.new L) z) :=
    ⟨⟨none, 0, Blk.new w5 _ _, Win.nil⟩, hrs.behind ((Below.refl _ w5).alloc (Nat.le_refl _) _), by omega, fun h => by omega, fun k h => by simp; omega, fun _ h => h.elim, HOK.out, h1, h2, Nat.zero_le _, rfl⟩
  have hFb := (F5.out.behind ((Below.refl _ w5).alloc (Nat.le_refl _) (.cells #[.pointer (some ⟨r, 0, none⟩), .int .i64 z, .slice none 0 0, .int .i64 0] 85)))
  have hBoth : Both (w5.alloc (.cells #[.pointer (some ⟨r, 0, none⟩), .int .i64 z, .slice none 0 0, .int .i64 0] 85)) w2.heap.size g w5.heap.size r (fun k => g < k ∧ k < w2.heap.size) (fun k => r < k ∧ k < w5.heap.size) (fun _ => False) (fun _ => False) (Buf.new (Src.new L) z) (Buf.new (Src.new L) z) :=
    ⟨hFb, hR, fun k h0 h3 => by rcases h0 with h0 | h0 | h0 | h0 <;> rcases h3 with h3 | h3 | h3 | h3 <;> first | omega | exact h3 | exact h0⟩
  have hFrom : BothFrom w.heap.size w2.heap.size g w5.heap.size r (fun k => g < k ∧ k < w2.heap.size) (fun k => r < k ∧ k < w5.heap.size) (fun _ => False) (fun _ => False) := by
    rintro k ((h0 | h0 | h0 | h0) | h0 | h0 | h0 | h0) <;> first | omega | exact h0.elim
  obtain ⟨b, hb⟩ : ∃ b, b = w2.heap.size := ⟨_, rfl⟩
  obtain ⟨rb, hrb⟩ : ∃ rb, rb = w5.heap.size := ⟨_, rfl⟩
  generalize (fun k => g < k ∧ k < w2.heap.size) = S at hBoth hFrom
  generalize (fun k => r < k ∧ k < w5.heap.size) = SR at hBoth hFrom
  have BO := Lib.hid hBoth
  have FR := Lib.hid hFrom
  clear hb5 hrs F4 B4 F5 R5 K5 K3 hR hFb hBoth hFrom
  go_wp2_with fail
  go_loopw [78] (fun i wr => ∃ (k : Nat) (x : Buf) (H HR : Nat → Prop), k ≤ m ∧ i = .int .i64 k ∧ Hid (Both wr w2.heap.size g w5.heap.size r S SR H HR x x) ∧ Hid (BothFrom w.heap.size w2.heap.size g w5.heap.size r S SR H HR) ∧ Hid (Below w.heap.size w wr)) (fun i _ => m - (intOf i).toNat)
  case atStart => exact ⟨0, _, _, _, Nat.zero_le _, rfl, BO.out, FR.out, (B5.out.alloc B5.out.size _)⟩
  case round =>
    clear BO FR B5
    obtain ⟨k, x, H, HR, hk, rfl, HBO, HFR, HW⟩ := hrel
    by_cases hlt : k < m
    · obtain ⟨bd, kd, num, rfl, hbd, _, e1, e2⟩ := (HB.out.behind (fun k h => h) HW.out).get hlt
      have i0 : (0 : Int) ≤ (k : Int) := by omega
      have i1 : (k : Int) < (m : Int) := by omega
      have lwr := HW.out.size
      have hbd' : bd.block < wr.heap.size := by omega
      go_wp2_with fail
      have HBN := Lib.hid (HBO.out.behind ((Below.refl _ wr).alloc (Nat.le_refl _) (.cells #[.int .i64 kd, .int .i64 num] 87)))
      have HAL := Lib.hid HBO.out.all_lt
      have s0 : (wr.alloc (.cells #[.int .i64 kd, .int .i64 num] 87)).cell? ⟨wr.heap.size, 0, none⟩ = some (.int .i64 kd) := (Blk.new wr _ _).cell 0
      have s1 : (wr.alloc (.cells #[.int .i64 kd, .int .i64 num] 87)).cell? ⟨wr.heap.size, 1, none⟩ = some (.int .i64 num) := (Blk.new wr _ _).cell 1
      refine wp_region_stage (fun w' => w'.cell? ⟨wr.heap.size, 0, none⟩ = some (.int .i64 kd) ∧ w'.cell? ⟨wr.heap.size, 1, none⟩ = some (.int .i64 num)) 3 36 [0, 1, 2]
        [(4, true), (5, true), (6, true), (8, true), (9, true), (10, true), (11, true), (12, true), (7, false), (13, true), (14, true), (15, true), (16, true), (18, true), (19, true), (20, true), (21, true), (17, false), (22, true), (23, true), (24, true), (25, true), (27, true), (28, true), (29, true), (30, true), (31, true), (32, true), (33, true), (26, false), (34, true), (35, true)] (by kernel_rfl) (by kernel_rfl) ?_ (fun hHeld => ?_)
      · exact ⟨s0, s1⟩
      iterate 3 (refine stage_take (v := ?_) rfl (by assumption) rfl (fun _ _ _ h => h) ?_ ?_; rotate_left; (· (intro w hSw; (try dsimp only at hSw); go_simp; try with_reducible rfl)); all_goals (simp only [Act.put, List.getElem_toArray, List.getElem_cons_zero, List.getElem_cons_succ, List.setIfInBounds_toArray, List.set_cons_zero, List.set_cons_succ]))
      refine stage_op rfl (fun K hK => ?_)
      go_simp
      refine (acted_any kd num (HBN.out.drewN 1)).mono ?_
      rintro e w6 ⟨rfl, x', H', HR', hb6, hH6, hR6, hk6⟩
      have HB6 := Lib.hid hb6
      have l6 : wr.heap.size + 1 ≤ w6.heap.size := by simpa using hk6.size
      have HF6 := Lib.hid (HFR.out.next (hi := wr.heap.size + 1) (by omega) (fun k h => (hH6 k h).imp id (fun h => by simpa using h)) (fun k h => (hR6 k h).imp id (fun h => by simpa using h)))
      have HW6 := Lib.hid (below_trans_keep HW.out ((((Keep.refl (BothAll w2.heap.size g w5.heap.size r S SR H HR) wr).alloc (.cells #[.int .i64 kd, .int .i64 num] 87)).drewN 1).trans hk6) HFR.out)
      obtain ⟨Ar, cr, hrb, _⟩ := hb6.r.blk
      have t0 : w6.cell? ⟨w5.heap.size, 0, none⟩ = some (.pointer (some ⟨r, 0, none⟩)) := hrb.cell 0
      have t2 : w6.cell? ⟨w5.heap.size, 2, none⟩ = some (.slice Ar x'.held.length cr) := hrb.cell 2
      have t3 : w6.cell? ⟨w5.heap.size, 3, none⟩ = some (.int .i64 x'.taken) := hrb.cell 3
      have t4 : w6.cell? ⟨r, 3, none⟩ = some (.int .i64 x'.src.told) := hb6.r.src.told
      clear hb6 hH6 hR6 hk6 hrb s0 s1 e1 e2
      dsimp only
      refine hK.out _ _ ⟨fun w' => w'.cell? ⟨w5.heap.size, 0, none⟩ = some (.pointer (some ⟨r, 0, none⟩)) ∧ w'.cell? ⟨w5.heap.size, 2, none⟩ = some (.slice Ar x'.held.length cr) ∧ w'.cell? ⟨w5.heap.size, 3, none⟩ = some (.int .i64 x'.taken) ∧ w'.cell? ⟨r, 3, none⟩ = some (.int .i64 x'.src.told), ⟨t0, t2, t3, t4⟩, fun hHeld => ?_⟩
      clear hK K
      iterate 8 (refine plan_take (v := ?_) rfl (by assumption) rfl (fun _ _ _ h => h) ?_ ?_; rotate_left; (· (intro w hSw; (try dsimp only at hSw); go_simp; try with_reducible rfl)); all_goals (simp only [Act.put, List.getElem_toArray, List.getElem_cons_zero, List.getElem_cons_succ, List.setIfInBounds_toArray, List.set_cons_zero, List.set_cons_succ]))
      refine plan_op rfl (by decide) (fun K hK => ?_)
      go_simp
      refine (bufHas_any HB6.out.p).mono ?_
      rintro e w7 ⟨rfl, rfl⟩
      dsimp only
      refine hK.out _ _ ⟨t0, t2, t3, t4⟩ (fun hHeld => ?_)
      clear hK K
      iterate 8 (refine plan_take (v := ?_) rfl (by assumption) rfl (fun _ _ _ h => h) ?_ ?_; rotate_left; (· (intro w hSw; (try dsimp only at hSw); go_simp; try with_reducible rfl)); all_goals (simp only [Act.put, List.getElem_toArray, List.getElem_cons_zero, List.getElem_cons_succ, List.setIfInBounds_toArray, List.set_cons_zero, List.set_cons_succ]))
      refine plan_op rfl (by decide) (fun K hK => ?_)
      go_simp
      refine (bufTaken_any HB6.out.p).mono ?_
      rintro e w7 ⟨rfl, rfl⟩
      dsimp only
      refine hK.out _ _ ⟨t0, t2, t3, t4⟩ (fun hHeld => ?_)
      clear hK K
      iterate 11 (refine plan_take (v := ?_) rfl (by assumption) rfl (fun _ _ _ h => h) ?_ ?_; rotate_left; (· (intro w hSw; (try dsimp only at hSw); go_simp; try with_reducible rfl)); all_goals (simp only [Act.put, List.getElem_toArray, List.getElem_cons_zero, List.getElem_cons_succ, List.setIfInBounds_toArray, List.set_cons_zero, List.set_cons_succ]))
      refine plan_op rfl (by decide) (fun K hK => ?_)
      go_simp
      refine (srcTold_any HB6.out.p.src).mono ?_
      rintro e w7 ⟨rfl, rfl⟩
      dsimp only
      refine hK.out _ _ ⟨t0, t2, t3, t4⟩ (fun hHeld => ?_)
      clear hK K
      iterate 2 (refine plan_take (v := ?_) rfl (by assumption) rfl (fun _ _ _ h => h) ?_ ?_; rotate_left; (· (intro w hSw; (try dsimp only at hSw); go_simp; try with_reducible rfl)); all_goals (simp only [Act.put, List.getElem_toArray, List.getElem_cons_zero, List.getElem_cons_succ, List.setIfInBounds_toArray, List.set_cons_zero, List.set_cons_succ]))
      simp only [wpPlan]
      go_wp2_with fail
      go_roundw
      case rel => exact ⟨k + 1, x', H', HR', by omega, by go_num, HB6.out, HF6.out, HW6.out⟩
      case measure => simp [intOf]; omega
    · obtain ⟨Ar, cr, hrb, _⟩ := HBO.out.r.blk
      have t2 : wr.cell? ⟨w5.heap.size, 2, none⟩ = some (.slice Ar x.held.length cr) := hrb.cell 2
      have t3 : wr.cell? ⟨w5.heap.size, 3, none⟩ = some (.int .i64 x.taken) := hrb.cell 3
      have lrb := hrb.lt
      clear hrb
      go_wp2_with fail
      refine wp_region_plan (S := fun w' => w'.cell? ⟨w5.heap.size, 2, none⟩ = some (.slice Ar x.held.length cr) ∧ w'.cell? ⟨w5.heap.size, 3, none⟩ = some (.int .i64 x.taken)) 20
        [(0, true), (2, true), (3, true), (4, true), (5, true), (6, true), (1, false), (7, true), (8, true), (9, true), (11, true), (12, true), (13, true), (14, true), (10, false), (15, true), (16, true), (17, true), (18, false), (19, true), (20, false)] (by kernel_rfl) (by kernel_rfl) ?_ (fun hHeld => ?_)
      · exact ⟨t2, t3⟩
      iterate 6 (refine plan_take (v := ?_) rfl (by assumption) rfl (fun _ _ _ h => h) ?_ ?_; rotate_left; (· (intro w hSw; (try dsimp only at hSw); go_simp; try with_reducible rfl)); all_goals (simp only [Act.put, List.getElem_toArray, List.getElem_cons_zero, List.getElem_cons_succ, List.setIfInBounds_toArray, List.set_cons_zero, List.set_cons_succ]))
      refine plan_op rfl (by decide) (fun K hK => ?_)
      go_simp
      refine (bufHas_any (HBO.out.drewN 1).p).mono ?_
      rintro e w7 ⟨rfl, rfl⟩
      dsimp only
      refine hK.out _ _ ⟨t2, t3⟩ (fun hHeld => ?_)
      clear hK K
      iterate 7 (refine plan_take (v := ?_) rfl (by assumption) rfl (fun _ _ _ h => h) ?_ ?_; rotate_left; (· (intro w hSw; (try dsimp only at hSw); go_simp; try with_reducible rfl)); all_goals (simp only [Act.put, List.getElem_toArray, List.getElem_cons_zero, List.getElem_cons_succ, List.setIfInBounds_toArray, List.set_cons_zero, List.set_cons_succ]))
      refine plan_op rfl (by decide) (fun K hK => ?_)
      go_simp
      refine (bufTaken_any (HBO.out.drewN 1).p).mono ?_
      rintro e w7 ⟨rfl, rfl⟩
      dsimp only
      refine hK.out _ _ ⟨t2, t3⟩ (fun hHeld => ?_)
      clear hK K
      iterate 3 (refine plan_take (v := ?_) rfl (by assumption) rfl (fun _ _ _ h => h) ?_ ?_; rotate_left; (· (intro w hSw; (try dsimp only at hSw); go_simp; try with_reducible rfl)); all_goals (simp only [Act.put, List.getElem_toArray, List.getElem_cons_zero, List.getElem_cons_succ, List.setIfInBounds_toArray, List.set_cons_zero, List.set_cons_succ]))
      refine plan_op rfl (by decide) (fun K hK => ?_)
      go_simp
      refine (awake_any _).mono ?_
      rintro e w7 ⟨rfl, hb7⟩
      have u2 := (hb7.cell (p := ⟨w5.heap.size, 2, none⟩) lrb).trans t2
      have u3 := (hb7.cell (p := ⟨w5.heap.size, 3, none⟩) lrb).trans t3
      dsimp only
      refine hK.out _ _ ⟨u2, u3⟩ (fun hHeld => ?_)
      clear hK K
      iterate 1 (refine plan_take (v := ?_) rfl (by assumption) rfl (fun _ _ _ h => h) ?_ ?_; rotate_left; (· (intro w hSw; (try dsimp only at hSw); go_simp; try with_reducible rfl)); all_goals (simp only [Act.put, List.getElem_toArray, List.getElem_cons_zero, List.getElem_cons_succ, List.setIfInBounds_toArray, List.set_cons_zero, List.set_cons_succ]))
      refine plan_last rfl (by decide) (fun K hK => ?_)
      go_simp
      refine hK.out _ _ ?_
      clear hK K
      simp only [wpPlan]
      go_wp2_with fail
      go_ret
      exact ⟨rfl, (below_drewN HW.out 1).trans (hb7.mono HW.out.size)⟩

set_option maxRecDepth 100000 in
theorem chunkBuffers_walk (z : Int) (hA : Steps (fun k => k < w.heap.size) w A n L) (hB : Acts (fun k => k < w.heap.size) w B m acts) (hn : n ≤ 1048576) (hm : m ≤ 1048576) (ht : total L ≤ 1048576) :
    Calls Try.prog 11 #[.slice A n c, .int .i64 z, .slice B m d] w fun e w' => e = .returned (.bool true) ∧ Below w.heap.size w w' := by
  cases hlg : large L with
  | true => exact chunkBuffers_large A B n c m d z L w hA hn ht hlg
  | false =>
    by_cases h1 : z < 1
    · exact chunkBuffers_few A B n c m d z L w hA hn ht hlg h1
    · by_cases h2 : 16777216 < z
      · exact chunkBuffers_many A B n c m d z L w hA hn ht hlg h2
      · obtain ⟨y, rfl⟩ : ∃ y : Nat, z = y := ⟨z.toNat, by omega⟩
        exact chunkBuffers_main A B n c m d y L acts w hA hB hn hm ht hlg (by omega) (by omega)
end
end Go.Proofs.Ytadnceiohgjdhaa
