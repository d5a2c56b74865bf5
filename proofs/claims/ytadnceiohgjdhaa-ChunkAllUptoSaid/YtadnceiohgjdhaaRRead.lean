/-
  The contracts of the reference's Read and Over.
-/
import Derived.Test.YtadnceiohgjdhaaRead2
namespace Go.Proofs.Ytadnceiohgjdhaa
open Go.RowKit
set_option linter.unusedVariables false

/-- What the reference's Read gives. -/
def RReadGives (S : Nat → Prop) (g : Nat) (s : Src) (n : Nat) (w : World) (v : Value) (w' : World) : Prop :=
  ∃ b, v = .tuple #[b, .int .i64 (s.read n).1.2] ∧ w'.ownsRow w.heap.size 5 1 b (s.read n).1.1.length (bv (s.read n).1.1) ∧ IsRSrc S w' g (s.read n).2 ∧ Keep (fun k => k = g) w w'
theorem RReadGives.over {S : Nat → Prop} {g : Nat} {s : Src} {n : Nat} {w w' : World} {e : Int} (h : IsRSrc S w g s) (hr : s.read n = (([], e), s)) (hb : Below w.heap.size w w') : Gives (RReadGives S g s n w) (.returned (.tuple #[.slice none 0 0, .int .i64 e])) w' := by
  refine ⟨_, rfl, _, by rw [hr], ?_, ?_, Keep.of_below hb _⟩
  · rw [hr]; exact World.ownsRow_nil _ _ _ _
  · rw [hr]; exact h.behind hb
theorem RReadGives.mk {S : Nat → Prop} {g m : Nat} {s s' : Src} {n c : Nat} {w w2 w3 : World} {b : Value} {k0 : Nat} {bs : List UInt8} {A : Option Addr} (H : IsRSrc S w g s) (hr : s.read n = ((bs, 0), s')) (hL : s'.L = s.L)
    (hA : Steps S w A s.L.length s.L) (hbw : Below w.heap.size w w2) (hm : w.heap.size ≤ m) (how : w2.ownsRow m 5 1 b k0 (bv bs)) (hlen : bs.length = k0)
    (hk : Keep (fun k => k = g) w2 w3) {e1 e2 e3 : Int} (hb3 : Blk w3 g 58 #[.slice A s.L.length c, .int .i64 e1, .int .i64 e2, .int .i64 e3])
    (h1 : (s'.step : Int) = e1) (h2 : (s'.frm : Int) = e2) (h3 : (s'.told : Int) = e3) :
    Gives (RReadGives S g s n w) (.returned (.tuple #[b, .int .i64 0])) w3 := by
  subst h1 h2 h3
  have hlt := H.lt
  obtain ⟨_, _, _, _, hSg, hok⟩ := H
  have hok' := Src.read_ok hok n
  rw [hr] at hok'
  have hK : Keep (fun k => k = g) w w3 := (Keep.of_below hbw _).trans hk
  refine ⟨_, rfl, _, by rw [hr], ?_, ?_, hK⟩
  · rw [hr]
    dsimp only
    rw [hlen]
    refine own_keep (own_less how hm) hk (fun k he => ?_)
    have := (how.lt k he).1
    omega
  · rw [hr]
    refine ⟨A, c, ?_, ?_, hSg, hok'⟩
    · dsimp only
      rw [hL]
      exact hb3
    · dsimp only
      rw [hL]
      exact hA.keep hK (fun k hs e => hSg (e ▸ hs))
theorem Blk.rsrc0 {w : World} {g : Nat} {t : TypeId} {a b c d : Value} (h : Blk w g t #[a, b, c, d]) (z u : Value) : Blk ((w.setCell ⟨g, 1, none⟩ z).setCell ⟨g, 2, none⟩ u) g t #[a, z, u, d] := by
  have := (h.set_ 1 z).set_ 2 u
  simpa using this
theorem Blk.rsrc2 {w : World} {g : Nat} {t : TypeId} {a b c d : Value} (h : Blk w g t #[a, b, c, d]) (x y : Value) : Blk ((w.setCell ⟨g, 2, none⟩ x).setCell ⟨g, 3, none⟩ y) g t #[a, b, x, y] := by
  have := (h.set_ 2 x).set_ 3 y
  simpa using this
theorem Blk.rsrc4 {w : World} {g : Nat} {t : TypeId} {a b c d : Value} (h : Blk w g t #[a, b, c, d]) (x y z u : Value) : Blk ((((w.setCell ⟨g, 2, none⟩ x).setCell ⟨g, 3, none⟩ y).setCell ⟨g, 1, none⟩ z).setCell ⟨g, 2, none⟩ u) g t #[a, z, u, y] := by
  have := (((h.set_ 2 x).set_ 3 y).set_ 1 z).set_ 2 u
  simpa using this
theorem Keep.rsrc0 (w : World) (g : Nat) (x y : Value) (o : Obj) (n : Nat) : Keep (fun k => k = g) w ((((w.setCell ⟨g, 1, none⟩ x).setCell ⟨g, 2, none⟩ y).alloc o).drewN n) :=
  ((((Keep.refl (fun k => k = g) w).setCell (p := ⟨g, 1, none⟩) (.inl rfl) x).setCell (p := ⟨g, 2, none⟩) (.inl rfl) y).alloc o).drewN n

section
variable {S : Nat → Prop} {w : World} {g : Nat} {s : Src}

set_option maxHeartbeats 16000000 in
set_option maxRecDepth 100000 in
theorem rsrcRead_any (n : Nat) (h : IsRSrc S w g s) (hn : 1 ≤ n) :
    Calls Try.prog 29 #[.pointer (some ⟨g, 0, none⟩), .int .i64 n] w (Gives (RReadGives S g s n w)) := by
  obtain ⟨j0, hj, hy0, hy1, hy2⟩ := info_parts u8info
  have H := Lib.hid h
  obtain ⟨A, c, hb, hS, hg, hok⟩ := h
  have hle := hok.1
  have x0 : w.cell? ⟨g, 0, none⟩ = some (.slice A s.L.length c) := hb.cell 0
  have x1 : w.cell? ⟨g, 1, none⟩ = some (.int .i64 s.step) := hb.cell 1
  have x2 : w.cell? ⟨g, 2, none⟩ = some (.int .i64 s.frm) := hb.cell 2
  have x3 : w.cell? ⟨g, 3, none⟩ = some (.int .i64 s.told) := hb.cell 3
  have xf1 := hb.frozen 1
  have xf2 := hb.frozen 2
  have lg := hb.lt
  have HB := Lib.hid hb
  have HS := Lib.hid hS
  have adr : ∀ (W : World) (j : Nat) (o : Obj), (W.drewN j).alloc o = (W.alloc o).drewN j := fun _ _ _ => rfl
  have sdr : ∀ (W : World) (j : Nat) (x : Addr) (v : Value), (W.drewN j).setCell x v = (W.setCell x v).drewN j := fun _ _ _ _ => rfl
  by_cases hst : s.step = s.L.length
  · obtain ⟨h1, h2⟩ := Src.at_end hok hst n
    have FIN := Lib.hid h2
    have q1 : ((s.step : Int) == (s.L.length : Int)) = true := by rw [beq_iff_eq]; omega
    clear h1 h2 hb hS hg hok hst
    go_enter Try.func29, Try.ntmps29
    go_wp2_with fail
    go_quiet (fail)
    go_wp2_with fail
    go_ret2
    exact RReadGives.over H.out FIN.out (below_drewN (Below.refl _ _) _)
  · have q1 : ((s.step : Int) == (s.L.length : Int)) = false := by rw [beq_eq_false_iff_ne]; omega
    have hlt : s.step < s.L.length := by omega
    have i0 : (0 : Int) ≤ (s.step : Int) := by omega
    have i1 : (s.step : Int) < (s.L.length : Int) := by omega
    obtain ⟨ad, Ak, ck, d, f, rfl, _, hdf, e0, e1, hrow, hdc, hcm, hd47⟩ := hS.get hlt
    have hfd := hok.2.1 d f hdf
    have htold : s.told ≤ 1073741824 := by
      have h1 := hok.2.2.2.1
      have h2 := hok.2.2.2.2.1
      have h3 := total_take s.L s.step d f hdf
      have h4 := total_take_le s.L (s.step + 1)
      omega
    have hdl : d.length ≤ 1073741824 := by
      have h2 := hok.2.2.2.2.1
      have h3 := total_take s.L s.step d f hdf
      have h4 := total_take_le s.L (s.step + 1)
      omega
    have hsl := hok.2.2.2.2.2
    obtain ⟨l, hl⟩ : ∃ l : Nat, d.length - s.frm = l := ⟨_, rfl⟩
    have hX : (d.length : Int) - (s.frm : Int) = (l : Int) := by omega
    have hX1 : IntKind.i64.wrap ((d.length : Int) - (s.frm : Int)) = (l : Int) := by rw [hX]; exact IntWalk.i64_in _ (by omega)
    have HDF := Lib.hid hdf
    have HR := Lib.hid hrow
    have y0 := (Blk.new w 93 #[.slice Ak d.length ck, .bool f]).cell 0
    have y1 := (Blk.new w 93 #[.slice Ak d.length ck, .bool f]).cell 1
    have hne : ¬ g = w.heap.size := by omega
    clear hb hS hg hok hdf hrow hst hle hX
    go_enter Try.func29, Try.ntmps29
    go_wp2_with fail
    go_quiet (fail)
    go_wp2_with fail
    refine wp_region_plan (S := fun w' => w'.cell? ⟨g, 0, none⟩ = some (.slice (some ad) s.L.length c) ∧ w'.cell? ⟨g, 1, none⟩ = some (.int .i64 s.step) ∧ w'.cell? (ad.add (s.step * 2)) = some (.slice Ak d.length ck) ∧ w'.cell? ⟨(ad.add (s.step * 2)).block, (ad.add (s.step * 2)).off + 1, none⟩ = some (.bool f)) 11
      [(0, true), (1, true), (2, true), (3, true), (4, true), (5, true), (6, true), (7, true), (8, true), (9, true), (10, false), (11, false)] (by kernel_rfl) (by kernel_rfl) ?_ (fun hHeld => ?_)
    · exact ⟨x0, x1, e0, e1⟩
    iterate 10 (refine plan_take (v := ?_) rfl (by assumption) rfl (fun _ _ _ h => h) ?_ ?_; rotate_left; · (intro w hSw; (try dsimp only at hSw); go_simp; try with_reducible rfl); all_goals (simp only [Act.put, List.setIfInBounds_toArray, List.set_cons_zero, List.set_cons_succ]))
    refine plan_op rfl (by decide) (fun K hK => ?_)
    go_simp
    refine hK.out _ _ ?_ (fun hHeld => ?_)
    · exact ⟨cell_alloc_keep x0 _, cell_alloc_keep x1 _, cell_alloc_keep e0 _, cell_alloc_keep e1 _⟩
    clear hK K
    refine plan_last rfl (by decide) (fun K hK => ?_)
    go_simp
    refine hK.out _ _ ?_
    clear hK K
    simp only [wpPlan]
    go_wp2_with fail
    have x1' : (w.alloc (.cells #[.slice Ak d.length ck, .bool f] 93)).cell? ⟨g, 1, none⟩ = some (.int .i64 s.step) := cell_alloc_keep x1 _
    have x2' : (w.alloc (.cells #[.slice Ak d.length ck, .bool f] 93)).cell? ⟨g, 2, none⟩ = some (.int .i64 s.frm) := cell_alloc_keep x2 _
    have x3' : (w.alloc (.cells #[.slice Ak d.length ck, .bool f] 93)).cell? ⟨g, 3, none⟩ = some (.int .i64 s.told) := cell_alloc_keep x3 _
    go_quiet (fail)
    have hW0 : Below w.heap.size w (w.alloc (.cells #[.slice Ak d.length ck, .bool f] 93)) := (Below.refl _ w).alloc (Nat.le_refl _) _
    have HW0 := Lib.hid hW0
    have B0 := Lib.hid (HB.out.alloc (.cells #[.slice Ak d.length ck, .bool f] 93))
    have L0 := Lib.hid (Blk.new w 93 #[.slice Ak d.length ck, .bool f])
    clear x0 x3 e0 e1 i0 i1 hX1 hW0 q1
    by_cases hl0 : l = 0
    · have q2 : ((l : Int) == 0) = true := by rw [beq_iff_eq]; omega
      have HF := Lib.hid (show s.frm = d.length by omega)
      cases f with
      | true =>
        go_wp2_with fail
        go_ret2
        exact RReadGives.over H.out (Src.at_fail HDF.out HF.out n).2 (below_drewN HW0.out _)
      | false =>
        go_wp2_with fail
        go_ret2
        refine RReadGives.mk (c := c) H.out (Src.read_next (k := 0) HDF.out (by omega) (by have := HF.out; omega)) rfl HS.out (Below.refl _ w) (Nat.le_refl _) (World.ownsRow_nil _ _ _ _) (by simp) (Keep.rsrc0 _ _ _ _ _ _) (((HB.out.rsrc0 _ _).alloc _).drewN _) (by simp) (by simp) (by simp)
    · have q2 : ((l : Int) == 0) = false := by rw [beq_eq_false_iff_ne]; omega
      have HFF := Lib.hid (show ¬ (f = true ∧ s.frm = d.length) by omega)
      obtain ⟨A', hA'⟩ : ∃ A', (if ck = s.frm then Ak else Option.map (fun x => x.add s.frm) Ak) = A' := ⟨_, rfl⟩
      have j0' : (0 : Int) ≤ (s.frm : Int) := by omega
      by_cases hgt : l < n
      · have HK := Lib.hid (show l = min n (d.length - s.frm) by omega)
        have hXl : l ≤ l := by omega
        have j1 : (s.frm : Int) ≤ (s.frm : Int) + (l : Int) := by omega
        have j2 : (s.frm : Int) + (l : Int) ≤ (ck : Int) := by omega
        have hW : IntKind.i64.wrap ((s.frm : Int) + (l : Int)) = (s.frm : Int) + (l : Int) := IntWalk.i64_in _ (by omega)
        have j3 : ((s.frm : Int) + (l : Int)).toNat = s.frm + l := by omega
        have hrow' : Row S w 1 A' l (bv ((d.drop s.frm).take l)) := by
          have h := ((HR.out.upto (k := s.frm + l) (by omega)).cut (k := s.frm) (cap := ck) (by omega) (by omega))
          simp only [Nat.mul_one, hA', ← bv_take, ← bv_drop, List.drop_take, Nat.add_sub_cancel_left] at h
          exact h
        go_wp2_with fail
        refine wp_region_plan (S := fun w' => w'.cell? ⟨g, 2, none⟩ = some (.int .i64 s.frm) ∧ w'.cell? ⟨w.heap.size, 0, none⟩ = some (.slice Ak d.length ck)) 15
          [(1, true), (2, true), (3, true), (4, true), (5, true), (6, true), (7, true), (8, true), (9, true), (10, true), (11, true), (12, true), (13, true), (0, false), (14, false), (15, false)] (by kernel_rfl) (by kernel_rfl) ?_ (fun hHeld => ?_)
        · exact ⟨x2', y0⟩
        iterate 12 (refine plan_take (v := ?_) rfl (by assumption) rfl (fun _ _ _ h => h) ?_ ?_; rotate_left; · (intro w hSw; (try dsimp only at hSw); go_simp; try with_reducible rfl); all_goals (simp only [Act.put, List.setIfInBounds_toArray, List.set_cons_zero, List.set_cons_succ]))
        refine plan_take (v := .slice A' l (ck - s.frm)) rfl (by assumption) rfl (fun _ _ _ h => h) ?_ ?_
        · intro w hSw
          go_simp
        simp only [Act.put, List.setIfInBounds_toArray]
        refine plan_op rfl (by decide) (fun K hK => ?_)
        go_simp
        refine hK.out _ _ ⟨cell_alloc_keep x2' _, cell_alloc_keep y0 _⟩ (fun hHeld => ?_)
        clear hK K
        refine plan_op rfl (by decide) (fun K hK => ?_)
        refine step_append_copy _ (by rfl) _ _ 26 (by rfl) 5 j0 _ 1 1 Try.underlying26 hj hy0 hy1 hy2 rfl (by decide) (w.heap.size + 1) (by first | rfl | (go_simp; rfl) | (simp; rfl)) (Blk.new_at _ _ (by simp)) (by simp) S A' l (ck - s.frm) (bv ((d.drop s.frm).take l)) (by rfl) (((hrow'.alloc _).drewN _).alloc _) (bv_one _) (by simp only [maxLen]; omega) (by omega) ?_
        intro A1 c1 w2 hown1 hb2 _ _
        have hbw : Below w.heap.size w w2 := ((below_drewN ((Below.refl _ w).alloc (Nat.le_refl _) _) _).alloc (by simp) _).trans (hb2.mono (by omega))
        have LB2 := Lib.hid (((L0.out.alloc (.cells #[] 5)).drewN _).below hb2 (Nat.lt_succ_self _))
        have HB2 := Lib.hid (HB.out.below hbw lg)
        have OW := Lib.hid hown1
        have BW := Lib.hid hbw
        have z0 : w2.cell? ⟨g, 2, none⟩ = some (.int .i64 s.frm) := HB2.out.cell 2
        have z1 : w2.cell? ⟨g, 1, none⟩ = some (.int .i64 s.step) := HB2.out.cell 1
        have z3 : w2.cell? ⟨g, 3, none⟩ = some (.int .i64 s.told) := HB2.out.cell 3
        have z4 : w2.cell? ⟨w.heap.size, 0, none⟩ = some (.slice Ak d.length ck) := LB2.out.cell 0
        have z5 : w2.cell? ⟨w.heap.size, 1, none⟩ = some (.bool f) := LB2.out.cell 1
        have zf1 := HB2.out.frozen 1
        have zf2 := HB2.out.frozen 2
        have zf3 := HB2.out.frozen 3
        refine hK.out _ _ ⟨z0, z4⟩ (fun hHeld => ?_)
        clear hK K
        refine plan_last rfl (by decide) (fun K hK => ?_)
        go_simp
        refine hK.out _ _ ?_
        clear hK K hown1 hb2 hbw hrow' hA' hHeld
        simp only [wpPlan]
        clear x1' x2' x3' y0 y1 j0' j1 j2 j3 hW
        by_cases hnext : s.frm + l = d.length
        · have q3 : ((s.frm : Int) + (l : Int) == (d.length : Int)) = true := by rw [beq_iff_eq]; omega
          have HNX := Lib.hid hnext
          clear hnext
          cases f with
          | false =>
            go_wp2_with fail
            go_quiet (fail)
            go_wp2_with fail
            go_ret2
            refine RReadGives.mk (c := c) H.out (Src.read_next HDF.out HK.out HNX.out) rfl HS.out BW.out (by omega) OW.out (by have := HK.out; simp only [List.length_take, List.length_drop]; omega) (Keep.src4 _ _ _ _ _ _ _) ((HB2.out.rsrc4 _ _ _ _).drewN _) (by simp) (by simp) (by simp)
          | true =>
            go_wp2_with fail
            go_quiet (fail)
            go_wp2_with fail
            go_ret2
            refine RReadGives.mk (c := c) H.out (Src.read_on HDF.out (by simpa using HFF.out) HK.out (by simp)) rfl HS.out BW.out (by omega) OW.out (by have := HK.out; simp only [List.length_take, List.length_drop]; omega) (Keep.src2 _ _ _ _ _) ((HB2.out.rsrc2 _ _).drewN _) (by simp) (by simp) (by simp)
        · have q3 : ((s.frm : Int) + (l : Int) == (d.length : Int)) = false := by rw [beq_eq_false_iff_ne]; omega
          have HNX := Lib.hid hnext
          clear hnext
          go_wp2_with fail
          go_quiet (fail)
          go_wp2_with fail
          go_ret2
          refine RReadGives.mk (c := c) H.out (Src.read_on HDF.out HFF.out HK.out (fun h => HNX.out h.1)) rfl HS.out BW.out (by omega) OW.out (by have := HK.out; simp only [List.length_take, List.length_drop]; omega) (Keep.src2 _ _ _ _ _) ((HB2.out.rsrc2 _ _).drewN _) (by simp) (by simp) (by simp)
      · have HK := Lib.hid (show n = min n (d.length - s.frm) by omega)
        have hXl : n ≤ l := by omega
        have j1 : (s.frm : Int) ≤ (s.frm : Int) + (n : Int) := by omega
        have j2 : (s.frm : Int) + (n : Int) ≤ (ck : Int) := by omega
        have hW : IntKind.i64.wrap ((s.frm : Int) + (n : Int)) = (s.frm : Int) + (n : Int) := IntWalk.i64_in _ (by omega)
        have j3 : ((s.frm : Int) + (n : Int)).toNat = s.frm + n := by omega
        have hrow' : Row S w 1 A' n (bv ((d.drop s.frm).take n)) := by
          have h := ((HR.out.upto (k := s.frm + n) (by omega)).cut (k := s.frm) (cap := ck) (by omega) (by omega))
          simp only [Nat.mul_one, hA', ← bv_take, ← bv_drop, List.drop_take, Nat.add_sub_cancel_left] at h
          exact h
        go_wp2_with fail
        refine wp_region_plan (S := fun w' => w'.cell? ⟨g, 2, none⟩ = some (.int .i64 s.frm) ∧ w'.cell? ⟨w.heap.size, 0, none⟩ = some (.slice Ak d.length ck)) 15
          [(1, true), (2, true), (3, true), (4, true), (5, true), (6, true), (7, true), (8, true), (9, true), (10, true), (11, true), (12, true), (13, true), (0, false), (14, false), (15, false)] (by kernel_rfl) (by kernel_rfl) ?_ (fun hHeld => ?_)
        · exact ⟨x2', y0⟩
        iterate 12 (refine plan_take (v := ?_) rfl (by assumption) rfl (fun _ _ _ h => h) ?_ ?_; rotate_left; · (intro w hSw; (try dsimp only at hSw); go_simp; try with_reducible rfl); all_goals (simp only [Act.put, List.setIfInBounds_toArray, List.set_cons_zero, List.set_cons_succ]))
        refine plan_take (v := .slice A' n (ck - s.frm)) rfl (by assumption) rfl (fun _ _ _ h => h) ?_ ?_
        · intro w hSw
          go_simp
        simp only [Act.put, List.setIfInBounds_toArray]
        refine plan_op rfl (by decide) (fun K hK => ?_)
        go_simp
        refine hK.out _ _ ⟨cell_alloc_keep x2' _, cell_alloc_keep y0 _⟩ (fun hHeld => ?_)
        clear hK K
        refine plan_op rfl (by decide) (fun K hK => ?_)
        refine step_append_copy _ (by rfl) _ _ 26 (by rfl) 5 j0 _ 1 1 Try.underlying26 hj hy0 hy1 hy2 rfl (by decide) (w.heap.size + 1) (by first | rfl | (go_simp; rfl) | (simp; rfl)) (Blk.new_at _ _ (by simp)) (by simp) S A' n (ck - s.frm) (bv ((d.drop s.frm).take n)) (by rfl) (((hrow'.alloc _).drewN _).alloc _) (bv_one _) (by simp only [maxLen]; omega) (by omega) ?_
        intro A1 c1 w2 hown1 hb2 _ _
        have hbw : Below w.heap.size w w2 := ((below_drewN ((Below.refl _ w).alloc (Nat.le_refl _) _) _).alloc (by simp) _).trans (hb2.mono (by omega))
        have LB2 := Lib.hid (((L0.out.alloc (.cells #[] 5)).drewN _).below hb2 (Nat.lt_succ_self _))
        have HB2 := Lib.hid (HB.out.below hbw lg)
        have OW := Lib.hid hown1
        have BW := Lib.hid hbw
        have z0 : w2.cell? ⟨g, 2, none⟩ = some (.int .i64 s.frm) := HB2.out.cell 2
        have z1 : w2.cell? ⟨g, 1, none⟩ = some (.int .i64 s.step) := HB2.out.cell 1
        have z3 : w2.cell? ⟨g, 3, none⟩ = some (.int .i64 s.told) := HB2.out.cell 3
        have z4 : w2.cell? ⟨w.heap.size, 0, none⟩ = some (.slice Ak d.length ck) := LB2.out.cell 0
        have z5 : w2.cell? ⟨w.heap.size, 1, none⟩ = some (.bool f) := LB2.out.cell 1
        have zf1 := HB2.out.frozen 1
        have zf2 := HB2.out.frozen 2
        have zf3 := HB2.out.frozen 3
        refine hK.out _ _ ⟨z0, z4⟩ (fun hHeld => ?_)
        clear hK K
        refine plan_last rfl (by decide) (fun K hK => ?_)
        go_simp
        refine hK.out _ _ ?_
        clear hK K hown1 hb2 hbw hrow' hA' hHeld
        simp only [wpPlan]
        clear x1' x2' x3' y0 y1 j0' j1 j2 j3 hW
        by_cases hnext : s.frm + n = d.length
        · have q3 : ((s.frm : Int) + (n : Int) == (d.length : Int)) = true := by rw [beq_iff_eq]; omega
          have HNX := Lib.hid hnext
          clear hnext
          cases f with
          | false =>
            go_wp2_with fail
            go_quiet (fail)
            go_wp2_with fail
            go_ret2
            refine RReadGives.mk (c := c) H.out (Src.read_next HDF.out HK.out HNX.out) rfl HS.out BW.out (by omega) OW.out (by have := HK.out; simp only [List.length_take, List.length_drop]; omega) (Keep.src4 _ _ _ _ _ _ _) ((HB2.out.rsrc4 _ _ _ _).drewN _) (by simp) (by simp) (by simp)
          | true =>
            go_wp2_with fail
            go_quiet (fail)
            go_wp2_with fail
            go_ret2
            refine RReadGives.mk (c := c) H.out (Src.read_on HDF.out (by simpa using HFF.out) HK.out (by simp)) rfl HS.out BW.out (by omega) OW.out (by have := HK.out; simp only [List.length_take, List.length_drop]; omega) (Keep.src2 _ _ _ _ _) ((HB2.out.rsrc2 _ _).drewN _) (by simp) (by simp) (by simp)
        · have q3 : ((s.frm : Int) + (n : Int) == (d.length : Int)) = false := by rw [beq_eq_false_iff_ne]; omega
          have HNX := Lib.hid hnext
          clear hnext
          go_wp2_with fail
          go_quiet (fail)
          go_wp2_with fail
          go_ret2
          refine RReadGives.mk (c := c) H.out (Src.read_on HDF.out HFF.out HK.out (fun h => HNX.out h.1)) rfl HS.out BW.out (by omega) OW.out (by have := HK.out; simp only [List.length_take, List.length_drop]; omega) (Keep.src2 _ _ _ _ _) ((HB2.out.rsrc2 _ _).drewN _) (by simp) (by simp) (by simp)
end

end Go.Proofs.Ytadnceiohgjdhaa
