/-
  The contract of a source's Read.
-/
import Derived.Test.YtadnceiohgjdhaaRead
namespace Go.Proofs.Ytadnceiohgjdhaa
open Go.RowKit
set_option linter.unusedVariables false

/-- What Read gives. -/
def ReadGives (S : Nat → Prop) (g : Nat) (s : Src) (n : Nat) (w : World) (v : Value) (w' : World) : Prop :=
  ∃ b, v = .tuple #[b, .int .i64 (s.read n).1.2] ∧ w'.ownsRow w.heap.size 5 1 b (s.read n).1.1.length (bv (s.read n).1.1) ∧ IsSrc S w' g (s.read n).2 ∧ Keep (fun k => k = g) w w'
theorem ReadGives.over {S : Nat → Prop} {g : Nat} {s : Src} {n : Nat} {w : World} {e : Int} {q : Nat} (h : IsSrc S w g s) (hr : s.read n = (([], e), s)) : ReadGives S g s n w (.tuple #[.slice none 0 0, .int .i64 e]) (w.drewN q) := by
  refine ⟨_, by rw [hr], ?_, ?_, (Keep.refl _ _).drewN q⟩
  · rw [hr]; exact World.ownsRow_nil _ _ _ _
  · rw [hr]; exact h.keep ((Keep.refl (fun _ => False) _).drewN q) id (fun _ _ => id)

theorem Blk.src2 {w : World} {g : Nat} {t : TypeId} {a b c d e : Value} (h : Blk w g t #[a, b, c, d, e]) (x y : Value) : Blk ((w.setCell ⟨g, 2, none⟩ x).setCell ⟨g, 3, none⟩ y) g t #[a, b, x, y, e] := by
  have := (h.set_ 2 x).set_ 3 y
  simpa using this
theorem Blk.src4 {w : World} {g : Nat} {t : TypeId} {a b c d e : Value} (h : Blk w g t #[a, b, c, d, e]) (x y z u : Value) : Blk ((((w.setCell ⟨g, 2, none⟩ x).setCell ⟨g, 3, none⟩ y).setCell ⟨g, 1, none⟩ z).setCell ⟨g, 2, none⟩ u) g t #[a, z, u, y, e] := by
  have := (((h.set_ 2 x).set_ 3 y).set_ 1 z).set_ 2 u
  simpa using this
theorem Keep.src2 (w : World) (g : Nat) (x y : Value) (n : Nat) : Keep (fun k => k = g) w (((w.setCell ⟨g, 2, none⟩ x).setCell ⟨g, 3, none⟩ y).drewN n) :=
  (((Keep.refl (fun k => k = g) w).setCell (p := ⟨g, 2, none⟩) (.inl rfl) x).setCell (p := ⟨g, 3, none⟩) (.inl rfl) y).drewN n
theorem Keep.src4 (w : World) (g : Nat) (x y z u : Value) (n : Nat) : Keep (fun k => k = g) w (((((w.setCell ⟨g, 2, none⟩ x).setCell ⟨g, 3, none⟩ y).setCell ⟨g, 1, none⟩ z).setCell ⟨g, 2, none⟩ u).drewN n) :=
  (((((Keep.refl (fun k => k = g) w).setCell (p := ⟨g, 2, none⟩) (.inl rfl) x).setCell (p := ⟨g, 3, none⟩) (.inl rfl) y).setCell (p := ⟨g, 1, none⟩) (.inl rfl) z).setCell (p := ⟨g, 2, none⟩) (.inl rfl) u).drewN n
theorem ReadGives.mk {S : Nat → Prop} {g m : Nat} {s s' : Src} {n c : Nat} {w w2 w3 : World} {A1 : Option Addr} {c1 k0 : Nat} {bs : List UInt8} {A : Option Addr} (H : IsSrc S w g s) (hr : s.read n = ((bs, 0), s')) (hL : s'.L = s.L)
    (hA : Steps S w A s.L.length s.L) (hbw : Below w.heap.size w w2) (hm : w.heap.size ≤ m) (how : w2.ownsRow m 5 1 (.slice A1 k0 c1) k0 (bv bs)) (hlen : bs.length = k0)
    (hk : Keep (fun k => k = g) w2 w3) {e1 e2 e3 : Int} (hb3 : Blk w3 g 72 #[.slice A s.L.length c, .int .i64 e1, .int .i64 e2, .int .i64 e3, .bool true])
    (h1 : (s'.step : Int) = e1) (h2 : (s'.frm : Int) = e2) (h3 : (s'.told : Int) = e3) :
    Gives (ReadGives S g s n w) (.returned (.tuple #[.slice A1 k0 c1, .int .i64 0])) w3 := by
  subst h1 h2 h3
  have hlt := H.lt
  obtain ⟨_, _, _, _, hSg, hok⟩ := H
  have hok' := Src.read_ok hok n
  rw [hr] at hok'
  have hK : Keep (fun k => k = g) w w3 := (Keep.of_below hbw _).trans hk
  refine ⟨_, rfl, _, by rw [hr], ?_, ?_, hK⟩
  · rw [hr]
    dsimp only
    rw [hlen]
    refine own_keep (own_less how hm) hk (fun k he => ?_)
    have := (how.lt k he).1
    omega
  · rw [hr]
    refine ⟨A, c, ?_, ?_, hSg, hok'⟩
    · dsimp only
      rw [hL]
      exact hb3
    · dsimp only
      rw [hL]
      exact hA.keep hK (fun k hs e => hSg (e ▸ hs))

section
variable {S : Nat → Prop} {w : World} {g : Nat} {s : Src}

set_option maxHeartbeats 4000000 in
set_option maxRecDepth 100000 in
theorem srcRead_few (n : Int) (h : IsSrc S w g s) (hn : n < 1) : Calls Try.prog 28 #[.pointer (some ⟨g, 0, none⟩), .int .i64 n] w fun e w' => e = .returned (.tuple #[.slice none 0 0, .int .i64 1]) ∧ w = w' := by
  have H := Lib.hid h
  clear h
  go_enter Try.func28, Try.ntmps28
  go_wp2_with (go_at_call 46; refine (srcIs_any H.out).mono ?_; rintro e w1 ⟨rfl, rfl⟩)
  go_ret2
  exact ⟨rfl, rfl⟩

set_option maxHeartbeats 16000000 in
set_option maxRecDepth 100000 in
theorem srcRead_any (n : Nat) (h : IsSrc S w g s) (hn : 1 ≤ n) :
    Calls Try.prog 28 #[.pointer (some ⟨g, 0, none⟩), .int .i64 n] w (Gives (ReadGives S g s n w)) := by
  have H := Lib.hid h
  obtain ⟨A, c, hb, hS, hg, hok⟩ := h
  have hle := hok.1
  by_cases hst : s.step = s.L.length
  · obtain ⟨h1, h2⟩ := Src.at_end hok hst n
    have k := srcEnd_any H.out
    rw [h1] at k
    have K := Lib.hid k
    have FIN := Lib.hid h2
    clear k h1 h2 hb hS hg hok hle hst
    go_enter Try.func28, Try.ntmps28
    go_wp2_with (first
      | (go_at_call 46; refine (srcIs_any H.out).mono ?_; rintro e w1 ⟨rfl, rfl⟩)
      | (go_at_call 47; refine K.out.mono ?_; rintro e w1 ⟨rfl, q, rfl⟩))
    go_ret2
    exact ⟨_, rfl, ReadGives.over H.out FIN.out⟩
  · have hlt : s.step < s.L.length := by omega
    have i0 : (0 : Int) ≤ (s.step : Int) := by omega
    have i1 : (s.step : Int) < (s.L.length : Int) := by omega
    obtain ⟨ad, Ak, ck, d, f, rfl, _, hdf, e0, e1, hrow, hdc, hcm, hd47⟩ := hS.get hlt
    have hfd := hok.2.1 d f hdf
    by_cases hff : f = true ∧ s.frm = d.length
    · obtain ⟨rfl, hf⟩ := hff
      obtain ⟨h1, h2⟩ := Src.at_fail hdf hf n
      have k := srcEnd_any H.out
      rw [h1] at k
      have K := Lib.hid k
      have FIN := Lib.hid h2
      clear k h1 h2 hb hS hg hok hle hst hdf e0 e1 hrow hdc hcm hfd hf i0 i1 hlt
      go_enter Try.func28, Try.ntmps28
      go_wp2_with (first
        | (go_at_call 46; refine (srcIs_any H.out).mono ?_; rintro e w1 ⟨rfl, rfl⟩)
        | (go_at_call 47; refine K.out.mono ?_; rintro e w1 ⟨rfl, q, rfl⟩))
      go_ret2
      exact ⟨_, rfl, ReadGives.over H.out FIN.out⟩
    · have k := srcEnd_any H.out
      rw [Src.endOf_no hdf hff] at k
      have K := Lib.hid k
      have htold : s.told ≤ 1073741824 := by
        have h1 := hok.2.2.2.1
        have h2 := hok.2.2.2.2.1
        have h3 := total_take s.L s.step d f hdf
        have h4 := total_take_le s.L (s.step + 1)
        omega
      have hdl : d.length ≤ 1073741824 := by
        have h2 := hok.2.2.2.2.1
        have h3 := total_take s.L s.step d f hdf
        have h4 := total_take_le s.L (s.step + 1)
        omega
      have hsl := hok.2.2.2.2.2
      obtain ⟨k0, hk0⟩ : ∃ k0, k0 = min n (d.length - s.frm) := ⟨_, rfl⟩
      have hk1 : k0 ≤ d.length - s.frm := by omega
      obtain ⟨M, hM⟩ : ∃ M : Int, (if d.length < n then (d.length : Int) else (n : Int)) = M := ⟨_, rfl⟩
      have hM0 : 0 ≤ M ∧ M ≤ (d.length : Int) := by rw [← hM]; split <;> omega
      have hT : (if (d.length : Int) < (s.frm : Int) + M then (d.length : Int) else (s.frm : Int) + M) = (s.frm : Int) + (k0 : Int) := by rw [← hM]; split <;> split <;> omega
      obtain ⟨hM1, hM2⟩ := hM0
      have hW : IntKind.i64.wrap ((s.frm : Int) + M) = (s.frm : Int) + M := IntWalk.i64_in _ (by omega)
      have x0 : w.cell? ⟨g, 0, none⟩ = some (.slice (some ad) s.L.length c) := hb.cell 0
      have x1 : w.cell? ⟨g, 1, none⟩ = some (.int .i64 s.step) := hb.cell 1
      have x2 : w.cell? ⟨g, 2, none⟩ = some (.int .i64 s.frm) := hb.cell 2
      have x3 : w.cell? ⟨g, 3, none⟩ = some (.int .i64 s.told) := hb.cell 3
      have lg := hb.lt
      have HB := Lib.hid hb
      have HS := Lib.hid hS
      have HG := Lib.hid hg
      have HOK := Lib.hid hok
      have HDF := Lib.hid hdf
      have HFF := Lib.hid hff
      have HR := Lib.hid hrow
      have HK := Lib.hid hk0
      have adr : ∀ (W : World) (j : Nat) (o : Obj), (W.drewN j).alloc o = (W.alloc o).drewN j := fun _ _ _ => rfl
      have sdr : ∀ (W : World) (j : Nat) (x : Addr) (v : Value), (W.drewN j).setCell x v = (W.setCell x v).drewN j := fun _ _ _ _ => rfl
      clear k hb hS hg hok hdf hff hrow hk0 hst hle
      go_enter Try.func28, Try.ntmps28
      go_wp2_with (first
        | (go_at_call 46; refine (srcIs_any H.out).mono ?_; rintro e w1 ⟨rfl, rfl⟩)
        | (go_at_call 47; refine K.out.mono ?_; rintro e w1 ⟨rfl, q, rfl⟩))
      refine wp_region_plan (S := fun w' => w'.cell? ⟨g, 0, none⟩ = some (.slice (some ad) s.L.length c) ∧ w'.cell? ⟨g, 1, none⟩ = some (.int .i64 s.step) ∧ w'.cell? (ad.add (s.step * 2)) = some (.slice Ak d.length ck) ∧ w'.cell? ⟨(ad.add (s.step * 2)).block, (ad.add (s.step * 2)).off + 1, none⟩ = some (.bool f)) 11
        [(0, true), (1, true), (2, true), (3, true), (4, true), (5, true), (6, true), (7, true), (8, true), (9, true), (10, false), (11, false)] (by kernel_rfl) (by kernel_rfl) ?_ (fun hHeld => ?_)
      · exact ⟨x0, x1, e0, e1⟩
      iterate 10 (refine plan_take (v := ?_) rfl (by assumption) rfl (fun _ _ _ h => h) ?_ ?_; rotate_left; · (intro w hSw; (try dsimp only at hSw); go_simp; try with_reducible rfl); all_goals (simp only [Act.put, List.setIfInBounds_toArray, List.set_cons_zero, List.set_cons_succ]))
      refine plan_op rfl (by decide) (fun K hK => ?_)
      go_simp
      refine hK.out _ _ ?_ (fun hHeld => ?_)
      · exact ⟨cell_alloc_keep x0 _, cell_alloc_keep x1 _, cell_alloc_keep e0 _, cell_alloc_keep e1 _⟩
      clear hK K
      refine plan_last rfl (by decide) (fun K hK => ?_)
      go_simp
      refine hK.out _ _ ?_
      clear hK K
      simp only [wpPlan]
      go_wp2_with fail
      obtain ⟨A', hA'⟩ : ∃ A', (if ck = s.frm then Ak else Option.map (fun x => x.add s.frm) Ak) = A' := ⟨_, rfl⟩
      have j0 : (0 : Int) ≤ (s.frm : Int) := by omega
      have j1 : (s.frm : Int) ≤ (s.frm : Int) + (k0 : Int) := by omega
      have j2 : (s.frm : Int) + (k0 : Int) ≤ (ck : Int) := by omega
      have j3 : ((s.frm : Int) + (k0 : Int)).toNat = s.frm + k0 := by omega
      have y0 := (Blk.new w 42 #[.slice Ak d.length ck, .bool f]).cell 0
      have y1 := (Blk.new w 42 #[.slice Ak d.length ck, .bool f]).cell 1
      refine wp_region_plan (S := fun w' => w'.cell? ⟨g, 2, none⟩ = some (.int .i64 s.frm) ∧ w'.cell? ⟨w.heap.size, 0, none⟩ = some (.slice Ak d.length ck)) 22
        [(0, true), (1, true), (2, true), (3, true), (4, true), (5, true), (6, true), (7, true), (8, true), (9, true), (10, true), (11, true), (12, true), (13, true), (14, true), (15, true), (16, true), (17, true), (18, true), (19, true), (20, true), (21, false), (22, false)] (by kernel_rfl) (by kernel_rfl) ?_ (fun hHeld => ?_)
      · exact ⟨cell_alloc_keep x2 _, y0⟩
      iterate 20 (refine plan_take (v := ?_) rfl (by assumption) rfl (fun _ _ _ h => h) ?_ ?_; rotate_left; · (intro w hSw; (try dsimp only at hSw); go_simp; try with_reducible rfl); all_goals (simp only [Act.put, List.setIfInBounds_toArray, List.set_cons_zero, List.set_cons_succ]))
      refine plan_take (v := .slice A' k0 (ck - s.frm)) rfl (by assumption) rfl (fun _ _ _ h => h) ?_ ?_
      · intro w hSw
        go_simp
      simp only [Act.put, List.setIfInBounds_toArray]
      have hrow' : Row S w 1 A' k0 (bv ((d.drop s.frm).take k0)) := by
        have h := ((HR.out.upto (k := s.frm + k0) (by omega)).cut (k := s.frm) (cap := ck) (by omega) (by omega))
        simp only [Nat.mul_one, hA', ← bv_take, ← bv_drop, List.drop_take, Nat.add_sub_cancel_left] at h
        exact h
      refine plan_op rfl (by decide) (fun K hK => ?_)
      go_simp
      refine (clone_any S A' k0 (ck - s.frm) ((d.drop s.frm).take k0) _ ((hrow'.alloc _).drewN _) (by omega)).mono ?_
      rintro e w2 ⟨v1, rfl, hown1, hb2⟩
      obtain ⟨A1, c1, rfl, _, _⟩ := own_slice hown1
      have hbw : Below w.heap.size w w2 := (below_drewN ((Below.refl _ w).alloc (Nat.le_refl _) _) _).trans (hb2.mono (by simp))
      have LB2 := Lib.hid (((Blk.new w 42 #[.slice Ak d.length ck, .bool f]).drewN (q + 1 + 1)).below hb2 (by simp))
      have HB2 := Lib.hid (HB.out.below hbw lg)
      have OW := Lib.hid hown1
      have BW := Lib.hid hbw
      have z0 : w2.cell? ⟨g, 2, none⟩ = some (.int .i64 s.frm) := HB2.out.cell 2
      have z1 : w2.cell? ⟨g, 1, none⟩ = some (.int .i64 s.step) := HB2.out.cell 1
      have z3 : w2.cell? ⟨g, 3, none⟩ = some (.int .i64 s.told) := HB2.out.cell 3
      have z4 : w2.cell? ⟨w.heap.size, 0, none⟩ = some (.slice Ak d.length ck) := LB2.out.cell 0
      have z5 : w2.cell? ⟨w.heap.size, 1, none⟩ = some (.bool f) := LB2.out.cell 1
      have zf1 := HB2.out.frozen 1
      have zf2 := HB2.out.frozen 2
      have zf3 := HB2.out.frozen 3
      dsimp only
      refine hK.out _ _ ⟨z0, z4⟩ (fun hHeld => ?_)
      clear hK K
      refine plan_last rfl (by decide) (fun K hK => ?_)
      go_simp
      refine hK.out _ _ ?_
      clear hK K hown1 hb2 hbw hrow' hA' hHeld
      simp only [wpPlan]
      clear x0 x1 x2 x3 e0 e1 y0 y1 hT hM hM1 hM2 hW j0 j1 j2 j3
      have hne : ¬ g = w.heap.size := by omega
      by_cases hnext : s.frm + k0 = d.length
      · have q3 : ((s.frm : Int) + (k0 : Int) == (d.length : Int)) = true := by rw [beq_iff_eq]; omega
        have HNX := Lib.hid hnext
        clear hnext
        cases f with
        | false =>
          go_wp2_with fail
          go_quiet (fail)
          go_wp2_with fail
          go_ret2
          have HX := HB2.out
          refine ReadGives.mk (c := c) H.out (Src.read_next HDF.out HK.out HNX.out) rfl HS.out BW.out (by show w.heap.size ≤ (w.alloc _).heap.size; simp) OW.out ?_ (Keep.src4 _ _ _ _ _ _ _) ((HB2.out.src4 _ _ _ _).drewN _) (by simp) (by simp) (by simp)
          · have := HK.out
            simp only [List.length_take, List.length_drop]
            omega
        | true =>
          go_wp2_with fail
          go_quiet (fail)
          go_wp2_with fail
          go_ret2
          refine ReadGives.mk (c := c) H.out (Src.read_on HDF.out (by simpa using HFF.out) HK.out (by simp)) rfl HS.out BW.out (by show w.heap.size ≤ (w.alloc _).heap.size; simp) OW.out ?_ (Keep.src2 _ _ _ _ _) ((HB2.out.src2 _ _).drewN _) (by simp) (by simp) (by simp)
          · have := HK.out
            simp only [List.length_take, List.length_drop]
            omega
      · have q3 : ((s.frm : Int) + (k0 : Int) == (d.length : Int)) = false := by rw [beq_eq_false_iff_ne]; omega
        have HNX := Lib.hid hnext
        clear hnext
        go_wp2_with fail
        go_quiet (fail)
        go_wp2_with fail
        go_ret2
        refine ReadGives.mk (c := c) H.out (Src.read_on HDF.out HFF.out HK.out (fun h => HNX.out h.1)) rfl HS.out BW.out (by show w.heap.size ≤ (w.alloc _).heap.size; simp) OW.out ?_ (Keep.src2 _ _ _ _ _) ((HB2.out.src2 _ _).drewN _) (by simp) (by simp) (by simp)
        · have := HK.out
          simp only [List.length_take, List.length_drop]
          omega
end

end Go.Proofs.Ytadnceiohgjdhaa
