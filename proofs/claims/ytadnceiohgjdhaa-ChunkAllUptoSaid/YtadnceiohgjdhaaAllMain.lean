/-
  ChunkAll: the walk where a source is made.
-/
import Derived.Test.YtadnceiohgjdhaaAllWalk
namespace Go.Proofs.Ytadnceiohgjdhaa
open Go.RowKit
set_option linter.unusedVariables false
set_option linter.unusedSimpArgs false
attribute [local go_sem] Oper.semAt_some

set_option maxHeartbeats 16000000 in
set_option maxRecDepth 100000 in
theorem chunkAll_main (A : Option Addr) (n c : Nat) (L : List Stp) (z stop : Int) (w : World) (hA : Steps (fun k => k < w.heap.size) w A n L) (hn : n ≤ 1048576) (ht : total L ≤ 1048576) (hlg : large L = false) :
    Calls Try.prog 7 #[.slice A n c, .int .i64 z, .int .i64 stop] w fun e w' => e = .returned (.bool true) ∧ Below w.heap.size w w' := by
  have hLn := hA.1
  have k1 := fun (S : Nat → Prop) W h => steps_any S A n c L W h (by omega)
  have k2 := fun (S : Nat → Prop) A' c' W h => new_any S A' n c' L W h (by omega)
  have k5 := fun (S : Nat → Prop) W h => rnew_any S A n c L W h (by omega) (by omega)
  have K1 := Lib.hid k1
  have K2 := Lib.hid k2
  have K5 := Lib.hid k5
  have HA := Lib.hid hA
  have HLn := Lib.hid hLn
  have HLG := Lib.hid hlg
  have hq : ∀ (x y : Option Addr) (W : World), (binOp .eql 61 (.func (.func 48) #[] #[.pointer x, .pointer y]) .nilFunc).run Try.prog W = .ok (.bool false) W := fun x y W => by kernel_rfl
  clear k1 k2 k5 hA hLn hlg ht
  refine calls_of_wp_marks Try.func7 rfl ?_
  simp only [Try.ntmps7, List.size_toArray, List.length_cons, List.length_nil, Nat.reduceAdd, Nat.reduceSub, Array.replicate_succ,
     Array.replicate_zero, List.push_toArray, List.append_toArray, List.nil_append, List.cons_append]
  go_wp2_with fail
  obtain ⟨W0, hW0⟩ : ∃ W0, (((w.alloc (Obj.cells #[Value.int IntKind.i64 z] 3)).alloc (Obj.cells #[Value.int IntKind.i64 stop] 3)).alloc (Obj.cells #[Value.bool false] 4)) = W0 := ⟨_, rfl⟩
  rw [hW0]
  have b4 : Blk W0 w.heap.size 3 #[.int .i64 z] := by rw [← hW0]; exact ((Blk.new w _ _).alloc _).alloc _
  have b5 : Blk W0 (w.heap.size + 1) 3 #[.int .i64 stop] := by rw [← hW0]; exact (Blk.new_at _ _ (by simp)).alloc _
  have b6 : Blk W0 (w.heap.size + 1 + 1) 4 #[.bool false] := by rw [← hW0]; exact Blk.new_at _ _ (by simp)
  have B0 : Below w.heap.size w W0 := by
    rw [← hW0]; exact (((Below.refl _ w).alloc (Nat.le_refl _) _).alloc (by simp) _).alloc (by simp; omega) _
  clear hW0
  have l0 := B0.size
  have h6l := b6.lt
  refine (K1.out _ _ (HA.out.behind B0)).mono ?_
  rintro e w1 ⟨vx, rfl, hx, hb1⟩
  obtain ⟨Ax, cx, hvx, _, _⟩ := hx.form
  rw [HLn.out] at hvx
  subst hvx
  have Hx := Lib.hid hx
  have B1 := Lib.hid (B0.trans (hb1.mono l0))
  have V1 := Lib.hid hb1
  have l1 := hb1.size
  clear hx hb1 B0
  go_wp2_with fail
  refine (K2.out _ _ _ _ Hx.out.steps).mono ?_
  rintro e w2 ⟨v, rfl, hb2, hcase⟩
  rcases hcase with ⟨hf, _⟩ | ⟨_, g, rfl, hg, hsrc⟩
  case inl => have := HLG.out; rw [hf] at this; cases this
  have B2 := Lib.hid (B1.out.trans (hb2.mono B1.out.size))
  have V2 := Lib.hid (V1.out.trans (hb2.mono l1))
  have G2 := Lib.hid hsrc
  have g2 := hsrc.lt
  have l2 := hb2.size
  clear hb2 hsrc B1 V1 Hx
  go_wp2_with (first
    | (go_at_call 13; refine (num_any _ _).mono ?_; rintro e w4 ⟨rfl, rfl⟩)
    | fail)
  refine (K5.out _ _ (HA.out.behind B2.out)).mono ?_
  rintro e w3 ⟨v, rfl, hb3, rg, rfl, hr, hrs⟩
  have B3 := Lib.hid (B2.out.trans (hb3.mono B2.out.size))
  have V3 := Lib.hid (V2.out.trans (hb3.mono (Nat.le_trans l1 l2)))
  have G3 := Lib.hid (G2.out.behind hb3)
  have R3 := Lib.hid hrs
  have r3 := hrs.lt
  have l3 := hb3.size
  clear hb3 hrs B2 V2 G2 K1 K2 K5 HA HLn HLG
  go_wp2
  obtain ⟨W4, hW4⟩ : ∃ W4, ((w3.alloc (Obj.cells #[Value.pointer (some { block := rg, off := 0 })] 50)).alloc (Obj.cells #[Value.int IntKind.i64 0] 3)) = W4 := ⟨_, rfl⟩
  rw [hW4]
  have hb34 : Below w3.heap.size w3 W4 := by rw [← hW4]; exact ((Below.refl _ w3).alloc (Nat.le_refl _) _).alloc (by simp) _
  have c9 : Blk W4 w3.heap.size 50 #[.pointer (some ⟨rg, 0, none⟩)] := by rw [← hW4]; exact (Blk.new w3 _ _).alloc _
  have c101 : Blk W4 (w3.heap.size + 1) 3 #[.int .i64 0] := by rw [← hW4]; exact Blk.new_at _ _ (by simp)
  clear hW4
  have hp : AllP.ok (⟨w, w.heap.size, w.heap.size + 1, w.heap.size + 1 + 1, g, rg, w3.heap.size, fun k => g < k ∧ k < w2.heap.size, fun k => rg < k ∧ k < w3.heap.size, z, stop⟩ : AllP) := ⟨Nat.le_refl _, by simp, by simp, by show w.heap.size + 1 + 1 < g; omega, fun k hk => ⟨hk.1, by have := hk.2; show k < rg; omega⟩, by show g < rg; omega, fun k hk => hk, r3⟩
  have hst : AllAt (⟨w, w.heap.size, w.heap.size + 1, w.heap.size + 1 + 1, g, rg, w3.heap.size, fun k => g < k ∧ k < w2.heap.size, fun k => rg < k ∧ k < w3.heap.size, z, stop⟩ : AllP) W4 (Src.new L) (Src.new L) := ⟨((b4.below V3.out b4.lt).below hb34 (by omega)), ((b5.below V3.out b5.lt).below hb34 (by omega)), ((b6.below V3.out b6.lt).below hb34 (by omega)), c9, G3.out.behind hb34, R3.out.behind hb34, B3.out.trans (hb34.mono B3.out.size)⟩
  have HST1 := Lib.hid hst
  have hok4 := Lib.hid hp
  have h91 : w3.heap.size < w3.heap.size + 1 := Nat.lt_succ_self _
  generalize hs0 : Src.new L = s at HST1
  have HL1 := Lib.hid (show s.L = L by rw [← hs0]; rfl)
  clear b4 b5 b6 B3 V3 G3 R3 hst hp hs0 hb34 c9
  refine wp_loop_rounds 3 ?_
  rw [rounds_succ]
  have x101 := c101.cell 0
  have x41 := HST1.out.c4.cell 0
  have lt101 := c101.lt
  have lt41 : w.heap.size < W4.heap.size := HST1.out.c4.lt
  simp only [List.getElem?_toArray, List.getElem?_cons_zero] at x101 x41
  go_wp2_with (go_at_call 33; refine (srcAll_any _ _ _).mono ?_; rintro e V51 ⟨bA1, rfl, hA1, hNl1, hcA1, hcN1, hb51⟩)
  have hokq1 : AllQ.ok (⟨w, w.heap.size, w.heap.size + 1, w.heap.size + 1 + 1, g, rg, w3.heap.size, fun k => g < k ∧ k < w2.heap.size, fun k => rg < k ∧ k < w3.heap.size, z, stop⟩ : AllP) ⟨w3.heap.size + 1, W4.heap.size, W4.heap.size + 1, bA1, bA1 + 1, 0, []⟩ := by
    simp only [World.size_alloc] at hA1
    exact ⟨h91, lt101, by show W4.heap.size < W4.heap.size + 1; omega, by show W4.heap.size + 1 < bA1; omega, by show bA1 < bA1 + 1; omega, fun D h => absurd h List.not_mem_nil⟩
  have hB461 : Below W4.heap.size W4 ((W4.alloc (Obj.cells #[Value.int IntKind.i64 0] 3)).alloc (Obj.cells #[Value.bool false] 4)) := ((Below.refl _ W4).alloc (Nat.le_refl _) _).alloc (by simp) _
  have hB451 : Below W4.heap.size W4 V51 := hB461.trans (hb51.mono (by simp; omega))
  have hlp1 : LoopAt (⟨w, w.heap.size, w.heap.size + 1, w.heap.size + 1 + 1, g, rg, w3.heap.size, fun k => g < k ∧ k < w2.heap.size, fun k => rg < k ∧ k < w3.heap.size, z, stop⟩ : AllP) ⟨w3.heap.size + 1, W4.heap.size, W4.heap.size + 1, bA1, bA1 + 1, 0, []⟩ V51 s s false 0 :=
    ⟨HST1.out.behind hok4.out hB451, c101.below hB451 lt101, (Blk.alloc (Blk.new W4 3 #[.int .i64 0]) _).below hb51 (by simp; omega), (Blk.new_at (w := W4.alloc (Obj.cells #[Value.int IntKind.i64 0] 3)) 4 #[.bool false] (by simp)).below hb51 (by simp), hcA1, hcN1, hNl1, fun D h => absurd h List.not_mem_nil⟩
  have l451 := hB451.size
  have hg51 : g < V51.heap.size := hlp1.base.src.lt
  have HQ1 := Lib.hid hokq1
  have HLP1 := Lib.hid hlp1
  clear hB461 hB451 hlp1 hokq1 hb51 hcA1 hcN1 c101 x101 x41 HST1
  refine wp_rangeFunc_open (gf := 48) (lb := #[.pointer (some ⟨bA1, 0, none⟩), .pointer (some ⟨bA1 + 1, 0, none⟩)]) (I := AllI (⟨w, w.heap.size, w.heap.size + 1, w.heap.size + 1 + 1, g, rg, w3.heap.size, fun k => g < k ∧ k < w2.heap.size, fun k => rg < k ∧ k < w3.heap.size, z, stop⟩ : AllP) ⟨w3.heap.size + 1, W4.heap.size, W4.heap.size + 1, bA1, bA1 + 1, 0, []⟩ L V51.heap.size) (Ix := AllX (⟨w, w.heap.size, w.heap.size + 1, w.heap.size + 1 + 1, g, rg, w3.heap.size, fun k => g < k ∧ k < w2.heap.size, fun k => rg < k ∧ k < w3.heap.size, z, stop⟩ : AllP) ⟨w3.heap.size + 1, W4.heap.size, W4.heap.size + 1, bA1, bA1 + 1, 0, []⟩ L V51.heap.size) (Y := AllY (⟨w, w.heap.size, w.heap.size + 1, w.heap.size + 1 + 1, g, rg, w3.heap.size, fun k => g < k ∧ k < w2.heap.size, fun k => rg < k ∧ k < w3.heap.size, z, stop⟩ : AllP) ⟨w3.heap.size + 1, W4.heap.size, W4.heap.size + 1, bA1, bA1 + 1, 0, []⟩ L V51.heap.size) (Done := fun s => s.2 ≠ 0) (s0 := (s, 0)) 2 rfl (enters_of Try.func48 (by kernel_rfl) rfl)
    (srcAll1_open (all_words hok4.out HQ1.out hg51) s) (fun _ => rfl) (AllI.bides hok4.out HQ1.out hNl1) (AllX.bides hok4.out HQ1.out hNl1) (AllY.bides hok4.out HQ1.out hNl1) ?_ ?_ (fun a W h => h) ?_
  next =>
    intro W hW
    exact ⟨HL1.out, hW.size, 0, HLP1.out.keep hok4.out HQ1.out (Keep.of_below hW (fun _ => False)) (fun _ h => h.elim)⟩
  next =>
    clear HLP1
    rintro l D r ⟨s', er⟩ ⟨⟨Ar, bs, c0⟩, er'⟩ W hD hDl hy
    obtain ⟨_, _, e1, _⟩ := hy
    simp only at e1
    subst e1
    simp only [toldArgs]
    gi_wp2
    intro W2 hl hd hy2
    obtain ⟨hsL, hBW, _, how, r0, k, hrd, hat⟩ := hy2
    simp only at hrd how hsL hat
    have x12 := hat.c12.cell 0
    have x4 := hat.base.c4.cell 0
    have x9 := hat.base.c9.cell 0
    simp only [List.getElem?_toArray, List.getElem?_cons_zero] at x12 x4 x9
    have HAT := Lib.hid hat
    have HOW := Lib.hid how
    have HRD := Lib.hid hrd
    have HSL := Lib.hid hsL
    have hlD := lt_of_heap hl
    have hdD := lt_of_heap hd
    have HLr := Lib.hid hl
    have HDr := Lib.hid hd
    clear hat how hrd hsL hl hd
    by_cases hz : z < 1
    · have d : decide (z < 1) = true := by simpa using hz
      have hrd := HRD.out
      unfold Src.readI at hrd
      rw [if_pos hz] at hrd
      injection hrd with e2 e3
      injection e2 with e2 e4
      subst e2 e3 e4
      clear hz
      gi_wp2_with fail
      refine ⟨trivial, ?_⟩
      gi_at_call 18
      refine (alike_same l V51.heap.size (fun _ => True) _ none 0 0 [] 1 _ rfl HOW.out Row.none_).mono ?_
      rintro e w8 ⟨rfl, hk8⟩
      have HAT8 := Lib.hid (HAT.out.keep hok4.out HQ1.out hk8 (fun k h => by have := (HOW.out.lt k h).1; show bA1 + 1 < k; omega))
      have HL8 := Lib.hid (rec_keep HLr.out hk8 (own_not HOW.out HLr.out rfl))
      have HD8 := Lib.hid (rec_keep HDr.out hk8 (own_not HOW.out HDr.out rfl))
      have l8 := hk8.size
      have y12 := HAT8.out.c12.cell 0
      have f12 := HAT8.out.c12.frozen 0
      simp only [List.getElem?_toArray, List.getElem?_cons_zero] at y12
      clear x12 x4 x9 hk8 HAT HOW HRD
      gi_wp2
      have hsk : Keep (fun k => k = W4.heap.size + 1) w8 (w8.setCell ⟨W4.heap.size + 1, 0, none⟩ (.bool true)) := (Keep.refl (fun k => k = W4.heap.size + 1) w8).setCell (p := ⟨W4.heap.size + 1, 0, none⟩) (.inl rfl) _
      exact ⟨rec_keep HL8.out hsk (fun h => blk_not_rec HAT8.out.c12 HL8.out h.symm), rec_keep HD8.out hsk (fun h => blk_not_def HAT8.out.c12 HD8.out h.symm), HSL.out, Nat.le_trans (Nat.le_trans hBW l8) hsk.size, k, HAT8.out.over hok4.out HQ1.out true⟩
    · obtain ⟨x, rfl⟩ : ∃ x : Nat, z = x := ⟨z.toNat, by omega⟩
      have d : decide ((x : Int) < 1) = false := by simp; omega
      have d2 : decide (x < 1) = false := by simp; omega
      have hrd := HRD.out
      unfold Src.readI at hrd
      rw [if_neg hz] at hrd
      simp only [Int.toNat_natCast] at hrd
      have HRD2 := Lib.hid hrd
      have hx1 : 1 ≤ x := by omega
      clear hz hrd
      gi_wp2_with fail
      refine ⟨trivial, ?_⟩
      gi_at_call 29
      refine (CallsIn.inRound l (callsIn_wide.2 (rsrcRead_any x HAT.out.base.rsrc hx1))).mono ?_
      rintro e w8 ⟨v, rfl, h8⟩
      obtain ⟨A8, c8, rfl, ho8, hs8, hk8⟩ := h8.at_ HRD2.out
      have hrg : rg < w3.heap.size := r3
      have hrD : rg < V51.heap.size := by have := HQ1.out.h10; have := HQ1.out.h11; have := HQ1.out.h12; have := HQ1.out.hA; simp only at *; omega
      have HAT8 := Lib.hid (HAT.out.readR hok4.out HQ1.out hk8 hs8)
      have HOW8 := Lib.hid (own_keep HOW.out hk8 (fun j h1 h2 => by have := (HOW.out.lt j h1).1; have : j = rg := h2; omega))
      have HWN8 := Lib.hid ho8
      have HL8 := Lib.hid (rec_keep HLr.out hk8 (fun h => by have : l = rg := h; omega))
      have HD8 := Lib.hid (rec_keep HDr.out hk8 (fun h => by have : D = rg := h; omega))
      have l8 := hk8.size
      have y12 := HAT8.out.c12.cell 0
      have f12 := HAT8.out.c12.frozen 0
      simp only [List.getElem?_toArray, List.getElem?_cons_zero] at y12
      clear x12 x4 x9 hk8 HAT HOW HRD HRD2 h8 ho8 hs8 HLr HDr
      gi_wp2_with fail
      refine ⟨trivial, ?_⟩
      gi_at_call 18
      have hsk : Keep (fun k => k = W4.heap.size + 1) w8 (w8.setCell ⟨W4.heap.size + 1, 0, none⟩ (.bool (er' != 0))) := (Keep.refl (fun k => k = W4.heap.size + 1) w8).setCell (p := ⟨W4.heap.size + 1, 0, none⟩) (.inl rfl) _
      have hb12 : W4.heap.size + 1 < V51.heap.size := by have := HQ1.out.hA; simp only at this; omega
      have HAT9 := Lib.hid (HAT8.out.over hok4.out HQ1.out (er' != 0))
      have HOW9 := Lib.hid (own_keep HOW8.out hsk (fun j h1 h2 => by have := (HOW8.out.lt j h1).1; have : j = W4.heap.size + 1 := h2; omega))
      have HWN9 := Lib.hid (own_keep HWN8.out hsk (fun j h1 h2 => by have := (HWN8.out.lt j h1).1; have : j = W4.heap.size + 1 := h2; omega))
      have HL9 := Lib.hid (rec_keep HL8.out hsk (fun h => blk_not_rec HAT8.out.c12 HL8.out h.symm))
      have HD9 := Lib.hid (rec_keep HD8.out hsk (fun h => blk_not_def HAT8.out.c12 HD8.out h.symm))
      have l9 := hsk.size
      generalize w8.setCell ⟨W4.heap.size + 1, 0, none⟩ (.bool (er' != 0)) = w9 at HAT9 HOW9 HWN9 HL9 HD9 l9 ⊢
      refine (alike_same l V51.heap.size (fun k => W2.heap.size ≤ k) _ A8 c8 bs.length bs er' _ rfl HOW9.out (Row.of_own HWN9.out)).mono ?_
      rintro e w10 ⟨rfl, hk10⟩
      have HAT10 := Lib.hid (HAT9.out.keep hok4.out HQ1.out hk10 (fun k h => by have := (HOW9.out.lt k h).1; show bA1 + 1 < k; omega))
      have HL10 := Lib.hid (rec_keep HL9.out hk10 (own_not HOW9.out HL9.out rfl))
      have HD10 := Lib.hid (rec_keep HD9.out hk10 (own_not HOW9.out HD9.out rfl))
      have l10 := hk10.size
      have y11 := HAT10.out.c11.cell 0
      have f11 := HAT10.out.c11.frozen 0
      have y10 := HAT10.out.c10.cell 0
      have y5 := HAT10.out.base.c5.cell 0
      have lt11 := HAT10.out.c11.lt
      simp only [List.getElem?_toArray, List.getElem?_cons_zero] at y11 y10 y5
      clear y12 f12 hk10 hsk HAT8 HAT9 HOW8 HOW9 HWN8 HWN9 HL8 HL9 HD8 HD9
      cases hst : (wrap64 (k + 1) == stop) with
      | true =>
        gi_wp2
        have e2 : wrap64 (k + 1) = stop := by simpa using hst
        have hsk : Keep (fun k => k = W4.heap.size) w10 (w10.setCell ⟨W4.heap.size, 0, none⟩ (.int .i64 (wrap64 (k + 1)))) := (Keep.refl (fun k => k = W4.heap.size) w10).setCell (p := ⟨W4.heap.size, 0, none⟩) (.inl rfl) _
        have hf := HAT10.out.count hok4.out HQ1.out (wrap64 (k + 1))
        have hz := Nat.le_trans (Nat.le_trans (Nat.le_trans (Nat.le_trans hBW l8) l9) l10) hsk.size
        have hl2 := rec_keep HL10.out hsk (fun h => blk_not_rec HAT10.out.c11 HL10.out h.symm)
        have hd2 := rec_keep HD10.out hsk (fun h => blk_not_def HAT10.out.c11 HD10.out h.symm)
        exact ⟨rfl, hl2, hd2, HSL.out, hz, rfl, e2 ▸ hf⟩
      | false =>
        gi_wp2
        have hsk : Keep (fun k => k = W4.heap.size) w10 (w10.setCell ⟨W4.heap.size, 0, none⟩ (.int .i64 (wrap64 (k + 1)))) := (Keep.refl (fun k => k = W4.heap.size) w10).setCell (p := ⟨W4.heap.size, 0, none⟩) (.inl rfl) _
        exact ⟨rec_keep HL10.out hsk (fun h => blk_not_rec HAT10.out.c11 HL10.out h.symm), rec_keep HD10.out hsk (fun h => blk_not_def HAT10.out.c11 HD10.out h.symm), HSL.out, Nat.le_trans (Nat.le_trans (Nat.le_trans (Nat.le_trans hBW l8) l9) l10) hsk.size, _, HAT10.out.count hok4.out HQ1.out (wrap64 (k + 1))⟩
  clear HLP1
  rintro D1 ⟨s1, e1⟩ W61 hD1 hcase hdd1
  obtain ⟨hsL, hz61, ov, k, hat, hov⟩ : s1.L = L ∧ V51.heap.size ≤ W61.heap.size ∧ ∃ ov k, LoopAt (⟨w, w.heap.size, w.heap.size + 1, w.heap.size + 1 + 1, g, rg, w3.heap.size, fun k => g < k ∧ k < w2.heap.size, fun k => rg < k ∧ k < w3.heap.size, z, stop⟩ : AllP) ⟨w3.heap.size + 1, W4.heap.size, W4.heap.size + 1, bA1, bA1 + 1, 0, []⟩ W61 s1 s1 ov k ∧ (ov = true ∨ ((0 : Int) = 0 ∧ k = stop)) := by
    rcases hcase with ⟨he, h1, h2, k, h⟩ | ⟨h1, h2, h3, h⟩
    · exact ⟨h1, h2, _, k, h, .inl (by simpa using he)⟩
    · exact ⟨h1, h2, _, _, h, .inr ⟨h3, rfl⟩⟩
  have HL2 := Lib.hid hsL
  have y12 := hat.c12.cell 0
  have y11 := hat.c11.cell 0
  have y10 := hat.c10.cell 0
  have f10 := hat.c10.frozen 0
  have y5 := hat.base.c5.cell 0
  have hd61 := lt_of_heap hdd1
  have HDD1 := Lib.hid hdd1
  have HAT1 := Lib.hid hat
  simp only [List.getElem?_toArray, List.getElem?_cons_zero] at y12 y11 y10 y5
  clear hsL hcase hat hdd1
  dsimp only
  cases ov with
  | true =>
    go_wp2
    have hb67 : Below W61.heap.size W61 (W61.alloc (Obj.cells #[Value.int IntKind.i64 1] 3)) := (Below.refl _ W61).alloc (Nat.le_refl _) _
    have hA7 := HAT1.out.base.behind hok4.out hb67
    have hd7 : (W61.alloc (Obj.cells #[Value.int IntKind.i64 1] 3)).heap[D1]? = some (.deferred (some [])) := (hb67.block _ hd61).trans HDD1.out
    have c102 : Blk (W61.alloc (Obj.cells #[Value.int IntKind.i64 1] 3)) W61.heap.size 3 #[.int .i64 1] := Blk.new _ _ _
    have h92 : w3.heap.size < W61.heap.size := by omega
    have h9D : w3.heap.size < D1 := by omega
    generalize W61.alloc (Obj.cells #[Value.int IntKind.i64 1] 3) = W7 at hA7 hd7 c102 ⊢
    have hb7 := c102.lt
    clear hb67 HAT1 HDD1 hz61
    generalize W61.heap.size = b7 at hd61 c102 h92 hb7 ⊢
    have HST2 := Lib.hid hA7
    have HDW1 := Lib.hid hd7
    clear hA7 hd7 y12 y11 y10 y5 f10
    rw [rounds_succ]
    have x102 := c102.cell 0
    have x42 := HST2.out.c4.cell 0
    have lt102 := c102.lt
    have lt42 : w.heap.size < W7.heap.size := HST2.out.c4.lt
    simp only [List.getElem?_toArray, List.getElem?_cons_zero] at x102 x42
    go_wp2_with (go_at_call 33; refine (srcAll_any _ _ _).mono ?_; rintro e V52 ⟨bA2, rfl, hA2, hNl2, hcA2, hcN2, hb52⟩)
    have hokq2 : AllQ.ok (⟨w, w.heap.size, w.heap.size + 1, w.heap.size + 1 + 1, g, rg, w3.heap.size, fun k => g < k ∧ k < w2.heap.size, fun k => rg < k ∧ k < w3.heap.size, z, stop⟩ : AllP) ⟨b7, W7.heap.size, W7.heap.size + 1, bA2, bA2 + 1, 1, [D1]⟩ := by
      simp only [World.size_alloc] at hA2
      exact ⟨h92, lt102, by show W7.heap.size < W7.heap.size + 1; omega, by show W7.heap.size + 1 < bA2; omega, by show bA2 < bA2 + 1; omega, fun D h => by obtain rfl := List.mem_singleton.1 h; exact ⟨h9D, hd61⟩⟩
    have hB462 : Below W7.heap.size W7 ((W7.alloc (Obj.cells #[Value.int IntKind.i64 0] 3)).alloc (Obj.cells #[Value.bool false] 4)) := ((Below.refl _ W7).alloc (Nat.le_refl _) _).alloc (by simp) _
    have hB452 : Below W7.heap.size W7 V52 := hB462.trans (hb52.mono (by simp; omega))
    have hlp2 : LoopAt (⟨w, w.heap.size, w.heap.size + 1, w.heap.size + 1 + 1, g, rg, w3.heap.size, fun k => g < k ∧ k < w2.heap.size, fun k => rg < k ∧ k < w3.heap.size, z, stop⟩ : AllP) ⟨b7, W7.heap.size, W7.heap.size + 1, bA2, bA2 + 1, 1, [D1]⟩ V52 s1 s1 false 0 :=
      ⟨HST2.out.behind hok4.out hB452, c102.below hB452 lt102, (Blk.alloc (Blk.new W7 3 #[.int .i64 0]) _).below hb52 (by simp; omega), (Blk.new_at (w := W7.alloc (Obj.cells #[Value.int IntKind.i64 0] 3)) 4 #[.bool false] (by simp)).below hb52 (by simp), hcA2, hcN2, hNl2, fun D h => by obtain rfl := List.mem_singleton.1 h; exact (hB452.block _ (by omega)).trans HDW1.out⟩
    have l452 := hB452.size
    have hg52 : g < V52.heap.size := hlp2.base.src.lt
    have HQ2 := Lib.hid hokq2
    have HLP2 := Lib.hid hlp2
    clear hB462 hB452 hlp2 hokq2 hb52 hcA2 hcN2 c102 x102 x42 HST2
    refine wp_rangeFunc_open (gf := 48) (lb := #[.pointer (some ⟨bA2, 0, none⟩), .pointer (some ⟨bA2 + 1, 0, none⟩)]) (I := AllI (⟨w, w.heap.size, w.heap.size + 1, w.heap.size + 1 + 1, g, rg, w3.heap.size, fun k => g < k ∧ k < w2.heap.size, fun k => rg < k ∧ k < w3.heap.size, z, stop⟩ : AllP) ⟨b7, W7.heap.size, W7.heap.size + 1, bA2, bA2 + 1, 1, [D1]⟩ L V52.heap.size) (Ix := AllX (⟨w, w.heap.size, w.heap.size + 1, w.heap.size + 1 + 1, g, rg, w3.heap.size, fun k => g < k ∧ k < w2.heap.size, fun k => rg < k ∧ k < w3.heap.size, z, stop⟩ : AllP) ⟨b7, W7.heap.size, W7.heap.size + 1, bA2, bA2 + 1, 1, [D1]⟩ L V52.heap.size) (Y := AllY (⟨w, w.heap.size, w.heap.size + 1, w.heap.size + 1 + 1, g, rg, w3.heap.size, fun k => g < k ∧ k < w2.heap.size, fun k => rg < k ∧ k < w3.heap.size, z, stop⟩ : AllP) ⟨b7, W7.heap.size, W7.heap.size + 1, bA2, bA2 + 1, 1, [D1]⟩ L V52.heap.size) (Done := fun s => s.2 ≠ 0) (s0 := (s1, 0)) 2 rfl (enters_of Try.func48 (by kernel_rfl) rfl)
      (srcAll1_open (all_words hok4.out HQ2.out hg52) s1) (fun _ => rfl) (AllI.bides hok4.out HQ2.out hNl2) (AllX.bides hok4.out HQ2.out hNl2) (AllY.bides hok4.out HQ2.out hNl2) ?_ ?_ (fun a W h => h) ?_
    next =>
      intro W hW
      exact ⟨HL2.out, hW.size, 0, HLP2.out.keep hok4.out HQ2.out (Keep.of_below hW (fun _ => False)) (fun _ h => h.elim)⟩
    next =>
      clear HLP2
      rintro l D r ⟨s', er⟩ ⟨⟨Ar, bs, c0⟩, er'⟩ W hD hDl hy
      obtain ⟨_, _, e1, _⟩ := hy
      simp only at e1
      subst e1
      simp only [toldArgs]
      gi_wp2
      intro W2 hl hd hy2
      obtain ⟨hsL, hBW, _, how, r0, k, hrd, hat⟩ := hy2
      simp only at hrd how hsL hat
      have x12 := hat.c12.cell 0
      have x4 := hat.base.c4.cell 0
      have x9 := hat.base.c9.cell 0
      simp only [List.getElem?_toArray, List.getElem?_cons_zero] at x12 x4 x9
      have HAT := Lib.hid hat
      have HOW := Lib.hid how
      have HRD := Lib.hid hrd
      have HSL := Lib.hid hsL
      have hlD := lt_of_heap hl
      have hdD := lt_of_heap hd
      have HLr := Lib.hid hl
      have HDr := Lib.hid hd
      clear hat how hrd hsL hl hd
      by_cases hz : z < 1
      · have d : decide (z < 1) = true := by simpa using hz
        have hrd := HRD.out
        unfold Src.readI at hrd
        rw [if_pos hz] at hrd
        injection hrd with e2 e3
        injection e2 with e2 e4
        subst e2 e3 e4
        clear hz
        gi_wp2_with fail
        refine ⟨trivial, ?_⟩
        gi_at_call 18
        refine (alike_same l V52.heap.size (fun _ => True) _ none 0 0 [] 1 _ rfl HOW.out Row.none_).mono ?_
        rintro e w8 ⟨rfl, hk8⟩
        have HAT8 := Lib.hid (HAT.out.keep hok4.out HQ2.out hk8 (fun k h => by have := (HOW.out.lt k h).1; show bA2 + 1 < k; omega))
        have HL8 := Lib.hid (rec_keep HLr.out hk8 (own_not HOW.out HLr.out rfl))
        have HD8 := Lib.hid (rec_keep HDr.out hk8 (own_not HOW.out HDr.out rfl))
        have l8 := hk8.size
        have y12 := HAT8.out.c12.cell 0
        have f12 := HAT8.out.c12.frozen 0
        simp only [List.getElem?_toArray, List.getElem?_cons_zero] at y12
        clear x12 x4 x9 hk8 HAT HOW HRD
        gi_wp2
        have hsk : Keep (fun k => k = W7.heap.size + 1) w8 (w8.setCell ⟨W7.heap.size + 1, 0, none⟩ (.bool true)) := (Keep.refl (fun k => k = W7.heap.size + 1) w8).setCell (p := ⟨W7.heap.size + 1, 0, none⟩) (.inl rfl) _
        exact ⟨rec_keep HL8.out hsk (fun h => blk_not_rec HAT8.out.c12 HL8.out h.symm), rec_keep HD8.out hsk (fun h => blk_not_def HAT8.out.c12 HD8.out h.symm), HSL.out, Nat.le_trans (Nat.le_trans hBW l8) hsk.size, k, HAT8.out.over hok4.out HQ2.out true⟩
      · obtain ⟨x, rfl⟩ : ∃ x : Nat, z = x := ⟨z.toNat, by omega⟩
        have d : decide ((x : Int) < 1) = false := by simp; omega
        have d2 : decide (x < 1) = false := by simp; omega
        have hrd := HRD.out
        unfold Src.readI at hrd
        rw [if_neg hz] at hrd
        simp only [Int.toNat_natCast] at hrd
        have HRD2 := Lib.hid hrd
        have hx1 : 1 ≤ x := by omega
        clear hz hrd
        gi_wp2_with fail
        refine ⟨trivial, ?_⟩
        gi_at_call 29
        refine (CallsIn.inRound l (callsIn_wide.2 (rsrcRead_any x HAT.out.base.rsrc hx1))).mono ?_
        rintro e w8 ⟨v, rfl, h8⟩
        obtain ⟨A8, c8, rfl, ho8, hs8, hk8⟩ := h8.at_ HRD2.out
        have hrg : rg < w3.heap.size := r3
        have hrD : rg < V52.heap.size := by have := HQ2.out.h10; have := HQ2.out.h11; have := HQ2.out.h12; have := HQ2.out.hA; simp only at *; omega
        have HAT8 := Lib.hid (HAT.out.readR hok4.out HQ2.out hk8 hs8)
        have HOW8 := Lib.hid (own_keep HOW.out hk8 (fun j h1 h2 => by have := (HOW.out.lt j h1).1; have : j = rg := h2; omega))
        have HWN8 := Lib.hid ho8
        have HL8 := Lib.hid (rec_keep HLr.out hk8 (fun h => by have : l = rg := h; omega))
        have HD8 := Lib.hid (rec_keep HDr.out hk8 (fun h => by have : D = rg := h; omega))
        have l8 := hk8.size
        have y12 := HAT8.out.c12.cell 0
        have f12 := HAT8.out.c12.frozen 0
        simp only [List.getElem?_toArray, List.getElem?_cons_zero] at y12
        clear x12 x4 x9 hk8 HAT HOW HRD HRD2 h8 ho8 hs8 HLr HDr
        gi_wp2_with fail
        refine ⟨trivial, ?_⟩
        gi_at_call 18
        have hsk : Keep (fun k => k = W7.heap.size + 1) w8 (w8.setCell ⟨W7.heap.size + 1, 0, none⟩ (.bool (er' != 0))) := (Keep.refl (fun k => k = W7.heap.size + 1) w8).setCell (p := ⟨W7.heap.size + 1, 0, none⟩) (.inl rfl) _
        have hb12 : W7.heap.size + 1 < V52.heap.size := by have := HQ2.out.hA; simp only at this; omega
        have HAT9 := Lib.hid (HAT8.out.over hok4.out HQ2.out (er' != 0))
        have HOW9 := Lib.hid (own_keep HOW8.out hsk (fun j h1 h2 => by have := (HOW8.out.lt j h1).1; have : j = W7.heap.size + 1 := h2; omega))
        have HWN9 := Lib.hid (own_keep HWN8.out hsk (fun j h1 h2 => by have := (HWN8.out.lt j h1).1; have : j = W7.heap.size + 1 := h2; omega))
        have HL9 := Lib.hid (rec_keep HL8.out hsk (fun h => blk_not_rec HAT8.out.c12 HL8.out h.symm))
        have HD9 := Lib.hid (rec_keep HD8.out hsk (fun h => blk_not_def HAT8.out.c12 HD8.out h.symm))
        have l9 := hsk.size
        generalize w8.setCell ⟨W7.heap.size + 1, 0, none⟩ (.bool (er' != 0)) = w9 at HAT9 HOW9 HWN9 HL9 HD9 l9 ⊢
        refine (alike_same l V52.heap.size (fun k => W2.heap.size ≤ k) _ A8 c8 bs.length bs er' _ rfl HOW9.out (Row.of_own HWN9.out)).mono ?_
        rintro e w10 ⟨rfl, hk10⟩
        have HAT10 := Lib.hid (HAT9.out.keep hok4.out HQ2.out hk10 (fun k h => by have := (HOW9.out.lt k h).1; show bA2 + 1 < k; omega))
        have HL10 := Lib.hid (rec_keep HL9.out hk10 (own_not HOW9.out HL9.out rfl))
        have HD10 := Lib.hid (rec_keep HD9.out hk10 (own_not HOW9.out HD9.out rfl))
        have l10 := hk10.size
        have y11 := HAT10.out.c11.cell 0
        have f11 := HAT10.out.c11.frozen 0
        have y10 := HAT10.out.c10.cell 0
        have y5 := HAT10.out.base.c5.cell 0
        have lt11 := HAT10.out.c11.lt
        simp only [List.getElem?_toArray, List.getElem?_cons_zero] at y11 y10 y5
        clear y12 f12 hk10 hsk HAT8 HAT9 HOW8 HOW9 HWN8 HWN9 HL8 HL9 HD8 HD9
        cases hst : (wrap64 (k + 1) == stop) with
        | true =>
          gi_wp2
          have e2 : wrap64 (k + 1) = stop := by simpa using hst
          have hsk : Keep (fun k => k = W7.heap.size) w10 (w10.setCell ⟨W7.heap.size, 0, none⟩ (.int .i64 (wrap64 (k + 1)))) := (Keep.refl (fun k => k = W7.heap.size) w10).setCell (p := ⟨W7.heap.size, 0, none⟩) (.inl rfl) _
          have hf := HAT10.out.count hok4.out HQ2.out (wrap64 (k + 1))
          have hz := Nat.le_trans (Nat.le_trans (Nat.le_trans (Nat.le_trans hBW l8) l9) l10) hsk.size
          have hl2 := rec_keep HL10.out hsk (fun h => blk_not_rec HAT10.out.c11 HL10.out h.symm)
          have hd2 := rec_keep HD10.out hsk (fun h => blk_not_def HAT10.out.c11 HD10.out h.symm)
          exact ⟨hl2, hd2, HSL.out, hz, _, hf⟩
        | false =>
          gi_wp2
          have hsk : Keep (fun k => k = W7.heap.size) w10 (w10.setCell ⟨W7.heap.size, 0, none⟩ (.int .i64 (wrap64 (k + 1)))) := (Keep.refl (fun k => k = W7.heap.size) w10).setCell (p := ⟨W7.heap.size, 0, none⟩) (.inl rfl) _
          exact ⟨rec_keep HL10.out hsk (fun h => blk_not_rec HAT10.out.c11 HL10.out h.symm), rec_keep HD10.out hsk (fun h => blk_not_def HAT10.out.c11 HD10.out h.symm), HSL.out, Nat.le_trans (Nat.le_trans (Nat.le_trans (Nat.le_trans hBW l8) l9) l10) hsk.size, _, HAT10.out.count hok4.out HQ2.out (wrap64 (k + 1))⟩
    clear HLP2
    rintro D2 ⟨s2, e2⟩ W62 hD2 hcase hdd2
    obtain ⟨hsL, hz62, ov, k, hat, hov⟩ : s2.L = L ∧ V52.heap.size ≤ W62.heap.size ∧ ∃ ov k, LoopAt (⟨w, w.heap.size, w.heap.size + 1, w.heap.size + 1 + 1, g, rg, w3.heap.size, fun k => g < k ∧ k < w2.heap.size, fun k => rg < k ∧ k < w3.heap.size, z, stop⟩ : AllP) ⟨b7, W7.heap.size, W7.heap.size + 1, bA2, bA2 + 1, 1, [D1]⟩ W62 s2 s2 ov k ∧ (ov = true ∨ ((1 : Int) = 0 ∧ k = stop)) := by
      rcases hcase with ⟨he, h1, h2, k, h⟩ | ⟨h1, h2, h3, h⟩
      · exact ⟨h1, h2, _, k, h, .inl (by simpa using he)⟩
      · exact ⟨h1, h2, _, _, h, .inr ⟨h3, rfl⟩⟩
    have HL3 := Lib.hid hsL
    have y12 := hat.c12.cell 0
    have y11 := hat.c11.cell 0
    have y10 := hat.c10.cell 0
    have f10 := hat.c10.frozen 0
    have y5 := hat.base.c5.cell 0
    have hd62 := lt_of_heap hdd2
    have HDD2 := Lib.hid hdd2
    have HAT2 := Lib.hid hat
    simp only [List.getElem?_toArray, List.getElem?_cons_zero] at y12 y11 y10 y5
    clear hsL hcase hat hdd2
    dsimp only

    obtain rfl : ov = true := hov.resolve_right (by simp)
    go_wp2
    rw [rounds_succ]
    go_wp2_with fail
    refine (awake_any _).mono ?_
    rintro e W9 ⟨rfl, hb9⟩
    have hb69 : Below W62.heap.size W62 W9 := ((Below.refl _ W62).alloc (Nat.le_refl _) _).trans (hb9.mono (by simp))
    have hA9 := HAT2.out.base.behind hok4.out hb69
    have g1 : W9.heap[D1]? = some (.deferred (some [])) := (hb69.block _ (by omega)).trans (HAT2.out.defs D1 (List.mem_singleton.2 rfl))
    have g2 : W9.heap[D2]? = some (.deferred (some [])) := (hb69.block _ hd62).trans HDD2.out
    have x6 := hA9.c6.cell 0
    have f6 := hA9.c6.frozen 0
    have h6 := hA9.c6
    have hB9 := hA9.below
    have hww : w.heap.size ≤ w3.heap.size := by omega
    simp only [List.getElem?_toArray, List.getElem?_cons_zero] at x6
    clear hb9 hb69 hA9 HAT2 HDD2
    go_wp2
    have b7' := h6.set_ 0 (.bool true)
    have B7 := hB9.setCell (p := ⟨w.heap.size + 1 + 1, 0, none⟩) (by show _ ≤ w.heap.size + 1 + 1; omega) (.bool true)
    have hsk : Keep (fun k => k = w.heap.size + 1 + 1) W9 (W9.setCell ⟨w.heap.size + 1 + 1, 0, none⟩ (.bool true)) := (Keep.refl (fun k => k = w.heap.size + 1 + 1) W9).setCell (p := ⟨w.heap.size + 1 + 1, 0, none⟩) (.inl rfl) _
    have g1' := rec_keep g1 hsk (fun h => blk_not_def h6 g1 h.symm)
    have g2' := rec_keep g2 hsk (fun h => blk_not_def h6 g2 h.symm)
    refine leave_cell [D2, D1] rfl rfl b7' (by simp; omega) (fun D h => ?_) B7 (fun D h => ?_)
    · rcases List.mem_cons.1 h with rfl | h
      · exact g2'
      · obtain rfl := List.mem_singleton.1 h
        exact g1'
    · rcases List.mem_cons.1 h with rfl | h
      · omega
      · obtain rfl := List.mem_singleton.1 h
        omega
  | false =>
    have hks : stop = k := (hov.resolve_left (by simp)).2.symm
    subst hks
    go_wp2
    have hb67 : Below W61.heap.size W61 (W61.alloc (Obj.cells #[Value.int IntKind.i64 1] 3)) := (Below.refl _ W61).alloc (Nat.le_refl _) _
    have hA7 := HAT1.out.base.behind hok4.out hb67
    have hd7 : (W61.alloc (Obj.cells #[Value.int IntKind.i64 1] 3)).heap[D1]? = some (.deferred (some [])) := (hb67.block _ hd61).trans HDD1.out
    have c102 : Blk (W61.alloc (Obj.cells #[Value.int IntKind.i64 1] 3)) W61.heap.size 3 #[.int .i64 1] := Blk.new _ _ _
    have h92 : w3.heap.size < W61.heap.size := by omega
    have h9D : w3.heap.size < D1 := by omega
    generalize W61.alloc (Obj.cells #[Value.int IntKind.i64 1] 3) = W7 at hA7 hd7 c102 ⊢
    have hb7 := c102.lt
    clear hb67 HAT1 HDD1 hz61
    generalize W61.heap.size = b7 at hd61 c102 h92 hb7 ⊢
    have HST2 := Lib.hid hA7
    have HDW1 := Lib.hid hd7
    clear hA7 hd7 y12 y11 y10 y5 f10
    rw [rounds_succ]
    have x102 := c102.cell 0
    have x42 := HST2.out.c4.cell 0
    have lt102 := c102.lt
    have lt42 : w.heap.size < W7.heap.size := HST2.out.c4.lt
    simp only [List.getElem?_toArray, List.getElem?_cons_zero] at x102 x42
    go_wp2_with (go_at_call 33; refine (srcAll_any _ _ _).mono ?_; rintro e V52 ⟨bA2, rfl, hA2, hNl2, hcA2, hcN2, hb52⟩)
    have hokq2 : AllQ.ok (⟨w, w.heap.size, w.heap.size + 1, w.heap.size + 1 + 1, g, rg, w3.heap.size, fun k => g < k ∧ k < w2.heap.size, fun k => rg < k ∧ k < w3.heap.size, z, stop⟩ : AllP) ⟨b7, W7.heap.size, W7.heap.size + 1, bA2, bA2 + 1, 1, [D1]⟩ := by
      simp only [World.size_alloc] at hA2
      exact ⟨h92, lt102, by show W7.heap.size < W7.heap.size + 1; omega, by show W7.heap.size + 1 < bA2; omega, by show bA2 < bA2 + 1; omega, fun D h => by obtain rfl := List.mem_singleton.1 h; exact ⟨h9D, hd61⟩⟩
    have hB462 : Below W7.heap.size W7 ((W7.alloc (Obj.cells #[Value.int IntKind.i64 0] 3)).alloc (Obj.cells #[Value.bool false] 4)) := ((Below.refl _ W7).alloc (Nat.le_refl _) _).alloc (by simp) _
    have hB452 : Below W7.heap.size W7 V52 := hB462.trans (hb52.mono (by simp; omega))
    have hlp2 : LoopAt (⟨w, w.heap.size, w.heap.size + 1, w.heap.size + 1 + 1, g, rg, w3.heap.size, fun k => g < k ∧ k < w2.heap.size, fun k => rg < k ∧ k < w3.heap.size, z, stop⟩ : AllP) ⟨b7, W7.heap.size, W7.heap.size + 1, bA2, bA2 + 1, 1, [D1]⟩ V52 s1 s1 false 0 :=
      ⟨HST2.out.behind hok4.out hB452, c102.below hB452 lt102, (Blk.alloc (Blk.new W7 3 #[.int .i64 0]) _).below hb52 (by simp; omega), (Blk.new_at (w := W7.alloc (Obj.cells #[Value.int IntKind.i64 0] 3)) 4 #[.bool false] (by simp)).below hb52 (by simp), hcA2, hcN2, hNl2, fun D h => by obtain rfl := List.mem_singleton.1 h; exact (hB452.block _ (by omega)).trans HDW1.out⟩
    have l452 := hB452.size
    have hg52 : g < V52.heap.size := hlp2.base.src.lt
    have HQ2 := Lib.hid hokq2
    have HLP2 := Lib.hid hlp2
    clear hB462 hB452 hlp2 hokq2 hb52 hcA2 hcN2 c102 x102 x42 HST2
    refine wp_rangeFunc_open (gf := 48) (lb := #[.pointer (some ⟨bA2, 0, none⟩), .pointer (some ⟨bA2 + 1, 0, none⟩)]) (I := AllI (⟨w, w.heap.size, w.heap.size + 1, w.heap.size + 1 + 1, g, rg, w3.heap.size, fun k => g < k ∧ k < w2.heap.size, fun k => rg < k ∧ k < w3.heap.size, z, stop⟩ : AllP) ⟨b7, W7.heap.size, W7.heap.size + 1, bA2, bA2 + 1, 1, [D1]⟩ L V52.heap.size) (Ix := AllX (⟨w, w.heap.size, w.heap.size + 1, w.heap.size + 1 + 1, g, rg, w3.heap.size, fun k => g < k ∧ k < w2.heap.size, fun k => rg < k ∧ k < w3.heap.size, z, stop⟩ : AllP) ⟨b7, W7.heap.size, W7.heap.size + 1, bA2, bA2 + 1, 1, [D1]⟩ L V52.heap.size) (Y := AllY (⟨w, w.heap.size, w.heap.size + 1, w.heap.size + 1 + 1, g, rg, w3.heap.size, fun k => g < k ∧ k < w2.heap.size, fun k => rg < k ∧ k < w3.heap.size, z, stop⟩ : AllP) ⟨b7, W7.heap.size, W7.heap.size + 1, bA2, bA2 + 1, 1, [D1]⟩ L V52.heap.size) (Done := fun s => s.2 ≠ 0) (s0 := (s1, 0)) 2 rfl (enters_of Try.func48 (by kernel_rfl) rfl)
      (srcAll1_open (all_words hok4.out HQ2.out hg52) s1) (fun _ => rfl) (AllI.bides hok4.out HQ2.out hNl2) (AllX.bides hok4.out HQ2.out hNl2) (AllY.bides hok4.out HQ2.out hNl2) ?_ ?_ (fun a W h => h) ?_
    next =>
      intro W hW
      exact ⟨HL2.out, hW.size, 0, HLP2.out.keep hok4.out HQ2.out (Keep.of_below hW (fun _ => False)) (fun _ h => h.elim)⟩
    next =>
      clear HLP2
      rintro l D r ⟨s', er⟩ ⟨⟨Ar, bs, c0⟩, er'⟩ W hD hDl hy
      obtain ⟨_, _, e1, _⟩ := hy
      simp only at e1
      subst e1
      simp only [toldArgs]
      gi_wp2
      intro W2 hl hd hy2
      obtain ⟨hsL, hBW, _, how, r0, k, hrd, hat⟩ := hy2
      simp only at hrd how hsL hat
      have x12 := hat.c12.cell 0
      have x4 := hat.base.c4.cell 0
      have x9 := hat.base.c9.cell 0
      simp only [List.getElem?_toArray, List.getElem?_cons_zero] at x12 x4 x9
      have HAT := Lib.hid hat
      have HOW := Lib.hid how
      have HRD := Lib.hid hrd
      have HSL := Lib.hid hsL
      have hlD := lt_of_heap hl
      have hdD := lt_of_heap hd
      have HLr := Lib.hid hl
      have HDr := Lib.hid hd
      clear hat how hrd hsL hl hd
      by_cases hz : z < 1
      · have d : decide (z < 1) = true := by simpa using hz
        have hrd := HRD.out
        unfold Src.readI at hrd
        rw [if_pos hz] at hrd
        injection hrd with e2 e3
        injection e2 with e2 e4
        subst e2 e3 e4
        clear hz
        gi_wp2_with fail
        refine ⟨trivial, ?_⟩
        gi_at_call 18
        refine (alike_same l V52.heap.size (fun _ => True) _ none 0 0 [] 1 _ rfl HOW.out Row.none_).mono ?_
        rintro e w8 ⟨rfl, hk8⟩
        have HAT8 := Lib.hid (HAT.out.keep hok4.out HQ2.out hk8 (fun k h => by have := (HOW.out.lt k h).1; show bA2 + 1 < k; omega))
        have HL8 := Lib.hid (rec_keep HLr.out hk8 (own_not HOW.out HLr.out rfl))
        have HD8 := Lib.hid (rec_keep HDr.out hk8 (own_not HOW.out HDr.out rfl))
        have l8 := hk8.size
        have y12 := HAT8.out.c12.cell 0
        have f12 := HAT8.out.c12.frozen 0
        simp only [List.getElem?_toArray, List.getElem?_cons_zero] at y12
        clear x12 x4 x9 hk8 HAT HOW HRD
        gi_wp2
        have hsk : Keep (fun k => k = W7.heap.size + 1) w8 (w8.setCell ⟨W7.heap.size + 1, 0, none⟩ (.bool true)) := (Keep.refl (fun k => k = W7.heap.size + 1) w8).setCell (p := ⟨W7.heap.size + 1, 0, none⟩) (.inl rfl) _
        exact ⟨rec_keep HL8.out hsk (fun h => blk_not_rec HAT8.out.c12 HL8.out h.symm), rec_keep HD8.out hsk (fun h => blk_not_def HAT8.out.c12 HD8.out h.symm), HSL.out, Nat.le_trans (Nat.le_trans hBW l8) hsk.size, k, HAT8.out.over hok4.out HQ2.out true⟩
      · obtain ⟨x, rfl⟩ : ∃ x : Nat, z = x := ⟨z.toNat, by omega⟩
        have d : decide ((x : Int) < 1) = false := by simp; omega
        have d2 : decide (x < 1) = false := by simp; omega
        have hrd := HRD.out
        unfold Src.readI at hrd
        rw [if_neg hz] at hrd
        simp only [Int.toNat_natCast] at hrd
        have HRD2 := Lib.hid hrd
        have hx1 : 1 ≤ x := by omega
        clear hz hrd
        gi_wp2_with fail
        refine ⟨trivial, ?_⟩
        gi_at_call 29
        refine (CallsIn.inRound l (callsIn_wide.2 (rsrcRead_any x HAT.out.base.rsrc hx1))).mono ?_
        rintro e w8 ⟨v, rfl, h8⟩
        obtain ⟨A8, c8, rfl, ho8, hs8, hk8⟩ := h8.at_ HRD2.out
        have hrg : rg < w3.heap.size := r3
        have hrD : rg < V52.heap.size := by have := HQ2.out.h10; have := HQ2.out.h11; have := HQ2.out.h12; have := HQ2.out.hA; simp only at *; omega
        have HAT8 := Lib.hid (HAT.out.readR hok4.out HQ2.out hk8 hs8)
        have HOW8 := Lib.hid (own_keep HOW.out hk8 (fun j h1 h2 => by have := (HOW.out.lt j h1).1; have : j = rg := h2; omega))
        have HWN8 := Lib.hid ho8
        have HL8 := Lib.hid (rec_keep HLr.out hk8 (fun h => by have : l = rg := h; omega))
        have HD8 := Lib.hid (rec_keep HDr.out hk8 (fun h => by have : D = rg := h; omega))
        have l8 := hk8.size
        have y12 := HAT8.out.c12.cell 0
        have f12 := HAT8.out.c12.frozen 0
        simp only [List.getElem?_toArray, List.getElem?_cons_zero] at y12
        clear x12 x4 x9 hk8 HAT HOW HRD HRD2 h8 ho8 hs8 HLr HDr
        gi_wp2_with fail
        refine ⟨trivial, ?_⟩
        gi_at_call 18
        have hsk : Keep (fun k => k = W7.heap.size + 1) w8 (w8.setCell ⟨W7.heap.size + 1, 0, none⟩ (.bool (er' != 0))) := (Keep.refl (fun k => k = W7.heap.size + 1) w8).setCell (p := ⟨W7.heap.size + 1, 0, none⟩) (.inl rfl) _
        have hb12 : W7.heap.size + 1 < V52.heap.size := by have := HQ2.out.hA; simp only at this; omega
        have HAT9 := Lib.hid (HAT8.out.over hok4.out HQ2.out (er' != 0))
        have HOW9 := Lib.hid (own_keep HOW8.out hsk (fun j h1 h2 => by have := (HOW8.out.lt j h1).1; have : j = W7.heap.size + 1 := h2; omega))
        have HWN9 := Lib.hid (own_keep HWN8.out hsk (fun j h1 h2 => by have := (HWN8.out.lt j h1).1; have : j = W7.heap.size + 1 := h2; omega))
        have HL9 := Lib.hid (rec_keep HL8.out hsk (fun h => blk_not_rec HAT8.out.c12 HL8.out h.symm))
        have HD9 := Lib.hid (rec_keep HD8.out hsk (fun h => blk_not_def HAT8.out.c12 HD8.out h.symm))
        have l9 := hsk.size
        generalize w8.setCell ⟨W7.heap.size + 1, 0, none⟩ (.bool (er' != 0)) = w9 at HAT9 HOW9 HWN9 HL9 HD9 l9 ⊢
        refine (alike_same l V52.heap.size (fun k => W2.heap.size ≤ k) _ A8 c8 bs.length bs er' _ rfl HOW9.out (Row.of_own HWN9.out)).mono ?_
        rintro e w10 ⟨rfl, hk10⟩
        have HAT10 := Lib.hid (HAT9.out.keep hok4.out HQ2.out hk10 (fun k h => by have := (HOW9.out.lt k h).1; show bA2 + 1 < k; omega))
        have HL10 := Lib.hid (rec_keep HL9.out hk10 (own_not HOW9.out HL9.out rfl))
        have HD10 := Lib.hid (rec_keep HD9.out hk10 (own_not HOW9.out HD9.out rfl))
        have l10 := hk10.size
        have y11 := HAT10.out.c11.cell 0
        have f11 := HAT10.out.c11.frozen 0
        have y10 := HAT10.out.c10.cell 0
        have y5 := HAT10.out.base.c5.cell 0
        have lt11 := HAT10.out.c11.lt
        simp only [List.getElem?_toArray, List.getElem?_cons_zero] at y11 y10 y5
        clear y12 f12 hk10 hsk HAT8 HAT9 HOW8 HOW9 HWN8 HWN9 HL8 HL9 HD8 HD9
        cases hst : (wrap64 (k + 1) == stop) with
        | true =>
          gi_wp2
          have e2 : wrap64 (k + 1) = stop := by simpa using hst
          have hsk : Keep (fun k => k = W7.heap.size) w10 (w10.setCell ⟨W7.heap.size, 0, none⟩ (.int .i64 (wrap64 (k + 1)))) := (Keep.refl (fun k => k = W7.heap.size) w10).setCell (p := ⟨W7.heap.size, 0, none⟩) (.inl rfl) _
          have hf := HAT10.out.count hok4.out HQ2.out (wrap64 (k + 1))
          have hz := Nat.le_trans (Nat.le_trans (Nat.le_trans (Nat.le_trans hBW l8) l9) l10) hsk.size
          have hl2 := rec_keep HL10.out hsk (fun h => blk_not_rec HAT10.out.c11 HL10.out h.symm)
          have hd2 := rec_keep HD10.out hsk (fun h => blk_not_def HAT10.out.c11 HD10.out h.symm)
          exact ⟨hl2, hd2, HSL.out, hz, _, hf⟩
        | false =>
          gi_wp2
          have hsk : Keep (fun k => k = W7.heap.size) w10 (w10.setCell ⟨W7.heap.size, 0, none⟩ (.int .i64 (wrap64 (k + 1)))) := (Keep.refl (fun k => k = W7.heap.size) w10).setCell (p := ⟨W7.heap.size, 0, none⟩) (.inl rfl) _
          exact ⟨rec_keep HL10.out hsk (fun h => blk_not_rec HAT10.out.c11 HL10.out h.symm), rec_keep HD10.out hsk (fun h => blk_not_def HAT10.out.c11 HD10.out h.symm), HSL.out, Nat.le_trans (Nat.le_trans (Nat.le_trans (Nat.le_trans hBW l8) l9) l10) hsk.size, _, HAT10.out.count hok4.out HQ2.out (wrap64 (k + 1))⟩
    clear HLP2
    rintro D2 ⟨s2, e2⟩ W62 hD2 hcase hdd2
    obtain ⟨hsL, hz62, ov, k, hat, hov⟩ : s2.L = L ∧ V52.heap.size ≤ W62.heap.size ∧ ∃ ov k, LoopAt (⟨w, w.heap.size, w.heap.size + 1, w.heap.size + 1 + 1, g, rg, w3.heap.size, fun k => g < k ∧ k < w2.heap.size, fun k => rg < k ∧ k < w3.heap.size, z, stop⟩ : AllP) ⟨b7, W7.heap.size, W7.heap.size + 1, bA2, bA2 + 1, 1, [D1]⟩ W62 s2 s2 ov k ∧ (ov = true ∨ ((1 : Int) = 0 ∧ k = stop)) := by
      rcases hcase with ⟨he, h1, h2, k, h⟩ | ⟨h1, h2, h3, h⟩
      · exact ⟨h1, h2, _, k, h, .inl (by simpa using he)⟩
      · exact ⟨h1, h2, _, _, h, .inr ⟨h3, rfl⟩⟩
    have HL3 := Lib.hid hsL
    have y12 := hat.c12.cell 0
    have y11 := hat.c11.cell 0
    have y10 := hat.c10.cell 0
    have f10 := hat.c10.frozen 0
    have y5 := hat.base.c5.cell 0
    have hd62 := lt_of_heap hdd2
    have HDD2 := Lib.hid hdd2
    have HAT2 := Lib.hid hat
    simp only [List.getElem?_toArray, List.getElem?_cons_zero] at y12 y11 y10 y5
    clear hsL hcase hat hdd2
    dsimp only

    obtain rfl : ov = true := hov.resolve_right (by simp)
    go_wp2
    rw [rounds_succ]
    go_wp2_with fail
    refine (awake_any _).mono ?_
    rintro e W9 ⟨rfl, hb9⟩
    have hb69 : Below W62.heap.size W62 W9 := ((Below.refl _ W62).alloc (Nat.le_refl _) _).trans (hb9.mono (by simp))
    have hA9 := HAT2.out.base.behind hok4.out hb69
    have g1 : W9.heap[D1]? = some (.deferred (some [])) := (hb69.block _ (by omega)).trans (HAT2.out.defs D1 (List.mem_singleton.2 rfl))
    have g2 : W9.heap[D2]? = some (.deferred (some [])) := (hb69.block _ hd62).trans HDD2.out
    have x6 := hA9.c6.cell 0
    have f6 := hA9.c6.frozen 0
    have h6 := hA9.c6
    have hB9 := hA9.below
    have hww : w.heap.size ≤ w3.heap.size := by omega
    simp only [List.getElem?_toArray, List.getElem?_cons_zero] at x6
    clear hb9 hb69 hA9 HAT2 HDD2
    go_wp2
    have b7' := h6.set_ 0 (.bool true)
    have B7 := hB9.setCell (p := ⟨w.heap.size + 1 + 1, 0, none⟩) (by show _ ≤ w.heap.size + 1 + 1; omega) (.bool true)
    have hsk : Keep (fun k => k = w.heap.size + 1 + 1) W9 (W9.setCell ⟨w.heap.size + 1 + 1, 0, none⟩ (.bool true)) := (Keep.refl (fun k => k = w.heap.size + 1 + 1) W9).setCell (p := ⟨w.heap.size + 1 + 1, 0, none⟩) (.inl rfl) _
    have g1' := rec_keep g1 hsk (fun h => blk_not_def h6 g1 h.symm)
    have g2' := rec_keep g2 hsk (fun h => blk_not_def h6 g2 h.symm)
    refine leave_cell [D2, D1] rfl rfl b7' (by simp; omega) (fun D h => ?_) B7 (fun D h => ?_)
    · rcases List.mem_cons.1 h with rfl | h
      · exact g2'
      · obtain rfl := List.mem_singleton.1 h
        exact g1'
    · rcases List.mem_cons.1 h with rfl | h
      · omega
      · obtain rfl := List.mem_singleton.1 h
        omega

theorem chunkAll_walk (A : Option Addr) (n c : Nat) (L : List Stp) (z stop : Int) (w : World) (hA : Steps (fun k => k < w.heap.size) w A n L) (hn : n ≤ 1048576) (ht : total L ≤ 1048576) :
    Calls Try.prog 7 #[.slice A n c, .int .i64 z, .int .i64 stop] w fun e w' => e = .returned (.bool true) ∧ Below w.heap.size w w' := by
  cases hlg : large L with
  | true => exact chunkAll_large A n c L z stop w hA hn hlg
  | false => exact chunkAll_main A n c L z stop w hA hn ht hlg
end Go.Proofs.Ytadnceiohgjdhaa
