/-
  The contract of the program's Print of findings.
-/
import Derived.Test.YtgkiffodnofggaaGreatDoorAudFind
import Derived.Test.YtgkiffodnofggaaGreatDoorMend
import Derived.Test.YtgkiffodnofggaaGreatDoorRepOnce
import Derived.Test.YtgkiffodnofggaaGreatDoorPlan
namespace Go.Proofs.YtgkiffodnofggaaGreatDoor
open Go.RowKit
set_option linter.unusedVariables false
set_option linter.unusedSimpArgs false

set_option maxHeartbeats 16000000 in
set_option maxRecDepth 100000 in
theorem print_any (S : Nat → Prop) (A : Option Addr) (cp : Nat) (L : List Fd) (w : World) (hr : Row S w 5 A L.length (L.flatMap fdCells)) (hS : ∀ k, S k → k < w.heap.size) (hok : ∀ f ∈ L, f.ok) (hw : fwt L ≤ 1048576) (hT : Tab w) :
    Calls Tryz.prog 8 #[.slice A L.length cp] w fun e w' => e = .returned (.string (str (printB L))) ∧ Below w.heap.size w w' := by
  have HR := Lib.hid hr
  have HS := Lib.hid hS
  have HOK := Lib.hid hok
  have HT := Lib.hid hT
  have hfl := fwt_length L
  clear hr hS hok hT
  go_enter Tryz.func8, Tryz.ntmps8
  go_wp2_with fail
  obtain ⟨W0, hW0⟩ : ∃ W0, w.alloc (.cells #[.pointer none, .slice none 0 0] 45) = W0 := ⟨_, rfl⟩
  rw [hW0]
  have b0 : Bld W0 w.heap.size w.heap.size (.slice none 0 0) [] := by rw [← hW0]; exact Bld.new (Blk.new _ _ _) _ (Nat.le_refl _)
  have hB0 : Below w.heap.size w W0 := by rw [← hW0]; exact (Below.refl _ w).alloc (Nat.le_refl _) _
  have D0 := Lib.hid b0
  have B0 := Lib.hid hB0
  clear hW0 b0 hB0
  go_loopw [8] (fun iv wr => ∃ (k : Nat) (v : Value), k ≤ L.length ∧ iv = .int .i64 (k : Int) ∧ Hid (Bld wr w.heap.size w.heap.size v (printB (L.take k))) ∧ Hid (Below w.heap.size w wr)) (fun iv _ => L.length - (intOf iv).toNat)
  case atStart => exact ⟨0, _, Nat.zero_le _, rfl, D0, B0⟩
  case round =>
    obtain ⟨k, v, hk, rfl, HD, HB⟩ := hrel
    by_cases hlt : k < L.length
    · obtain ⟨f, hf⟩ : ∃ f, L[k]? = some f := ⟨_, List.getElem?_eq_getElem hlt⟩
      obtain ⟨ad, rfl, hsa, hsa2, c0, cj⟩ := (HR.out.below HB.out HS.out).walk fdCells_length (by decide) rfl hf
      have x0 := c0 _ rfl
      have x1 := cj 0 _ rfl
      have x2 := cj 1 _ rfl
      have x3 := cj 2 _ rfl
      have x4 := cj 3 _ rfl
      have hmem := List.mem_of_getElem? hf
      have hfo := HOK.out f hmem
      have hfw := fwt_mem hmem
      have htk : L.take (k + 1) = L.take k ++ [f] := by rw [List.take_add_one, hf]; rfl
      have hpl := printB_le (L.take k) (fun x hx => HOK.out x (List.mem_of_mem_take hx))
      have hpw := fwt_take L k
      have hhl := fdHead_le f hfo
      have hnl := fdName_le f
      obtain ⟨t0, ht0⟩ : ∃ t0, printB (L.take k) = t0 := ⟨_, rfl⟩
      have hnext : printB (L.take (k + 1)) = t0 ++ fdHead f ++ fdName f ++ [10] := by rw [htk, printB_snoc, ht0]
      rw [ht0] at hpl
      have HD' : Hid (Bld wr w.heap.size w.heap.size v t0) := by have := HD.out; rw [ht0] at this; exact this
      have HNX := Lib.hid hnext
      have HFO := Lib.hid hfo
      have i0 : (0 : Int) ≤ (k : Int) := by omega
      have i1 : (k : Int) < (L.length : Int) := by omega
      have hbl := HD'.out.lt
      have hvl : ∀ j, v.ownBlock = some j → w.heap.size ≤ j ∧ j < wr.heap.size := fun j e => World.ownsRowF.lt HD'.out.2.2.1 j e
      have HVL := Lib.hid hvl
      clear hvl
      have hsz := HB.out.size
      clear c0 cj hf hmem htk hnext hfo ht0 HD
      go_wp2_with fail
      obtain ⟨W4, hW4⟩ : ∃ W4, wr.alloc (.cells #[.int .i64 f.byte, .int .i64 f.line, .int .i64 f.col, .int .i64 f.why, .string (str f.name)] 38) = W4 := ⟨_, rfl⟩
      rw [hW4]
      have b4 : Blk W4 wr.heap.size 38 #[.int .i64 f.byte, .int .i64 f.line, .int .i64 f.col, .int .i64 f.why, .string (str f.name)] := by rw [← hW4]; exact Blk.new _ _ _
      have hB4 : Below wr.heap.size wr W4 := by rw [← hW4]; exact (Below.refl _ wr).alloc (Nat.le_refl _) _
      have b4l := b4.lt
      have D4 := Lib.hid b4
      have B4 := Lib.hid (HB.out.trans (hB4.mono hsz))
      have DD4 := Lib.hid (HD'.out.behind hB4)
      clear hW4 b4 hB4 x0 x1 x2 x3 x4 HD'
      obtain ⟨u1, hu1⟩ : ∃ u1, Lib.itoa f.line ++ [58] = u1 := ⟨_, rfl⟩
      obtain ⟨u2, hu2⟩ : ∃ u2, u1 ++ Lib.itoa f.col = u2 := ⟨_, rfl⟩
      obtain ⟨u3, hu3⟩ : ∃ u3, u2 ++ [32] = u3 := ⟨_, rfl⟩
      have hu4 : u3 ++ wordB f.why = fdHead f := by rw [← hu3, ← hu2, ← hu1]; rfl
      have a1 : str (Lib.itoa f.line) ++ (⟨#[58]⟩ : ByteArray) = str u1 := by rw [← hu1]; exact str_append _ _
      have a2 : str u1 ++ str (Lib.itoa f.col) = str u2 := by rw [← hu2]; exact str_append _ _
      have a3 : str u2 ++ (⟨#[32]⟩ : ByteArray) = str u3 := by rw [← hu3]; exact str_append _ _
      have a4 : str u3 ++ str (wordB f.why) = str (fdHead f) := by rw [← hu4]; exact str_append _ _
      have z0 := str_size (Lib.itoa f.line)
      have z1 := str_size u1
      have z2 := str_size (Lib.itoa f.col)
      have z3 := str_size u2
      have z4 := str_size u3
      have z5 := str_size (wordB f.why)
      have y0 := itoa_le f.line HFO.out.l0 HFO.out.l1
      have y1 : u1.length ≤ 21 := by rw [← hu1, List.length_append, List.length_singleton]; omega
      have y2 := itoa_le f.col HFO.out.c0 HFO.out.c1
      have y3 : u2.length ≤ 41 := by rw [← hu2, List.length_append]; omega
      have y4 : u3.length ≤ 42 := by rw [← hu3, List.length_append, List.length_singleton]; omega
      have y5 := wordB_le f.why
      have KI1 := Lib.hid (fun W (h : Tab W) => itoa_any f.line HFO.out.l0 HFO.out.l1 W h)
      have KI2 := Lib.hid (fun W (h : Tab W) => itoa_any f.col HFO.out.c0 HFO.out.c1 W h)
      have KW := Lib.hid (fun W => tword_any f.why W)
      clear hu1 hu2 hu3 hu4
      generalize Lib.itoa f.line = t1 at a1 z0 y0 KI1
      generalize Lib.itoa f.col = t2 at a2 z2 y2 KI2
      generalize wordB f.why = t3 at a4 z5 y5 KW
      obtain ⟨hd, hhd⟩ : ∃ hd, fdHead f = hd := ⟨_, rfl⟩
      have hnx2 := HNX.out
      rw [hhd] at a4 hhl hnx2
      have HNX2 := Lib.hid hnx2
      clear hnx2 HNX hhd
      refine wp_region_plan (S := fun w' => w'.cell? ⟨wr.heap.size, 1, none⟩ = some (.int .i64 f.line) ∧ w'.cell? ⟨wr.heap.size, 2, none⟩ = some (.int .i64 f.col) ∧ w'.cell? ⟨wr.heap.size, 3, none⟩ = some (.int .i64 f.why)) 16
        [(0, true), (1, true), (2, true), (5, true), (6, true), (7, true), (11, true), (12, true), (3, false), (4, true), (8, false), (9, true), (10, true), (13, false), (14, true), (15, false)] (by kernel_rfl) (by kernel_rfl) ?_ (fun hHeld => ?_)
      · exact ⟨D4.out.cell 1, D4.out.cell 2, D4.out.cell 3⟩
      iterate 8 (refine plan_take (v := ?_) rfl (by assumption) rfl (fun _ _ _ h => h) ?_ ?_; rotate_left; · (intro w hSw; (try dsimp only at hSw); go_simp; try with_reducible rfl); all_goals (simp only [Act.put, List.setIfInBounds_toArray, List.set_cons_zero, List.set_cons_succ]))
      refine plan_op rfl (by decide) (fun K hK => ?_)
      go_simp
      have hs4 := B4.out.size
      refine (KI1.out _ (HT.out.behind B4.out.drew)).mono ?_
      rintro e w5 ⟨rfl, hb5⟩
      have q5 : Below W4.heap.size W4 w5 := ((Below.refl _ W4).drew).trans hb5
      have hs5 := q5.size
      have d5 := D4.out.below q5 b4l
      refine hK.out _ _ ⟨d5.cell 1, d5.cell 2, d5.cell 3⟩ (fun hHeld => ?_)
      have D5 := Lib.hid d5
      have Q5 := Lib.hid q5
      clear hK K hb5 q5 d5
      refine plan_take (v := ?_) rfl (by assumption) rfl (fun _ _ _ h => h) ?_ ?_; rotate_left; · (intro w hSw; (try dsimp only at hSw); go_simp; (try rw [if_neg (by omega)]); try with_reducible rfl)
      all_goals (try simp only [Act.put, List.setIfInBounds_toArray, List.set_cons_zero, List.set_cons_succ])
      refine plan_op rfl (by decide) (fun K hK => ?_)
      go_simp
      refine (KI2.out _ (HT.out.behind (B4.out.trans (Q5.out.mono hs4)))).mono ?_
      rintro e w6 ⟨rfl, hb6⟩
      have q6 : Below W4.heap.size W4 w6 := Q5.out.trans (hb6.mono hs5)
      have hs6 := q6.size
      have d6 := D4.out.below q6 b4l
      refine hK.out _ _ ⟨d6.cell 1, d6.cell 2, d6.cell 3⟩ (fun hHeld => ?_)
      have Q6 := Lib.hid q6
      clear hK K hb6 q6 d6
      refine plan_take (v := ?_) rfl (by assumption) rfl (fun _ _ _ h => h) ?_ ?_; rotate_left; · (intro w hSw; (try dsimp only at hSw); go_simp; (try rw [if_neg (by omega)]); try with_reducible rfl)
      all_goals (try simp only [Act.put, List.setIfInBounds_toArray, List.set_cons_zero, List.set_cons_succ])
      refine plan_take (v := ?_) rfl (by assumption) rfl (fun _ _ _ h => h) ?_ ?_; rotate_left; · (intro w hSw; (try dsimp only at hSw); go_simp; (try rw [if_neg (by omega)]); try with_reducible rfl)
      all_goals (try simp only [Act.put, List.setIfInBounds_toArray, List.set_cons_zero, List.set_cons_succ])
      refine plan_op rfl (by decide) (fun K hK => ?_)
      go_simp
      refine (KW.out _).mono ?_
      rintro e w7 ⟨rfl, hb7⟩
      have q7 : Below W4.heap.size W4 w7 := Q6.out.trans (hb7.mono hs6)
      have hs7 := q7.size
      have d7 := D4.out.below q7 b4l
      refine hK.out _ _ ⟨d7.cell 1, d7.cell 2, d7.cell 3⟩ (fun hHeld => ?_)
      have Q7 := Lib.hid q7
      have D7 := Lib.hid d7
      have DD7 := Lib.hid (DD4.out.behind q7)
      clear hK K hb7 q7 d7
      refine plan_take (v := ?_) rfl (by assumption) rfl (fun _ _ _ h => h) ?_ ?_; rotate_left; · (intro w hSw; (try dsimp only at hSw); go_simp; (try rw [if_neg (by omega)]); try with_reducible rfl)
      all_goals (try simp only [Act.put, List.setIfInBounds_toArray, List.set_cons_zero, List.set_cons_succ])
      refine plan_op rfl (by decide) (fun K hK => ?_)
      go_simp
      refine (writeString_any DD7.out hd (by omega)).mono ?_
      rintro e w8 ⟨rfl, v8, hd8, hk8⟩
      have d8 := D7.out.keep hk8 (fun h => by
        rcases h with h | h
        · omega
        · have := (HVL.out _ h).2; omega)
      refine hK.out _ _ ⟨d8.cell 1, d8.cell 2, d8.cell 3⟩ (fun hHeld => ?_)
      have hb8 : Below w.heap.size w w8 := B4.out.trans ((Q7.out.mono hs4).trans (hk8.below (B := w.heap.size) (by omega) (fun i hi h => by
        rcases h with h | h
        · omega
        · have := (HVL.out _ h).1; omega)))
      have x4 := d8.cell 4
      simp only [List.getElem?_toArray, List.getElem?_cons_succ, List.getElem?_cons_zero] at x4
      have D8 := Lib.hid d8
      have DD8 := Lib.hid hd8
      have B8 := Lib.hid hb8
      have hs8 := hb8.size
      have hvl8 : ∀ j, v8.ownBlock = some j → w.heap.size ≤ j ∧ j < w8.heap.size := fun j e => World.ownsRowF.lt hd8.2.2.1 j e
      have HVL8 := Lib.hid hvl8
      clear hK K hk8 d8 hd8 hb8 hvl8 a1 a2 a3 a4 z0 z1 z2 z3 z4 z5 y0 y1 y2 y3 y4 y5
      simp only [wpPlan]
      by_cases hnm : f.name = []
      · have hnn : fdName f = [] := by unfold fdName; rw [if_pos hnm]
        have hnx3 := HNX2.out
        rw [hnn, List.append_nil] at hnx3
        have HNX3 := Lib.hid hnx3
        have q0 : (f.name == []) = true := by rw [hnm]; rfl
        clear hnx3
        go_wp2_with fail
        refine (writeByte_any DD8.out 10 (by rw [List.length_append]; omega)).mono ?_
        rintro e w9 ⟨rfl, v9, hd9, hk9⟩
        have HD9 := Lib.hid hd9
        have HB9 := Lib.hid (B8.out.trans (hk9.below (B := w.heap.size) hs8 (fun i hi h => by
          rcases h with h | h
          · omega
          · have := (HVL8.out _ h).1; omega)))
        clear hd9 hk9
        go_wp2
        go_roundw
        case rel => exact ⟨k + 1, v9, by omega, by go_num, (by rw [HNX3.out]; exact HD9.out), HB9.out⟩
        case measure => simp [intOf]; omega
      · have hnn : fdName f = 32 :: quoteB (mendB f.name) := by unfold fdName; rw [if_neg hnm]
        have hnx3 := HNX2.out
        rw [hnn] at hnx3
        rw [hnn] at hnl
        have HNX3 := Lib.hid hnx3
        have q0 : (f.name == []) = false := by rw [beq_eq_false_iff_ne]; exact hnm
        have hml := mendB_le f.name
        have hql := quoteB_le (mendB f.name)
        have KM := Lib.hid (fun W => tmend_any f.name W (by omega))
        have KQ := Lib.hid (fun W => quoted_any (mendB f.name) W (by omega))
        have a1 : (⟨#[32]⟩ : ByteArray) ++ str (quoteB (mendB f.name)) = str (32 :: quoteB (mendB f.name)) := str_append [32] _
        have z1 := str_size (quoteB (mendB f.name))
        generalize mendB f.name = mb at a1 z1 KM KQ hql hml hnl HNX3
        generalize quoteB mb = qb at a1 z1 KQ hql hnl HNX3
        rw [List.length_cons] at hnl
        clear hnx3 hnn
        go_wp2_with fail
        refine (KM.out w8).mono ?_
        rintro e w9 ⟨rfl, hb9⟩
        have Q9 := Lib.hid hb9
        have DD9 := Lib.hid (DD8.out.behind hb9)
        have hs9 := hb9.size
        clear hb9
        go_wp2_with fail
        refine (KQ.out w9).mono ?_
        rintro e w10 ⟨rfl, hb10⟩
        have Q10 := Lib.hid (Q9.out.trans (hb10.mono hs9))
        have DD10 := Lib.hid (DD9.out.behind hb10)
        have hs10 := hb10.size
        clear hb10
        go_wp2_with fail
        refine (writeString_any DD10.out (32 :: qb) (by rw [List.length_append, List.length_cons]; omega)).mono ?_
        rintro e w11 ⟨rfl, v11, hd11, hk11⟩
        have hb11 : Below w.heap.size w w11 := B8.out.trans ((Q10.out.mono hs8).trans (hk11.below (B := w.heap.size) (by omega) (fun i hi h => by
          rcases h with h | h
          · omega
          · have := (HVL8.out _ h).1; omega)))
        have B11 := Lib.hid hb11
        have hs11 := hb11.size
        have hvl11 : ∀ j, v11.ownBlock = some j → w.heap.size ≤ j ∧ j < w11.heap.size := fun j e => World.ownsRowF.lt hd11.2.2.1 j e
        have HVL11 := Lib.hid hvl11
        have DD11 := Lib.hid hd11
        clear hd11 hk11 hb11 hvl11 a1 z1 x4
        go_wp2_with fail
        refine (writeByte_any DD11.out 10 (by rw [List.length_append, List.length_append, List.length_cons]; omega)).mono ?_
        rintro e w12 ⟨rfl, v12, hd12, hk12⟩
        have HD12 := Lib.hid hd12
        have HB12 := Lib.hid (B11.out.trans (hk12.below (B := w.heap.size) hs11 (fun i hi h => by
          rcases h with h | h
          · omega
          · have := (HVL11.out _ h).1; omega)))
        clear hd12 hk12
        go_wp2
        go_roundw
        case rel => exact ⟨k + 1, v12, by omega, by go_num, (by rw [HNX3.out]; exact HD12.out), HB12.out⟩
        case measure => simp [intOf]; omega
    · have hkl : k = L.length := by omega
      subst hkl
      have hd := HD.out
      rw [List.take_length] at hd
      have K2 := Lib.hid (builderString_any hd)
      clear hd HD
      go_wp2_with fail
      refine K2.out.mono ?_
      rintro e w2 ⟨rfl, hb2⟩
      go_wp2
      go_ret
      exact ⟨rfl, HB.out.trans hb2⟩
end Go.Proofs.YtgkiffodnofggaaGreatDoor
