/-
  The contract of the reference's Print of findings.
-/
import Derived.Test.YtgkiffodnofggaaGreatDoorAudFind
import Derived.Test.YtgkiffodnofggaaGreatDoorRMend
import Derived.Test.YtgkiffodnofggaaGreatDoorPlan
namespace Go.Proofs.YtgkiffodnofggaaGreatDoor
open Go.RowKit
set_option linter.unusedVariables false
set_option linter.unusedSimpArgs false

set_option maxHeartbeats 16000000 in
set_option maxRecDepth 100000 in
theorem rprint_any (S : Nat → Prop) (A : Option Addr) (cp : Nat) (L : List Fd) (w : World) (hr : Row S w 5 A L.length (L.flatMap fdCells)) (hS : ∀ k, S k → k < w.heap.size) (hok : ∀ f ∈ L, f.ok) (hw : fwt L ≤ 1048576) :
    Calls Tryz.prog 9 #[.slice A L.length cp] w fun e w' => e = .returned (.string (str (printB L))) ∧ Below w.heap.size w w' := by
  have HR := Lib.hid hr
  have HS := Lib.hid hS
  have HOK := Lib.hid hok
  have hfl := fwt_length L
  clear hr hS hok
  go_enter Tryz.func9, Tryz.ntmps9
  go_wp2_with fail
  go_loopw [3, 8] (fun ov iv wr => ∃ (k : Nat) (t0 : List UInt8), k ≤ L.length ∧ iv = .int .i64 (k : Int) ∧ ov = .string (str t0) ∧ Hid (printB (L.take k) = t0) ∧ Hid (Below w.heap.size w wr)) (fun _ iv _ => L.length - (intOf iv).toNat)
  case atStart => exact ⟨0, [], Nat.zero_le _, rfl, rfl, rfl, Below.refl _ _⟩
  case round =>
    obtain ⟨k, t0, hk, rfl, rfl, HT0, HB⟩ := hrel
    by_cases hlt : k < L.length
    · obtain ⟨f, hf⟩ : ∃ f, L[k]? = some f := ⟨_, List.getElem?_eq_getElem hlt⟩
      obtain ⟨ad, rfl, hsa, hsa2, c0, cj⟩ := (HR.out.below HB.out HS.out).walk fdCells_length (by decide) rfl hf
      have x0 := c0 _ rfl
      have x1 := cj 0 _ rfl
      have x2 := cj 1 _ rfl
      have x3 := cj 2 _ rfl
      have x4 := cj 3 _ rfl
      have hmem := List.mem_of_getElem? hf
      have hfo := HOK.out f hmem
      have hfw := fwt_mem hmem
      have htk : L.take (k + 1) = L.take k ++ [f] := by rw [List.take_add_one, hf]; rfl
      have hpl := printB_le (L.take k) (fun x hx => HOK.out x (List.mem_of_mem_take hx))
      have hpw := fwt_take L k
      have hhl := fdHead_le f hfo
      have hnl := fdName_le f
      have hnext : printB (L.take (k + 1)) = t0 ++ fdHead f ++ fdName f ++ [10] := by rw [htk, printB_snoc, HT0.out]
      rw [HT0.out] at hpl
      have HNX := Lib.hid hnext
      have HFO := Lib.hid hfo
      have i0 : (0 : Int) ≤ (k : Int) := by omega
      have i1 : (k : Int) < (L.length : Int) := by omega
      have hsz := HB.out.size
      clear c0 cj hf hmem htk hnext hfo
      go_wp2_with fail
      obtain ⟨W4, hW4⟩ : ∃ W4, wr.alloc (.cells #[.int .i64 f.byte, .int .i64 f.line, .int .i64 f.col, .int .i64 f.why, .string (str f.name)] 38) = W4 := ⟨_, rfl⟩
      rw [hW4]
      have b4 : Blk W4 wr.heap.size 38 #[.int .i64 f.byte, .int .i64 f.line, .int .i64 f.col, .int .i64 f.why, .string (str f.name)] := by rw [← hW4]; exact Blk.new _ _ _
      have hB4 : Below wr.heap.size wr W4 := by rw [← hW4]; exact (Below.refl _ wr).alloc (Nat.le_refl _) _
      have b4l := b4.lt
      have D4 := Lib.hid b4
      have B4 := Lib.hid (HB.out.trans (hB4.mono hsz))
      clear hW4 b4 hB4 x0 x1 x2 x3 x4
      obtain ⟨u1, hu1⟩ : ∃ u1, Lib.itoa f.line ++ [58] = u1 := ⟨_, rfl⟩
      obtain ⟨u2, hu2⟩ : ∃ u2, u1 ++ Lib.itoa f.col = u2 := ⟨_, rfl⟩
      obtain ⟨u3, hu3⟩ : ∃ u3, u2 ++ [32] = u3 := ⟨_, rfl⟩
      have hu4 : u3 ++ wordB f.why = fdHead f := by rw [← hu3, ← hu2, ← hu1]; rfl
      have a1 : str (Lib.itoa f.line) ++ (⟨#[58]⟩ : ByteArray) = str u1 := by rw [← hu1]; exact str_append _ _
      have a2 : str u1 ++ str (Lib.itoa f.col) = str u2 := by rw [← hu2]; exact str_append _ _
      have a3 : str u2 ++ (⟨#[32]⟩ : ByteArray) = str u3 := by rw [← hu3]; exact str_append _ _
      have a4 : str u3 ++ str (wordB f.why) = str (fdHead f) := by rw [← hu4]; exact str_append _ _
      have z0 := str_size (Lib.itoa f.line)
      have z1 := str_size u1
      have z2 := str_size (Lib.itoa f.col)
      have z3 := str_size u2
      have z4 := str_size u3
      have z5 := str_size (wordB f.why)
      have y0 := itoa_le f.line HFO.out.l0 HFO.out.l1
      have y1 : u1.length ≤ 21 := by rw [← hu1, List.length_append, List.length_singleton]; omega
      have y2 := itoa_le f.col HFO.out.c0 HFO.out.c1
      have y3 : u2.length ≤ 41 := by rw [← hu2, List.length_append]; omega
      have y4 : u3.length ≤ 42 := by rw [← hu3, List.length_append, List.length_singleton]; omega
      have y5 := wordB_le f.why
      have KI1 := Lib.hid (fun W => digits_any f.line HFO.out.l0 HFO.out.l1 W)
      have KI2 := Lib.hid (fun W => digits_any f.col HFO.out.c0 HFO.out.c1 W)
      have KW := Lib.hid (fun W => rword_any f.why W)
      clear hu1 hu2 hu3 hu4
      generalize Lib.itoa f.line = t1 at a1 z0 y0 KI1
      generalize Lib.itoa f.col = t2 at a2 z2 y2 KI2
      generalize wordB f.why = t3 at a4 z5 y5 KW
      obtain ⟨hd, hhd⟩ : ∃ hd, fdHead f = hd := ⟨_, rfl⟩
      have hnx2 := HNX.out
      rw [hhd] at a4 hhl hnx2
      have a5 : str t0 ++ str hd = str (t0 ++ hd) := str_append _ _
      have z6 := str_size t0
      have z7 := str_size hd
      have HNX2 := Lib.hid hnx2
      clear hnx2 HNX hhd
      refine wp_region_plan (S := fun w' => w'.cell? ⟨wr.heap.size, 1, none⟩ = some (.int .i64 f.line) ∧ w'.cell? ⟨wr.heap.size, 2, none⟩ = some (.int .i64 f.col) ∧ w'.cell? ⟨wr.heap.size, 3, none⟩ = some (.int .i64 f.why)) 18
        [(0, true), (1, true), (2, true), (3, true), (6, true), (7, true), (8, true), (12, true), (13, true), (4, false), (5, true), (9, false), (10, true), (11, true), (14, false), (15, true), (16, true), (17, true)] (by kernel_rfl) (by kernel_rfl) ?_ (fun hHeld => ?_)
      · exact ⟨D4.out.cell 1, D4.out.cell 2, D4.out.cell 3⟩
      iterate 9 (refine plan_take (v := ?_) rfl (by assumption) rfl (fun _ _ _ h => h) ?_ ?_; rotate_left; · (intro w hSw; (try dsimp only at hSw); go_simp; try with_reducible rfl); all_goals (simp only [Act.put, List.setIfInBounds_toArray, List.set_cons_zero, List.set_cons_succ]))
      refine plan_op rfl (by decide) (fun K hK => ?_)
      go_simp
      have hs4 := B4.out.size
      refine (KI1.out _).mono ?_
      rintro e w5 ⟨rfl, hb5⟩
      have q5 : Below W4.heap.size W4 w5 := ((Below.refl _ W4).drew).trans hb5
      have hs5 := q5.size
      have d5 := D4.out.below q5 b4l
      refine hK.out _ _ ⟨d5.cell 1, d5.cell 2, d5.cell 3⟩ (fun hHeld => ?_)
      have D5 := Lib.hid d5
      have Q5 := Lib.hid q5
      clear hK K hb5 q5 d5
      refine plan_take (v := ?_) rfl (by assumption) rfl (fun _ _ _ h => h) ?_ ?_; rotate_left; · (intro w hSw; (try dsimp only at hSw); go_simp; (try rw [if_neg (by omega)]); try with_reducible rfl)
      all_goals (try simp only [Act.put, List.setIfInBounds_toArray, List.set_cons_zero, List.set_cons_succ])
      refine plan_op rfl (by decide) (fun K hK => ?_)
      go_simp
      refine (KI2.out _).mono ?_
      rintro e w6 ⟨rfl, hb6⟩
      have q6 : Below W4.heap.size W4 w6 := Q5.out.trans (hb6.mono hs5)
      have hs6 := q6.size
      have d6 := D4.out.below q6 b4l
      refine hK.out _ _ ⟨d6.cell 1, d6.cell 2, d6.cell 3⟩ (fun hHeld => ?_)
      have Q6 := Lib.hid q6
      clear hK K hb6 q6 d6
      refine plan_take (v := ?_) rfl (by assumption) rfl (fun _ _ _ h => h) ?_ ?_; rotate_left; · (intro w hSw; (try dsimp only at hSw); go_simp; (try rw [if_neg (by omega)]); try with_reducible rfl)
      all_goals (try simp only [Act.put, List.setIfInBounds_toArray, List.set_cons_zero, List.set_cons_succ])
      refine plan_take (v := ?_) rfl (by assumption) rfl (fun _ _ _ h => h) ?_ ?_; rotate_left; · (intro w hSw; (try dsimp only at hSw); go_simp; (try rw [if_neg (by omega)]); try with_reducible rfl)
      all_goals (try simp only [Act.put, List.setIfInBounds_toArray, List.set_cons_zero, List.set_cons_succ])
      refine plan_op rfl (by decide) (fun K hK => ?_)
      go_simp
      refine (KW.out _).mono ?_
      rintro e w7 ⟨rfl, hb7⟩
      have q7 : Below W4.heap.size W4 w7 := Q6.out.trans (hb7.mono hs6)
      have hs7 := q7.size
      have d7 := D4.out.below q7 b4l
      refine hK.out _ _ ⟨d7.cell 1, d7.cell 2, d7.cell 3⟩ (fun hHeld => ?_)
      have Q7 := Lib.hid q7
      have D7 := Lib.hid d7
      clear hK K hb7 q7 d7
      refine plan_take (v := ?_) rfl (by assumption) rfl (fun _ _ _ h => h) ?_ ?_; rotate_left; · (intro w hSw; (try dsimp only at hSw); go_simp; (try rw [if_neg (by omega)]); try with_reducible rfl)
      all_goals (try simp only [Act.put, List.setIfInBounds_toArray, List.set_cons_zero, List.set_cons_succ])
      refine plan_take (v := ?_) rfl (by assumption) rfl (fun _ _ _ h => h) ?_ ?_; rotate_left; · (intro w hSw; (try dsimp only at hSw); go_simp; (try rw [if_neg (by omega)]); try with_reducible rfl)
      all_goals (try simp only [Act.put, List.setIfInBounds_toArray, List.set_cons_zero, List.set_cons_succ])
      refine plan_take (v := ?_) rfl (by assumption) rfl (fun _ _ _ h => h) ?_ ?_; rotate_left; · (intro w hSw; (try dsimp only at hSw); go_simp; (try rw [if_neg (by omega)]); try with_reducible rfl)
      all_goals (try simp only [Act.put, List.setIfInBounds_toArray, List.set_cons_zero, List.set_cons_succ])
      have hb8 : Below w.heap.size w w7 := B4.out.trans (Q7.out.mono hs4)
      have x4 := D7.out.cell 4
      simp only [List.getElem?_toArray, List.getElem?_cons_succ, List.getElem?_cons_zero] at x4
      have B8 := Lib.hid hb8
      have hs8 := hb8.size
      have z8 := str_size (t0 ++ hd)
      rw [List.length_append] at z8
      obtain ⟨t5, ht5⟩ : ∃ t5, t0 ++ hd = t5 := ⟨_, rfl⟩
      have hnx4 := HNX2.out
      rw [ht5] at hnx4 z8 ⊢
      have hl5 : t5.length = t0.length + hd.length := by rw [← ht5, List.length_append]
      have HNX4 := Lib.hid hnx4
      clear hnx4 HNX2 ht5 hb8 a1 a2 a3 a4 a5 z0 z1 z2 z3 z4 z5 z6 z7 y0 y1 y2 y3 y4 y5
      simp only [wpPlan]
      by_cases hnm : f.name = []
      · have hnn : fdName f = [] := by unfold fdName; rw [if_pos hnm]
        have hnx3 := HNX4.out
        rw [hnn, List.append_nil] at hnx3
        have HNX3 := Lib.hid hnx3
        have q0 : (f.name == []) = true := by rw [hnm]; rfl
        have a6 : str t5 ++ (⟨#[10]⟩ : ByteArray) = str (t5 ++ [10]) := str_append _ _
        clear hnx3
        go_wp2
        go_roundw
        case rel => exact ⟨k + 1, _, by omega, by go_num, rfl, HNX3, B8⟩
        case measure => simp [intOf]; omega
      · have hnn : fdName f = 32 :: quoteB (mendB f.name) := by unfold fdName; rw [if_neg hnm]
        have hnx3 := HNX4.out
        rw [hnn] at hnx3
        rw [hnn] at hnl
        have HNX3 := Lib.hid hnx3
        have q0 : (f.name == []) = false := by rw [beq_eq_false_iff_ne]; exact hnm
        have hml := mendB_le f.name
        have hql := quoteB_le (mendB f.name)
        have KM := Lib.hid (fun W => rmend_any f.name W (by omega))
        have KQ := Lib.hid (fun W => rquote_any (mendB f.name) W (by omega))
        have a1 : (⟨#[32]⟩ : ByteArray) ++ str (quoteB (mendB f.name)) = str (32 :: quoteB (mendB f.name)) := str_append [32] _
        have z1 := str_size (quoteB (mendB f.name))
        generalize mendB f.name = mb at a1 z1 KM KQ hql hml hnl HNX3
        generalize quoteB mb = qb at a1 z1 KQ hql hnl HNX3
        rw [List.length_cons] at hnl
        have a2 : str t5 ++ str (32 :: qb) = str (t5 ++ 32 :: qb) := str_append _ _
        have z2 := str_size (32 :: qb)
        rw [List.length_cons] at z2
        have z3 := str_size (t5 ++ 32 :: qb)
        rw [List.length_append, List.length_cons] at z3
        obtain ⟨t6, ht6⟩ : ∃ t6, t5 ++ 32 :: qb = t6 := ⟨_, rfl⟩
        have hnx5 := HNX3.out
        rw [ht6] at a2 z3 hnx5
        have a3 : str t6 ++ (⟨#[10]⟩ : ByteArray) = str (t6 ++ [10]) := str_append _ _
        have HNX5 := Lib.hid hnx5
        clear hnx3 hnn hnx5 ht6
        go_wp2_with fail
        refine (KM.out w7).mono ?_
        rintro e w9 ⟨rfl, hb9⟩
        have Q9 := Lib.hid (B8.out.trans (hb9.mono hs8))
        clear hb9
        go_wp2_with fail
        refine (KQ.out w9).mono ?_
        rintro e w10 ⟨rfl, rfl⟩
        go_wp2
        go_roundw
        case rel => exact ⟨k + 1, _, by omega, by go_num, rfl, HNX5, Q9⟩
        case measure => simp [intOf]; omega
    · have hkl : k = L.length := by omega
      subst hkl
      have hd := HT0.out
      rw [List.take_length] at hd
      subst hd
      go_wp2
      go_ret
      exact ⟨rfl, HB.out⟩
end Go.Proofs.YtgkiffodnofggaaGreatDoor
