/-
  What a summary of findings says; the contract of the program's Summary.
-/
import Derived.Test.YtgkiffodnofggaaGreatDoorAudNames
import Derived.Test.YtgkiffodnofggaaGreatDoorPlan
namespace Go.Proofs.YtgkiffodnofggaaGreatDoor
open Go.RowKit
set_option linter.unusedVariables false
set_option linter.unusedSimpArgs false

def whysOf (L : List Fd) : List Int := L.map Fd.why
theorem whysOf_length (L : List Fd) : (whysOf L).length = L.length := by simp [whysOf]
theorem whysOf_snoc (L : List Fd) (f : Fd) : whysOf (L ++ [f]) = whysOf L ++ [f.why] := by simp [whysOf]
/-- A line: a reason's word, how often it came. -/
def sumLine (ks : List Int) (x : Int) : List UInt8 := wordB x ++ [32] ++ Lib.itoa ((cnt ks x : Nat) : Int) ++ [10]
def sumB (ks : List Int) (X : List Int) : List UInt8 := X.flatMap (sumLine ks)
/-- The reasons in their order. -/
def whysB (L : List Fd) : List Int := srt ltW (firsts (whysOf L))
def summaryB (L : List Fd) : List UInt8 := sumB (whysOf L) (whysB L)
theorem sumB_snoc (ks X : List Int) (x : Int) : sumB ks (X ++ [x]) = sumB ks X ++ (wordB x ++ [32] ++ Lib.itoa ((cnt ks x : Nat) : Int) ++ [10]) := by simp [sumB, sumLine]
theorem sumLine_le (ks : List Int) (x : Int) (h : ks.length ≤ 1048576) : (sumLine ks x).length ≤ 31 := by
  have h1 := wordB_le x
  have h2 := cnt_le ks x
  have h3 := itoa_le ((cnt ks x : Nat) : Int) (by omega) (by omega)
  simp only [sumLine, List.length_append, List.length_singleton]
  omega
theorem sumB_le (ks X : List Int) (h : ks.length ≤ 1048576) : (sumB ks X).length ≤ 31 * X.length := by
  induction X with
  | nil => simp [sumB]
  | cons x X ih =>
    have h1 := sumLine_le ks x h
    simp only [sumB, List.flatMap_cons, List.length_append, List.length_cons] at ih ⊢
    omega

theorem why_info : (Tryz.prog.info? 36).map (fun i => (i.zero, i.size, i.bytes)) = some (some (.int .i64 0), 1, 8) := by kernel_rfl

set_option maxRecDepth 100000 in
theorem sortW_v (l : List Int) (hll : l.length ≤ 1048576) (W : World) (base : Nat) (A : Option Addr) (cap : Nat) (hrow : W.ownsRow base 36 1 (.slice A l.length cap) l.length (iv l)) :
    Calls Tryz.prog 27 #[.slice A l.length cap] W fun e w' => e = .returned (.tuple #[]) ∧
      w'.ownsRow base 36 1 (.slice A l.length cap) l.length (iv (srt ltW l)) ∧ Keep (fun k => base ≤ k) W w' := by
  rcases own_form hrow with ⟨hv, h0, hx⟩ | ⟨g, cap', cur, hv, hbase, hgl, _⟩
  · have hl : l = [] := List.eq_nil_of_length_eq_zero h0
    subst hl
    injection hv with hA _ hC
    subst hA hC
    refine (Tryz.slices_Sort_why_none none 0 W).mono ?_
    rintro e w' ⟨rfl, rfl⟩
    exact ⟨rfl, hrow, Keep.refl _ _⟩
  · injection hv with hA _ hC
    subst hA hC
    refine (sortW_any l hll W base g cap hrow).mono ?_
    rintro e w' ⟨rfl, h1, h2⟩
    exact ⟨rfl, h1, h2.mono (fun i _ e => by omega)⟩

set_option maxHeartbeats 16000000 in
set_option maxRecDepth 100000 in
theorem summary_any (S : Nat → Prop) (A : Option Addr) (cp : Nat) (L : List Fd) (w : World) (hr : Row S w 5 A L.length (L.flatMap fdCells)) (hS : ∀ k, S k → k < w.heap.size) (hok : ∀ f ∈ L, f.ok) (hw : fwt L ≤ 1048576) (hT : Tab w) :
    Calls Tryz.prog 10 #[.slice A L.length cp] w fun e w' => e = .returned (.string (str (summaryB L))) ∧ Below w.heap.size w w' := by
  obtain ⟨ti, hi, hz0, hz1, hz2⟩ := info_parts why_info
  have hmm := @run_makeMap Tryz.prog
  have HR := Lib.hid hr
  have HS := Lib.hid hS
  have HOK := Lib.hid hok
  have HT := Lib.hid hT
  have hfl := fwt_length L
  clear hr hS hok hT
  go_enter Tryz.func10, Tryz.ntmps10
  go_wp2_with fail
  obtain ⟨W0, hW0⟩ : ∃ W0, w.alloc (.map #[] 0) = W0 := ⟨_, rfl⟩
  rw [hW0]
  have hM0 : KM kWhy W0 w.heap.size 0 (whysOf (L.take 0)) := by rw [← hW0]; exact KM.made w
  have hb0 : Below w.heap.size w W0 := by rw [← hW0]; exact (Below.refl _ w).alloc (Nat.le_refl _) _
  have M0 := Lib.hid hM0
  have B0 := Lib.hid hb0
  clear hW0 hM0 hb0
  go_loopw [4, 13] (fun ov iv wr => ∃ (k no : Nat), k ≤ L.length ∧ iv = .int .i64 (k : Int) ∧ Hid (KM kWhy wr w.heap.size k (whysOf (L.take k))) ∧
    Hid (wr.ownsRow (w.heap.size + 1) 36 1 ov no (Go.Proofs.YtgkiffodnofggaaGreatDoor.iv (firsts (whysOf (L.take k))))) ∧ Hid (Below w.heap.size w wr)) (fun _ iv _ => L.length - (intOf iv).toNat)
  case atStart => exact ⟨0, 0, Nat.zero_le _, rfl, M0, World.ownsRow_nil _ _ _ _, B0⟩
  case round =>
    obtain ⟨k, no, hk, rfl, HM, HO, HB⟩ := hrel
    obtain ⟨Av, cv, rfl, hv1, hv2⟩ := own_slice HO.out
    by_cases hlt : k < L.length
    · obtain ⟨f, hf⟩ : ∃ f, L[k]? = some f := ⟨_, List.getElem?_eq_getElem hlt⟩
      obtain ⟨ad, rfl, hsa, hsa2, c0, cj⟩ := (HR.out.below HB.out HS.out).walk fdCells_length (by decide) rfl hf
      have x0 := c0 _ rfl
      have x1 := cj 0 _ rfl
      have x2 := cj 1 _ rfl
      have x3 := cj 2 _ rfl
      have x4 := cj 3 _ rfl
      have hmem := List.mem_of_getElem? hf
      have hfo := HOK.out f hmem
      have htk : whysOf (L.take (k + 1)) = whysOf (L.take k) ++ [f.why] := by rw [List.take_add_one, hf]; exact whysOf_snoc _ _
      have hkl : (whysOf (L.take k)).length = k := by rw [whysOf_length, List.length_take]; omega
      have hfl2 := (firsts_facts (whysOf (L.take k))).2.2
      obtain ⟨ks, hks⟩ : ∃ ks, whysOf (L.take k) = ks := ⟨_, rfl⟩
      rw [hks] at HM HO htk hkl hfl2
      have hno : no = (firsts ks).length := by have := HO.out.1; rw [iv_length] at this; omega
      have HNO := Lib.hid hno
      have hno2 : no ≤ k := by omega
      have HN := Lib.hid htk
      have i0 : (0 : Int) ≤ (k : Int) := by omega
      have i1 : (k : Int) < (L.length : Int) := by omega
      have hsz := HB.out.size
      have hks2 : ks.length ≤ 1048576 := by omega
      have HW : Hid (kWhy.ok f.why) := Lib.hid ⟨hfo.w0, hfo.w1⟩
      clear hno c0 cj hf hmem htk hks hfo hkl
      obtain ⟨W4, hW4⟩ : ∃ W4, wr.alloc (.cells #[.int .i64 f.byte, .int .i64 f.line, .int .i64 f.col, .int .i64 f.why, .string (str f.name)] 38) = W4 := ⟨_, rfl⟩
      have b4 : Blk W4 wr.heap.size 38 #[.int .i64 f.byte, .int .i64 f.line, .int .i64 f.col, .int .i64 f.why, .string (str f.name)] := by rw [← hW4]; exact Blk.new _ _ _
      have hB4 : Below wr.heap.size wr W4 := by rw [← hW4]; exact (Below.refl _ wr).alloc (Nat.le_refl _) _
      have m4 := HM.out.behind hB4
      have hml := HM.out.lt
      have o4 := own_behind HO.out hB4
      have r4 := m4.run f.why HW.out
      obtain ⟨W5, r5, m5, g5⟩ := m4.put f.why HW.out (by unfold maxLen; omega) hks2
      have r6 := m5.run f.why HW.out
      rw [cnt_snoc, Int.natCast_add] at r6
      have hz := cnt_zero ks f.why
      have hcn := cnt_le ks f.why
      have b5 : Blk W5 wr.heap.size 38 #[.int .i64 f.byte, .int .i64 f.line, .int .i64 f.col, .int .i64 f.why, .string (str f.name)] := (g5.block _ b4.lt (by simp; omega)).trans b4
      have o5 : W5.ownsRow (w.heap.size + 1) 36 1 (.slice Av no cv) no (iv (firsts ks)) := o4.kept g5 (by
        refine .inr (fun e => ?_)
        have := (o4.lt _ e).1
        omega)
      have q5 : Below w.heap.size w W5 := (HB.out.trans (hB4.mono hsz)).grown g5 (by have := hB4.size; omega) (fun j hj => by cases hj; exact Nat.le_refl _)
      have s5 := q5.size
      simp only [kWhy] at r4 r5 r6
      obtain ⟨c, hc⟩ : ∃ c, cnt ks f.why = c := ⟨_, rfl⟩
      rw [hc] at r4 r5 r6 hz hcn
      have y5 := b5.cell 3
      have hsl : wr.heap.size < W5.heap.size := b5.lt
      simp only [List.getElem?_toArray, List.getElem?_cons_succ, List.getElem?_cons_zero] at y5
      have M5 := Lib.hid m5
      have O5 := Lib.hid o5
      have Q5 := Lib.hid q5
      have HZ := Lib.hid hz
      rw [← hW4] at r4 r5
      clear hW4 hc m4 o4 m5 o5 g5 b4 b5 hB4 q5 hz
      by_cases hc0 : c = 0
      · have hni := HZ.out.1 hc0
        have e1 : ((c : Int) + 1 == 1) = true := by rw [hc0]; rfl
        obtain ⟨hf1, _⟩ := cnts_new ks f.why hni
        have HF1 := Lib.hid hf1
        clear hni hf1 hc0
        have hvb : ∀ j, (Value.slice Av no cv).ownBlock = some j → w.heap.size + 1 ≤ j := fun j e => (O5.out.lt j e).1
        have HVB := Lib.hid hvb
        clear hvb
        go_wp2_with (at_builtin; refine wpList_append_out _ rfl _ _ 56 rfl (w.heap.size + 1) 36 ti _ 1 8 Tryz.underlying56 hi hz0 hz1 hz2 rfl (by decide) (.slice Av no cv) no (iv (firsts ks)) rfl (O5.out.alloc _) (fun j => j = W5.heap.size) (some ⟨W5.heap.size, 0, none⟩) 1 1 (iv [f.why]) rfl (Row.new W5 36 #[.int .i64 f.why] 1 1 rfl) (iv_one _) (by simp only [maxLen]; omega) (by omega) (by simp only [World.size_alloc]; omega) ?_; intro A6 c6 w6 ho6 hg6 hn6 hm6; have HO6 := Lib.hid ho6; have HG6 := Lib.hid hg6; clear ho6 hg6 hn6 hm6)
        go_roundw
        case rel =>
          refine ⟨k + 1, no + 1, by omega, by go_num, ?_, ?_, ?_⟩
          · rw [HN.out]
            refine Lib.hid ((M5.out.behind ((Below.refl _ W5).alloc (Nat.le_refl _) _)).kept HG6.out (fun e => ?_))
            have := HVB.out _ e.symm
            omega
          · rw [HN.out, HF1.out, show iv (firsts ks ++ [f.why]) = iv (firsts ks) ++ iv [f.why] by simp [iv]]
            exact HO6
          · exact Lib.hid ((Q5.out.alloc s5 _).grown HG6.out (by simp only [World.size_alloc]; omega) (fun j e => by have := HVB.out _ e; omega))
        case measure => simp [intOf]; omega
      · have e1 : ((c : Int) + 1 == 1) = false := by rw [beq_eq_false_iff_ne]; omega
        have hin : f.why ∈ ks := Decidable.byContradiction fun h => hc0 (HZ.out.2 h)
        have hf1 : firsts (ks ++ [f.why]) = firsts ks := by rw [firsts_snoc, if_pos ((firsts_facts ks).2.1 _ |>.2 hin)]
        have HF1 := Lib.hid hf1
        clear hin hf1 hc0
        go_wp2
        go_roundw
        case rel => exact ⟨k + 1, no, by omega, by go_num, by rw [HN.out]; exact M5, by rw [HN.out, HF1.out]; exact O5, Q5⟩
        case measure => simp [intOf]; omega
    · have hkl : k = L.length := by omega
      subst hkl
      rw [List.take_length] at HM HO
      have hfl2 := (firsts_facts (whysOf L)).2.2
      have hks2 : (whysOf L).length ≤ 1048576 := by rw [whysOf_length]; omega
      have hsb : summaryB L = sumB (whysOf L) (whysB L) := rfl
      have hwb : whysB L = srt ltW (firsts (whysOf L)) := rfl
      have hmem : ∀ x ∈ whysB L, kWhy.ok x := fun x hx => by
        rw [hwb] at hx
        have h1 := (firsts_facts (whysOf L)).2.1 x |>.1 ((srt_perm ltW _).mem_iff.1 hx)
        obtain ⟨f, hf, rfl⟩ := List.mem_map.1 h1
        have := HOK.out f hf
        exact ⟨this.w0, this.w1⟩
      have HMEM := Lib.hid hmem
      have HSB := Lib.hid hsb
      have hno : no = (firsts (whysOf L)).length := by have := HO.out.1; rw [iv_length] at this; omega
      have hno2 : no ≤ 1048576 := by rw [hno]; omega
      have ho := HO.out
      rw [hno] at ho
      have K := sortW_v (firsts (whysOf L)) (by omega) wr (w.heap.size + 1) Av cv ho
      rw [← hno, ← hwb] at K
      have hxl : (whysB L).length = no := by rw [hwb, srt_length, hno]
      obtain ⟨X, hX⟩ : ∃ X, whysB L = X := ⟨_, rfl⟩
      obtain ⟨ks, hks⟩ : ∃ ks, whysOf L = ks := ⟨_, rfl⟩
      rw [hX] at K HMEM HSB hxl
      rw [hks] at HM HSB hks2
      have K2 := Lib.hid K
      have hml := HM.out.lt
      have hsz := HB.out.size
      clear hmem hsb hno ho K hX hks hwb hfl2 HO
      go_wp2_with fail
      refine K2.out.mono ?_
      rintro e w2 ⟨rfl, ho2, hk2⟩
      have HM2 := Lib.hid (HM.out.keep hk2 (by omega))
      have HO2 := Lib.hid ho2
      have hb2 : Below w.heap.size w w2 := HB.out.trans (hk2.below (B := w.heap.size) hsz (fun i hi e => by omega))
      have hs2 := hb2.size
      have HB2 := Lib.hid hb2
      clear ho2 hk2 hb2 HM HB K2 hsz hml
      go_wp2_with fail
      obtain ⟨W3, hW3⟩ : ∃ W3, w2.alloc (.cells #[.pointer none, .slice none 0 0] 45) = W3 := ⟨_, rfl⟩
      rw [hW3]
      have b3 : Bld W3 w2.heap.size w2.heap.size (.slice none 0 0) [] := by rw [← hW3]; exact Bld.new (Blk.new _ _ _) _ (Nat.le_refl _)
      have hB3 : Below w2.heap.size w2 W3 := by rw [← hW3]; exact (Below.refl _ w2).alloc (Nat.le_refl _) _
      have D3 := Lib.hid b3
      have B3 := Lib.hid hB3
      clear hW3 b3 hB3
      obtain ⟨wo, rfl⟩ : ∃ wo : World, wo = wr := ⟨_, rfl⟩
      go_loopw [37] (fun jv wr => ∃ (k : Nat) (v : Value), k ≤ no ∧ jv = .int .i64 (k : Int) ∧ Hid (Bld wr w2.heap.size w2.heap.size v (sumB ks (X.take k))) ∧ Hid (Below w2.heap.size w2 wr)) (fun jv _ => no - (intOf jv).toNat)
      case atStart => exact ⟨0, _, Nat.zero_le _, rfl, D3, B3⟩
      case round =>
        obtain ⟨k, v, hk, rfl, HD, HB⟩ := hrel
        by_cases hlk : k < no
        · obtain ⟨x, hx⟩ : ∃ x, X[k]? = some x := ⟨_, List.getElem?_eq_getElem (by omega)⟩
          have hO := own_behind HO2.out HB.out
          obtain ⟨a2, u, hA2, _, hu, e0⟩ := (Row.of_own hO).at_ hlk
          have hxu : (iv X)[k]? = some (.int .i64 x) := by rw [iv, List.getElem?_map, hx]; rfl
          rw [hxu] at hu
          obtain rfl := Option.some.inj hu
          have hxm := HMEM.out x (List.mem_of_getElem? hx)
          have hxk : kWhy.ok x := hxm
          have hrun : ∀ W, Below w2.heap.size w2 W → (Instr.lookup 55 (.map (some w.heap.size)) (.int .i64 x) false).run Tryz.prog W = .ok (.int .i64 ((cnt ks x : Nat) : Int)) W := fun W hb => by
            have := (HM2.out.behind hb).run x hxk
            simp only [kWhy] at this
            exact this
          have htk : sumB ks (X.take (k + 1)) = sumB ks (X.take k) ++ (wordB x ++ [32] ++ Lib.itoa ((cnt ks x : Nat) : Int) ++ [10]) := by rw [List.take_add_one, hx]; exact sumB_snoc _ _ _
          have hcl := cnt_le ks x
          have hpl := sumB_le ks (X.take k) hks2
          rw [List.length_take] at hpl
          have hll := sumLine_le ks x hks2
          unfold sumLine at hll
          obtain ⟨t0, ht0⟩ : ∃ t0, sumB ks (X.take k) = t0 := ⟨_, rfl⟩
          rw [ht0] at HD htk hpl
          have HTK := Lib.hid htk
          have hsz := HB.out.size
          have KW := Lib.hid (fun W => tword_any x W)
          have KI := Lib.hid (fun W (h : Tab W) => itoa_any ((cnt ks x : Nat) : Int) (by omega) (by omega) W h)
          obtain ⟨u1, hu1⟩ : ∃ u1, wordB x ++ [32] = u1 := ⟨_, rfl⟩
          rw [hu1] at hll
          obtain ⟨u2, hu2⟩ : ∃ u2, u1 ++ Lib.itoa ((cnt ks x : Nat) : Int) = u2 := ⟨_, rfl⟩
          rw [hu2] at hll
          have a1 : str (wordB x) ++ (⟨#[32]⟩ : ByteArray) = str u1 := by rw [← hu1]; exact str_append _ _
          have a2' : str u1 ++ str (Lib.itoa ((cnt ks x : Nat) : Int)) = str u2 := by rw [← hu2]; exact str_append _ _
          have a3 : str u2 ++ (⟨#[10]⟩ : ByteArray) = str (u2 ++ [10]) := str_append _ _
          have htk2 := htk
          rw [hu1, hu2] at htk2
          have HT2 := Lib.hid htk2
          have z0 := str_size (wordB x)
          have z1 := str_size u1
          have z2 := str_size (Lib.itoa ((cnt ks x : Nat) : Int))
          have z3 := str_size u2
          have y0 := wordB_le x
          have y1 : u1.length ≤ 10 := by rw [← hu1, List.length_append, List.length_singleton]; omega
          have y2 := itoa_le ((cnt ks x : Nat) : Int) (by omega) (by omega)
          have y3 : u2.length ≤ 30 := by rw [← hu2, List.length_append]; omega
          have z4 := str_size (u2 ++ [10])
          rw [List.length_append, List.length_singleton] at z4
          have hpl2 : t0.length + (u2 ++ [10]).length ≤ 140737488355328 := by rw [List.length_append, List.length_singleton]; omega
          have hbl := HD.out.lt
          have hvl : ∀ j, v.ownBlock = some j → w2.heap.size ≤ j ∧ j < wr.heap.size := fun j e => World.ownsRowF.lt HD.out.2.2.1 j e
          have HVL := Lib.hid hvl
          have j0 : (0 : Int) ≤ (k : Int) := by omega
          have j1 : (k : Int) < (no : Int) := by omega
          clear hx hxu hxm hxk htk htk2 hvl hu1 hu2 ht0 hO hcl HTK
          generalize wordB x = t1 at a1 z0 y0 KW
          generalize Lib.itoa ((cnt ks x : Nat) : Int) = t2 at a2' z2 y2 KI
          generalize ((cnt ks x : Nat) : Int) = c at hrun KI
          subst hA2
          have HRUN := Lib.hid hrun
          clear hrun
          go_wp2_with fail
          refine wp_region_plan (S := fun w' => (Instr.lookup 55 (.map (some w.heap.size)) (.int .i64 x) false).run Tryz.prog w' = .ok (.int .i64 c) w') 10
            [(0, true), (3, true), (4, true), (5, true), (1, false), (2, true), (6, false), (7, true), (8, true), (9, false)] (by kernel_rfl) (by kernel_rfl) ?_ (fun hHeld => ?_)
          · exact HRUN.out _ HB.out.drew
          iterate 4 (refine plan_take (v := ?_) rfl (by assumption) rfl (fun _ _ _ h => h) ?_ ?_; rotate_left; · (intro w hSw; (try dsimp only at hSw); go_simp; try with_reducible rfl); all_goals (try simp only [Act.put, List.setIfInBounds_toArray, List.set_cons_zero, List.set_cons_succ]))
          refine plan_op rfl (by decide) (fun K hK => ?_)
          go_simp
          refine (KW.out _).mono ?_
          rintro e w5 ⟨rfl, hb5⟩
          have q5 : Below wr.heap.size wr w5 := ((Below.refl _ wr).drew).trans hb5
          have hs5 := q5.size
          have b5 : Below w2.heap.size w2 w5 := HB.out.trans (q5.mono hsz)
          refine hK.out _ _ (HRUN.out _ b5) (fun hHeld => ?_)
          have Q5 := Lib.hid q5
          have B5 := Lib.hid b5
          clear hK K hb5 q5 b5
          refine plan_take (v := ?_) rfl (by assumption) rfl (fun _ _ _ h => h) ?_ ?_; rotate_left; · (intro w hSw; (try dsimp only at hSw); go_simp; (try rw [if_neg (by omega)]); try with_reducible rfl)
          all_goals (try simp only [Act.put, List.setIfInBounds_toArray, List.set_cons_zero, List.set_cons_succ])
          refine plan_op rfl (by decide) (fun K hK => ?_)
          go_simp
          refine (KI.out _ ((HT.out.below HB2.out (Nat.le_refl _)).behind B5.out)).mono ?_
          rintro e w6 ⟨rfl, hb6⟩
          have q6 : Below wr.heap.size wr w6 := Q5.out.trans (hb6.mono hs5)
          have hs6 := q6.size
          have b6 : Below w2.heap.size w2 w6 := HB.out.trans (q6.mono hsz)
          refine hK.out _ _ (HRUN.out _ b6) (fun hHeld => ?_)
          have Q6 := Lib.hid q6
          have B6 := Lib.hid b6
          have D6 := Lib.hid (HD.out.behind q6)
          clear hK K hb6 q6 b6
          refine plan_take (v := ?_) rfl (by assumption) rfl (fun _ _ _ h => h) ?_ ?_; rotate_left; · (intro w hSw; (try dsimp only at hSw); go_simp; (try rw [if_neg (by omega)]); try with_reducible rfl)
          all_goals (try simp only [Act.put, List.setIfInBounds_toArray, List.set_cons_zero, List.set_cons_succ])
          refine plan_take (v := ?_) rfl (by assumption) rfl (fun _ _ _ h => h) ?_ ?_; rotate_left; · (intro w hSw; (try dsimp only at hSw); go_simp; (try rw [if_neg (by omega)]); try with_reducible rfl)
          all_goals (try simp only [Act.put, List.setIfInBounds_toArray, List.set_cons_zero, List.set_cons_succ])
          refine plan_op rfl (by decide) (fun K hK => ?_)
          go_simp
          refine (writeString_any D6.out (u2 ++ [10]) hpl2).mono ?_
          rintro e w8 ⟨rfl, v8, hd8, hk8⟩
          have b8 : Below w2.heap.size w2 w8 := B6.out.trans (hk8.below (B := w2.heap.size) B6.out.size (fun i hi h => by
            rcases h with h | h
            · omega
            · have := (HVL.out _ h).1; omega))
          refine hK.out _ _ (HRUN.out _ b8) (fun hHeld => ?_)
          have D8 := Lib.hid hd8
          have B8 := Lib.hid b8
          clear hK K hk8 hd8 b8 a1 a2' a3 z0 z1 z2 z3 z4 y0 y1 y2 y3 e0
          simp only [wpPlan]
          go_wp2
          go_roundw
          case rel => exact ⟨k + 1, v8, by omega, by go_num, by rw [HT2.out]; exact D8, B8⟩
          case measure => simp [intOf]; omega
        · have hkn : k = no := by omega
          subst hkn
          have hd := HD.out
          rw [List.take_of_length_le (by omega), ← HSB.out] at hd
          have K2 := Lib.hid (builderString_any hd)
          clear hd HD
          go_wp2_with fail
          refine K2.out.mono ?_
          rintro e w4 ⟨rfl, hb4⟩
          have B4 := Lib.hid (HB2.out.trans ((HB.out.trans hb4).mono hs2))
          clear hb4
          go_wp2
          go_ret
          exact ⟨rfl, B4.out⟩
end Go.Proofs.YtgkiffodnofggaaGreatDoor
