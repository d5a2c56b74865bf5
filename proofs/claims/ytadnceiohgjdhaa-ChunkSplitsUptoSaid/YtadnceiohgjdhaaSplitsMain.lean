/-
  ChunkSplits: the walk where all is as asked.
-/
import Derived.Test.YtadnceiohgjdhaaSplitsWalk
namespace Go.Proofs.Ytadnceiohgjdhaa
open Go.RowKit
set_option linter.unusedVariables false
set_option linter.unusedSimpArgs false

section
variable (A B D E : Option Addr) (n ca m cb k cd j ce : Nat) (fail : Bool) (z1 z2 : Int) (data : List UInt8) (cs ds : List Int) (acts : List (Int × Int)) (w : World)


set_option maxHeartbeats 32000000 in
set_option maxRecDepth 100000 in
theorem chunkSplits_main (s1 s2 : Nat) (hd : Row (fun k => k < w.heap.size) w 1 A n (bv data)) (hc : Row (fun k => k < w.heap.size) w 1 B m (iv cs)) (hD : Row (fun k => k < w.heap.size) w 1 D k (iv ds)) (hE : Acts (fun k => k < w.heap.size) w E j acts)
    (hnc : n ≤ ca) (hn : n ≤ 1048576) (hm : m + 1 < 100) (hk : k + 1 < 100) (hj : j ≤ 1048576) (h1 : 1 ≤ s1) (h2 : s1 ≤ 1048576) (h3 : 1 ≤ s2) (h4 : s2 ≤ 1048576) :
    Calls Try.prog 12 #[.agg #[.slice A n ca, .slice B m cb, .bool fail], .slice D k cd, .agg #[.int .i64 s1, .int .i64 s2, .slice E j ce]] w fun e w' => e = .returned (.bool true) ∧ Below w.heap.size w w' := by
  have hdl : data.length = n := by have := hd.1; rw [bv_length] at this; omega
  have hcl : cs.length = m := by have := hc.1; rw [iv_length] at this; omega
  have hDl : ds.length = k := by have := hD.1; rw [iv_length] at this; omega
  obtain ⟨L, hL⟩ : ∃ L, L = cut data cs fail := ⟨_, rfl⟩
  obtain ⟨M, hM⟩ : ∃ M, M = cut data ds fail := ⟨_, rfl⟩
  have hLb : bytesOf L = (data, fail) := by rw [hL]; exact bytesOf_cut _ _ _
  have hMb : bytesOf M = (data, fail) := by rw [hM]; exact bytesOf_cut _ _ _
  have hLl : L.length = m + 1 := by rw [hL, cut_length, hcl]
  have hMl : M.length = k + 1 := by rw [hM, cut_length, hDl]
  have hLt : total L = n := by rw [hL, total_cut, hdl]
  have hMt : total M = n := by rw [hM, total_cut, hdl]
  have hLg : large L = false := large_no (by omega) (by omega)
  have hMg : large M = false := large_no (by omega) (by omega)
  have hLok : (Src.new L).ok := Src.new_ok (by omega) (by omega)
  have hMok : (Src.new M).ok := Src.new_ok (by omega) (by omega)
  have hs : sameB L M = true := by rw [hL, hM]; exact sameB_cut _ _ _ _
  have c1 := fun (S : Nat → Prop) W h1 h2 => cut_any S A B n ca m cb data cs fail W h1 h2 hnc (by omega) (by omega)
  have c2 := fun (S : Nat → Prop) W h1 h2 => cut_any S A D n ca k cd data ds fail W h1 h2 hnc (by omega) (by omega)
  have c3 := fun (S : Nat → Prop) A' c' W h => new_any S A' (m + 1) c' L W h (by omega)
  have c4 := fun (S : Nat → Prop) A' c' W h => new_any S A' (k + 1) c' M W h (by omega)
  have c5 := fun (S T : Nat → Prop) A B c d W h1 h2 => same_any S T A B (m + 1) c (k + 1) d L M W h1 h2 (by rw [hLb]; simp only; omega) (by rw [hMb]; simp only; omega) (by omega) (by omega)
  rw [← hL] at c1
  rw [← hM] at c2
  rw [hs] at c5
  have hll : (Src.new L).left = (Src.new M).left := by rw [Src.left_new, Src.left_new, hLb, hMb]
  have C1 := Lib.hid c1
  have C2 := Lib.hid c2
  have C3 := Lib.hid c3
  have C4 := Lib.hid c4
  have C5 := Lib.hid c5
  have HD := Lib.hid hd
  have HC := Lib.hid hc
  have HDD := Lib.hid hD
  have HE := Lib.hid hE
  have HL := Lib.hid hLl
  have HM := Lib.hid hMl
  have HLG := Lib.hid hLg
  have HMG := Lib.hid hMg
  have HLK := Lib.hid hLok
  have HMK := Lib.hid hMok
  have HLL := Lib.hid hll

  have f0 : decide ((100 : Int) ≤ (m : Int) + 1) = false := by simp; omega
  have f1 : decide (100 ≤ m + 1) = false := by simp; omega
  have f2 : decide (99 ≤ m) = false := by simp; omega
  have f3 : decide ((100 : Int) ≤ (k : Int) + 1) = false := by simp; omega
  have f4 : decide (100 ≤ k + 1) = false := by simp; omega
  have f5 : decide (99 ≤ k) = false := by simp; omega
  have f6 : decide ((s1 : Int) < 1) = false := by simp; omega
  have f7 : decide ((s2 : Int) < 1) = false := by simp; omega
  have f8 : decide (1048576 < (s1 : Int)) = false := by simp; omega
  have f9 : decide (1048576 < (s2 : Int)) = false := by simp; omega
  have f10 : decide (s1 < 1) = false := by simp; omega
  have f11 : decide (s2 < 1) = false := by simp; omega
  have f12 : decide (1048576 < s1) = false := by simp; omega
  have f13 : decide (1048576 < s2) = false := by simp; omega
  clear c1 c2 c3 c4 c5 hd hc hD hE hdl hcl hDl hLb hMb hLl hMl hLt hMt hLg hMg hLok hMok hs hL hM hll
  obtain ⟨w0, hw0⟩ : ∃ w0, w0 = (w.alloc (.cells #[.slice A n ca, .slice B m cb, .bool fail] 29)).alloc (.cells #[.int .i64 s1, .int .i64 s2, .slice E j ce] 91) := ⟨_, rfl⟩
  have B0 := Lib.hid (show Below w.heap.size w w0 by rw [hw0]; exact ((Below.refl _ w).alloc (Nat.le_refl _) _).alloc (by simp) _)
  have X0 := Lib.hid (show Blk w0 w.heap.size 29 #[.slice A n ca, .slice B m cb, .bool fail] by rw [hw0]; exact (Blk.new w _ _).alloc _)
  have Y0 := Lib.hid (show Blk w0 (w.heap.size + 1) 91 #[.int .i64 s1, .int .i64 s2, .slice E j ce] by rw [hw0]; exact Blk.new_at _ _ (by simp))
  have hs0 : w0.heap.size = w.heap.size + 2 := by rw [hw0]; simp
  have HS0 := Lib.hid hs0
  have HW0 := Lib.hid hw0
  clear hs0 hw0
  go_enter Try.func12, Try.ntmps12
  go_wp2_with fail
  rw [← HW0.out]
  refine (C1.out _ _ (HD.out.behind B0.out) (HC.out.behind B0.out)).mono ?_
  rintro e w1 ⟨v1, rfl, hos1, hb1⟩
  obtain ⟨A1, k1, hv1, _, _⟩ := hos1.form
  rw [HL.out] at hv1
  subst hv1
  have S1 := Lib.hid hos1.steps
  have B1 := Lib.hid (B0.out.trans (hb1.mono B0.out.size))
  have X1 := Lib.hid (X0.out.below hb1 X0.out.lt)
  have Y1 := Lib.hid (Y0.out.below hb1 Y0.out.lt)
  have l1 := hb1.size
  clear hos1 hb1
  have a2 : w1.cell? ⟨w.heap.size, 2, none⟩ = some (.bool fail) := X1.out.cell 2
  go_wp2_with fail
  refine (C2.out _ _ (HD.out.behind B1.out) (HDD.out.behind B1.out)).mono ?_
  rintro e w2 ⟨v2, rfl, hos2, hb2⟩
  obtain ⟨A2, k2, hv2, _, _⟩ := hos2.form
  rw [HM.out] at hv2
  subst hv2
  have S2 := Lib.hid hos2.steps
  have T2 := Lib.hid (S1.out.behind hb2)
  have B2 := Lib.hid (B1.out.trans (hb2.mono B1.out.size))
  have Y2 := Lib.hid (Y1.out.below hb2 Y1.out.lt)
  have l2 := hb2.size
  clear hos2 hb2 a2
  go_wp2_with fail
  refine (C3.out _ _ _ _ T2.out).mono ?_
  rintro e w3 ⟨v, rfl, hb3, hcase⟩
  rcases hcase with ⟨hf, _⟩ | ⟨_, g, rfl, hg, hsrc⟩
  case inl => have := HLG.out; rw [hf] at this; cases this
  have G3 := Lib.hid hsrc
  have S3 := Lib.hid (S2.out.behind hb3)
  have T3 := Lib.hid (T2.out.behind hb3)
  have B3 := Lib.hid (B2.out.trans (hb3.mono B2.out.size))
  have Y3 := Lib.hid (Y2.out.below hb3 Y2.out.lt)
  have l3 := hb3.size
  have g3 := hsrc.lt
  clear hsrc hb3
  go_wp2_with fail
  refine (C4.out _ _ _ _ S3.out).mono ?_
  rintro e w4 ⟨v, rfl, hb4, hcase⟩
  rcases hcase with ⟨hf, _⟩ | ⟨_, g2, rfl, hg2, hsrc⟩
  case inl => have := HMG.out; rw [hf] at this; cases this
  have G4 := Lib.hid hsrc
  have F4 := Lib.hid (G3.out.behind hb4)
  have S4 := Lib.hid (S3.out.behind hb4)
  have T4 := Lib.hid (T3.out.behind hb4)
  have B4 := Lib.hid (B3.out.trans (hb4.mono B3.out.size))
  have Y4 := Lib.hid (Y3.out.below hb4 Y3.out.lt)
  have l4 := hb4.size
  have g4 := hsrc.lt
  clear hsrc hb4
  have y0 : w4.cell? ⟨w.heap.size + 1, 0, none⟩ = some (.int .i64 s1) := Y4.out.cell 0
  go_wp2_with (go_at_call 13; refine (num_any _ _).mono ?_; rintro e w4 ⟨rfl, rfl⟩)
  refine (newBuffer_any s1 F4.out HLK.out rfl (fun k h => by omega) h1 (by omega)).mono ?_
  rintro e w5 ⟨rfl, hbuf, hb5, hs5⟩
  have hs5' : w4.heap.size < w5.heap.size := by omega
  have P5 := Lib.hid hbuf
  have G5 := Lib.hid (G4.out.behind hb5)
  have S5 := Lib.hid (S4.out.behind hb5)
  have T5 := Lib.hid (T4.out.behind hb5)
  have B5 := Lib.hid (B4.out.trans (hb5.mono B4.out.size))
  have Y5 := Lib.hid (Y4.out.below hb5 Y4.out.lt)
  have l5 := hb5.size
  clear hbuf hb5 y0 hs5
  have y1 : w5.cell? ⟨w.heap.size + 1, 1, none⟩ = some (.int .i64 s2) := Y5.out.cell 1
  go_wp2_with fail
  refine (newBuffer_any s2 G5.out HMK.out rfl (fun k h => by omega) h3 (by omega)).mono ?_
  rintro e w6 ⟨rfl, hbuf, hb6, hs6⟩
  have hs6' : w5.heap.size < w6.heap.size := by omega
  have R6 := Lib.hid hbuf
  have P6 := Lib.hid (P5.out.behind hb6)
  have S6 := Lib.hid (S5.out.behind hb6)
  have T6 := Lib.hid (T5.out.behind hb6)
  have B6 := Lib.hid (B5.out.trans (hb6.mono B5.out.size))
  have Y6 := Lib.hid (Y5.out.below hb6 Y5.out.lt)
  have l6 := hb6.size
  clear hbuf hb6 y1 hs6
  go_wp2_with (first
    | (go_at_call 13; refine (num_any _ _).mono ?_; rintro e w4 ⟨rfl, rfl⟩)
    | (go_at_call 19; refine (C5.out _ _ _ _ _ _ _ T6.out S6.out).mono ?_; rintro e w7 ⟨rfl, hb7⟩; have P7 := Lib.hid (P6.out.behind hb7); have R7 := Lib.hid (R6.out.behind hb7); have B7 := Lib.hid (B6.out.trans (hb7.mono B6.out.size)); have Y7 := Lib.hid (Y6.out.below hb7 Y6.out.lt); have l7 := hb7.size; clear hb7; have y2 : w7.cell? ⟨w.heap.size + 1, 2, none⟩ = some (.slice E j ce) := Y7.out.cell 2))
  have hTwo : Two w7 w4.heap.size g w5.heap.size g2 (fun k => g < k ∧ k < w3.heap.size) (fun k => g2 < k ∧ k < w4.heap.size) (fun _ => False) (fun _ => False) (Buf.new (Src.new L) s1) (Buf.new (Src.new M) s2) :=
    ⟨P7.out, R7.out, fun k h0 h5 => by rcases h0 with h0 | h0 | h0 | h0 <;> rcases h5 with h5 | h5 | h5 | h5 <;> first | omega | exact h5 | exact h0⟩
  have hs0 := HS0.out
  have hFrom : BothFrom (w.heap.size + 2) w4.heap.size g w5.heap.size g2 (fun k => g < k ∧ k < w3.heap.size) (fun k => g2 < k ∧ k < w4.heap.size) (fun _ => False) (fun _ => False) := by
    rintro k ((h0 | h0 | h0 | h0) | h0 | h0 | h0 | h0) <;> first | omega | exact h0.elim
  have hlw : w.heap.size + 2 ≤ w7.heap.size := by omega
  generalize (fun k => g < k ∧ k < w3.heap.size) = SP at hTwo hFrom
  generalize (fun k => g2 < k ∧ k < w4.heap.size) = SQ at hTwo hFrom
  have SL := Lib.hid (show SplitLoop w (w.heap.size + 2) w4.heap.size g w5.heap.size g2 SP SQ s1 s2 #[.int .i64 s1, .int .i64 s2, .slice E j ce] w7 (Buf.new (Src.new L) s1) (Buf.new (Src.new M) s2) (fun _ => False) (fun _ => False) from
    ⟨hTwo, hFrom, ⟨⟨HLK.out, h1, (by simp only [Buf.new]; omega), Nat.zero_le _, rfl⟩, by simp only [Buf.new, Src.new]; have := HL.out; omega⟩, ⟨⟨HMK.out, h3, (by simp only [Buf.new]; omega), Nat.zero_le _, rfl⟩, by simp only [Buf.new, Src.new]; have := HM.out; omega⟩, by simp only [Buf.left, Buf.new]; rw [HLL.out], rfl, rfl, rfl, Y7.out, B7.out⟩)
  clear hTwo hFrom P7 R7 Y7 B7 hs0 P6 R6 S6 T6 B6 Y6 P5 G5 S5 T5 B5 Y5 F4 G4 S4 T4 B4 Y4 C1 C2 C3 C4 C5 X0 Y0 X1 Y1 B1 B2 B3 Y2 Y3 S1 S2 S3 T2 T3 G3 B0 HD HC HDD HL HM HLG HMG HLK HMK HLL HW0 HS0
  go_loopw [136] (fun i wr => ∃ (q : Nat) (x y : Buf) (H H2 : Nat → Prop), q ≤ j ∧ i = .int .i64 q ∧ w.heap.size + 2 ≤ wr.heap.size ∧ Hid (SplitLoop w (w.heap.size + 2) w4.heap.size g w5.heap.size g2 SP SQ s1 s2 #[.int .i64 s1, .int .i64 s2, .slice E j ce] wr x y H H2)) (fun i _ => j - (intOf i).toNat)
  case atStart => exact ⟨0, _, _, _, _, Nat.zero_le _, rfl, hlw, SL.out⟩
  case round =>
    obtain ⟨q, x, y, H, H2, hq, rfl, hlr, HS⟩ := hrel
    clear SL y2
    by_cases hlt : q < j
    · obtain ⟨bd, kd, num, rfl, hbd, _, e1, e2⟩ := (HE.out.behind (fun k h => h) HS.out.below).get hlt
      have i0 : (0 : Int) ≤ (q : Int) := by omega
      have i1 : (q : Int) < (j : Int) := by omega
      have hbd' : bd.block < wr.heap.size := by omega
      have HA := Lib.hid (HS.out.behind ((Below.refl _ wr).alloc (Nat.le_refl _) (.cells #[.int .i64 kd, .int .i64 num] 87)))
      have hYb := HA.out.box
      have p0 : (wr.alloc (.cells #[.int .i64 kd, .int .i64 num] 87)).cell? ⟨w.heap.size + 1, 0, none⟩ = some (.int .i64 s1) := hYb.cell 0
      have p1 : (wr.alloc (.cells #[.int .i64 kd, .int .i64 num] 87)).cell? ⟨w.heap.size + 1, 1, none⟩ = some (.int .i64 s2) := hYb.cell 1
      have p2 : w.heap.size + 1 < wr.heap.size := by omega
      have XA := Lib.hid (Blk.new wr 87 #[.int .i64 kd, .int .i64 num])
      have HAL := Lib.hid HS.out.two.all_lt
      have KA := Lib.hid ((Keep.refl (BothAll w4.heap.size g w5.heap.size g2 SP SQ H H2) wr).alloc (.cells #[.int .i64 kd, .int .i64 num] 87))
      have hxs := HS.out.xs
      have hys := HS.out.ys
      have HXS := Lib.hid hxs
      have HYS := Lib.hid hys
      clear hYb hxs hys
      by_cases hkd : kd = 0 ∨ kd = 1

      · by_cases n1 : num < 0
        · have d1 : decide (num < 0) = true := by simpa using n1
          rcases hkd with rfl | rfl
          · clear n1
            go_wp2_with fail
            go_roundw
            case rel => exact ⟨q + 1, x, y, H, H2, by omega, by go_num, by simp; omega, HA.out⟩
            case measure => simp [intOf]; omega
          · clear n1
            go_wp2_with fail
            go_roundw
            case rel => exact ⟨q + 1, x, y, H, H2, by omega, by go_num, by simp; omega, HA.out⟩
            case measure => simp [intOf]; omega
        · by_cases n2 : (s1 : Int) < num
          · have d1 : decide (num < 0) = false := by simpa using n1
            have d2 : decide ((s1 : Int) < num) = true := by simpa using n2
            rcases hkd with rfl | rfl
            · clear n1 n2
              go_wp2_with fail
              go_roundw
              case rel => exact ⟨q + 1, x, y, H, H2, by omega, by go_num, by simp; omega, HA.out⟩
              case measure => simp [intOf]; omega
            · clear n1 n2
              go_wp2_with fail
              go_roundw
              case rel => exact ⟨q + 1, x, y, H, H2, by omega, by go_num, by simp; omega, HA.out⟩
              case measure => simp [intOf]; omega
          · by_cases n3 : (s2 : Int) < num
            · have d1 : decide (num < 0) = false := by simpa using n1
              have d2 : decide ((s1 : Int) < num) = false := by simpa using n2
              have d3 : decide ((s2 : Int) < num) = true := by simpa using n3
              rcases hkd with rfl | rfl
              · clear n1 n2 n3
                go_wp2_with fail
                go_roundw
                case rel => exact ⟨q + 1, x, y, H, H2, by omega, by go_num, by simp; omega, HA.out⟩
                case measure => simp [intOf]; omega
              · clear n1 n2 n3
                go_wp2_with fail
                go_roundw
                case rel => exact ⟨q + 1, x, y, H, H2, by omega, by go_num, by simp; omega, HA.out⟩
                case measure => simp [intOf]; omega
            · obtain ⟨N, rfl⟩ : ∃ N : Nat, num = N := ⟨num.toNat, by omega⟩
              have hN1 : N ≤ s1 := by omega
              have hN2 : N ≤ s2 := by omega
              have d1 : decide ((N : Int) < 0) = false := by simp
              have d2 : decide ((s1 : Int) < (N : Int)) = false := by simp; omega
              have d3 : decide ((s2 : Int) < (N : Int)) = false := by simp; omega
              have d4 : decide (s1 < N) = false := by simp; omega
              have d5 : decide (s2 < N) = false := by simp; omega
              obtain ⟨l, er, x1, y1, hpx, hpy, fx, fy, hl, htk, hsx, hsy⟩ := peek_both HS.out.xf HS.out.yf HS.out.left HS.out.taken (n := N) (by rw [HXS.out]; exact hN1) (by rw [HYS.out]; exact hN2)
              have HPX := Lib.hid hpx
              have HPY := Lib.hid hpy
              have HL1 := Lib.hid hl
              have HT1 := Lib.hid htk
              have HSX := Lib.hid hsx
              have HSY := Lib.hid hsy
              clear n1 n2 n3 hpx hpy hl htk hsx hsy
              rcases hkd with rfl | rfl
              · skip
                go_wp2_with fail
                refine (bufPeek_any N HA.out.two.p (by rw [HXS.out]; exact hN1)).mono ?_
                rintro e w8 ⟨v, rfl, g8⟩
                rw [HPX.out] at g8
                obtain ⟨A8, c8, H8, rfl, ho8, ht8, hd8, hk8, hs8⟩ := HA.out.two.one g8
                have O8 := Lib.hid ho8
                have T8 := Lib.hid ht8
                have D8 := Lib.hid hd8
                have S8' := Lib.hid (show ∀ k, H8 k → H k ∨ wr.heap.size + 1 ≤ k from fun k h => (hs8 k h).imp id (fun h => by simpa using h))
                have S8 := Lib.hid (show ∀ k, H8 k → H k ∨ wr.heap.size ≤ k from fun k h => (S8'.out k h).imp id (fun h => by omega))
                have K8 := Lib.hid (KA.out.trans_ hk8 (fun i _ h => both_p h))
                have l8 : wr.heap.size + 1 ≤ w8.heap.size := by simpa using hk8.size
                have X8 := Lib.hid (XA.out.keep hk8 (fun h => Nat.lt_irrefl _ (HAL.out _ (both_p h))))
                have a0 : w8.cell? ⟨wr.heap.size, 0, none⟩ = some (.int .i64 0) := X8.out.cell 0
                have a1 : w8.cell? ⟨wr.heap.size, 1, none⟩ = some (.int .i64 (N : Int)) := X8.out.cell 1
                clear ho8 ht8 hd8 hk8 hs8
                go_wp2_with fail
                refine (bufPeek_any N T8.out.r (by rw [HYS.out]; exact hN2)).mono ?_
                rintro e w9 ⟨v, rfl, g9⟩
                rw [HPY.out] at g9
                obtain ⟨A9, c9, H9, rfl, hr9, hr8, ht9, hk9, hs9⟩ := T8.out.two O8.out D8.out g9
                have R9 := Lib.hid hr9
                have R8 := Lib.hid hr8
                have T9 := Lib.hid ht9
                have S9 := Lib.hid (show ∀ k, H9 k → H2 k ∨ wr.heap.size ≤ k from fun k h => (hs9 k h).imp id (fun h => by omega))
                have K9 := Lib.hid (K8.out.trans_ hk9 (fun i _ h => two_r h))
                have l9 := hk9.size
                have X9 := Lib.hid (X8.out.keep hk9 (fun h => Nat.lt_irrefl _ (HAL.out _ (two_r h))))
                clear a0 a1
                have a0 : w9.cell? ⟨wr.heap.size, 0, none⟩ = some (.int .i64 0) := X9.out.cell 0
                have a1 : w9.cell? ⟨wr.heap.size, 1, none⟩ = some (.int .i64 (N : Int)) := X9.out.cell 1
                clear hr9 hr8 ht9 hk9 hs9
                have u1 := conv_row R8.out c8
                have u2 := conv_row R9.out c9
                go_wp2_with (go_at_call 13; refine (num_any _ _).mono ?_; rintro e w ⟨rfl, rfl⟩)
                refine (bufTaken_any T9.out.p).mono ?_
                rintro e w ⟨rfl, rfl⟩
                go_wp2_with fail
                have k9 := bufTaken_any T9.out.r
                rw [← HT1.out] at k9
                refine k9.mono ?_
                rintro e w ⟨rfl, rfl⟩
                clear k9 u1 u2
                go_wp2_with fail
                go_roundw
                case rel => exact ⟨q + 1, x1, y1, H8, H9, by omega, by go_num, by omega, HS.out.step (Nat.le_refl _) hlr K9.out T9.out S8.out S9.out fx fy HL1.out HT1.out HSX.out HSY.out⟩
                case measure => simp [intOf]; omega
              · obtain ⟨l2, er2, x2, y2, hpx, hpy, fx2, fy2, hl, htk, hsx, hsy⟩ := take_both fx fy HL1.out HT1.out (n := N) (by rw [HSX.out, HXS.out]; exact hN1) (by rw [HSY.out, HYS.out]; exact hN2)
                have HPX2 := Lib.hid hpx
                have HPY2 := Lib.hid hpy
                have HL2 := Lib.hid hl
                have HT2 := Lib.hid htk
                have HSX2 := Lib.hid (hsx.trans HSX.out)
                have HSY2 := Lib.hid (hsy.trans HSY.out)
                clear hpx hpy hl htk hsx hsy
                go_wp2_with fail
                refine (bufPeek_any N HA.out.two.p (by rw [HXS.out]; exact hN1)).mono ?_
                rintro e w8 ⟨v, rfl, g8⟩
                rw [HPX.out] at g8
                obtain ⟨A8, c8, H8, rfl, ho8, ht8, hd8, hk8, hs8⟩ := HA.out.two.one g8
                have O8 := Lib.hid ho8
                have T8 := Lib.hid ht8
                have D8 := Lib.hid hd8
                have S8' := Lib.hid (show ∀ k, H8 k → H k ∨ wr.heap.size + 1 ≤ k from fun k h => (hs8 k h).imp id (fun h => by simpa using h))
                have S8 := Lib.hid (show ∀ k, H8 k → H k ∨ wr.heap.size ≤ k from fun k h => (S8'.out k h).imp id (fun h => by omega))
                have K8 := Lib.hid (KA.out.trans_ hk8 (fun i _ h => both_p h))
                have l8 : wr.heap.size + 1 ≤ w8.heap.size := by simpa using hk8.size
                have X8 := Lib.hid (XA.out.keep hk8 (fun h => Nat.lt_irrefl _ (HAL.out _ (both_p h))))
                have a0 : w8.cell? ⟨wr.heap.size, 0, none⟩ = some (.int .i64 1) := X8.out.cell 0
                have a1 : w8.cell? ⟨wr.heap.size, 1, none⟩ = some (.int .i64 (N : Int)) := X8.out.cell 1
                clear ho8 ht8 hd8 hk8 hs8
                go_wp2_with fail
                refine (bufPeek_any N T8.out.r (by rw [HYS.out]; exact hN2)).mono ?_
                rintro e w9 ⟨v, rfl, g9⟩
                rw [HPY.out] at g9
                obtain ⟨A9, c9, H9, rfl, hr9, hr8, ht9, hk9, hs9⟩ := T8.out.two O8.out D8.out g9
                have R9 := Lib.hid hr9
                have R8 := Lib.hid hr8
                have T9 := Lib.hid ht9
                have S9 := Lib.hid (show ∀ k, H9 k → H2 k ∨ wr.heap.size ≤ k from fun k h => (hs9 k h).imp id (fun h => by omega))
                have K9 := Lib.hid (K8.out.trans_ hk9 (fun i _ h => two_r h))
                have l9 := hk9.size
                have X9 := Lib.hid (X8.out.keep hk9 (fun h => Nat.lt_irrefl _ (HAL.out _ (two_r h))))
                clear a0 a1
                have a0 : w9.cell? ⟨wr.heap.size, 0, none⟩ = some (.int .i64 1) := X9.out.cell 0
                have a1 : w9.cell? ⟨wr.heap.size, 1, none⟩ = some (.int .i64 (N : Int)) := X9.out.cell 1
                clear hr9 hr8 ht9 hk9 hs9
                go_wp2_with fail
                refine (bufTake_any N T9.out.p (by rw [HSX.out, HXS.out]; exact hN1)).mono ?_
                rintro e w10 ⟨v, rfl, g10⟩
                rw [HPX2.out] at g10
                obtain ⟨A10, c10, H10, rfl, ho10, ht10, hd10, hk10, hs10⟩ := T9.out.one g10
                have O10 := Lib.hid ho10
                have T10 := Lib.hid ht10
                have D10 := Lib.hid hd10
                have S10 := Lib.hid (show ∀ k, H10 k → H k ∨ wr.heap.size ≤ k from fun k h => by
                  rcases hs10 k h with h | h
                  · exact S8.out k h
                  · exact .inr (by omega))
                have K10 := Lib.hid (K9.out.trans_ hk10 (fun i hi h => by
                  rcases h with h | h | h
                  · exact .inl (.inl h)
                  · exact .inl (.inr (.inl h))
                  · rcases S8.out i h with h | h
                    · exact .inl (.inr (.inr (.inr h)))
                    · omega))
                have l10 := hk10.size
                have X10 := Lib.hid (X9.out.keep hk10 (fun h => by
                  have hA := T9.out.all_lt
                  rcases h with h | h | h
                  · exact Nat.lt_irrefl _ (HAL.out _ (.inl (.inl h)))
                  · exact Nat.lt_irrefl _ (HAL.out _ (.inl (.inr (.inl h))))
                  · rcases S8'.out _ h with h | h
                    · exact Nat.lt_irrefl _ (HAL.out _ (.inl (.inr (.inr (.inr h)))))
                    · omega))
                clear a0 a1
                have a0 : w10.cell? ⟨wr.heap.size, 0, none⟩ = some (.int .i64 1) := X10.out.cell 0
                have a1 : w10.cell? ⟨wr.heap.size, 1, none⟩ = some (.int .i64 (N : Int)) := X10.out.cell 1
                clear ho10 ht10 hd10 hk10 hs10
                go_wp2_with fail
                refine (bufTake_any N T10.out.r (by rw [HSY.out, HYS.out]; exact hN2)).mono ?_
                rintro e w11 ⟨v, rfl, g11⟩
                rw [HPY2.out] at g11
                obtain ⟨A11, c11, H11, rfl, hr11, hr10, ht11, hk11, hs11⟩ := T10.out.two O10.out D10.out g11
                have R11 := Lib.hid hr11
                have R10 := Lib.hid hr10
                have T11 := Lib.hid ht11
                have S11 := Lib.hid (show ∀ k, H11 k → H2 k ∨ wr.heap.size ≤ k from fun k h => by
                  rcases hs11 k h with h | h
                  · exact S9.out k h
                  · exact .inr (by omega))
                have K11 := Lib.hid (K10.out.trans_ hk11 (fun i hi h => by
                  rcases h with h | h | h
                  · exact .inr (.inl h)
                  · exact .inr (.inr (.inl h))
                  · rcases S9.out i h with h | h
                    · exact .inr (.inr (.inr (.inr h)))
                    · omega))
                have l11 := hk11.size
                clear hr11 hr10 ht11 hk11 hs11 a0 a1
                have u1 := conv_row R10.out c10
                have u2 := conv_row R11.out c11
                go_wp2_with (go_at_call 13; refine (num_any _ _).mono ?_; rintro e w ⟨rfl, rfl⟩)
                refine (bufTaken_any T11.out.p).mono ?_
                rintro e w ⟨rfl, rfl⟩
                go_wp2_with fail
                have k9 := bufTaken_any T11.out.r
                rw [← HT2.out] at k9
                refine k9.mono ?_
                rintro e w ⟨rfl, rfl⟩
                clear k9 u1 u2
                go_wp2_with fail
                go_roundw
                case rel => exact ⟨q + 1, x2, y2, H10, H11, by omega, by go_num, by omega, HS.out.step (Nat.le_refl _) hlr K11.out T11.out S10.out S11.out fx2 fy2 HL2.out HT2.out HSX2.out HSY2.out⟩
                case measure => simp [intOf]; omega
      · by_cases hk2 : kd = 2
        · subst hk2
          obtain ⟨c, hc⟩ : ∃ c : UInt8, IntKind.u8.wrap num = (c.toNat : Int) := wrap_byte num
          obtain ⟨l, er, x1, l2, er2, y1, hpx, hpy, fx, fy, hsx, hsy, hor⟩ := until_both HS.out.xf HS.out.yf HS.out.left HS.out.taken c
          have HPX := Lib.hid hpx
          have HPY := Lib.hid hpy
          have HSX := Lib.hid hsx
          have HSY := Lib.hid hsy
          clear hkd hpx hpy hsx hsy
          go_wp2_with fail
          refine (bufUntil_any c HA.out.two.p).mono ?_
          rintro e w8 ⟨v, rfl, g8⟩
          rw [HPX.out] at g8
          obtain ⟨A8, c8, H8, rfl, ho8, ht8, hd8, hk8, hs8⟩ := HA.out.two.one g8
          have O8 := Lib.hid ho8
          have T8 := Lib.hid ht8
          have D8 := Lib.hid hd8
          have S8' := Lib.hid (show ∀ k, H8 k → H k ∨ wr.heap.size + 1 ≤ k from fun k h => (hs8 k h).imp id (fun h => by simpa using h))
          have S8 := Lib.hid (show ∀ k, H8 k → H k ∨ wr.heap.size ≤ k from fun k h => (S8'.out k h).imp id (fun h => by omega))
          have K8 := Lib.hid (KA.out.trans_ hk8 (fun i _ h => both_p h))
          have l8 : wr.heap.size + 1 ≤ w8.heap.size := by simpa using hk8.size
          have X8 := Lib.hid (XA.out.keep hk8 (fun h => Nat.lt_irrefl _ (HAL.out _ (both_p h))))
          have a0 : w8.cell? ⟨wr.heap.size, 0, none⟩ = some (.int .i64 2) := X8.out.cell 0
          have a1 : w8.cell? ⟨wr.heap.size, 1, none⟩ = some (.int .i64 num) := X8.out.cell 1
          clear ho8 ht8 hd8 hk8 hs8
          go_wp2_with fail
          refine (bufUntil_any c T8.out.r).mono ?_
          rintro e w9 ⟨v, rfl, g9⟩
          rw [HPY.out] at g9
          obtain ⟨A9, c9, H9, rfl, hr9, hr8, ht9, hk9, hs9⟩ := T8.out.two O8.out D8.out g9
          have R9 := Lib.hid hr9
          have R8 := Lib.hid hr8
          have T9 := Lib.hid ht9
          have S9 := Lib.hid (show ∀ k, H9 k → H2 k ∨ wr.heap.size ≤ k from fun k h => (hs9 k h).imp id (fun h => by omega))
          have K9 := Lib.hid (K8.out.trans_ hk9 (fun i _ h => two_r h))
          have l9 := hk9.size
          have X9 := Lib.hid (X8.out.keep hk9 (fun h => Nat.lt_irrefl _ (HAL.out _ (two_r h))))
          clear a0 a1
          have a0 : w9.cell? ⟨wr.heap.size, 0, none⟩ = some (.int .i64 2) := X9.out.cell 0
          have a1 : w9.cell? ⟨wr.heap.size, 1, none⟩ = some (.int .i64 num) := X9.out.cell 1
          clear hr9 hr8 ht9 hk9 hs9
          have ret : Below w.heap.size w w9 := below_trans_keep HS.out.below K9.out (fun k hb => by have := HS.out.frm k hb; omega)
          have RET := Lib.hid ret
          clear ret
          rcases hor with rfl | ⟨hne, rfl⟩ | ⟨hne, rfl, rfl, hl, htk⟩
          · go_wp2_with (first
              | (go_at_call 13; refine (num_any _ _).mono ?_; rintro e w ⟨rfl, rfl⟩)
              | (go_at_call 14; refine (awake_any _).mono ?_; rintro e wz ⟨rfl, hbz⟩))
            go_ret
            exact ⟨rfl, RET.out.trans (hbz.mono RET.out.size)⟩
          · have qe : (er == 23) = false := by simpa using hne
            go_wp2_with (first
              | (go_at_call 13; refine (num_any _ _).mono ?_; rintro e w ⟨rfl, rfl⟩)
              | (go_at_call 14; refine (awake_any _).mono ?_; rintro e wz ⟨rfl, hbz⟩))
            go_ret
            exact ⟨rfl, RET.out.trans (hbz.mono RET.out.size)⟩
          · have qe : (er2 == 23) = false := by simpa using hne
            have HL1 := Lib.hid hl
            have HT1 := Lib.hid htk
            clear hl htk hne
            have u1 := conv_row R8.out c8
            have u2 := conv_row R9.out c9
            go_wp2_with (go_at_call 13; refine (num_any _ _).mono ?_; rintro e w ⟨rfl, rfl⟩)
            refine (bufTaken_any T9.out.p).mono ?_
            rintro e w ⟨rfl, rfl⟩
            go_wp2_with fail
            have k9 := bufTaken_any T9.out.r
            rw [← HT1.out] at k9
            refine k9.mono ?_
            rintro e w ⟨rfl, rfl⟩
            clear k9 u1 u2
            go_wp2_with fail
            go_roundw
            case rel => exact ⟨q + 1, x1, y1, H8, H9, by omega, by go_num, by omega, HS.out.step (Nat.le_refl _) hlr K9.out T9.out S8.out S9.out fx fy HL1.out HT1.out HSX.out HSY.out⟩
            case measure => simp [intOf]; omega
        · by_cases hk3 : kd = 3
          · subst hk3
            obtain ⟨l, er, x1, y1, hpx, hpy, fx, fy, hl, htk, hsx, hsy⟩ := rest_both HS.out.xf HS.out.yf HS.out.left HS.out.taken
            have HPX := Lib.hid hpx
            have HPY := Lib.hid hpy
            have HL1 := Lib.hid hl
            have HT1 := Lib.hid htk
            have HSX := Lib.hid hsx
            have HSY := Lib.hid hsy
            clear hkd hk2 hpx hpy hl htk hsx hsy
            go_wp2_with fail
            refine (bufRest_any HA.out.two.p).mono ?_
            rintro e w8 ⟨v, rfl, g8⟩
            rw [HPX.out] at g8
            obtain ⟨A8, c8, H8, rfl, ho8, ht8, hd8, hk8, hs8⟩ := HA.out.two.one g8
            have O8 := Lib.hid ho8
            have T8 := Lib.hid ht8
            have D8 := Lib.hid hd8
            have S8' := Lib.hid (show ∀ k, H8 k → H k ∨ wr.heap.size + 1 ≤ k from fun k h => (hs8 k h).imp id (fun h => by simpa using h))
            have S8 := Lib.hid (show ∀ k, H8 k → H k ∨ wr.heap.size ≤ k from fun k h => (S8'.out k h).imp id (fun h => by omega))
            have K8 := Lib.hid (KA.out.trans_ hk8 (fun i _ h => both_p h))
            have l8 : wr.heap.size + 1 ≤ w8.heap.size := by simpa using hk8.size
            have X8 := Lib.hid (XA.out.keep hk8 (fun h => Nat.lt_irrefl _ (HAL.out _ (both_p h))))
            have a0 : w8.cell? ⟨wr.heap.size, 0, none⟩ = some (.int .i64 3) := X8.out.cell 0
            have a1 : w8.cell? ⟨wr.heap.size, 1, none⟩ = some (.int .i64 num) := X8.out.cell 1
            clear ho8 ht8 hd8 hk8 hs8
            go_wp2_with fail
            refine (bufRest_any T8.out.r).mono ?_
            rintro e w9 ⟨v, rfl, g9⟩
            rw [HPY.out] at g9
            obtain ⟨A9, c9, H9, rfl, hr9, hr8, ht9, hk9, hs9⟩ := T8.out.two O8.out D8.out g9
            have R9 := Lib.hid hr9
            have R8 := Lib.hid hr8
            have T9 := Lib.hid ht9
            have S9 := Lib.hid (show ∀ k, H9 k → H2 k ∨ wr.heap.size ≤ k from fun k h => (hs9 k h).imp id (fun h => by omega))
            have K9 := Lib.hid (K8.out.trans_ hk9 (fun i _ h => two_r h))
            have l9 := hk9.size
            have X9 := Lib.hid (X8.out.keep hk9 (fun h => Nat.lt_irrefl _ (HAL.out _ (two_r h))))
            clear a0 a1
            have a0 : w9.cell? ⟨wr.heap.size, 0, none⟩ = some (.int .i64 3) := X9.out.cell 0
            have a1 : w9.cell? ⟨wr.heap.size, 1, none⟩ = some (.int .i64 num) := X9.out.cell 1
            clear hr9 hr8 ht9 hk9 hs9
            have u1 := conv_row R8.out c8
            have u2 := conv_row R9.out c9
            go_wp2_with (go_at_call 13; refine (num_any _ _).mono ?_; rintro e w ⟨rfl, rfl⟩)
            refine (bufTaken_any T9.out.p).mono ?_
            rintro e w ⟨rfl, rfl⟩
            go_wp2_with fail
            have k9 := bufTaken_any T9.out.r
            rw [← HT1.out] at k9
            refine k9.mono ?_
            rintro e w ⟨rfl, rfl⟩
            clear k9 u1 u2
            go_wp2_with fail
            go_roundw
            case rel => exact ⟨q + 1, x1, y1, H8, H9, by omega, by go_num, by omega, HS.out.step (Nat.le_refl _) hlr K9.out T9.out S8.out S9.out fx fy HL1.out HT1.out HSX.out HSY.out⟩
            case measure => simp [intOf]; omega
          · have q0 : (kd == 0) = false := by rw [beq_eq_false_iff_ne]; omega
            have q1 : (kd == 1) = false := by rw [beq_eq_false_iff_ne]; omega
            have q2 : (kd == 2) = false := by rw [beq_eq_false_iff_ne]; omega
            have q3 : (kd == 3) = false := by rw [beq_eq_false_iff_ne]; omega
            have u1 := conv_row (A := none) (S := fun _ => True) (w := wr.alloc (.cells #[.int .i64 kd, .int .i64 num] 87)) (l := []) Row.none_ 0
            have HTK := Lib.hid HS.out.taken
            clear hkd hk2 hk3
            go_wp2_with fail
            refine (bufTaken_any HA.out.two.p).mono ?_
            rintro e w ⟨rfl, rfl⟩
            go_wp2_with fail
            have k9 := bufTaken_any HA.out.two.r
            rw [← HTK.out] at k9
            refine k9.mono ?_
            rintro e w ⟨rfl, rfl⟩
            clear k9 u1
            go_wp2_with fail
            go_roundw
            case rel => exact ⟨q + 1, x, y, H, H2, by omega, by go_num, by simp; omega, HA.out⟩
            case measure => simp [intOf]; omega
    · go_wp2_with (go_at_call 14; refine (awake_any _).mono ?_; rintro e wz ⟨rfl, hbz⟩)
      go_ret
      exact ⟨rfl, HS.out.below.trans (hbz.mono HS.out.below.size)⟩


set_option maxRecDepth 100000 in
theorem chunkSplits_walk (hd : Row (fun k => k < w.heap.size) w 1 A n (bv data)) (hc : Row (fun k => k < w.heap.size) w 1 B m (iv cs)) (hD : Row (fun k => k < w.heap.size) w 1 D k (iv ds)) (hE : Acts (fun k => k < w.heap.size) w E j acts)
    (hnc : n ≤ ca) (hn : n ≤ 1048576) (hm0 : m ≤ 1048576) (hk0 : k ≤ 1048576) (hj : j ≤ 1048576) :
    Calls Try.prog 12 #[.agg #[.slice A n ca, .slice B m cb, .bool fail], .slice D k cd, .agg #[.int .i64 z1, .int .i64 z2, .slice E j ce]] w fun e w' => e = .returned (.bool true) ∧ Below w.heap.size w w' := by
  by_cases g0 : 100 ≤ m + 1
  · exact chunkSplits_no0 A B D E n ca m cb k cd j ce fail z1 z2 w (by omega) (by omega)  g0
  · skip
    by_cases g1 : 100 ≤ k + 1
    · exact chunkSplits_no1 A B D E n ca m cb k cd j ce fail z1 z2 w (by omega) (by omega) g0 g1
    · skip
      by_cases g2 : z1 < 1
      · exact chunkSplits_no2 A B D E n ca m cb k cd j ce fail z1 z2 w (by omega) (by omega) g0 g1 g2
      · skip
        by_cases g3 : z2 < 1
        · exact chunkSplits_no3 A B D E n ca m cb k cd j ce fail z1 z2 w (by omega) (by omega) g0 g1 g2 g3
        · skip
          by_cases g4 : 1048576 < z1
          · exact chunkSplits_no4 A B D E n ca m cb k cd j ce fail z1 z2 w (by omega) (by omega) g0 g1 g2 g3 g4
          · skip
            by_cases g5 : 1048576 < z2
            · exact chunkSplits_no5 A B D E n ca m cb k cd j ce fail z1 z2 w (by omega) (by omega) g0 g1 g2 g3 g4 g5
            · skip
              obtain ⟨s1, rfl⟩ : ∃ y : Nat, z1 = y := ⟨z1.toNat, by omega⟩
              obtain ⟨s2, rfl⟩ : ∃ y : Nat, z2 = y := ⟨z2.toNat, by omega⟩
              exact chunkSplits_main A B D E n ca m cb k cd j ce fail data cs ds acts w s1 s2 hd hc hD hE hnc hn (by omega) (by omega) hj (by omega) (by omega) (by omega) (by omega)

end
end Go.Proofs.Ytadnceiohgjdhaa
