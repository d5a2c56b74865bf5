/-
  The contract of the reference's Summary of findings.
-/
import Derived.Test.YtgkiffodnofggaaGreatDoorAudSum
import Derived.Test.YtgkiffodnofggaaGreatDoorAudRNames
namespace Go.Proofs.YtgkiffodnofggaaGreatDoor
open Go.RowKit
set_option linter.unusedVariables false
set_option linter.unusedSimpArgs false

set_option maxHeartbeats 16000000 in
set_option maxRecDepth 100000 in
theorem rsummary_any (S : Nat → Prop) (A : Option Addr) (cp : Nat) (L : List Fd) (w : World) (hr : Row S w 5 A L.length (L.flatMap fdCells)) (hS : ∀ k, S k → k < w.heap.size) (hok : ∀ f ∈ L, f.ok) (hw : fwt L ≤ 1048576) :
    Calls Tryz.prog 11 #[.slice A L.length cp] w fun e w' => e = .returned (.string (str (summaryB L))) ∧ Below w.heap.size w w' := by
  obtain ⟨ti, hi, hz0, hz1, hz2⟩ := info_parts why_info
  obtain ⟨ii, ji, jz0, jz1, jz2⟩ := info_parts int_info
  have HR := Lib.hid hr
  have HS := Lib.hid hS
  have HOK := Lib.hid hok
  have hfl := fwt_length L
  clear hr hS hok
  go_enter Tryz.func11, Tryz.ntmps11
  go_wp2_with fail
  go_loopw [3, 4, 16] (fun ov nv iv wr => ∃ (k no : Nat), k ≤ L.length ∧ iv = .int .i64 (k : Int) ∧ Hid (wr.ownsRow w.heap.size 36 1 ov no (Go.Proofs.YtgkiffodnofggaaGreatDoor.iv (firsts (whysOf (L.take k))))) ∧ Hid (wr.ownsRow w.heap.size 3 1 nv no (Go.Proofs.YtgkiffodnofggaaGreatDoor.iv (cnts (whysOf (L.take k))))) ∧ Hid (Below w.heap.size w wr)) (fun _ _ iv _ => L.length - (intOf iv).toNat)
  case atStart => exact ⟨0, 0, Nat.zero_le _, rfl, World.ownsRow_nil _ _ _ _, World.ownsRow_nil _ _ _ _, Below.refl _ _⟩
  case round =>
    obtain ⟨k, no, hk, rfl, HO, HN, HB⟩ := hrel
    obtain ⟨Av, cv, rfl, hv1, hv2⟩ := own_slice HO.out
    obtain ⟨An, cn, rfl, hn1, hn2⟩ := own_slice HN.out
    by_cases hlt : k < L.length
    · obtain ⟨f, hf⟩ : ∃ f, L[k]? = some f := ⟨_, List.getElem?_eq_getElem hlt⟩
      obtain ⟨ad, rfl, hsa, hsa2, c0, cj⟩ := (HR.out.below HB.out HS.out).walk fdCells_length (by decide) rfl hf
      have x0 := c0 _ rfl
      have x1 := cj 0 _ rfl
      have x2 := cj 1 _ rfl
      have x3 := cj 2 _ rfl
      have x4 := cj 3 _ rfl
      have hmem := List.mem_of_getElem? hf
      have hfo := HOK.out f hmem
      have htk : whysOf (L.take (k + 1)) = whysOf (L.take k) ++ [f.why] := by rw [List.take_add_one, hf]; exact whysOf_snoc _ _
      have hkl : (whysOf (L.take k)).length ≤ k := by have := whysOf_length (L.take k); rw [List.length_take] at this; omega
      have hfl2 := (firsts_facts (whysOf (L.take k))).2.2
      obtain ⟨ks, hks⟩ : ∃ ks, whysOf (L.take k) = ks := ⟨_, rfl⟩
      rw [hks] at HO HN htk hkl hfl2
      have hno : no = (firsts ks).length := by have := HO.out.1; rw [iv_length] at this; omega
      have HNO := Lib.hid hno
      have hno2 : no ≤ k := by omega
      have HT := Lib.hid htk
      have i0 : (0 : Int) ≤ (k : Int) := by omega
      have i1 : (k : Int) < (L.length : Int) := by omega
      have hsz := HB.out.size
      clear hno c0 cj hf hmem htk hks
      have HX := HT
      clear hfo
      · go_wp2_with fail
        obtain ⟨wo, rfl⟩ : ∃ wo : World, wo = wr := ⟨_, rfl⟩
        obtain ⟨W4, hW4⟩ : ∃ W4, wo.alloc (.cells #[.int .i64 f.byte, .int .i64 f.line, .int .i64 f.col, .int .i64 f.why, .string (str f.name)] 38) = W4 := ⟨_, rfl⟩
        rw [hW4]
        have b4 : Blk W4 wo.heap.size 38 #[.int .i64 f.byte, .int .i64 f.line, .int .i64 f.col, .int .i64 f.why, .string (str f.name)] := by rw [← hW4]; exact Blk.new _ _ _
        have hB4 : Below wo.heap.size wo W4 := by rw [← hW4]; exact (Below.refl _ wo).alloc (Nat.le_refl _) _
        have b4l := b4.lt
        have O4 := Lib.hid (own_behind HO.out hB4)
        have N4 := Lib.hid (own_behind HN.out hB4)
        have D4 := Lib.hid b4
        have B4 := Lib.hid (HB.out.trans (hB4.mono hsz))
        clear hW4 b4 hB4 x0 x1 x2 x3 x4 HO HN HB
        go_loopw [7, 22] (fun av jv wr => ∃ (j m : Nat), j ≤ no ∧ jv = .int .i64 (j : Int) ∧ av = .int .i64 (atI (firsts ks) f.why j) ∧ Hid (wr = W4.drewN m)) (fun _ jv _ => no - (intOf jv).toNat)
        case atStart => exact ⟨0, 0, Nat.zero_le _, rfl, rfl, rfl⟩
        case round =>
          obtain ⟨j, m, hj, rfl, rfl, HWQ⟩ := hrel
          have oq : wr.ownsRow w.heap.size 36 1 (.slice Av no cv) no (Go.Proofs.YtgkiffodnofggaaGreatDoor.iv (firsts ks)) := by rw [HWQ.out]; exact own_drewN O4.out m
          have nq : wr.ownsRow w.heap.size 3 1 (.slice An no cn) no (iv (cnts ks)) := by rw [HWQ.out]; exact own_drewN N4.out m
          have dq : Blk wr wo.heap.size 38 #[.int .i64 f.byte, .int .i64 f.line, .int .i64 f.col, .int .i64 f.why, .string (str f.name)] := by rw [HWQ.out]; exact D4.out
          have bq : Below w.heap.size w wr := by rw [HWQ.out]; exact below_drewN B4.out m
          have y4 := dq.cell 3
          simp only [List.getElem?_toArray, List.getElem?_cons_succ, List.getElem?_cons_zero] at y4
          have OQ := Lib.hid oq
          have NQ := Lib.hid nq
          have DQ := Lib.hid dq
          have BQ := Lib.hid bq
          have hsq := bq.size
          have hdl := dq.lt
          clear oq nq dq bq
          by_cases hjl : j < no
          · have hjf : j < (firsts ks).length := by rw [← HNO.out]; exact hjl
            obtain ⟨x, hx⟩ : ∃ x, (firsts ks)[j]? = some x := ⟨_, List.getElem?_eq_getElem hjf⟩
            obtain ⟨a2, u, rfl, _, hu, e0⟩ := (Row.of_own OQ.out).at_ hjl
            have hxu : (Go.Proofs.YtgkiffodnofggaaGreatDoor.iv (firsts ks))[j]? = some (.int .i64 x) := by rw [iv, List.getElem?_map, hx]; rfl
            rw [hxu] at hu
            obtain rfl := Option.some.inj hu
            have hat : atI (firsts ks) f.why (j + 1) = if x = f.why then (j : Int) else atI (firsts ks) f.why j := by rw [atI, hx]; simp
            have HAT := Lib.hid hat
            have j0 : (0 : Int) ≤ (j : Int) := by omega
            have j1 : (j : Int) < (no : Int) := by omega
            obtain ⟨av, hav⟩ : ∃ av, atI (firsts ks) f.why j = av := ⟨_, rfl⟩
            rw [hav] at HAT ⊢
            clear hjf hx hxu hat hav
            by_cases hxn : x = f.why
            · have ha := HAT.out
              rw [if_pos hxn] at ha
              have HA := Lib.hid ha
              have q1 : (x == f.why) = true := by rw [hxn]; exact beq_self_eq_true _
              clear ha hxn
              go_wp2_with fail
              go_quiet (fail)
              go_wp2
              go_roundw
              case rel => exact ⟨j + 1, m + nq, by omega, by go_num, by rw [HA.out], by rw [HWQ.out, World.drewN_drewN]; rfl⟩
              case measure => simp [intOf]; omega
            · have ha := HAT.out
              rw [if_neg hxn] at ha
              have HA := Lib.hid ha
              have q1 : (x == f.why) = false := by rw [beq_eq_false_iff_ne]; exact hxn
              clear ha hxn
              go_wp2_with fail
              go_quiet (fail)
              go_wp2
              go_roundw
              case rel => exact ⟨j + 1, m + nq, by omega, by go_num, by rw [HA.out], by rw [HWQ.out, World.drewN_drewN]; rfl⟩
              case measure => simp [intOf]; omega
          · have hjn : j = no := by omega
            subst hjn
            have hend := atI_end (firsts ks) f.why
            rw [← HNO.out] at hend
            have hcx := cnt_le ks f.why
            obtain ⟨av, hav⟩ : ∃ av, atI (firsts ks) f.why j = av := ⟨_, rfl⟩
            rw [hav] at hend ⊢
            clear hav
            rcases hend with ⟨ha, hni⟩ | ⟨i, hil, ha, hxi⟩
            · have hni2 : f.why ∉ ks := fun h => hni ((firsts_facts ks).2.1 _ |>.2 h)
              obtain ⟨hf1, hc1⟩ := cnts_new ks f.why hni2
              have HF1 := Lib.hid hf1
              have HC1 := Lib.hid hc1
              subst ha
              clear hni hni2 hf1 hc1
              have hvb : ∀ i, (Value.slice Av j cv).ownBlock = some i → w.heap.size ≤ i := fun i e => (OQ.out.lt i e).1
              have hnb : ∀ i, (Value.slice An j cn).ownBlock = some i → w.heap.size ≤ i := fun i e => (NQ.out.lt i e).1
              have hap : (Value.slice An j cn).ownBlock = none ∨ (Value.slice An j cn).ownBlock ≠ (Value.slice Av j cv).ownBlock := own_apart NQ.out OQ.out (by decide)
              have HVB := Lib.hid hvb
              have HNB := Lib.hid hnb
              have HAP := Lib.hid hap
              clear hvb hnb hap
              go_wp2_with (first
                | (at_builtin; refine wpList_append_out _ rfl _ _ 56 rfl w.heap.size 36 ti _ 1 8 Tryz.underlying56 hi hz0 hz1 hz2 rfl (by decide) (.slice Av j cv) j (Go.Proofs.YtgkiffodnofggaaGreatDoor.iv (firsts ks)) rfl (OQ.out.alloc _) (fun i => i = wr.heap.size) (some ⟨wr.heap.size, 0, none⟩) 1 1 (iv [f.why]) rfl (Row.new wr 36 #[.int .i64 f.why] 1 1 rfl) (iv_one _) (by simp only [maxLen]; omega) (by omega) (by simp only [World.size_alloc]; omega) ?_; intro A6 c6 w6 ho6 hg6 hn6 hm6; have HO6 := Lib.hid ho6; have N6 := Lib.hid ((NQ.out.alloc (.cells #[.int .i64 f.why] 36)).kept hg6 HAP.out); have Q6 := Lib.hid ((BQ.out.alloc hsq (.cells #[.int .i64 f.why] 36)).grown hg6 (by simp only [World.size_alloc]; omega) HVB.out); have hs6 : w.heap.size ≤ w6.heap.size := Q6.out.size; clear ho6 hg6 hn6 hm6)
                | (at_builtin; refine wpList_append_out _ rfl _ _ 41 rfl w.heap.size 3 ii _ 1 8 Tryz.underlying41 ji jz0 jz1 jz2 rfl (by decide) (.slice An j cn) j (iv (cnts ks)) rfl (N6.out.alloc _) (fun i => i = w6.heap.size) (some ⟨w6.heap.size, 0, none⟩) 1 1 (iv [1]) rfl (Row.new w6 3 #[.int .i64 1] 1 1 rfl) (iv_one _) (by simp only [maxLen]; omega) (by omega) (by simp only [World.size_alloc]; omega) ?_; intro A7 c7 w7 ho7 hg7 hn7 hm7; have HN7 := Lib.hid ho7; have HO7 := Lib.hid ((HO6.out.alloc (.cells #[.int .i64 1] 3)).kept hg7 (own_apart HO6.out N6.out (by decide))); have HB7 := Lib.hid ((Q6.out.alloc hs6 (.cells #[.int .i64 1] 3)).grown hg7 (by simp only [World.size_alloc]; omega) HNB.out); clear ho7 hg7 hn7 hm7))
              go_roundw
              case rel =>
                refine ⟨k + 1, j + 1, by omega, by go_num, ?_, ?_, HB7⟩
                · rw [HX.out, HF1.out, show iv (firsts ks ++ [f.why]) = iv (firsts ks) ++ iv [f.why] by simp [iv]]
                  exact HO7
                · rw [HX.out, HC1.out, show iv (cnts ks ++ [1]) = iv (cnts ks) ++ iv [1] by simp [iv]]
                  exact HN7
              case measure => simp [intOf]; omega
            · obtain ⟨hf1, hc1, hc2⟩ := cnts_old ks f.why i hxi
              have HF1 := Lib.hid hf1
              have HC1 := Lib.hid hc1
              have HC2 := Lib.hid hc2
              subst ha
              rcases own_form NQ.out with ⟨hv, _, _⟩ | ⟨h, cap, cur, hv, hbase, hgl, _⟩
              · injection hv with _ hv _
                omega
              · injection hv with hA _ _
                subst hA
                have hcl2 : i < (cnts ks).length := by rw [cnts_length]; have := HNO.out; omega
                have g1 := NQ.out.cellAt i (by omega)
                rw [iv_get _ _ hcl2] at g1
                have g2 := NQ.out.frozenAt i
                have hce : (cnts ks)[i] = ((cnt ks f.why : Nat) : Int) := by
                  have := hc2
                  rw [List.getElem?_eq_getElem hcl2] at this
                  exact Option.some.inj this
                rw [hce] at g1
                have NS := Lib.hid ((NQ.out.stored i (.int .i64 (((cnt ks f.why : Nat) : Int) + 1))).1)
                have OS := Lib.hid (own_setCell OQ.out (p := ⟨h, i, none⟩) (fun e => by
                  rcases own_apart NQ.out OQ.out (by decide) with h1 | h1
                  · cases h1
                  · exact h1 e.symm) (.int .i64 (((cnt ks f.why : Nat) : Int) + 1)))
                have BS := Lib.hid (BQ.out.setCell (p := ⟨h, i, none⟩) hbase (.int .i64 (((cnt ks f.why : Nat) : Int) + 1)))
                have e1 : cnts (ks ++ [f.why]) = (cnts ks).set i (((cnt ks f.why : Nat) : Int) + 1) := hc1
                have e2 : iv ((cnts ks).set i (((cnt ks f.why : Nat) : Int) + 1)) = (iv (cnts ks)).set i (.int .i64 (((cnt ks f.why : Nat) : Int) + 1)) := by simp [iv]
                have HE := Lib.hid e1
                have HE2 := Lib.hid e2
                have hi0 : (0 : Int) ≤ (i : Int) := by omega
                have hi1 : (i : Int) < (j : Int) := by omega
                have c0 : (0 : Int) ≤ ((cnt ks f.why : Nat) : Int) := by omega
                have c1 : ((cnt ks f.why : Nat) : Int) ≤ 1048576 := by omega
                generalize ((cnt ks f.why : Nat) : Int) = c at g1 NS OS BS HE HE2 c0 c1
                clear hxi hf1 hc1 hc2 hce hcl2 e1 e2 hgl HC1 HC2 hcx
                go_wp2
                go_roundw
                case rel => exact ⟨k + 1, j, by omega, by go_num, by rw [HX.out, HF1.out]; exact OS, by rw [HX.out, HE.out, HE2.out]; exact NS, BS⟩
                case measure => simp [intOf]; omega
    · have hkl : k = L.length := by omega
      subst hkl
      rw [List.take_length] at HO HN
      have hkl := whysOf_length L
      have hnb : whysB L = srt ltW (firsts (whysOf L)) := rfl
      have hsb : summaryB L = sumB (whysOf L) (whysB L) := rfl
      have hfl2 := (firsts_facts (whysOf L)).2.2
      obtain ⟨ks, hks⟩ : ∃ ks, whysOf L = ks := ⟨_, rfl⟩
      have hcn : cnts (whysOf L) = cntI (whysOf L) (firsts (whysOf L)) := rfl
      rw [hcn] at HN
      rw [hks] at HO HN hkl hnb hfl2 hsb
      obtain ⟨X0, hX0⟩ : ∃ X0, firsts ks = X0 := ⟨_, rfl⟩
      rw [hX0] at HO HN hnb hfl2
      rw [hnb] at hsb
      have HSB := Lib.hid hsb
      have hno : no = X0.length := by have := HO.out.1; rw [iv_length] at this; omega
      have HNO := Lib.hid hno
      have hno2 : no ≤ L.length := by omega
      have hs0 := srt_none (ltW) X0
      have HO1 : Hid (wr.ownsRow w.heap.size 36 1 (.slice Av no cv) no (Go.Proofs.YtgkiffodnofggaaGreatDoor.iv (srt (ltW) (X0.take 0) ++ X0.drop 0))) := by rw [← hs0]; exact HO
      have HN1 : Hid (wr.ownsRow w.heap.size 3 1 (.slice An no cn) no (iv (cntI ks (srt (ltW) (X0.take 0) ++ X0.drop 0)))) := by rw [← hs0]; exact HN
      clear hks hcn hX0 hno hnb hsb hs0 HO HN
      go_wp2_with fail
      obtain ⟨wo, rfl⟩ : ∃ wo : World, wo = wr := ⟨_, rfl⟩
      go_loopw [53] (fun jv wr => ∃ (i : Nat), i ≤ no ∧ jv = .int .i64 (i : Int) ∧ Hid (wr.ownsRow w.heap.size 36 1 (.slice Av no cv) no (Go.Proofs.YtgkiffodnofggaaGreatDoor.iv (srt (ltW) (X0.take i) ++ X0.drop i))) ∧ Hid (wr.ownsRow w.heap.size 3 1 (.slice An no cn) no (Go.Proofs.YtgkiffodnofggaaGreatDoor.iv (cntI ks (srt (ltW) (X0.take i) ++ X0.drop i)))) ∧ Hid (Below w.heap.size w wr)) (fun jv _ => no - (intOf jv).toNat)
      case atStart => exact ⟨0, Nat.zero_le _, rfl, HO1, HN1, HB⟩
      case round =>
        obtain ⟨i, hi, rfl, HO, HN, HB⟩ := hrel
        by_cases hil : i < no
        · rcases own_form HO.out with ⟨hv, h0, _⟩ | ⟨g, cap, cur, hv, hbg, _⟩
          · omega
          · rcases own_form HN.out with ⟨hvn, h0, _⟩ | ⟨h, capn, curn, hvn, hbh, _⟩
            · omega
            · injection hv with hA _ hC
              subst hA hC
              injection hvn with hA _ hC
              subst hA hC
              have i0 : (0 : Int) ≤ (i : Int) := by omega
              have i1 : (i : Int) < (no : Int) := by omega
              have hgh : g ≠ h := by
                rcases own_apart HN.out HO.out (by decide) with e | e
                · cases e
                · exact fun e1 => e (by rw [e1]; rfl)
              have HBS := Lib.hid (bub_start (lt := ltW) (show i < X0.length by rw [← HNO.out]; exact hil))
              have hilX : i < X0.length := by rw [← HNO.out]; exact hil
              go_wp2_with fail
              obtain ⟨wi, rfl⟩ : ∃ wi : World, wi = wr := ⟨_, rfl⟩
              go_loopw [10] (fun kv wr => ∃ (q : Nat) (X : List Int), q ≤ i ∧ kv = .int .i64 (q : Int) ∧ Hid (BubSt (ltW) X0 i q X) ∧ Hid (wr.ownsRow w.heap.size 36 1 (.slice (some ⟨g, 0, none⟩) no cv) no (iv X)) ∧ Hid (wr.ownsRow w.heap.size 3 1 (.slice (some ⟨h, 0, none⟩) no cn) no (Go.Proofs.YtgkiffodnofggaaGreatDoor.iv (cntI ks X))) ∧ Hid (Below w.heap.size w wr)) (fun kv _ => (intOf kv).toNat)
              case atStart => exact ⟨i, _, Nat.le_refl _, rfl, HBS, HO, HN, HB⟩
              case round =>
                clear HO HN HB HBS
                obtain ⟨q, X, hqi, rfl, HBS, HO, HN, HB⟩ := hrel
                have hsz := HB.out.size
                cases q with
                | zero =>
                  have hX := HBS.out.zero
                  have HX := Lib.hid hX
                  have d0 : decide ((0 : Int) < 0) = false := rfl
                  clear hX
                  go_wp2_with fail
                  go_quiet (fail)
                  go_wp2
                  go_roundw
                  case rel => exact ⟨i + 1, by omega, by go_num, by rw [← HX.out]; exact own_drewN HO.out _, by rw [← HX.out]; exact own_drewN HN.out _, below_drewN HB.out _⟩
                  case measure => simp [intOf]; omega
                | succ q =>
                  obtain ⟨x, y, hx, hy, hst, hex⟩ := HBS.out.step
                  have hXl := HBS.out.len hilX
                  have hqn : q + 1 < no := by omega
                  have ox := HO.out.cellAt (q + 1) (by omega)
                  have oy := HO.out.cellAt q (by omega)
                  have fx := HO.out.frozenAt (q + 1)
                  have fy := HO.out.frozenAt q
                  have nx := HN.out.cellAt (q + 1) (by omega)
                  have ny := HN.out.cellAt q (by omega)
                  have gx := HN.out.frozenAt (q + 1)
                  have gy := HN.out.frozenAt q
                  have vx : (iv X)[q + 1]? = some (.int .i64 x) := by rw [iv, List.getElem?_map, hx]; rfl
                  have vy : (iv X)[q]? = some (.int .i64 y) := by rw [iv, List.getElem?_map, hy]; rfl
                  have wx : (iv (cntI ks X))[q + 1]? = some (.int .i64 ((cnt ks x : Nat) : Int)) := by rw [iv, cntI, List.getElem?_map, List.getElem?_map, hx]; rfl
                  have wy : (iv (cntI ks X))[q]? = some (.int .i64 ((cnt ks y : Nat) : Int)) := by rw [iv, cntI, List.getElem?_map, List.getElem?_map, hy]; rfl
                  have wx0 := Lib.hid wx
                  have wy0 := Lib.hid wy
                  rw [vx] at ox
                  rw [vy] at oy
                  rw [wx] at nx
                  rw [wy] at ny
                  have HST := Lib.hid hst
                  have HEX := Lib.hid hex
                  rw [show ((q + 1 : Nat) : Int) = (q : Int) + 1 from rfl]
                  obtain ⟨j1, hj1⟩ : ∃ j1, j1 = q + 1 := ⟨_, rfl⟩
                  have e0 : ((q : Int) + 1).toNat = j1 := by omega
                  have e1 : (0 : Int) ≤ (q : Int) + 1 := by omega
                  have e2 : (0 : Int) < (q : Int) + 1 := by omega
                  have e3 : (q : Int) + 1 < (no : Int) := by omega
                  have e4 : (q : Int) < (no : Int) := by omega
                  have e5 : (0 : Int) ≤ (q : Int) := by omega
                  have e6 : IntKind.i64.wrap (q : Int) = (q : Int) := by rw [IntKind.wrap_i64]; omega
                  rw [← hj1] at ox fx nx gx
                  have J1 := Lib.hid hj1
                  clear hx hy hst hex vx vy wx wy hj1
                  obtain ⟨a, ha⟩ : ∃ a : Int, ((cnt ks x : Nat) : Int) = a := ⟨_, rfl⟩
                  obtain ⟨b, hb⟩ : ∃ b : Int, ((cnt ks y : Nat) : Int) = b := ⟨_, rfl⟩
                  rw [ha] at nx
                  rw [hb] at ny
                  by_cases hl : ltW x y = true
                  · have HS2 := Lib.hid (HST.out hl)
                    have SVX := Lib.hid (show iv ((X.set (q + 1) y).set q x) = ((iv X).set j1 (.int .i64 y)).set q (.int .i64 x) by rw [J1.out]; simp [iv])
                    have IVX := Lib.hid (show iv (cntI ks ((X.set (q + 1) y).set q x)) = ((iv (cntI ks X)).set j1 (.int .i64 b)).set q (.int .i64 a) by rw [J1.out, ← ha, ← hb]; simp [iv, cntI])
                    have WX := Lib.hid (show (iv (cntI ks X))[j1]? = some (.int .i64 a) by rw [J1.out, wx0.out, ha])
                    have WY := Lib.hid (show (iv (cntI ks X))[q]? = some (.int .i64 b) by rw [wy0.out, hb])
                    have d1 : decide (x < y) = true := hl
                    clear hl HST HEX ha hb
                    all_goals
                      go_wp2_with fail
                      go_quiet (fail)
                      go_wp2_with fail
                      obtain ⟨wa, hwa⟩ : ∃ wa, wr.drewN nq = wa := ⟨_, rfl⟩
                      have ox2 : wa.cell? ⟨g, j1, none⟩ = some (.int .i64 x) := by rw [← hwa]; exact ox
                      have oy2 : wa.cell? ⟨g, q, none⟩ = some (.int .i64 y) := by rw [← hwa]; exact oy
                      have fx2 : wa.frozen? ⟨g, j1, none⟩ = false := by rw [← hwa]; exact fx
                      have fy2 : wa.frozen? ⟨g, q, none⟩ = false := by rw [← hwa]; exact fy
                      have OA := Lib.hid (show wa.ownsRow w.heap.size 36 1 (.slice (some ⟨g, 0, none⟩) no cv) no (iv X) by rw [← hwa]; exact HO.out)
                      have NA := Lib.hid (show wa.ownsRow w.heap.size 3 1 (.slice (some ⟨h, 0, none⟩) no cn) no (iv (cntI ks X)) by rw [← hwa]; exact HN.out)
                      have BA := Lib.hid (show Below w.heap.size w wa by rw [← hwa]; exact below_drewN HB.out nq)
                      rw [hwa]
                      clear hwa ox oy fx fy nx ny gx gy HO HN HB
                      go_region
                      obtain ⟨wb, hwb⟩ : ∃ wb, ((wa.setCell ⟨g, j1, none⟩ (.int .i64 y)).setCell ⟨g, q, none⟩ (.int .i64 x)).drew = wb := ⟨_, rfl⟩
                      have ob : wb.ownsRow w.heap.size 36 1 (.slice (some ⟨g, 0, none⟩) no cv) no (((iv X).set j1 (.int .i64 y)).set q (.int .i64 x)) := by
                        rw [← hwb]
                        exact (((OA.out.stored j1 (.int .i64 y)).1).stored q (.int .i64 x)).1
                      have kb : Keep (fun k => k = g) wa wb := by
                        rw [← hwb]
                        exact (((Keep.refl (fun k => k = g) wa).setCell (p := ⟨g, j1, none⟩) (.inl rfl) _).setCell (p := ⟨g, q, none⟩) (.inl rfl) _).drew
                      have nb := own_keep NA.out kb (fun k e1 e2 => hgh (by have h5 : h = k := (by simpa [Value.ownBlock] using e1); omega))
                      have bb := BA.out.trans (kb.below (B := w.heap.size) BA.out.size (fun i hi e => by omega))
                      have nx := nb.cellAt j1 (by omega)
                      have ny := nb.cellAt q (by omega)
                      have gx := nb.frozenAt j1
                      have gy := nb.frozenAt q
                      rw [WX.out] at nx
                      rw [WY.out] at ny
                      have OB := Lib.hid ob
                      have NB := Lib.hid nb
                      have BB := Lib.hid bb
                      rw [hwb]
                      clear hwb ox2 oy2 fx2 fy2 OA NA BA ob kb nb bb
                      go_wp2_with fail
                      go_region
                      obtain ⟨wc, hwc⟩ : ∃ wc, ((wb.setCell ⟨h, j1, none⟩ (.int .i64 b)).setCell ⟨h, q, none⟩ (.int .i64 a)).drew = wc := ⟨_, rfl⟩
                      have nc : wc.ownsRow w.heap.size 3 1 (.slice (some ⟨h, 0, none⟩) no cn) no (((iv (cntI ks X)).set j1 (.int .i64 b)).set q (.int .i64 a)) := by
                        rw [← hwc]
                        exact (((NB.out.stored j1 (.int .i64 b)).1).stored q (.int .i64 a)).1
                      have kc : Keep (fun k => k = h) wb wc := by
                        rw [← hwc]
                        exact (((Keep.refl (fun k => k = h) wb).setCell (p := ⟨h, j1, none⟩) (.inl rfl) _).setCell (p := ⟨h, q, none⟩) (.inl rfl) _).drew
                      have oc := own_keep OB.out kc (fun k e1 e2 => hgh (by have h5 : g = k := (by simpa [Value.ownBlock] using e1); omega))
                      have bc := BB.out.trans (kc.below (B := w.heap.size) BB.out.size (fun i hi e => by omega))
                      have OC := Lib.hid oc
                      have NC := Lib.hid nc
                      have BC := Lib.hid bc
                      rw [hwc]
                      clear hwc nx ny gx gy OB NB BB oc kc nc bc
                      go_wp2
                      go_roundw
                      case rel => exact ⟨q, _, by omega, by go_num, HS2, by rw [SVX.out]; exact OC, by rw [IVX.out]; exact NC, BC⟩
                      case measure => simp [intOf]
                  · have hl3 : ltW x y = false := by simpa using hl
                    have HX := Lib.hid (HEX.out hl3)
                    have d1 : decide (x < y) = false := hl3
                    clear hl hl3 HST HEX ha hb
                    all_goals
                      go_wp2_with fail
                      go_quiet (fail)
                      clear ox oy fx fy nx ny gx gy
                      go_wp2
                      go_roundw
                      case rel => exact ⟨i + 1, by omega, by go_num, by rw [← HX.out]; exact own_drewN HO.out _, by rw [← HX.out]; exact own_drewN HN.out _, below_drewN HB.out _⟩
                      case measure => simp [intOf]; omega
        · have hin : i = no := by omega
          subst hin
          have ho := HO.out
          have hn := HN.out
          have hf := srt_full ltW X0
          rw [← HNO.out] at hf
          rw [hf] at ho hn
          have hxl : (srt ltW X0).length = i := by rw [srt_length, HNO.out]
          obtain ⟨X, hX⟩ : ∃ X, srt ltW X0 = X := ⟨_, rfl⟩
          rw [hX] at ho hn hxl HSB
          have HO2 := Lib.hid ho
          have HN2 := Lib.hid hn
          have HB2 := Lib.hid HB.out
          have hs2 := HB.out.size
          have hks2 : ks.length ≤ 1048576 := by omega
          have hi2 : i ≤ 1048576 := by omega
          clear ho hn hf hX HO HN HB
          go_wp2_with fail
          obtain ⟨w2, rfl⟩ : ∃ w2 : World, w2 = wr := ⟨_, rfl⟩
          go_loopw [11, 108] (fun tv jv wr => ∃ (k : Nat) (t0 : List UInt8), k ≤ i ∧ jv = .int .i64 (k : Int) ∧ tv = .string (str t0) ∧ Hid (sumB ks (X.take k) = t0) ∧ Hid (Below w2.heap.size w2 wr)) (fun _ jv _ => i - (intOf jv).toNat)
          case atStart => exact ⟨0, [], Nat.zero_le _, rfl, rfl, rfl, Below.refl _ _⟩
          case round =>
            obtain ⟨k, t0, hk, rfl, rfl, HT0, HB⟩ := hrel
            by_cases hlk : k < i
            · obtain ⟨x, hx⟩ : ∃ x, X[k]? = some x := ⟨_, List.getElem?_eq_getElem (by omega)⟩
              obtain ⟨g, capg, curg, hv, _⟩ : ∃ g c cur, Value.slice Av i cv = .slice (some ⟨g, 0, none⟩) i c ∧ Blk w2 g 36 cur := by
                rcases own_form HO2.out with ⟨_, h0, _⟩ | ⟨g, cap, cur, hv, _, _, hb, _⟩
                · omega
                · exact ⟨g, cap, cur, hv, hb⟩
              injection hv with hA _ hC
              subst hA hC
              obtain ⟨h, caph, curh, hv, _⟩ : ∃ g c cur, Value.slice An i cn = .slice (some ⟨g, 0, none⟩) i c ∧ Blk w2 g 3 cur := by
                rcases own_form HN2.out with ⟨_, h0, _⟩ | ⟨g, cap, cur, hv, _, _, hb, _⟩
                · omega
                · exact ⟨g, cap, cur, hv, hb⟩
              injection hv with hA _ hC
              subst hA hC
              have ox := (own_behind HO2.out HB.out).cellAt k (by omega)
              have hxu : (iv X)[k]? = some (.int .i64 x) := by rw [iv, List.getElem?_map, hx]; rfl
              rw [hxu] at ox
              have nxw : ∀ W, Below w2.heap.size w2 W → W.cell? ⟨h, k, none⟩ = some (.int .i64 ((cnt ks x : Nat) : Int)) := fun W hb => by
                have := (own_behind HN2.out hb).cellAt k (by omega)
                rw [this, iv, cntI, List.getElem?_map, List.getElem?_map, hx]
                rfl
              have htk : sumB ks (X.take (k + 1)) = t0 ++ (wordB x ++ [32] ++ Lib.itoa ((cnt ks x : Nat) : Int) ++ [10]) := by rw [List.take_add_one, hx, ← HT0.out]; exact sumB_snoc _ _ _
              have hcl := cnt_le ks x
              have hpl := sumB_le ks (X.take k) hks2
              rw [List.length_take, HT0.out] at hpl
              have hll := sumLine_le ks x hks2
              unfold sumLine at hll
              have hsz := HB.out.size
              have KW := Lib.hid (fun W => rword_any x W)
              have KI := Lib.hid (fun W => digits_any ((cnt ks x : Nat) : Int) (by omega) (by omega) W)
              obtain ⟨u1, hu1⟩ : ∃ u1, wordB x ++ [32] = u1 := ⟨_, rfl⟩
              rw [hu1] at hll htk
              obtain ⟨u2, hu2⟩ : ∃ u2, u1 ++ Lib.itoa ((cnt ks x : Nat) : Int) = u2 := ⟨_, rfl⟩
              rw [hu2] at hll htk
              have a1 : str (wordB x) ++ (⟨#[32]⟩ : ByteArray) = str u1 := by rw [← hu1]; exact str_append _ _
              have a2 : str u1 ++ str (Lib.itoa ((cnt ks x : Nat) : Int)) = str u2 := by rw [← hu2]; exact str_append _ _
              have a3 : str u2 ++ (⟨#[10]⟩ : ByteArray) = str (u2 ++ [10]) := str_append _ _
              have a4 : str t0 ++ str (u2 ++ [10]) = str (t0 ++ (u2 ++ [10])) := str_append _ _
              have HT2 := Lib.hid htk
              have z0 := str_size (wordB x)
              have z1 := str_size u1
              have z2 := str_size (Lib.itoa ((cnt ks x : Nat) : Int))
              have z3 := str_size u2
              have z5 := str_size t0
              have y0 := wordB_le x
              have y1 : u1.length ≤ 10 := by rw [← hu1, List.length_append, List.length_singleton]; omega
              have y2 := itoa_le ((cnt ks x : Nat) : Int) (by omega) (by omega)
              have y3 : u2.length ≤ 30 := by rw [← hu2, List.length_append]; omega
              have z4 := str_size (u2 ++ [10])
              rw [List.length_append, List.length_singleton] at z4
              have j0 : (0 : Int) ≤ (k : Int) := by omega
              have j1 : (k : Int) < (i : Int) := by omega
              clear hx hxu htk hu1 hu2 hcl
              generalize wordB x = t1 at a1 z0 y0 KW
              generalize Lib.itoa ((cnt ks x : Nat) : Int) = t2 at a2 z2 y2 KI
              generalize ((cnt ks x : Nat) : Int) = c at nxw KI
              have NXW := Lib.hid nxw
              clear nxw
              go_wp2_with fail
              refine wp_region_plan (S := fun w' => w'.cell? ⟨h, k, none⟩ = some (.int .i64 c)) 13
                [(0, true), (1, true), (4, true), (5, true), (6, true), (7, true), (2, false), (3, true), (8, false), (9, true), (10, true), (11, true), (12, true)] (by kernel_rfl) (by kernel_rfl) ?_ (fun hHeld => ?_)
              · exact NXW.out _ HB.out.drew
              iterate 6 (refine plan_take (v := ?_) rfl (by assumption) rfl (fun _ _ _ h => h) ?_ ?_; rotate_left; · (intro w hSw; (try dsimp only at hSw); go_simp; try with_reducible rfl); all_goals (try simp only [Act.put, List.setIfInBounds_toArray, List.set_cons_zero, List.set_cons_succ]))
              refine plan_op rfl (by decide) (fun K hK => ?_)
              go_simp
              refine (KW.out _).mono ?_
              rintro e w5 ⟨rfl, hb5⟩
              have q5 : Below wr.heap.size wr w5 := ((Below.refl _ wr).drew).trans hb5
              have hs5 := q5.size
              have b5 : Below w2.heap.size w2 w5 := HB.out.trans (q5.mono hsz)
              refine hK.out _ _ (NXW.out _ b5) (fun hHeld => ?_)
              have Q5 := Lib.hid q5
              clear hK K hb5 q5 b5
              refine plan_take (v := ?_) rfl (by assumption) rfl (fun _ _ _ h => h) ?_ ?_; rotate_left; · (intro w hSw; (try dsimp only at hSw); go_simp; (try rw [if_neg (by omega)]); try with_reducible rfl)
              all_goals (try simp only [Act.put, List.setIfInBounds_toArray, List.set_cons_zero, List.set_cons_succ])
              refine plan_op rfl (by decide) (fun K hK => ?_)
              go_simp
              refine (KI.out _).mono ?_
              rintro e w6 ⟨rfl, hb6⟩
              have b6 : Below w2.heap.size w2 w6 := HB.out.trans ((Q5.out.trans (hb6.mono hs5)).mono hsz)
              refine hK.out _ _ (NXW.out _ b6) (fun hHeld => ?_)
              have B6 := Lib.hid b6
              clear hK K hb6 b6
              iterate 4 (refine plan_take (v := ?_) rfl (by assumption) rfl (fun _ _ _ h => h) ?_ ?_; rotate_left; · (intro w hSw; (try dsimp only at hSw); go_simp; (try rw [if_neg (by omega)]); try with_reducible rfl); all_goals (try simp only [Act.put, List.setIfInBounds_toArray, List.set_cons_zero, List.set_cons_succ]))
              clear a1 a2 a3 a4 z0 z1 z2 z3 z4 z5 y0 y1 y2 y3 ox
              simp only [wpPlan]
              go_wp2
              go_roundw
              case rel => exact ⟨k + 1, _, by omega, by go_num, rfl, HT2, B6⟩
              case measure => simp [intOf]; omega
            · have hkn : k = i := by omega
              subst hkn
              have hd := HT0.out
              rw [List.take_of_length_le (by omega), ← HSB.out] at hd
              have HD := Lib.hid hd
              have B2 := Lib.hid (HB2.out.trans (HB.out.mono hs2))
              clear hd
              go_wp2
              go_ret
              exact ⟨by rw [HD.out]; rfl, B2.out⟩
end Go.Proofs.YtgkiffodnofggaaGreatDoor
