/-
  The contract of the reference's Names of findings.
-/
import Derived.Test.YtgkiffodnofggaaGreatDoorAudNames
import Derived.Test.YtgkiffodnofggaaGreatDoorAudBub
import Derived.Deep.QuietTactic
import Derived.BigQuiet
import Derived.BigRegion
namespace Go.Proofs.YtgkiffodnofggaaGreatDoor
open Go.RowKit
set_option linter.unusedVariables false
set_option linter.unusedSimpArgs false

theorem int_info : (Tryz.prog.info? 3).map (fun i => (i.zero, i.size, i.bytes)) = some (some (.int .i64 0), 1, 8) := by kernel_rfl

/-- How often each key of a list comes, as cells. -/
def cntI {α : Type} [DecidableEq α] (ks : List α) (X : List α) : List Int := X.map fun x => ((cnt ks x : Nat) : Int)

set_option maxHeartbeats 16000000 in
set_option maxRecDepth 100000 in
theorem rnames_any (S : Nat → Prop) (A : Option Addr) (cp : Nat) (L : List Fd) (w : World) (hr : Row S w 5 A L.length (L.flatMap fdCells)) (hS : ∀ k, S k → k < w.heap.size) (hw : fwt L ≤ 1048576) :
    Calls Tryz.prog 5 #[.slice A L.length cp] w fun e w' => ∃ A' c', e = .returned (.slice A' (namesB L).length c') ∧ w'.ownsRow w.heap.size 9 1 (.slice A' (namesB L).length c') (namesB L).length (txv (namesB L)) ∧ Below w.heap.size w w' := by
  obtain ⟨ti, hi, hz0, hz1, hz2⟩ := info_parts strInfo
  obtain ⟨ii, ji, jz0, jz1, jz2⟩ := info_parts int_info
  have HR := Lib.hid hr
  have HS := Lib.hid hS
  have hfl := fwt_length L
  clear hr hS
  go_enter Tryz.func5, Tryz.ntmps5
  go_wp2_with fail
  go_loopw [3, 4, 13] (fun ov nv iv wr => ∃ (k no : Nat), k ≤ L.length ∧ iv = .int .i64 (k : Int) ∧ Hid (wr.ownsRow w.heap.size 9 1 ov no (txv (firsts (namesOf (L.take k))))) ∧ Hid (wr.ownsRow w.heap.size 3 1 nv no (Go.Proofs.YtgkiffodnofggaaGreatDoor.iv (cnts (namesOf (L.take k))))) ∧ Hid (Below w.heap.size w wr)) (fun _ _ iv _ => L.length - (intOf iv).toNat)
  case atStart => exact ⟨0, 0, Nat.zero_le _, rfl, World.ownsRow_nil _ _ _ _, World.ownsRow_nil _ _ _ _, Below.refl _ _⟩
  case round =>
    obtain ⟨k, no, hk, rfl, HO, HN, HB⟩ := hrel
    obtain ⟨Av, cv, rfl, hv1, hv2⟩ := own_slice HO.out
    obtain ⟨An, cn, rfl, hn1, hn2⟩ := own_slice HN.out
    by_cases hlt : k < L.length
    · obtain ⟨f, hf⟩ : ∃ f, L[k]? = some f := ⟨_, List.getElem?_eq_getElem hlt⟩
      obtain ⟨ad, rfl, hsa, hsa2, c0, cj⟩ := (HR.out.below HB.out HS.out).walk fdCells_length (by decide) rfl hf
      have x0 := c0 _ rfl
      have x1 := cj 0 _ rfl
      have x2 := cj 1 _ rfl
      have x3 := cj 2 _ rfl
      have x4 := cj 3 _ rfl
      have hmem := List.mem_of_getElem? hf
      have hfw := fwt_mem hmem
      have htk : namesOf (L.take (k + 1)) = if f.name = [] then namesOf (L.take k) else namesOf (L.take k) ++ [f.name] := by rw [List.take_add_one, hf]; exact namesOf_snoc _ _
      have hkl : (namesOf (L.take k)).length ≤ k := by have := namesOf_length (L.take k); rw [List.length_take] at this; omega
      have hfl2 := (firsts_facts (namesOf (L.take k))).2.2
      obtain ⟨ks, hks⟩ : ∃ ks, namesOf (L.take k) = ks := ⟨_, rfl⟩
      rw [hks] at HO HN htk hkl hfl2
      have hno : no = (firsts ks).length := by have := HO.out.1; rw [txv_length] at this; omega
      have HNO := Lib.hid hno
      have hno2 : no ≤ k := by omega
      have HT := Lib.hid htk
      have i0 : (0 : Int) ≤ (k : Int) := by omega
      have i1 : (k : Int) < (L.length : Int) := by omega
      have hsz := HB.out.size
      clear hno c0 cj hf hmem htk hks
      by_cases hnm : f.name = []
      · have hnx := HT.out
        rw [if_pos hnm] at hnx
        have HX := Lib.hid hnx
        have q0 : (f.name == []) = true := by rw [hnm]; rfl
        clear hnx hnm
        go_wp2
        go_roundw
        case rel => exact ⟨k + 1, no, by omega, by go_num, by rw [HX.out]; exact HO.out.alloc _, by rw [HX.out]; exact HN.out.alloc _, HB.out.alloc hsz _⟩
        case measure => simp [intOf]; omega
      · have hnx := HT.out
        rw [if_neg hnm] at hnx
        have HX := Lib.hid hnx
        have q0 : (f.name == []) = false := by rw [beq_eq_false_iff_ne]; exact hnm
        clear hnx hnm
        go_wp2_with fail
        obtain ⟨wo, rfl⟩ : ∃ wo : World, wo = wr := ⟨_, rfl⟩
        obtain ⟨W4, hW4⟩ : ∃ W4, wo.alloc (.cells #[.int .i64 f.byte, .int .i64 f.line, .int .i64 f.col, .int .i64 f.why, .string (str f.name)] 38) = W4 := ⟨_, rfl⟩
        rw [hW4]
        have b4 : Blk W4 wo.heap.size 38 #[.int .i64 f.byte, .int .i64 f.line, .int .i64 f.col, .int .i64 f.why, .string (str f.name)] := by rw [← hW4]; exact Blk.new _ _ _
        have hB4 : Below wo.heap.size wo W4 := by rw [← hW4]; exact (Below.refl _ wo).alloc (Nat.le_refl _) _
        have b4l := b4.lt
        have O4 := Lib.hid (own_behind HO.out hB4)
        have N4 := Lib.hid (own_behind HN.out hB4)
        have D4 := Lib.hid b4
        have B4 := Lib.hid (HB.out.trans (hB4.mono hsz))
        clear hW4 b4 hB4 x0 x1 x2 x3 x4 HO HN HB
        go_loopw [7, 22] (fun av jv wr => ∃ (j m : Nat), j ≤ no ∧ jv = .int .i64 (j : Int) ∧ av = .int .i64 (atI (firsts ks) f.name j) ∧ Hid (wr = W4.drewN m)) (fun _ jv _ => no - (intOf jv).toNat)
        case atStart => exact ⟨0, 0, Nat.zero_le _, rfl, rfl, rfl⟩
        case round =>
          obtain ⟨j, m, hj, rfl, rfl, HWQ⟩ := hrel
          have oq : wr.ownsRow w.heap.size 9 1 (.slice Av no cv) no (txv (firsts ks)) := by rw [HWQ.out]; exact own_drewN O4.out m
          have nq : wr.ownsRow w.heap.size 3 1 (.slice An no cn) no (iv (cnts ks)) := by rw [HWQ.out]; exact own_drewN N4.out m
          have dq : Blk wr wo.heap.size 38 #[.int .i64 f.byte, .int .i64 f.line, .int .i64 f.col, .int .i64 f.why, .string (str f.name)] := by rw [HWQ.out]; exact D4.out
          have bq : Below w.heap.size w wr := by rw [HWQ.out]; exact below_drewN B4.out m
          have y4 := dq.cell 4
          simp only [List.getElem?_toArray, List.getElem?_cons_succ, List.getElem?_cons_zero] at y4
          have OQ := Lib.hid oq
          have NQ := Lib.hid nq
          have DQ := Lib.hid dq
          have BQ := Lib.hid bq
          have hsq := bq.size
          have hdl := dq.lt
          clear oq nq dq bq
          by_cases hjl : j < no
          · have hjf : j < (firsts ks).length := by rw [← HNO.out]; exact hjl
            obtain ⟨x, hx⟩ : ∃ x, (firsts ks)[j]? = some x := ⟨_, List.getElem?_eq_getElem hjf⟩
            obtain ⟨a2, u, rfl, _, hu, e0⟩ := (Row.of_own OQ.out).at_ hjl
            have hxu : (txv (firsts ks))[j]? = some (.string (str x)) := by rw [txv, List.getElem?_map, hx]; rfl
            rw [hxu] at hu
            obtain rfl := Option.some.inj hu
            have hat : atI (firsts ks) f.name (j + 1) = if x = f.name then (j : Int) else atI (firsts ks) f.name j := by rw [atI, hx]; simp
            have HAT := Lib.hid hat
            have j0 : (0 : Int) ≤ (j : Int) := by omega
            have j1 : (j : Int) < (no : Int) := by omega
            obtain ⟨av, hav⟩ : ∃ av, atI (firsts ks) f.name j = av := ⟨_, rfl⟩
            rw [hav] at HAT ⊢
            clear hjf hx hxu hat hav
            by_cases hxn : x = f.name
            · have ha := HAT.out
              rw [if_pos hxn] at ha
              have HA := Lib.hid ha
              have q1 : (x == f.name) = true := by rw [hxn]; exact beq_self_eq_true _
              clear ha hxn
              go_wp2_with fail
              go_quiet (fail)
              go_wp2
              go_roundw
              case rel => exact ⟨j + 1, m + nq, by omega, by go_num, by rw [HA.out], by rw [HWQ.out, World.drewN_drewN]; rfl⟩
              case measure => simp [intOf]; omega
            · have ha := HAT.out
              rw [if_neg hxn] at ha
              have HA := Lib.hid ha
              have q1 : (x == f.name) = false := by rw [beq_eq_false_iff_ne]; exact hxn
              clear ha hxn
              go_wp2_with fail
              go_quiet (fail)
              go_wp2
              go_roundw
              case rel => exact ⟨j + 1, m + nq, by omega, by go_num, by rw [HA.out], by rw [HWQ.out, World.drewN_drewN]; rfl⟩
              case measure => simp [intOf]; omega
          · have hjn : j = no := by omega
            subst hjn
            have hend := atI_end (firsts ks) f.name
            rw [← HNO.out] at hend
            have hcx := cnt_le ks f.name
            obtain ⟨av, hav⟩ : ∃ av, atI (firsts ks) f.name j = av := ⟨_, rfl⟩
            rw [hav] at hend ⊢
            clear hav
            rcases hend with ⟨ha, hni⟩ | ⟨i, hil, ha, hxi⟩
            · have hni2 : f.name ∉ ks := fun h => hni ((firsts_facts ks).2.1 _ |>.2 h)
              obtain ⟨hf1, hc1⟩ := cnts_new ks f.name hni2
              have HF1 := Lib.hid hf1
              have HC1 := Lib.hid hc1
              subst ha
              clear hni hni2 hf1 hc1
              have hvb : ∀ i, (Value.slice Av j cv).ownBlock = some i → w.heap.size ≤ i := fun i e => (OQ.out.lt i e).1
              have hnb : ∀ i, (Value.slice An j cn).ownBlock = some i → w.heap.size ≤ i := fun i e => (NQ.out.lt i e).1
              have hap : (Value.slice An j cn).ownBlock = none ∨ (Value.slice An j cn).ownBlock ≠ (Value.slice Av j cv).ownBlock := own_apart NQ.out OQ.out (by decide)
              have HVB := Lib.hid hvb
              have HNB := Lib.hid hnb
              have HAP := Lib.hid hap
              clear hvb hnb hap
              go_wp2_with (first
                | (at_builtin; refine wpList_append_out _ rfl _ _ 23 rfl w.heap.size 9 ti _ 1 16 Tryz.underlying23 hi hz0 hz1 hz2 rfl (by decide) (.slice Av j cv) j (txv (firsts ks)) rfl (OQ.out.alloc _) (fun i => i = wr.heap.size) (some ⟨wr.heap.size, 0, none⟩) 1 1 (txv [f.name]) rfl (Row.new wr 9 #[.string (str f.name)] 1 1 rfl) (txv_one _) (by simp only [maxLen]; omega) (by omega) (by simp only [World.size_alloc]; omega) ?_; intro A6 c6 w6 ho6 hg6 hn6 hm6; have HO6 := Lib.hid ho6; have N6 := Lib.hid ((NQ.out.alloc (.cells #[.string (str f.name)] 9)).kept hg6 HAP.out); have Q6 := Lib.hid ((BQ.out.alloc hsq (.cells #[.string (str f.name)] 9)).grown hg6 (by simp only [World.size_alloc]; omega) HVB.out); have hs6 : w.heap.size ≤ w6.heap.size := Q6.out.size; clear ho6 hg6 hn6 hm6)
                | (at_builtin; refine wpList_append_out _ rfl _ _ 41 rfl w.heap.size 3 ii _ 1 8 Tryz.underlying41 ji jz0 jz1 jz2 rfl (by decide) (.slice An j cn) j (iv (cnts ks)) rfl (N6.out.alloc _) (fun i => i = w6.heap.size) (some ⟨w6.heap.size, 0, none⟩) 1 1 (iv [1]) rfl (Row.new w6 3 #[.int .i64 1] 1 1 rfl) (iv_one _) (by simp only [maxLen]; omega) (by omega) (by simp only [World.size_alloc]; omega) ?_; intro A7 c7 w7 ho7 hg7 hn7 hm7; have HN7 := Lib.hid ho7; have HO7 := Lib.hid ((HO6.out.alloc (.cells #[.int .i64 1] 3)).kept hg7 (own_apart HO6.out N6.out (by decide))); have HB7 := Lib.hid ((Q6.out.alloc hs6 (.cells #[.int .i64 1] 3)).grown hg7 (by simp only [World.size_alloc]; omega) HNB.out); clear ho7 hg7 hn7 hm7))
              go_roundw
              case rel =>
                refine ⟨k + 1, j + 1, by omega, by go_num, ?_, ?_, HB7⟩
                · rw [HX.out, HF1.out, show txv (firsts ks ++ [f.name]) = txv (firsts ks) ++ txv [f.name] by simp [txv]]
                  exact HO7
                · rw [HX.out, HC1.out, show iv (cnts ks ++ [1]) = iv (cnts ks) ++ iv [1] by simp [iv]]
                  exact HN7
              case measure => simp [intOf]; omega
            · obtain ⟨hf1, hc1, hc2⟩ := cnts_old ks f.name i hxi
              have HF1 := Lib.hid hf1
              have HC1 := Lib.hid hc1
              have HC2 := Lib.hid hc2
              subst ha
              rcases own_form NQ.out with ⟨hv, _, _⟩ | ⟨h, cap, cur, hv, hbase, hgl, _⟩
              · injection hv with _ hv _
                omega
              · injection hv with hA _ _
                subst hA
                have hcl2 : i < (cnts ks).length := by rw [cnts_length]; have := HNO.out; omega
                have g1 := NQ.out.cellAt i (by omega)
                rw [iv_get _ _ hcl2] at g1
                have g2 := NQ.out.frozenAt i
                have hce : (cnts ks)[i] = ((cnt ks f.name : Nat) : Int) := by
                  have := hc2
                  rw [List.getElem?_eq_getElem hcl2] at this
                  exact Option.some.inj this
                rw [hce] at g1
                have NS := Lib.hid ((NQ.out.stored i (.int .i64 (((cnt ks f.name : Nat) : Int) + 1))).1)
                have OS := Lib.hid (own_setCell OQ.out (p := ⟨h, i, none⟩) (fun e => by
                  rcases own_apart NQ.out OQ.out (by decide) with h1 | h1
                  · cases h1
                  · exact h1 e.symm) (.int .i64 (((cnt ks f.name : Nat) : Int) + 1)))
                have BS := Lib.hid (BQ.out.setCell (p := ⟨h, i, none⟩) hbase (.int .i64 (((cnt ks f.name : Nat) : Int) + 1)))
                have e1 : cnts (ks ++ [f.name]) = (cnts ks).set i (((cnt ks f.name : Nat) : Int) + 1) := hc1
                have e2 : iv ((cnts ks).set i (((cnt ks f.name : Nat) : Int) + 1)) = (iv (cnts ks)).set i (.int .i64 (((cnt ks f.name : Nat) : Int) + 1)) := by simp [iv]
                have HE := Lib.hid e1
                have HE2 := Lib.hid e2
                have hi0 : (0 : Int) ≤ (i : Int) := by omega
                have hi1 : (i : Int) < (j : Int) := by omega
                have c0 : (0 : Int) ≤ ((cnt ks f.name : Nat) : Int) := by omega
                have c1 : ((cnt ks f.name : Nat) : Int) ≤ 1048576 := by omega
                generalize ((cnt ks f.name : Nat) : Int) = c at g1 NS OS BS HE HE2 c0 c1
                clear hxi hf1 hc1 hc2 hce hcl2 e1 e2 hgl HC1 HC2 hcx
                go_wp2
                go_roundw
                case rel => exact ⟨k + 1, j, by omega, by go_num, by rw [HX.out, HF1.out]; exact OS, by rw [HX.out, HE.out, HE2.out]; exact NS, BS⟩
                case measure => simp [intOf]; omega
    · have hkl : k = L.length := by omega
      subst hkl
      rw [List.take_length] at HO HN
      have hkl := namesOf_length L
      have hnb : namesB L = srt (ltN (namesOf L)) (firsts (namesOf L)) := rfl
      have hfl2 := (firsts_facts (namesOf L)).2.2
      obtain ⟨ks, hks⟩ : ∃ ks, namesOf L = ks := ⟨_, rfl⟩
      have hcn : cnts (namesOf L) = cntI (namesOf L) (firsts (namesOf L)) := rfl
      rw [hcn] at HN
      rw [hks] at HO HN hkl hnb hfl2
      obtain ⟨X0, hX0⟩ : ∃ X0, firsts ks = X0 := ⟨_, rfl⟩
      rw [hX0] at HO HN hnb hfl2
      have hno : no = X0.length := by have := HO.out.1; rw [txv_length] at this; omega
      have HNO := Lib.hid hno
      have HNB := Lib.hid hnb
      have hno2 : no ≤ L.length := by omega
      have hnl : (namesB L).length = no := by rw [hnb, srt_length, hno]
      have HNL := Lib.hid hnl
      have hs0 := srt_none (ltN ks) X0
      have HO1 : Hid (wr.ownsRow w.heap.size 9 1 (.slice Av no cv) no (txv (srt (ltN ks) (X0.take 0) ++ X0.drop 0))) := by rw [← hs0]; exact HO
      have HN1 : Hid (wr.ownsRow w.heap.size 3 1 (.slice An no cn) no (iv (cntI ks (srt (ltN ks) (X0.take 0) ++ X0.drop 0)))) := by rw [← hs0]; exact HN
      clear hks hcn hX0 hno hnb hnl hs0 HO HN
      go_wp2_with fail
      obtain ⟨wo, rfl⟩ : ∃ wo : World, wo = wr := ⟨_, rfl⟩
      go_loopw [53] (fun jv wr => ∃ (i : Nat), i ≤ no ∧ jv = .int .i64 (i : Int) ∧ Hid (wr.ownsRow w.heap.size 9 1 (.slice Av no cv) no (txv (srt (ltN ks) (X0.take i) ++ X0.drop i))) ∧ Hid (wr.ownsRow w.heap.size 3 1 (.slice An no cn) no (Go.Proofs.YtgkiffodnofggaaGreatDoor.iv (cntI ks (srt (ltN ks) (X0.take i) ++ X0.drop i)))) ∧ Hid (Below w.heap.size w wr)) (fun jv _ => no - (intOf jv).toNat)
      case atStart => exact ⟨0, Nat.zero_le _, rfl, HO1, HN1, HB⟩
      case round =>
        obtain ⟨i, hi, rfl, HO, HN, HB⟩ := hrel
        by_cases hil : i < no
        · rcases own_form HO.out with ⟨hv, h0, _⟩ | ⟨g, cap, cur, hv, hbg, _⟩
          · omega
          · rcases own_form HN.out with ⟨hvn, h0, _⟩ | ⟨h, capn, curn, hvn, hbh, _⟩
            · omega
            · injection hv with hA _ hC
              subst hA hC
              injection hvn with hA _ hC
              subst hA hC
              have i0 : (0 : Int) ≤ (i : Int) := by omega
              have i1 : (i : Int) < (no : Int) := by omega
              have hgh : g ≠ h := by
                rcases own_apart HN.out HO.out (by decide) with e | e
                · cases e
                · exact fun e1 => e (by rw [e1]; rfl)
              have HBS := Lib.hid (bub_start (lt := ltN ks) (show i < X0.length by rw [← HNO.out]; exact hil))
              have hilX : i < X0.length := by rw [← HNO.out]; exact hil
              go_wp2_with fail
              obtain ⟨wi, rfl⟩ : ∃ wi : World, wi = wr := ⟨_, rfl⟩
              go_loopw [10] (fun kv wr => ∃ (q : Nat) (X : List (List UInt8)), q ≤ i ∧ kv = .int .i64 (q : Int) ∧ Hid (BubSt (ltN ks) X0 i q X) ∧ Hid (wr.ownsRow w.heap.size 9 1 (.slice (some ⟨g, 0, none⟩) no cv) no (txv X)) ∧ Hid (wr.ownsRow w.heap.size 3 1 (.slice (some ⟨h, 0, none⟩) no cn) no (Go.Proofs.YtgkiffodnofggaaGreatDoor.iv (cntI ks X))) ∧ Hid (Below w.heap.size w wr)) (fun kv _ => (intOf kv).toNat)
              case atStart => exact ⟨i, _, Nat.le_refl _, rfl, HBS, HO, HN, HB⟩
              case round =>
                clear HO HN HB HBS
                obtain ⟨q, X, hqi, rfl, HBS, HO, HN, HB⟩ := hrel
                have hsz := HB.out.size
                cases q with
                | zero =>
                  have hX := HBS.out.zero
                  have HX := Lib.hid hX
                  have d0 : decide ((0 : Int) < 0) = false := rfl
                  clear hX
                  go_wp2_with fail
                  go_quiet (fail)
                  go_wp2
                  go_roundw
                  case rel => exact ⟨i + 1, by omega, by go_num, by rw [← HX.out]; exact own_drewN HO.out _, by rw [← HX.out]; exact own_drewN HN.out _, below_drewN HB.out _⟩
                  case measure => simp [intOf]; omega
                | succ q =>
                  obtain ⟨x, y, hx, hy, hst, hex⟩ := HBS.out.step
                  have hXl := HBS.out.len hilX
                  have hqn : q + 1 < no := by omega
                  have ox := HO.out.cellAt (q + 1) (by omega)
                  have oy := HO.out.cellAt q (by omega)
                  have fx := HO.out.frozenAt (q + 1)
                  have fy := HO.out.frozenAt q
                  have nx := HN.out.cellAt (q + 1) (by omega)
                  have ny := HN.out.cellAt q (by omega)
                  have gx := HN.out.frozenAt (q + 1)
                  have gy := HN.out.frozenAt q
                  have vx : (txv X)[q + 1]? = some (.string (str x)) := by rw [txv, List.getElem?_map, hx]; rfl
                  have vy : (txv X)[q]? = some (.string (str y)) := by rw [txv, List.getElem?_map, hy]; rfl
                  have wx : (iv (cntI ks X))[q + 1]? = some (.int .i64 ((cnt ks x : Nat) : Int)) := by rw [iv, cntI, List.getElem?_map, List.getElem?_map, hx]; rfl
                  have wy : (iv (cntI ks X))[q]? = some (.int .i64 ((cnt ks y : Nat) : Int)) := by rw [iv, cntI, List.getElem?_map, List.getElem?_map, hy]; rfl
                  have wx0 := Lib.hid wx
                  have wy0 := Lib.hid wy
                  rw [vx] at ox
                  rw [vy] at oy
                  rw [wx] at nx
                  rw [wy] at ny
                  have HST := Lib.hid hst
                  have HEX := Lib.hid hex
                  have hlt := ltN_iff ks x y
                  have hlf := ltN_not ks x y
                  have hcb := cb_less x y
                  rw [show ((q + 1 : Nat) : Int) = (q : Int) + 1 from rfl]
                  obtain ⟨j1, hj1⟩ : ∃ j1, j1 = q + 1 := ⟨_, rfl⟩
                  have e0 : ((q : Int) + 1).toNat = j1 := by omega
                  have e1 : (0 : Int) ≤ (q : Int) + 1 := by omega
                  have e2 : (0 : Int) < (q : Int) + 1 := by omega
                  have e3 : (q : Int) + 1 < (no : Int) := by omega
                  have e4 : (q : Int) < (no : Int) := by omega
                  have e5 : (0 : Int) ≤ (q : Int) := by omega
                  have e6 : IntKind.i64.wrap (q : Int) = (q : Int) := by rw [IntKind.wrap_i64]; omega
                  rw [← hj1] at ox fx nx gx
                  have J1 := Lib.hid hj1
                  clear hx hy hst hex vx vy wx wy hj1
                  obtain ⟨a, ha⟩ : ∃ a : Int, ((cnt ks x : Nat) : Int) = a := ⟨_, rfl⟩
                  obtain ⟨b, hb⟩ : ∃ b : Int, ((cnt ks y : Nat) : Int) = b := ⟨_, rfl⟩
                  rw [ha] at nx
                  rw [hb] at ny
                  by_cases hl : ltN ks x y = true
                  · have hl2 := hlt.1 hl
                    have HS2 := Lib.hid (HST.out hl)
                    have SVX := Lib.hid (show txv ((X.set (q + 1) y).set q x) = ((txv X).set j1 (.string (str y))).set q (.string (str x)) by rw [J1.out]; simp [txv])
                    have IVX := Lib.hid (show iv (cntI ks ((X.set (q + 1) y).set q x)) = ((iv (cntI ks X)).set j1 (.int .i64 b)).set q (.int .i64 a) by rw [J1.out, ← ha, ← hb]; simp [iv, cntI])
                    have WX := Lib.hid (show (iv (cntI ks X))[j1]? = some (.int .i64 a) by rw [J1.out, wx0.out, ha])
                    have WY := Lib.hid (show (iv (cntI ks X))[q]? = some (.int .i64 b) by rw [wy0.out, hb])
                    have hcases : (decide (b < a) = true) ∨ (decide (b < a) = false ∧ (a == b) = true ∧ Op.bytesLess x y = true) := by
                      rcases hl2 with h1 | ⟨h1, h2⟩
                      · exact .inl (by rw [decide_eq_true_iff]; omega)
                      · exact .inr ⟨by rw [decide_eq_false_iff_not]; omega, by rw [beq_iff_eq]; omega, by rw [hcb]; exact decide_eq_true h2⟩
                    clear hlt hlf hcb hl hl2 HST HEX ha hb
                    rcases hcases with d1 | ⟨d1, d2, d3⟩
                    all_goals
                      go_wp2_with fail
                      go_quiet (fail)
                      go_wp2_with fail
                      obtain ⟨wa, hwa⟩ : ∃ wa, wr.drewN nq = wa := ⟨_, rfl⟩
                      have ox2 : wa.cell? ⟨g, j1, none⟩ = some (.string (str x)) := by rw [← hwa]; exact ox
                      have oy2 : wa.cell? ⟨g, q, none⟩ = some (.string (str y)) := by rw [← hwa]; exact oy
                      have fx2 : wa.frozen? ⟨g, j1, none⟩ = false := by rw [← hwa]; exact fx
                      have fy2 : wa.frozen? ⟨g, q, none⟩ = false := by rw [← hwa]; exact fy
                      have OA := Lib.hid (show wa.ownsRow w.heap.size 9 1 (.slice (some ⟨g, 0, none⟩) no cv) no (txv X) by rw [← hwa]; exact HO.out)
                      have NA := Lib.hid (show wa.ownsRow w.heap.size 3 1 (.slice (some ⟨h, 0, none⟩) no cn) no (iv (cntI ks X)) by rw [← hwa]; exact HN.out)
                      have BA := Lib.hid (show Below w.heap.size w wa by rw [← hwa]; exact below_drewN HB.out nq)
                      rw [hwa]
                      clear hwa ox oy fx fy nx ny gx gy HO HN HB
                      go_region
                      obtain ⟨wb, hwb⟩ : ∃ wb, ((wa.setCell ⟨g, j1, none⟩ (.string (str y))).setCell ⟨g, q, none⟩ (.string (str x))).drew = wb := ⟨_, rfl⟩
                      have ob : wb.ownsRow w.heap.size 9 1 (.slice (some ⟨g, 0, none⟩) no cv) no (((txv X).set j1 (.string (str y))).set q (.string (str x))) := by
                        rw [← hwb]
                        exact (((OA.out.stored j1 (.string (str y))).1).stored q (.string (str x))).1
                      have kb : Keep (fun k => k = g) wa wb := by
                        rw [← hwb]
                        exact (((Keep.refl (fun k => k = g) wa).setCell (p := ⟨g, j1, none⟩) (.inl rfl) _).setCell (p := ⟨g, q, none⟩) (.inl rfl) _).drew
                      have nb := own_keep NA.out kb (fun k e1 e2 => hgh (by have h5 : h = k := (by simpa [Value.ownBlock] using e1); omega))
                      have bb := BA.out.trans (kb.below (B := w.heap.size) BA.out.size (fun i hi e => by omega))
                      have nx := nb.cellAt j1 (by omega)
                      have ny := nb.cellAt q (by omega)
                      have gx := nb.frozenAt j1
                      have gy := nb.frozenAt q
                      rw [WX.out] at nx
                      rw [WY.out] at ny
                      have OB := Lib.hid ob
                      have NB := Lib.hid nb
                      have BB := Lib.hid bb
                      rw [hwb]
                      clear hwb ox2 oy2 fx2 fy2 OA NA BA ob kb nb bb
                      go_wp2_with fail
                      go_region
                      obtain ⟨wc, hwc⟩ : ∃ wc, ((wb.setCell ⟨h, j1, none⟩ (.int .i64 b)).setCell ⟨h, q, none⟩ (.int .i64 a)).drew = wc := ⟨_, rfl⟩
                      have nc : wc.ownsRow w.heap.size 3 1 (.slice (some ⟨h, 0, none⟩) no cn) no (((iv (cntI ks X)).set j1 (.int .i64 b)).set q (.int .i64 a)) := by
                        rw [← hwc]
                        exact (((NB.out.stored j1 (.int .i64 b)).1).stored q (.int .i64 a)).1
                      have kc : Keep (fun k => k = h) wb wc := by
                        rw [← hwc]
                        exact (((Keep.refl (fun k => k = h) wb).setCell (p := ⟨h, j1, none⟩) (.inl rfl) _).setCell (p := ⟨h, q, none⟩) (.inl rfl) _).drew
                      have oc := own_keep OB.out kc (fun k e1 e2 => hgh (by have h5 : g = k := (by simpa [Value.ownBlock] using e1); omega))
                      have bc := BB.out.trans (kc.below (B := w.heap.size) BB.out.size (fun i hi e => by omega))
                      have OC := Lib.hid oc
                      have NC := Lib.hid nc
                      have BC := Lib.hid bc
                      rw [hwc]
                      clear hwc nx ny gx gy OB NB BB oc kc nc bc
                      go_wp2
                      go_roundw
                      case rel => exact ⟨q, _, by omega, by go_num, HS2, by rw [SVX.out]; exact OC, by rw [IVX.out]; exact NC, BC⟩
                      case measure => simp [intOf]
                  · have hl3 : ltN ks x y = false := by simpa using hl
                    have hl2 := hlf.1 hl3
                    have HX := Lib.hid (HEX.out hl3)
                    have hcases : (decide (b < a) = false ∧ (a == b) = false) ∨ (decide (b < a) = false ∧ (a == b) = true ∧ Op.bytesLess x y = false) := by
                      rcases hl2 with h1 | ⟨h1, h2⟩
                      · exact .inl ⟨by rw [decide_eq_false_iff_not]; omega, by rw [beq_eq_false_iff_ne]; omega⟩
                      · exact .inr ⟨by rw [decide_eq_false_iff_not]; omega, by rw [beq_iff_eq]; omega, by rw [hcb]; exact decide_eq_false h2⟩
                    clear hlt hlf hcb hl hl2 hl3 HST HEX ha hb
                    rcases hcases with ⟨d1, d2⟩ | ⟨d1, d2, d3⟩
                    all_goals
                      go_wp2_with fail
                      go_quiet (fail)
                      clear ox oy fx fy nx ny gx gy
                      go_wp2
                      go_roundw
                      case rel => exact ⟨i + 1, by omega, by go_num, by rw [← HX.out]; exact own_drewN HO.out _, by rw [← HX.out]; exact own_drewN HN.out _, below_drewN HB.out _⟩
                      case measure => simp [intOf]; omega
        · have hin : i = no := by omega
          subst hin
          have ho := HO.out
          have hf := srt_full (ltN ks) X0
          rw [← HNO.out] at hf
          rw [hf, ← HNB.out] at ho
          have HO2 := Lib.hid ho
          clear ho hf
          go_wp2
          go_ret
          refine ⟨Av, cv, by rw [HNL.out]; rfl, ?_, HB.out⟩
          rw [HNL.out]
          exact HO2.out
end Go.Proofs.YtgkiffodnofggaaGreatDoor
