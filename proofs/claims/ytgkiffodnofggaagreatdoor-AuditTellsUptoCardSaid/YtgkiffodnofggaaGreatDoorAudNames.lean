/-
  The contract of the program's Names of findings.
-/
import Derived.Test.YtgkiffodnofggaaGreatDoorAudSort
namespace Go.Proofs.YtgkiffodnofggaaGreatDoor
open Go.RowKit
set_option linter.unusedVariables false
set_option linter.unusedSimpArgs false

theorem strInfo : (Tryz.prog.info? 9).map (fun i => (i.zero, i.size, i.bytes)) = some (some (.string ⟨#[]⟩), 1, 16) := by kernel_rfl

set_option maxHeartbeats 8000000 in
set_option maxRecDepth 100000 in
theorem names_any (S : Nat → Prop) (A : Option Addr) (cp : Nat) (L : List Fd) (w : World) (hr : Row S w 5 A L.length (L.flatMap fdCells)) (hS : ∀ k, S k → k < w.heap.size) (hw : fwt L ≤ 1048576) :
    Calls Tryz.prog 4 #[.slice A L.length cp] w fun e w' => ∃ A' c', e = .returned (.slice A' (namesB L).length c') ∧ w'.ownsRow w.heap.size 9 1 (.slice A' (namesB L).length c') (namesB L).length (txv (namesB L)) ∧ Below w.heap.size w w' := by
  obtain ⟨ti, hi, hz0, hz1, hz2⟩ := info_parts strInfo
  have hmm := @run_makeMap Tryz.prog
  have HR := Lib.hid hr
  have HS := Lib.hid hS
  have hfl := fwt_length L
  clear hr hS
  go_enter Tryz.func4, Tryz.ntmps4
  go_wp2_with fail
  obtain ⟨W0, hW0⟩ : ∃ W0, w.alloc (.map #[] 0) = W0 := ⟨_, rfl⟩
  obtain ⟨W1, hW1⟩ : ∃ W1, W0.alloc (.cells #[.map (some w.heap.size)] 33) = W1 := ⟨_, rfl⟩
  rw [hW0, hW1]
  have hM0 : KM kName W0 w.heap.size 0 [] := by rw [← hW0]; exact KM.made w
  have hS0 : W0.heap.size = w.heap.size + 1 := by rw [← hW0, World.size_alloc]
  have hb0 : Below w.heap.size w W0 := by rw [← hW0]; exact (Below.refl _ w).alloc (Nat.le_refl _) _
  have hC1 : Blk W1 (w.heap.size + 1) 33 #[.map (some w.heap.size)] := by rw [← hW1]; exact Blk.new_at _ _ hS0
  have hM1 : KM kName W1 w.heap.size 0 (namesOf (L.take 0)) := by rw [← hW1]; exact hM0.behind ((Below.refl _ W0).alloc (Nat.le_refl _) _)
  have hb1 : Below w.heap.size w W1 := by rw [← hW1]; exact hb0.alloc (by omega) _
  have hs1 : w.heap.size + 2 ≤ W1.heap.size := by rw [← hW1, World.size_alloc]; omega
  have C1 := Lib.hid hC1
  have M1 := Lib.hid hM1
  have B1 := Lib.hid hb1
  clear hW0 hW1 hM0 hS0 hb0 hM1 hC1 hb1
  go_loopw [4, 11] (fun ov iv wr => ∃ (k no : Nat), k ≤ L.length ∧ iv = .int .i64 (k : Int) ∧ Hid (KM kName wr w.heap.size k (namesOf (L.take k))) ∧ Hid (Blk wr (w.heap.size + 1) 33 #[.map (some w.heap.size)]) ∧
    Hid (wr.ownsRow (w.heap.size + 2) 9 1 ov no (txv (firsts (namesOf (L.take k))))) ∧ Hid (Below w.heap.size w wr)) (fun _ iv _ => L.length - (intOf iv).toNat)
  case atStart => exact ⟨0, 0, Nat.zero_le _, rfl, M1, C1, World.ownsRow_nil _ _ _ _, B1⟩
  case round =>
    obtain ⟨k, no, hk, rfl, HM, HC, HO, HB⟩ := hrel
    obtain ⟨Av, cv, rfl, hv1, hv2⟩ := own_slice HO.out
    by_cases hlt : k < L.length
    · obtain ⟨f, hf⟩ : ∃ f, L[k]? = some f := ⟨_, List.getElem?_eq_getElem hlt⟩
      obtain ⟨ad, rfl, hsa, hsa2, c0, cj⟩ := (HR.out.below HB.out HS.out).walk fdCells_length (by decide) rfl hf
      have x0 := c0 _ rfl
      have x1 := cj 0 _ rfl
      have x2 := cj 1 _ rfl
      have x3 := cj 2 _ rfl
      have x4 := cj 3 _ rfl
      have hmem := List.mem_of_getElem? hf
      have hfw := fwt_mem hmem
      have htk : namesOf (L.take (k + 1)) = if f.name = [] then namesOf (L.take k) else namesOf (L.take k) ++ [f.name] := by rw [List.take_add_one, hf]; exact namesOf_snoc _ _
      have hkl : (namesOf (L.take k)).length ≤ k := by have := namesOf_length (L.take k); rw [List.length_take] at this; omega
      have hfl2 := (firsts_facts (namesOf (L.take k))).2.2
      obtain ⟨ks, hks⟩ : ∃ ks, namesOf (L.take k) = ks := ⟨_, rfl⟩
      rw [hks] at HM HO htk hkl hfl2
      have hno : no = (firsts ks).length := by have := HO.out.1; rw [txv_length] at this; omega
      have HNO := Lib.hid hno
      have hno2 : no ≤ k := by omega
      clear hno
      have HT := Lib.hid htk
      have i0 : (0 : Int) ≤ (k : Int) := by omega
      have i1 : (k : Int) < (L.length : Int) := by omega
      have hsz := HB.out.size
      have hcl := HC.out.lt
      clear c0 cj hf hmem htk hks
      by_cases hnm : f.name = []
      · have hnx := HT.out
        rw [if_pos hnm] at hnx
        have HN := Lib.hid hnx
        have q0 : (f.name == []) = true := by rw [hnm]; rfl
        clear hnx hnm
        go_wp2
        go_roundw
        case rel => exact ⟨k + 1, no, by omega, by go_num, by rw [HN.out]; exact (HM.out.mono (by omega)).behind ((Below.refl _ wr).alloc (Nat.le_refl _) _), HC.out.alloc _, by rw [HN.out]; exact HO.out.alloc _, HB.out.alloc hsz _⟩
        case measure => simp [intOf]; omega
      · have hnx := HT.out
        rw [if_neg hnm] at hnx
        have HN := Lib.hid hnx
        have q0 : (f.name == []) = false := by rw [beq_eq_false_iff_ne]; exact hnm
        clear hnx hnm
        obtain ⟨W4, hW4⟩ : ∃ W4, wr.alloc (.cells #[.int .i64 f.byte, .int .i64 f.line, .int .i64 f.col, .int .i64 f.why, .string (str f.name)] 38) = W4 := ⟨_, rfl⟩
        have b4 : Blk W4 wr.heap.size 38 #[.int .i64 f.byte, .int .i64 f.line, .int .i64 f.col, .int .i64 f.why, .string (str f.name)] := by rw [← hW4]; exact Blk.new _ _ _
        have hB4 : Below wr.heap.size wr W4 := by rw [← hW4]; exact (Below.refl _ wr).alloc (Nat.le_refl _) _
        have m4 := HM.out.behind hB4
        have d4 := HC.out.below hB4 hcl
        have o4 := own_behind HO.out hB4
        have l4 : f.name.length ≤ maxLen := by unfold maxLen; omega
        have r4 := m4.run f.name l4
        obtain ⟨W5, r5, m5, g5⟩ := m4.put f.name l4 (by unfold maxLen; omega) (by omega)
        have r6 := m5.run f.name l4
        rw [cnt_snoc, Int.natCast_add] at r6
        have hz := cnt_zero ks f.name
        have hcn := cnt_le ks f.name
        have b5 : Blk W5 wr.heap.size 38 #[.int .i64 f.byte, .int .i64 f.line, .int .i64 f.col, .int .i64 f.why, .string (str f.name)] := (g5.block _ b4.lt (by simp; omega)).trans b4
        have d5 : Blk W5 (w.heap.size + 1) 33 #[.map (some w.heap.size)] := (g5.block _ d4.lt (by simp)).trans d4
        have o5 : W5.ownsRow (w.heap.size + 2) 9 1 (.slice Av no cv) no (txv (firsts ks)) := o4.kept g5 (by
          refine .inr (fun e => ?_)
          have := (o4.lt _ e).1
          omega)
        have q5 : Below w.heap.size w W5 := (HB.out.trans (hB4.mono hsz)).grown g5 (by have := hB4.size; omega) (fun j hj => by cases hj; exact Nat.le_refl _)
        have s5 := q5.size
        have t5 := d5.lt
        simp only [kName] at r4 r5 r6
        obtain ⟨c, hc⟩ : ∃ c, cnt ks f.name = c := ⟨_, rfl⟩
        rw [hc] at r4 r5 r6 hz hcn
        have z4 := HC.out.cell 0
        have z5 := d5.cell 0
        have y5 := b5.cell 4
        simp only [List.getElem?_toArray, List.getElem?_cons_succ, List.getElem?_cons_zero] at z4 z5 y5
        have M5 := Lib.hid m5
        have D5 := Lib.hid d5
        have O5 := Lib.hid o5
        have Q5 := Lib.hid q5
        have HZ := Lib.hid hz
        rw [← hW4] at r4 r5
        clear hW4 hc m4 d4 o4 m5 d5 o5 g5 b4 b5 hB4 q5 hz
        by_cases hc0 : c = 0
        · have hni := HZ.out.1 hc0
          have e1 : ((c : Int) + 1 == 1) = true := by rw [hc0]; rfl
          obtain ⟨hf1, _⟩ := cnts_new ks f.name hni
          have HF1 := Lib.hid hf1
          clear hni hf1 hc0
          go_wp2_with (at_builtin; refine wpList_append_out _ rfl _ _ 23 rfl (w.heap.size + 2) 9 ti _ 1 16 Tryz.underlying23 hi hz0 hz1 hz2 rfl (by decide) (.slice Av no cv) no (txv (firsts ks)) rfl (O5.out.alloc _) (fun j => j = W5.heap.size) (some ⟨W5.heap.size, 0, none⟩) 1 1 (txv [f.name]) rfl (Row.new W5 9 #[.string (str f.name)] 1 1 rfl) (txv_one _) (by simp only [maxLen]; omega) (by omega) (by simp only [World.size_alloc]; omega) ?_; intro A6 c6 w6 ho6 hg6 hn6 hm6; have HO6 := Lib.hid ho6; have HG6 := Lib.hid hg6; clear ho6 hg6 hn6 hm6)
          have hvb : ∀ j, (Value.slice Av no cv).ownBlock = some j → w.heap.size + 2 ≤ j := fun j e => (O5.out.lt j e).1
          go_roundw
          case rel =>
            refine ⟨k + 1, no + 1, by omega, by go_num, ?_, ?_, ?_, ?_⟩
            · rw [HN.out]
              refine Lib.hid ((M5.out.behind ((Below.refl _ W5).alloc (Nat.le_refl _) _)).kept HG6.out (fun e => ?_))
              have := hvb _ e.symm
              omega
            · refine Lib.hid ((HG6.out.block _ (by simp only [World.size_alloc]; omega) (fun e => ?_)).trans (D5.out.alloc _))
              have := hvb _ e.symm
              omega
            · rw [HN.out, HF1.out, show txv (firsts ks ++ [f.name]) = txv (firsts ks) ++ txv [f.name] by simp [txv]]
              exact HO6
            · exact Lib.hid ((Q5.out.alloc s5 _).grown HG6.out (by simp only [World.size_alloc]; omega) (fun j e => by have := hvb _ e; omega))
          case measure => simp [intOf]; omega
        · have e1 : ((c : Int) + 1 == 1) = false := by rw [beq_eq_false_iff_ne]; omega
          have hin : f.name ∈ ks := Decidable.byContradiction fun h => hc0 (HZ.out.2 h)
          have hf1 : firsts (ks ++ [f.name]) = firsts ks := by rw [firsts_snoc, if_pos ((firsts_facts ks).2.1 _ |>.2 hin)]
          have HF1 := Lib.hid hf1
          clear hin hf1 hc0
          go_wp2
          go_roundw
          case rel => exact ⟨k + 1, no, by omega, by go_num, by rw [HN.out]; exact M5, D5, by rw [HN.out, HF1.out]; exact O5, Q5⟩
          case measure => simp [intOf]; omega
    · have hkl : k = L.length := by omega
      subst hkl
      rw [List.take_length] at HM HO
      have hkl := namesOf_length L
      have hml : ∀ x ∈ namesOf L, x.length ≤ maxLen := fun x hx => by
        obtain ⟨f, hf, e⟩ := namesOf_mem hx
        have := fwt_mem hf
        rw [← e]
        unfold maxLen
        omega
      obtain ⟨hfn, hfm, hfl2⟩ := firsts_facts (namesOf L)
      have hno : no = (firsts (namesOf L)).length := by have := HO.out.1; rw [txv_length] at this; omega
      have hnb : namesB L = srt (ltN (namesOf L)) (firsts (namesOf L)) := rfl
      have hnl : (namesB L).length = no := by rw [hnb, srt_length, hno]
      have HNL := Lib.hid hnl
      have HC0 := HC.out
      have hsz := HB.out.size
      rcases own_form HO.out with ⟨hv, h0, hx⟩ | ⟨g, cap, cur, hv, hbase, hgl, _⟩
      · injection hv with hA hN hC
        subst hA hN hC
        have hnil : namesB L = [] := List.eq_nil_of_length_eq_zero hnl
        have HNIL := Lib.hid hnil
        have K := Lib.hid (Tryz.slices_SortFunc_none (α := Nat) none 0 (.func (.func 14) #[] #[.pointer (some ⟨w.heap.size + 1, 0, none⟩)]) wr)
        clear hfn hfm hfl2 hno hnb hnl h0 hx hnil HC0 hml
        go_wp2_with fail
        refine K.out.mono ?_
        rintro e w2 ⟨rfl, rfl⟩
        go_wp2
        go_ret
        refine ⟨none, 0, by rw [HNIL.out]; rfl, ?_, HB.out⟩
        rw [HNIL.out]
        exact World.ownsRow_nil _ _ _ _
      · injection hv with hA _ hC
        subst hA hC
        have ho := HO.out
        rw [hno] at ho
        have K := Lib.hid (sortN_any (namesOf L) (by omega) (firsts (namesOf L)) (fun x hx => hml x ((hfm x).1 hx)) (by omega) wr (w.heap.size + 2) g cv w.heap.size L.length (w.heap.size + 1) HM.out (by omega) HC.out (by omega) ho)
        rw [← hno] at K
        clear hfn hfm hfl2 hno hnl ho HC0 hml
        go_wp2_with fail
        refine K.out.mono ?_
        rintro e w2 ⟨rfl, ho2, hk2⟩
        have HO2 := Lib.hid ho2
        have HK2 := Lib.hid hk2
        clear ho2 hk2 hnb
        go_wp2
        go_ret
        refine ⟨some ⟨g, 0, none⟩, cv, by rw [HNL.out]; rfl, ?_, HB.out.trans (HK2.out.below (B := w.heap.size) hsz (fun i hi e => by omega))⟩
        rw [HNL.out]
        exact own_less HO2.out (by omega)
end Go.Proofs.YtgkiffodnofggaaGreatDoor
