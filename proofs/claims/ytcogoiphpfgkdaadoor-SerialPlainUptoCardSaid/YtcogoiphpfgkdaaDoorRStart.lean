/-
  The contracts of the reference's Escape, Start, End.
-/
import Derived.Test.YtcogoiphpfgkdaaDoorRText
import Derived.Test.YtcogoiphpfgkdaaDoorStart
import Derived.Test.YtcogoiphpfgkdaaDoorRIn
namespace Go.Proofs.YtcogoiphpfgkdaaDoor
open Go.RowKit
set_option linter.unusedVariables false
set_option linter.unusedSimpArgs false

theorem pieces_rune (l : List UInt8) : ∀ at_, ∀ p ∈ pieces at_ l, p.r ≤ 2147483647 := by
  generalize hn : l.length = n
  induction n using Nat.strongRecOn generalizing l with
  | _ n ih =>
    intro at_ p hp
    cases l with
    | nil => rw [pieces_nil] at hp; simp at hp
    | cons c r =>
      rw [pieces_cons, List.mem_cons] at hp
      rcases hp with rfl | hp
      · unfold pcOf
        split
        · rename_i hg
          exact uVal_le c r (c :: r) 0 rfl hg
        · simp
      · have h := pcOf_size at_ c r
        exact ih _ (by simp at hn ⊢; omega) _ rfl _ p hp
theorem runesOf_le (l : List UInt8) : ∀ r ∈ runesOf l, r ≤ 2147483647 := by
  intro r hr
  unfold runesOf at hr
  obtain ⟨p, hp, rfl⟩ := List.mem_map.1 hr
  exact pieces_rune l 0 p hp
theorem rv_get (l : List Nat) (k : Nat) (r : Nat) (h : l[k]? = some r) : (rv l)[k]? = some (.int .i32 r) := by simp [rv, h]

set_option maxHeartbeats 1000000 in
set_option maxRecDepth 100000 in
theorem rEscape_any (attr : Bool) (l : List UInt8) (w : World) (hn : l.length ≤ 1073741824) :
    Calls Tryd.prog 40 #[.string (str l), .bool attr] w fun e w' => e = .returned (.string (str (escB attr l))) ∧ Below w.heap.size w w' := by
  obtain ⟨c, w2, hc, hcl, hb, hr, hz⟩ := conv_str l w
  have K := Lib.hid (rrunes_any _ _ _ c l w2 hr hn hcl (fun k e => by omega))
  have K2 := Lib.hid (fun r W (h : r ∈ runesOf l) => rRune_any r attr W (runesOf_le l r h))
  have hl2 := hb.size
  have B := Lib.hid hb
  have hrl := runesOf_length l
  have hle := escB_le attr l
  obtain ⟨R, hR⟩ : ∃ R, escB attr l = R := ⟨_, rfl⟩
  rw [hR] at hle ⊢
  unfold escB at hR
  generalize runesOf l = rs at K K2 hrl hR
  have HR := Lib.hid hR
  clear hb hr hR hz
  go_enter Tryd.func40, Tryd.ntmps40
  go_wp2_with fail
  refine K.out.mono ?_
  rintro e w1 ⟨v, rfl, ho, hb1⟩
  obtain ⟨A1, c1, rfl, _, _⟩ := own_slice ho
  have HO := Lib.hid (Row.of_own ho)
  have B1 := Lib.hid (B.out.trans (hb1.mono hl2))
  have l1 := hb1.size
  clear ho hb1 hc K B
  go_wp2_with fail
  go_loopw [5, 12] (fun v i wr => ∃ (k : Nat) (acc : List UInt8), k ≤ rs.length ∧ i = .int .i64 k ∧ v = .string (str acc) ∧ Hid (Below w1.heap.size w1 wr) ∧ Hid (acc ++ (rs.drop k).flatMap (escR attr) = R)) (fun _ i _ => rs.length - (intOf i).toNat)
  case atStart => exact ⟨0, [], Nat.zero_le _, rfl, rfl, Below.refl _ _, HR.out⟩
  case round =>
    obtain ⟨k, acc, hk, rfl, rfl, HW, HK⟩ := hrel
    by_cases hlt : k < rs.length
    · obtain ⟨ad, u, rfl, _, hu, x0⟩ := (HO.out.behind HW.out).at_ hlt
      obtain ⟨r, hr⟩ : ∃ r, rs[k]? = some r := ⟨rs[k], List.getElem?_eq_getElem hlt⟩
      rw [rv_get _ _ _ hr] at hu
      obtain rfl := Option.some.inj hu
      have hmem := List.mem_of_getElem? hr
      have hdk : rs.drop k = r :: rs.drop (k + 1) := by
        rw [List.drop_eq_getElem_cons hlt]
        rw [List.getElem?_eq_getElem hlt] at hr
        rw [Option.some.inj hr]
      have hv := HK.out
      rw [hdk, List.flatMap_cons, ← List.append_assoc] at hv
      have K3 := Lib.hid (fun W => K2.out r W hmem)
      obtain ⟨es, hes⟩ : ∃ es, escR attr r = es := ⟨_, rfl⟩
      obtain ⟨ac2, hac⟩ : ∃ ac2, acc ++ es = ac2 := ⟨_, rfl⟩
      rw [hes] at K3 hv
      rw [hac] at hv
      have e4 : str acc ++ str es = str ac2 := by rw [← hac]; exact str_append _ _
      have hl4 : acc.length + es.length ≤ 6442450944 := by
        have h := congrArg List.length hv
        rw [← hac, List.length_append, List.length_append] at h
        omega
      have z1 : (str acc).size ≤ 6442450944 := by rw [str_size]; omega
      have z2 : (str es).size ≤ 6442450944 := by rw [str_size]; omega
      have HV := Lib.hid hv
      have i0 : (0 : Int) ≤ (k : Int) := by omega
      have i1 : (k : Int) < (rs.length : Int) := by omega
      have lw := HW.out.size
      clear hu hr hmem hdk hv HK hes hac hl4
      go_wp2_with (go_at_call 66; refine (K3.out _).mono ?_; rintro e w3 ⟨rfl, hb3⟩)
      go_roundw
      case rel => exact ⟨k + 1, ac2, by omega, by go_num, rfl, HW.out.trans (hb3.mono lw), HV.out⟩
      case measure => simp [intOf]; omega
    · have hfin : acc = R := by
        have := HK.out
        rw [List.drop_eq_nil_of_le (by omega), List.flatMap_nil, List.append_nil] at this
        exact this
      subst hfin
      go_wp2
      go_ret
      exact ⟨rfl, B1.out.trans (HW.out.mono (by have := B1.out.size; omega))⟩
set_option maxHeartbeats 1000000 in
set_option maxRecDepth 100000 in
theorem rStart_any (S : Nat → Prop) (nm tx : List UInt8) (ats : List At) (Aa Ak : Option Addr) (ca nk ck : Nat) (w : World) (hr : Row S w 2 Aa ats.length (ats.flatMap atCells)) (hS : ∀ k, S k → k < w.heap.size)
    (hn : nm.length + awt ats ≤ 1048576) :
    Calls Tryd.prog 24 #[.agg #[.string (str nm), .string (str tx), .slice Aa ats.length ca, .slice Ak nk ck]] w fun e w' => e = .returned (.string (str (startB nm ats))) ∧ Below w.heap.size w w' := by
  have HR := Lib.hid hr
  have HS := Lib.hid hS
  have hal := awt_length ats
  clear hr hS
  have e1 : (⟨#[60]⟩ : ByteArray) ++ str nm = str (60 :: nm) := str_append [60] nm
  have z1 : (str nm).size ≤ 1048576 := by rw [str_size]; omega
  have hRl : (startB nm ats).length ≤ 7 * 1048576 + 2 := by have := startB_le nm ats; omega
  obtain ⟨R, hR⟩ : ∃ R, (60 :: nm) ++ ats.flatMap attrText = R := ⟨_, rfl⟩
  have hst : startB nm ats = R ++ [62] := by rw [← hR]; simp [startB]
  rw [hst] at hRl ⊢
  have HRR := Lib.hid hR
  clear hR hst
  go_enter Tryd.func24, Tryd.ntmps24
  go_wp2_with fail
  obtain ⟨W1, hW1⟩ : ∃ W1, (w.alloc (.cells #[.string (str nm), .string (str tx), .slice Aa ats.length ca, .slice Ak nk ck] 41)) = W1 := ⟨_, rfl⟩
  rw [hW1]
  have B1 : Below w.heap.size w W1 := by rw [← hW1]; exact (Below.refl _ w).alloc (Nat.le_refl _) _
  have HW1 := Lib.hid B1
  clear hW1 B1
  go_loopw [3, 12] (fun v i wr => ∃ (k : Nat) (acc : List UInt8), k ≤ ats.length ∧ i = .int .i64 k ∧ v = .string (str acc) ∧ Hid (Below w.heap.size w wr) ∧ Hid (acc ++ (ats.drop k).flatMap attrText = R)) (fun _ i _ => ats.length - (intOf i).toNat)
  case atStart => exact ⟨0, _, Nat.zero_le _, rfl, rfl, HW1, HRR.out⟩
  case round =>
    clear HW1 e1 z1
    obtain ⟨k, acc, hk, rfl, rfl, HW, HK⟩ := hrel
    rw [List.length_append] at hRl
    by_cases hlt : k < ats.length
    · obtain ⟨a, ha⟩ : ∃ a, ats[k]? = some a := ⟨ats[k], List.getElem?_eq_getElem hlt⟩
      obtain ⟨ad, rfl, hsa, hsa2, c0, cj⟩ := (HR.out.behind HW.out).walk atCells_length (by omega) rfl ha
      have x0 := c0 _ rfl
      have x1 := cj 0 _ rfl
      have hdk : ats.drop k = a :: ats.drop (k + 1) := by
        rw [List.drop_eq_getElem_cons hlt]
        rw [List.getElem?_eq_getElem hlt] at ha
        rw [Option.some.inj ha]
      have hmem := List.mem_of_getElem? ha
      have hwa := awt_mem hmem
      have hv := HK.out
      rw [hdk, List.flatMap_cons, ← List.append_assoc] at hv
      have hal1 : acc.length + (attrText a).length ≤ 7 * 1048576 + 1 := by
        have := congrArg List.length hv
        rw [List.length_append, List.length_append] at this
        simp at hRl
        omega
      have i0 : (0 : Int) ≤ (k : Int) := by omega
      have i1 : (k : Int) < (ats.length : Int) := by omega
      have lw := HW.out.size
      have hblt := HS.out _ hsa
      have hblt2 := HS.out _ hsa2
      have hel := escB_le true a.value
      obtain ⟨y6, hy6⟩ : ∃ y, acc ++ attrText a = y := ⟨_, rfl⟩
      rw [hy6] at hv
      have HVV := Lib.hid hv
      clear c0 cj ha hdk hv HK hmem
      go_wp2_with fail
      obtain ⟨W1, hW1⟩ : ∃ W1, wr.alloc (.cells #[.string (str a.name), .string (str a.value)] 63) = W1 := ⟨_, rfl⟩
      rw [hW1]
      have hb1 : Blk W1 wr.heap.size 63 #[.string (str a.name), .string (str a.value)] := by rw [← hW1]; exact Blk.new wr _ _
      have B1 : Below wr.heap.size wr W1 := by rw [← hW1]; exact (Below.refl _ wr).alloc (Nat.le_refl _) _
      have HW1 := Lib.hid (HW.out.trans (B1.mono lw))
      have hl1 := hb1.lt
      have b0 := hb1.cell 0
      have b1 := hb1.cell 1
      simp only [List.getElem?_toArray, List.getElem?_cons_zero, List.getElem?_cons_succ] at b0 b1
      clear hW1 HW x0 x1
      obtain ⟨es, hes⟩ : ∃ es, escB true a.value = es := ⟨_, rfl⟩
      obtain ⟨y2, hy2⟩ : ∃ y, [32] ++ a.name = y := ⟨_, rfl⟩
      obtain ⟨y3, hy3⟩ : ∃ y, y2 ++ [61, 34] = y := ⟨_, rfl⟩
      obtain ⟨y4, hy4⟩ : ∃ y, y3 ++ es = y := ⟨_, rfl⟩
      obtain ⟨y5, hy5⟩ : ∃ y, y4 ++ [34] = y := ⟨_, rfl⟩
      have hy : y5 = attrText a := by rw [← hy5, ← hy4, ← hy3, ← hy2, ← hes]; rfl
      have e2 : (⟨#[32]⟩ : ByteArray) ++ str a.name = str y2 := by rw [← hy2]; exact str_append [32] a.name
      have e3 : str y2 ++ (⟨#[61, 34]⟩ : ByteArray) = str y3 := by rw [← hy3]; exact str_append _ [61, 34]
      have e4 : str y3 ++ str es = str y4 := by rw [← hy4]; exact str_append _ _
      have e5 : str y4 ++ (⟨#[34]⟩ : ByteArray) = str y5 := by rw [← hy5]; exact str_append _ [34]
      have e6 : str acc ++ str y5 = str y6 := by rw [← hy6, ← hy]; exact str_append _ _
      have z2 : (str a.name).size ≤ 1048576 := by rw [str_size]; omega
      have z3 : (str y2).size ≤ 1048577 := by rw [str_size, ← hy2]; simp; omega
      have z4 : (str y3).size ≤ 1048579 := by rw [str_size, ← hy3, ← hy2]; simp; omega
      have z5 : (str es).size ≤ 6 * 1048576 := by rw [str_size, ← hes]; omega
      have z6 : (str y4).size ≤ 7 * 1048576 + 4 := by rw [str_size, ← hy4, ← hy3, ← hy2, ← hes]; simp; omega
      have z7 : (str y5).size ≤ 7 * 1048576 + 5 := by rw [str_size, hy]; omega
      have z8 : (str acc).size ≤ 7 * 1048576 + 5 := by rw [str_size]; omega
      have K1 := Lib.hid (fun W => rEscape_any true a.value W (by omega))
      rw [hes] at K1
      clear hy hy2 hy3 hy4 hy5 hes hy6 hel hwa hal1
      refine wp_region_plan (S := fun w' => w'.cell? ⟨wr.heap.size, 0, none⟩ = some (.string (str a.name)) ∧ w'.cell? ⟨wr.heap.size, 1, none⟩ = some (.string (str a.value))) 12
        [(0, true), (1, true), (2, true), (3, true), (4, true), (5, true), (6, true), (7, false), (8, true), (9, true), (10, true), (11, true)] (by kernel_rfl) (by kernel_rfl) ?_ (fun hHeld => ?_)
      · exact ⟨b0, b1⟩
      iterate 7 (refine plan_take (v := ?_) rfl (by assumption) rfl (fun _ _ _ h => h) ?_ ?_; rotate_left; (· (intro w hSw; (try dsimp only at hSw); go_simp; first | with_reducible rfl | (rw [if_neg (by omega)]))); all_goals (simp only [Act.put, List.setIfInBounds_toArray, List.set_cons_zero, List.set_cons_succ]))
      refine plan_op rfl (by decide) (fun K hK => ?_)
      go_simp
      refine (K1.out _).mono ?_
      rintro e w2 ⟨rfl, hb2⟩
      have D2 : Below W1.heap.size W1 w2 := ((Below.refl _ W1).drew).trans hb2
      have q0 := (D2.cell (p := ⟨wr.heap.size, 0, none⟩) hl1).trans b0
      have q1 := (D2.cell (p := ⟨wr.heap.size, 1, none⟩) hl1).trans b1
      have HW2 := Lib.hid (HW1.out.trans (D2.mono HW1.out.size))
      clear hb2 D2 b0 b1 HW1 K1 hb1
      refine hK.out _ _ ⟨q0, q1⟩ (fun hHeld => ?_)
      clear hK K
      try simp only [Act.put, List.setIfInBounds_toArray, List.set_cons_zero, List.set_cons_succ]
      iterate 4 (refine plan_take (v := ?_) rfl (by assumption) rfl (fun _ _ _ h => h) ?_ ?_; rotate_left; (· (intro w hSw; (try dsimp only at hSw); go_simp; first | with_reducible rfl | (rw [if_neg (by omega)]))); all_goals (simp only [Act.put, List.setIfInBounds_toArray, List.set_cons_zero, List.set_cons_succ]))
      simp only [wpPlan]
      go_wp2
      go_roundw
      case rel => exact ⟨k + 1, _, by omega, by go_num, rfl, HW2.out, HVV.out⟩
      case measure => simp [intOf]; omega
    · have hfin : acc = R := by
        have := HK.out
        rw [List.drop_eq_nil_of_le (by omega), List.flatMap_nil, List.append_nil] at this
        exact this
      subst hfin
      have e1 : str acc ++ (⟨#[62]⟩ : ByteArray) = str (acc ++ [62]) := str_append _ [62]
      have z1 : (str acc).size ≤ 7 * 1048576 + 5 := by rw [str_size]; simp at hRl; omega
      go_wp2
      go_ret
      exact ⟨rfl, HW.out⟩
end Go.Proofs.YtcogoiphpfgkdaaDoor
