/-
  The contracts of token.Check of a start tag; of dom's text, void, may, Check.
  The contract of dom.Check.
-/
import Derived.Test.YtcogoiphpfgkdaaDoorNodesAll
import Derived.Test.YtcogoiphpfgkdaaDoorIn
namespace Go.Proofs.YtcogoiphpfgkdaaDoor
open Go.RowKit
set_option linter.unusedVariables false
set_option linter.unusedSimpArgs false

/-- A start tag, as a token. -/
abbrev startTok (nm : List UInt8) (A : Option Addr) (n c : Nat) : Value := .agg #[.int .i64 1, .string (str nm), .string (str []), .slice A n c, .bool false, .int .i64 0, .int .i64 0, .int .i64 0]
set_option maxHeartbeats 8000000 in
set_option maxRecDepth 100000 in
theorem tokenCheck_any (S : Nat → Prop) (A : Option Addr) (n c : Nat) (nm : List UInt8) (L : List At) (w : World) (hr : Row S w 2 A n (L.flatMap atCells)) (hl : L.length = n) (hn : n ≤ 1073741824) (hnm : nm.length ≤ 1073741824) (hS : ∀ k, S k → k < w.heap.size)
    (hb : ∀ a ∈ L, a.name.length ≤ 1073741824 ∧ a.value.length ≤ 1073741824) :
    Calls Tryd.prog 78 #[startTok nm A n c] w fun e w' => e = .returned (.int .i64 (if (nameB false nm && attrsB L) = true then 0 else 70)) ∧ Below w.heap.size w w' := by
  have K1 := Lib.hid (fun (W : World) => tname_any false nm W (by omega))
  have K2 := Lib.hid (fun (W : World) h (h2 : ∀ k, S k → k < W.heap.size) => tattrs_any S A n c L W h hl hn h2 hb)
  have HS := Lib.hid hS
  have HR := Lib.hid hr
  obtain ⟨nb, hnb⟩ : ∃ nb, nameB false nm = nb := ⟨_, rfl⟩
  obtain ⟨ab, hab⟩ : ∃ ab, attrsB L = ab := ⟨_, rfl⟩
  rw [hnb] at K1 ⊢
  rw [hab] at K2 ⊢
  clear hr hS hb hnb hab
  go_enter Tryd.func78, Tryd.ntmps78
  go_wp2_with fail
  obtain ⟨W1, hW1⟩ : ∃ W1, w.alloc (.cells #[.int .i64 1, .string (str nm), .string (str []), .slice A n c, .bool false, .int .i64 0, .int .i64 0, .int .i64 0] 106) = W1 := ⟨_, rfl⟩
  rw [hW1]
  have B1 := Lib.hid (show Below w.heap.size w W1 by rw [← hW1]; exact (Below.refl _ w).alloc (Nat.le_refl _) _)
  have hb1 : Blk W1 w.heap.size 106 #[.int .i64 1, .string (str nm), .string (str []), .slice A n c, .bool false, .int .i64 0, .int .i64 0, .int .i64 0] := by rw [← hW1]; exact Blk.new _ _ _
  clear hW1
  have l1 := B1.out.size
  have hl1 := hb1.lt
  refine (K1.out W1).mono ?_
  rintro e w2 ⟨rfl, hb2⟩
  have B2 := Lib.hid (B1.out.trans (hb2.mono l1))
  have y2 := hb1.below hb2 hl1
  have z1 := y2.cell 1
  have z2 := y2.cell 2
  have z3 := y2.cell 3
  simp only [List.getElem?_toArray, List.getElem?_cons_zero, List.getElem?_cons_succ] at z1 z2 z3
  have l2 := hb2.size
  clear hb2 hb1
  cases nb with
  | false =>
    go_wp2
    go_ret
    exact ⟨rfl, B2.out⟩
  | true =>
    cases ab with
    | true =>
      go_wp2_with (go_at_call 96; refine (K2.out w2 (HR.out.behind B2.out) (fun k hk => by have := HS.out k hk; omega)).mono ?_; rintro e w3 ⟨rfl, hb3⟩)
      go_ret
      exact ⟨rfl, B2.out.trans (hb3.mono (by omega))⟩
    | false =>
      go_wp2_with (go_at_call 96; refine (K2.out w2 (HR.out.behind B2.out) (fun k hk => by have := HS.out k hk; omega)).mono ?_; rintro e w3 ⟨rfl, hb3⟩)
      go_ret
      exact ⟨rfl, B2.out.trans (hb3.mono (by omega))⟩

set_option maxHeartbeats 4000000 in
theorem oneText_any (nm tx : List UInt8) (a k : Value) (w : World) (ha : ∃ A n c, a = .slice A n c) (hk : ∃ A n c, k = .slice A n c) :
    Calls Tryd.prog 76 #[.agg #[.string (str nm), .string (str tx), a, k]] w fun e w' => e = .returned (.bool (decide (nm = []))) ∧ Below w.heap.size w w' := by
  obtain ⟨A1, n1, c1, rfl⟩ := ha
  obtain ⟨A2, n2, c2, rfl⟩ := hk
  go_enter Tryd.func76, Tryd.ntmps76
  go_wp2
  go_ret
  exact ⟨retb (by rw [Bool.eq_iff_iff]; simp), (Below.refl _ w).alloc (Nat.le_refl _) _⟩
set_option maxHeartbeats 4000000 in
theorem oneVoid_any (nm tx : List UInt8) (a k : Value) (w : World) (ha : ∃ A n c, a = .slice A n c) (hk : ∃ A n c, k = .slice A n c) (hT : Tab w) :
    Calls Tryd.prog 79 #[.agg #[.string (str nm), .string (str tx), a, k]] w fun e w' => e = .returned (.bool (decide (nm ∈ setNames0))) ∧ Below w.heap.size w w' := by
  obtain ⟨A1, n1, c1, rfl⟩ := ha
  obtain ⟨A2, n2, c2, rfl⟩ := hk
  have B1 := Lib.hid ((Below.refl w.heap.size w).alloc (Nat.le_refl _) (.cells #[.string (str nm), .string (str tx), .slice A1 n1 c1, .slice A2 n2 c2] 78))
  have K := Lib.hid (in0_any nm _ (hT.behind B1.out))
  go_enter Tryd.func79, Tryd.ntmps79
  go_wp2_with (go_at_call 67; refine K.out.mono ?_; rintro e w1 ⟨rfl, hb⟩)
  go_ret
  exact ⟨rfl, B1.out.trans (hb.mono (by simp))⟩
/-- What Check says of trees. -/
def ChecksAs (S : Nat → Prop) (L : List Nd) : Prop := ∀ (W : World) (A : Option Addr) (c : Nat), Ns S W A L.length L → Tab W → (∀ k, S k → k < W.heap.size) →
  Calls Tryd.prog 31 #[.slice A L.length c] W fun e w' => e = .returned (.int .i64 (if mayB L = true then 0 else 210)) ∧ Below W.heap.size W w'

set_option maxHeartbeats 600000 in
set_option maxRecDepth 100000 in
theorem may_any (S : Nat → Prop) (d : Nd) (w : World) (Aa Ak : Option Addr) (ca ck : Nat) (hr : Row S w 2 Aa d.attrs.length (d.attrs.flatMap atCells)) (hk : Ns S w Ak d.kids.length d.kids) (hT : Tab w) (hS : ∀ k, S k → k < w.heap.size)
    (hw : 1 + d.name.length + d.text.length + awt d.attrs + wt d.kids ≤ 1048576) (IH : ChecksAs S d.kids) :
    Calls Tryd.prog 53 #[.agg #[.string (str d.name), .string (str d.text), .slice Aa d.attrs.length ca, .slice Ak d.kids.length ck]] w fun e w' => e = .returned (.bool (mayOne d (mayB d.kids))) ∧ Below w.heap.size w w' := by
  obtain ⟨R, hR⟩ : ∃ R, mayOne d (mayB d.kids) = R := ⟨_, rfl⟩
  rw [hR]
  obtain ⟨nm, tx, ats, kids⟩ := d
  simp only [Nd.name, Nd.text, Nd.attrs, Nd.kids] at hr hk hw IH hR ⊢
  have hR2 : mayF nm tx ats kids (mayB kids) = R := hR
  have hRt : nm = [] → R = (!tx.isEmpty && validB tx && ats.isEmpty && kids.isEmpty) := fun h => by rw [← hR2, mayF_text h]
  have hRe : nm ≠ [] → R = (tx.isEmpty && (nameB false nm && attrsB ats) && !(decide (nm ∈ setNames0) && !kids.isEmpty) && mayB kids) := fun h => by rw [← hR2, mayF_elem h]
  clear hR hR2
  have HRT := Lib.hid hRt
  have HRE := Lib.hid hRe
  clear hRt hRe
  have hal := awt_length ats
  have hkl := wt_length kids
  have ham : ∀ a ∈ ats, a.name.length ≤ 1073741824 ∧ a.value.length ≤ 1073741824 := fun a ha => by have := awt_mem ha; omega
  obtain ⟨kb, hkb⟩ : ∃ kb, mayB kids = kb := ⟨_, rfl⟩
  have HA := Lib.hid hr
  have HK := Lib.hid hk
  have HT := Lib.hid hT
  have HS := Lib.hid hS
  have HIH := Lib.hid IH
  have HKB := Lib.hid hkb
  have HAM := Lib.hid ham
  clear hr hk hT hS IH hkb ham
  obtain ⟨W1, hW1⟩ : ∃ W1, w.alloc (.cells #[.string (str nm), .string (str tx), .slice Aa ats.length ca, .slice Ak kids.length ck] 78) = W1 := ⟨_, rfl⟩
  have B1 := Lib.hid (show Below w.heap.size w W1 by rw [← hW1]; exact (Below.refl _ w).alloc (Nat.le_refl _) _)
  have hb1 : Blk W1 w.heap.size 78 #[.string (str nm), .string (str tx), .slice Aa ats.length ca, .slice Ak kids.length ck] := by rw [← hW1]; exact Blk.new _ _ _
  have hl1 := hb1.lt
  have l1 := B1.out.size
  have a0 := hb1.cell 0
  have a1 := hb1.cell 1
  have a2 := hb1.cell 2
  have a3 := hb1.cell 3
  simp only [List.getElem?_toArray, List.getElem?_cons_zero, List.getElem?_cons_succ] at a0 a1 a2 a3
  by_cases hnm : nm = []
  · subst hnm
    go_enter Tryd.func53, Tryd.ntmps53
    go_wp2_with fail
    refine (oneText_any [] tx _ _ W1 ⟨_, _, _, rfl⟩ ⟨_, _, _, rfl⟩).mono ?_
    rintro e w2 ⟨rfl, hb2⟩
    have y2 := hb1.below hb2 hl1
    have z1 := y2.cell 1
    have z2 := y2.cell 2
    have z3 := y2.cell 3
    simp only [List.getElem?_toArray, List.getElem?_cons_zero, List.getElem?_cons_succ] at z1 z2 z3
    have B2 := Lib.hid (B1.out.trans (hb2.mono l1))
    have l2 := hb2.size
    have dtrue : decide (([] : List UInt8) = []) = true := rfl
    clear hb2 hb1 hW1 a0 a1 a2 a3
    have HR := Lib.hid (HRT.out (by simp))
    by_cases htx : tx = []
    · subst htx
      go_wp2
      go_ret
      exact ⟨retb (by rw [HR.out]; rfl), B2.out⟩
    · have q1 : (tx == []) = false := by simpa using htx
      obtain ⟨c, w3, hcv, hcl, hb3, hrow, hsz⟩ := conv_str tx w2
      have y3 := y2.below hb3 y2.lt
      have K := Lib.hid (utfValid_any _ _ _ c tx w3 hrow (by omega) hcl)
      have u2 := y3.cell 2
      have u3 := y3.cell 3
      simp only [List.getElem?_toArray, List.getElem?_cons_zero, List.getElem?_cons_succ] at u2 u3
      have B3 := Lib.hid (B2.out.trans (hb3.mono (by omega)))
      have l3 := hb3.size
      have hte : tx.isEmpty = false := by simpa using htx
      have HR2 := Lib.hid HR.out
      have hr2 := HR.out
      rw [hte] at hr2
      have HRR := Lib.hid hr2
      clear hb3 hrow hr2 HR HR2 hte htx
      obtain ⟨vb, hvb⟩ : ∃ vb, validB tx = vb := ⟨_, rfl⟩
      rw [hvb] at K HRR
      clear hvb
      cases vb with
      | false =>
        go_wp2_with (go_at_call 77; refine K.out.mono ?_; rintro e w4 ⟨rfl, q, rfl⟩)
        go_ret
        exact ⟨retb (by rw [HRR.out]; rfl), below_drewN B3.out q⟩
      | true =>
        by_cases hat : ats.length = 0
        · have hae : ats.isEmpty = true := by simpa [List.isEmpty_iff_length_eq_zero] using hat
          have q2 : ((ats.length : Int) == 0) = true := by simpa using hat
          by_cases hkt : kids.length = 0
          · have hke : kids.isEmpty = true := by simpa [List.isEmpty_iff_length_eq_zero] using hkt
            have q3 : ((kids.length : Int) == 0) = true := by simpa using hkt
            have hRt : R = true := by rw [HRR.out, hae, hke]; rfl
            subst hRt
            clear hae hke
            go_wp2_with (go_at_call 77; refine K.out.mono ?_; rintro e w4 ⟨rfl, q, rfl⟩)
            go_ret
            exact ⟨rfl, below_drewN B3.out q⟩
          · have hke : kids.isEmpty = false := by simpa [List.isEmpty_iff_length_eq_zero] using hkt
            have q3 : ((kids.length : Int) == 0) = false := by simpa using hkt
            have hRt : R = false := by rw [HRR.out, hae, hke]; rfl
            subst hRt
            clear hae hke
            go_wp2_with (go_at_call 77; refine K.out.mono ?_; rintro e w4 ⟨rfl, q, rfl⟩)
            go_ret
            exact ⟨rfl, below_drewN B3.out q⟩
        · have hae : ats.isEmpty = false := by simpa [List.isEmpty_iff_length_eq_zero] using hat
          have q2 : ((ats.length : Int) == 0) = false := by simpa using hat
          have hRt : R = false := by rw [HRR.out, hae]; rfl
          subst hRt
          clear hae
          go_wp2_with (go_at_call 77; refine K.out.mono ?_; rintro e w4 ⟨rfl, q, rfl⟩)
          go_ret
          exact ⟨rfl, below_drewN B3.out q⟩
  · have HR := Lib.hid (HRE.out hnm)
    have dfalse : decide (nm = []) = false := by simpa using hnm
    go_enter Tryd.func53, Tryd.ntmps53
    go_wp2_with fail
    refine (oneText_any nm tx _ _ W1 ⟨_, _, _, rfl⟩ ⟨_, _, _, rfl⟩).mono ?_
    rintro e w2 ⟨rfl, hb2⟩
    rw [dfalse]
    have y2 := hb1.below hb2 hl1
    have z0 := y2.cell 0
    have z1 := y2.cell 1
    have z2 := y2.cell 2
    have z3 := y2.cell 3
    simp only [List.getElem?_toArray, List.getElem?_cons_zero, List.getElem?_cons_succ] at z0 z1 z2 z3
    have B2 := Lib.hid (B1.out.trans (hb2.mono l1))
    have l2 := hb2.size
    have y2l := y2.lt
    clear hb2 hb1 hW1 a0 a1 a2 a3
    by_cases htx : tx = []
    · subst htx
      obtain ⟨tb, htb⟩ : ∃ tb, (nameB false nm && attrsB ats) = tb := ⟨_, rfl⟩
      obtain ⟨vd, hvd⟩ : ∃ vd, decide (nm ∈ setNames0) = vd := ⟨_, rfl⟩
      have hr2 := HR.out
      rw [htb, hvd, HKB.out] at hr2
      have HRR := Lib.hid hr2
      clear hr2 HR
      go_wp2_with fail
      change Calls Tryd.prog _ #[startTok nm Aa ats.length ca] (w2.alloc (.cells #[.int .i64 1, .string (str nm), .string (str []), .slice Aa ats.length ca, .bool false, .int .i64 0, .int .i64 0, .int .i64 0] 106)) _
      obtain ⟨W3, hW3⟩ : ∃ W3, w2.alloc (.cells #[.int .i64 1, .string (str nm), .string (str []), .slice Aa ats.length ca, .bool false, .int .i64 0, .int .i64 0, .int .i64 0] 106) = W3 := ⟨_, rfl⟩
      rw [hW3]
      have hb23 : Below w2.heap.size w2 W3 := by rw [← hW3]; exact (Below.refl _ w2).alloc (Nat.le_refl _) _
      have ht3 : Blk W3 w2.heap.size 106 #[.int .i64 1, .string (str nm), .string (str []), .slice Aa ats.length ca, .bool false, .int .i64 0, .int .i64 0, .int .i64 0] := by rw [← hW3]; exact Blk.new _ _ _
      have y3 := y2.below hb23 y2l
      have B3 := Lib.hid (B2.out.trans (hb23.mono (by omega)))
      have l3 := hb23.size
      have K := Lib.hid (tokenCheck_any S Aa ats.length ca nm ats W3 (HA.out.behind B3.out) rfl (by omega) (by omega) (fun k hk => by have := HS.out k hk; omega) HAM.out)
      rw [htb] at K
      have t0 := ht3.cell 0
      have t1 := ht3.cell 1
      have t2 := ht3.cell 2
      have t3 := ht3.cell 3
      have t4 := ht3.cell 4
      have t5 := ht3.cell 5
      have t6 := ht3.cell 6
      have t7 := ht3.cell 7
      have u0 := y3.cell 0
      have u1 := y3.cell 1
      have u2 := y3.cell 2
      have u3 := y3.cell 3
      have HY3 := Lib.hid y3
      have y3l := y3.lt
      simp only [List.getElem?_toArray, List.getElem?_cons_zero, List.getElem?_cons_succ] at t0 t1 t2 t3 t4 t5 t6 t7 u0 u1 u2 u3
      clear hb23 ht3 htb y2 y3 hW3 z0 z1 z2 z3
      refine K.out.mono ?_
      rintro e w4 ⟨rfl, hb4⟩
      have B4 := Lib.hid (B3.out.trans (hb4.mono (by omega)))
      have l4 := hb4.size
      have y4 := HY3.out.below hb4 y3l
      have v0 := y4.cell 0
      have v1 := y4.cell 1
      have v2 := y4.cell 2
      have v3 := y4.cell 3
      simp only [List.getElem?_toArray, List.getElem?_cons_zero, List.getElem?_cons_succ] at v0 v1 v2 v3
      have y4l := y4.lt
      clear hb4 K t0 t1 t2 t3 t4 t5 t6 t7 u0 u1 u2 u3
      cases tb with
      | false =>
        simp only [Bool.false_eq_true, if_false]
        have hRt : R = false := by rw [HRR.out]; simp
        subst hRt
        go_wp2
        go_ret
        exact ⟨rfl, B4.out⟩
      | true =>
        simp only [if_true]
        have KV := Lib.hid (oneVoid_any nm [] (.slice Aa ats.length ca) (.slice Ak kids.length ck) w4 ⟨_, _, _, rfl⟩ ⟨_, _, _, rfl⟩ (HT.out.behind B4.out))
        rw [hvd] at KV
        clear hvd
        go_wp2_with fail
        refine KV.out.mono ?_
        rintro e w5 ⟨rfl, hb5⟩
        have B5 := Lib.hid (B4.out.trans (hb5.mono (by omega)))
        have l5 := hb5.size
        have y5 := y4.below hb5 y4l
        have s3 := y5.cell 3
        simp only [List.getElem?_toArray, List.getElem?_cons_zero, List.getElem?_cons_succ] at s3
        clear hb5 KV v0 v1 v2 v3 y4 y5
        by_cases hke : kids.length = 0
        · have hki : kids.isEmpty = true := by simpa [List.isEmpty_iff_length_eq_zero] using hke
          have d0 : decide ((0 : Int) < (kids.length : Int)) = false := decide_eq_false (by omega)
          have d1 : decide (0 < kids.length) = false := decide_eq_false (by omega)
          have hr2 := HRR.out
          rw [hki] at hr2
          have HRR2 := Lib.hid hr2
          clear hki hr2 HRR hke
          have KI := Lib.hid (HIH.out w5 Ak ck (HK.out.behind B5.out) (HT.out.behind B5.out) (fun k hk => by have := HS.out k hk; omega))
          rw [HKB.out] at KI
          cases vd <;>
            (go_wp2_with (go_at_call 31; refine KI.out.mono ?_; rintro e w6 ⟨rfl, hb6⟩; cases kb <;> simp only [Bool.false_eq_true, if_false, if_true]))
          all_goals
            go_ret
            exact ⟨retb (by rw [HRR2.out]; rfl), B5.out.trans (hb6.mono (by omega))⟩
        · have hki : kids.isEmpty = false := by simpa [List.isEmpty_iff_length_eq_zero] using hke
          have d0 : decide ((0 : Int) < (kids.length : Int)) = true := decide_eq_true (by omega)
          have d1 : decide (0 < kids.length) = true := decide_eq_true (by omega)
          have hr2 := HRR.out
          rw [hki] at hr2
          have HRR2 := Lib.hid hr2
          clear hki hr2 HRR hke
          cases vd with
          | true =>
            go_wp2
            go_ret
            exact ⟨retb (by rw [HRR2.out]; rfl), B5.out⟩
          | false =>
            have KI := Lib.hid (HIH.out w5 Ak ck (HK.out.behind B5.out) (HT.out.behind B5.out) (fun k hk => by have := HS.out k hk; omega))
            rw [HKB.out] at KI
            go_wp2_with (go_at_call 31; refine KI.out.mono ?_; rintro e w6 ⟨rfl, hb6⟩; cases kb <;> simp only [Bool.false_eq_true, if_false, if_true])
            all_goals
              go_ret
              exact ⟨retb (by rw [HRR2.out]; rfl), B5.out.trans (hb6.mono (by omega))⟩
    · have q1 : (tx == []) = false := by simpa using htx
      have hte : tx.isEmpty = false := by simpa using htx
      have hRt : R = false := by rw [HR.out, hte]; rfl
      subst hRt
      clear hte
      go_wp2
      go_ret
      exact ⟨rfl, B2.out.alloc (by omega) _⟩
end Go.Proofs.YtcogoiphpfgkdaaDoor
namespace Go.Proofs.YtcogoiphpfgkdaaDoor
open Go.RowKit
set_option linter.unusedVariables false
set_option linter.unusedSimpArgs false

set_option maxHeartbeats 1000000 in
set_option maxRecDepth 100000 in
theorem check_any (S : Nat → Prop) (L : List Nd) : wt L ≤ 1048576 → ChecksAs S L := by
  induction L using nds_ind with
  | _ L IH =>
  intro hw W A c hN hT hS
  obtain ⟨R, hR⟩ : ∃ R, mayB L = R := ⟨_, rfl⟩
  rw [hR]
  have hll := wt_length L
  have HIH := Lib.hid IH
  have HN := Lib.hid hN
  have HT := Lib.hid hT
  have HS := Lib.hid hS
  have HR := Lib.hid hR
  have HW := Lib.hid (fun d (h : d ∈ L) => wt_mem h)
  clear IH hN hT hS hR
  go_enter Tryd.func31, Tryd.ntmps31
  go_wp2
  go_loopw [7] (fun i wr => ∃ k : Nat, k ≤ L.length ∧ i = .int .i64 k ∧ Hid (Below W.heap.size W wr) ∧ Hid (mayB (L.drop k) = R)) (fun i _ => L.length - (intOf i).toNat)
  case atStart => exact ⟨0, Nat.zero_le _, rfl, Below.refl _ _, HR.out⟩
  case round =>
    obtain ⟨k, hk, rfl, HB, HK⟩ := hrel
    by_cases hlt : k < L.length
    · obtain ⟨d, hd⟩ : ∃ d, L[k]? = some d := ⟨L[k], List.getElem?_eq_getElem hlt⟩
      have hmem := List.mem_of_getElem? hd
      have hwd := HW.out d hmem
      obtain ⟨ad, Aa, ca, Ak, ck, rfl, hsa, hsb, c0, c1, c2, c3, hra, hnk⟩ := (HN.out.behind HB.out).get hd
      have hdk : L.drop k = d :: L.drop (k + 1) := by
        rw [List.drop_eq_getElem_cons hlt]
        rw [List.getElem?_eq_getElem hlt] at hd
        rw [Option.some.inj hd]
      have hv := HK.out
      rw [hdk, mayB_cons] at hv
      have HV := Lib.hid hv
      have lb := HB.out.size
      have hbl := HS.out _ hsa
      have hbl2 := HS.out _ hsb
      have i0 : (0 : Int) ≤ (k : Int) := by omega
      have i1 : (k : Int) < (L.length : Int) := by omega
      have IHd := Lib.hid (HIH.out d hmem (by omega))
      have HRA := Lib.hid hra
      have HNK := Lib.hid hnk
      clear hv HK hdk hd hmem hra hnk
      go_wp2_with fail
      obtain ⟨W1, hW1⟩ : ∃ W1, wr.alloc (.cells #[.string (str d.name), .string (str d.text), .slice Aa d.attrs.length ca, .slice Ak d.kids.length ck] 41) = W1 := ⟨_, rfl⟩
      rw [hW1]
      have hb1 : Below wr.heap.size wr W1 := by rw [← hW1]; exact (Below.refl _ wr).alloc (Nat.le_refl _) _
      have B1 := Lib.hid (HB.out.trans (hb1.mono lb))
      have l1 := hb1.size
      obtain ⟨mb, hmb⟩ : ∃ mb, mayOne d (mayB d.kids) = mb := ⟨_, rfl⟩
      have hm := may_any S d W1 Aa Ak ca ck (HRA.out.behind hb1) (HNK.out.behind hb1) (HT.out.behind B1.out) (fun j hj => by have := HS.out j hj; omega) (by omega) IHd.out
      rw [hmb] at hm
      have hv := HV.out
      rw [hmb] at hv
      have KM := Lib.hid hm
      have HVV := Lib.hid hv
      clear hm hv hmb HV IHd HRA HNK hb1 c0 c1 c2 c3 hW1
      refine KM.out.mono ?_
      rintro e w2 ⟨rfl, hb2⟩
      have B2 := Lib.hid (B1.out.trans (hb2.mono (by omega)))
      clear hb2
      cases mb with
      | true =>
        go_wp2
        go_roundw
        case rel => exact ⟨k + 1, by omega, by go_num, B2.out, by have := HVV.out; rw [Bool.true_and] at this; exact this⟩
        case measure => simp [intOf]; omega
      | false =>
        have hRf : R = false := by rw [← HVV.out]; rfl
        subst hRf
        go_wp2
        go_ret
        exact ⟨rfl, B2.out⟩
    · have hfin : R = true := by
        have := HK.out
        rw [List.drop_eq_nil_of_le (by omega), mayB_nil] at this
        exact this.symm
      subst hfin
      go_wp2
      go_ret
      exact ⟨rfl, HB.out⟩
end Go.Proofs.YtcogoiphpfgkdaaDoor
