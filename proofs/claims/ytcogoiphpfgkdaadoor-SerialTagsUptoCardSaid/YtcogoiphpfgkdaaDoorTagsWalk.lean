/-
  SerialTags: the walk.
-/
import Derived.Test.YtcogoiphpfgkdaaDoorTextsWalk
namespace Go.Proofs.YtcogoiphpfgkdaaDoor
open Go.RowKit
set_option linter.unusedVariables false
set_option linter.unusedSimpArgs false

set_option maxHeartbeats 2000000 in
set_option maxRecDepth 100000 in
theorem serialTags_walk (S : Nat → Prop) (nm tx : List UInt8) (ats : List At) (kids : List Nd) (Aa Ak : Option Addr) (ca ck : Nat) (w : World) (hT : Tab w) (hRT : RawTab w) (hw : 1 + nm.length + tx.length + awt ats + wt kids ≤ 1048576)
    (hr : Row S w 2 Aa ats.length (ats.flatMap atCells)) (hN : Ns S w Ak kids.length kids) (hS : ∀ k, S k → k < w.heap.size) :
    Calls Tryd.prog 7 #[.agg #[.string (str nm), .string (str tx), .slice Aa ats.length ca, .slice Ak kids.length ck]] w fun e w' => e = .returned (.bool true) ∧ Below w.heap.size w w' := by
  have hw1 : wt [.mk nm tx ats kids] ≤ 1048576 := by rw [wt_one]; exact hw
  have hw0 : wt [.mk nm tx ats []] ≤ 1048576 := by rw [wt_one, wt_nil]; omega
  have KA := Lib.hid (fun (W : World) (h : Below w.heap.size w W) => awake_any W (hT.behind h) (hRT.behind h))
  -- the box, and one tree in a block of its own
  have one : ∀ (W : World) (b : Nat), Below w.heap.size w W → Blk W b 41 #[.string (str nm), .string (str tx), .slice Aa ats.length ca, .slice Ak kids.length ck] → Ns (fun k => k < W.heap.size) W (some ⟨b, 0, none⟩) 1 [.mk nm tx ats kids] :=
    fun W b h y => Ns.one y y.lt ((hr.behind h).more (fun k h _ => h) (by decide)) ((hN.behind h).wide (fun k h _ => h))
  have lone : ∀ (W : World) (b : Nat), Below w.heap.size w W → Blk W b 41 #[.string (str nm), .string (str tx), .slice Aa ats.length ca, .slice none 0 0] → Ns (fun k => k < W.heap.size) W (some ⟨b, 0, none⟩) 1 [.mk nm tx ats []] :=
    fun W b h y => Ns.one (kids := []) y y.lt ((hr.behind h).more (fun k h _ => h) (by decide)) Ns.nil
  have KG := Lib.hid (fun (W : World) (b : Nat) (h : Below w.heap.size w W) y => great_any _ [.mk nm tx ats kids] hw1 W (some ⟨b, 0, none⟩) 1 (one W b h y) (fun k h => h))
  have KM := Lib.hid (fun (W : World) (b : Nat) (h : Below w.heap.size w W) y => rmay_any _ [.mk nm tx ats kids] hw1 W (some ⟨b, 0, none⟩) 1 (one W b h y) (fun k h => h))
  have KM0 := Lib.hid (fun (W : World) (b : Nat) (h : Below w.heap.size w W) y => rmay_any _ [.mk nm tx ats []] hw0 W (some ⟨b, 0, none⟩) 1 (lone W b h y) (fun k h => h))
  have up : ∀ (W : World), Below w.heap.size w W → ∀ k, S k → k < W.heap.size := fun W h k hk => Nat.lt_of_lt_of_le (hS k hk) h.size
  have KI := Lib.hid (fun (W : World) (h : Below w.heap.size w W) => inner_any S nm tx ats kids Aa Ak ca ck W (hT.behind h) (hRT.behind h) (up W h) hw (hr.behind h) (hN.behind h))
  have KS := Lib.hid (fun (W : World) (h : Below w.heap.size w W) => pstart_any S nm tx ats Aa Ak ca kids.length ck W (hT.behind h) (up W h) (by omega) (hr.behind h))
  have KE := Lib.hid (fun (W : World) (h : Below w.heap.size w W) => pend_any S nm tx ats Aa Ak ca kids.length ck W (hT.behind h) (up W h) (by omega) (hr.behind h))
  have KRI := Lib.hid (fun (W : World) (h : Below w.heap.size w W) => rInner_any S nm tx (.slice Aa ats.length ca) kids Ak ck W (by omega) (hN.behind h) (up W h))
  have KRS := Lib.hid (fun (W : World) (h : Below w.heap.size w W) => rStart_any S nm tx ats Aa none ca 0 0 W (hr.behind h) (up W h) (by omega))
  have KRE := Lib.hid (fun (W : World) => rEnd_any nm tx (.slice Aa ats.length ca) (.slice none 0 0) W (by omega))
  have hio : innerOut nm tx ats kids = if mayB [.mk nm tx ats kids] = true then innerB nm kids else [] := rfl
  have hso : startOut nm tx ats = if mayB [.mk nm tx ats []] = true then (if nm = [] then [] else startB nm ats) else [] := rfl
  have heo : endOut nm tx ats = if mayB [.mk nm tx ats []] = true then (if nm = [] ∨ nm ∈ setNames1 then [] else endTag nm) else [] := rfl
  have heb : endB nm = if nm ∈ setNames1 then [] else endTag nm := rfl
  generalize innerOut nm tx ats kids = io at hio KI
  generalize startOut nm tx ats = so at hso KS
  generalize endOut nm tx ats = eo at heo KE
  generalize innerB nm kids = ib at hio KRI
  generalize startB nm ats = sb at hso KRS
  generalize endB nm = eb at heb KRE
  generalize endTag nm = et at heb heo
  generalize mayB [.mk nm tx ats kids] = m at KM KI hio
  generalize mayB [.mk nm tx ats []] = m0 at KM0 KS KE hso heo
  have HIO := Lib.hid hio
  have HSO := Lib.hid hso
  have HEO := Lib.hid heo
  have HEB := Lib.hid heb
  clear one lone up hio hso heo heb hT hRT hw hr hN hS hw1 hw0
  obtain ⟨W1, hW1⟩ : ∃ W1, w.alloc (.cells #[.string (str nm), .string (str tx), .slice Aa ats.length ca, .slice Ak kids.length ck] 41) = W1 := ⟨_, rfl⟩
  have b1 : Below w.heap.size w W1 := by rw [← hW1]; exact (Below.refl _ w).alloc (Nat.le_refl _) _
  have y1 : Blk W1 w.heap.size 41 #[.string (str nm), .string (str tx), .slice Aa ats.length ca, .slice Ak kids.length ck] := by rw [← hW1]; exact Blk.new w _ _
  have l1 := y1.lt
  have a0 := y1.cell 0
  have a1 := y1.cell 1
  have a2 := y1.cell 2
  have a3 := y1.cell 3
  simp only [List.getElem?_toArray, List.getElem?_cons_zero, List.getElem?_cons_succ] at a0 a1 a2 a3
  have B1 := Lib.hid b1
  have Y1 := Lib.hid y1
  clear b1 y1
  go_enter Tryd.func7, Tryd.ntmps7
  go_wp2_with fail
  have c1 : Below W1.heap.size W1 (W1.alloc (.cells #[.string (str nm), .string (str tx), .slice Aa ats.length ca, .slice Ak kids.length ck] 41)) := (Below.refl _ W1).alloc (Nat.le_refl _) _
  refine (KG.out _ W1.heap.size (B1.out.trans (c1.mono B1.out.size)) (Blk.new W1 _ _)).mono ?_
  rintro e w2 ⟨⟨b, rfl⟩, hb2⟩
  have d2 := c1.trans (hb2.mono c1.size)
  have B2 := Lib.hid (B1.out.trans (d2.mono B1.out.size))
  have y2 := Y1.out.below d2 l1
  have l2 := y2.lt
  have q0 := y2.cell 0
  have q1 := y2.cell 1
  have q2 := y2.cell 2
  have q3 := y2.cell 3
  simp only [List.getElem?_toArray, List.getElem?_cons_zero, List.getElem?_cons_succ] at q0 q1 q2 q3
  have Y2 := Lib.hid y2
  clear c1 hb2 d2 y2 a0 a1 a2 a3
  cases b with
  | true =>
    go_wp2_with (go_at_call 11; refine (KA.out w2 B2.out).mono ?_; rintro e w3 ⟨rfl, hb3⟩)
    go_ret
    exact ⟨rfl, B2.out.trans (hb3.mono B2.out.size)⟩
  | false =>
    go_wp2_with fail
    refine (KI.out w2 B2.out).mono ?_
    rintro e w3 ⟨rfl, hb3⟩
    clear q0 q1 q2 q3
    have B3 := Lib.hid (B2.out.trans (hb3.mono B2.out.size)); have y3 := Y2.out.below hb3 l2; have l3 := y3.lt; have q0 := y3.cell 0; have q1 := y3.cell 1; have q2 := y3.cell 2; have q3 := y3.cell 3; simp only [List.getElem?_toArray, List.getElem?_cons_zero, List.getElem?_cons_succ] at q0 q1 q2 q3; have Y3 := Lib.hid y3; clear hb3 y3
    go_wp2_with fail
    refine (KS.out w3 B3.out).mono ?_
    rintro e w4 ⟨rfl, hb4⟩
    clear q0 q1 q2 q3
    have B4 := Lib.hid (B3.out.trans (hb4.mono B3.out.size)); have y4 := Y3.out.below hb4 l3; have l4 := y4.lt; have q0 := y4.cell 0; have q1 := y4.cell 1; have q2 := y4.cell 2; have q3 := y4.cell 3; simp only [List.getElem?_toArray, List.getElem?_cons_zero, List.getElem?_cons_succ] at q0 q1 q2 q3; have Y4 := Lib.hid y4; clear hb4 y4
    go_wp2_with fail
    refine (KE.out w4 B4.out).mono ?_
    rintro e w5 ⟨rfl, hb5⟩
    clear q0 q1 q2 q3
    have B5 := Lib.hid (B4.out.trans (hb5.mono B4.out.size)); have y5 := Y4.out.below hb5 l4; have l5 := y5.lt; have q0 := y5.cell 0; have q1 := y5.cell 1; have q2 := y5.cell 2; have q3 := y5.cell 3; simp only [List.getElem?_toArray, List.getElem?_cons_zero, List.getElem?_cons_succ] at q0 q1 q2 q3; have Y5 := Lib.hid y5; clear hb5 y5
    go_wp2_with fail
    have c5 : Below w5.heap.size w5 (w5.alloc (.cells #[.string (str nm), .string (str tx), .slice Aa ats.length ca, .slice Ak kids.length ck] 41)) := (Below.refl _ w5).alloc (Nat.le_refl _) _
    refine (KM.out _ w5.heap.size (B5.out.trans (c5.mono B5.out.size)) (Blk.new w5 _ _)).mono ?_
    rintro e w6 ⟨rfl, hb6⟩
    have d6 := c5.trans (hb6.mono c5.size)
    clear q0 q1 q2 q3 c5 hb6
    have B6 := Lib.hid (B5.out.trans (d6.mono B5.out.size)); have y6 := Y5.out.below d6 l5; have l6 := y6.lt; have q0 := y6.cell 0; have q1 := y6.cell 1; have q2 := y6.cell 2; have q3 := y6.cell 3; simp only [List.getElem?_toArray, List.getElem?_cons_zero, List.getElem?_cons_succ] at q0 q1 q2 q3; have Y6 := Lib.hid y6; clear d6 y6
    cases m with
    | true =>
      have h1 := HIO.out
      simp only [if_true] at h1
      subst h1
      have h2 : errN true = 0 := rfl
      simp only [h2]
      go_wp2_with (go_at_call 10; refine (num_any _ _).mono ?_; rintro e w7 ⟨rfl, rfl⟩)
      refine (KRI.out w6 B6.out).mono ?_
      rintro e w8 ⟨rfl, hb8⟩
      clear q0 q1 q2 q3
      have B8 := Lib.hid (B6.out.trans (hb8.mono B6.out.size)); have y8 := Y6.out.below hb8 l6; have l8 := y8.lt; have q0 := y8.cell 0; have q1 := y8.cell 1; have q2 := y8.cell 2; have q3 := y8.cell 3; simp only [List.getElem?_toArray, List.getElem?_cons_zero, List.getElem?_cons_succ] at q0 q1 q2 q3; have Y8 := Lib.hid y8; clear hb8 y8
      have fz := Y8.out.frozen 3
      go_wp2_with fail
      -- the store n.Kids = nil
      obtain ⟨V, hV⟩ : ∃ V, w8.setCell ⟨w.heap.size, 3, none⟩ (.slice none 0 0) = V := ⟨_, rfl⟩
      rw [hV]
      have bv : Below w.heap.size w V := by rw [← hV]; exact B8.out.setCell (p := ⟨w.heap.size, 3, none⟩) (Nat.le_refl _) _
      have yv : Blk V w.heap.size 41 #[.string (str nm), .string (str tx), .slice Aa ats.length ca, .slice none 0 0] := by rw [← hV]; exact Y8.out.set_ 3 _
      have lv := yv.lt
      have hvs : V.heap.size = w8.heap.size := by rw [← hV]; simp
      have BV := Lib.hid bv
      have YV := Lib.hid yv
      clear hV bv yv q0 q1 q2 q3
      have c9 : Below V.heap.size V (V.alloc (.cells #[.string (str nm), .string (str tx), .slice Aa ats.length ca, .slice none 0 0] 41)) := (Below.refl _ V).alloc (Nat.le_refl _) _
      rw [← hvs]
      refine (KM0.out _ V.heap.size (BV.out.trans (c9.mono BV.out.size)) (Blk.new V _ _)).mono ?_
      rintro e w9 ⟨rfl, hb9⟩
      have d9 := c9.trans (hb9.mono c9.size)
      have B9 := Lib.hid (BV.out.trans (d9.mono BV.out.size))
      have y9 := YV.out.below d9 lv
      have q0 := y9.cell 0
      have q1 := y9.cell 1
      have q2 := y9.cell 2
      have q3 := y9.cell 3
      simp only [List.getElem?_toArray, List.getElem?_cons_zero, List.getElem?_cons_succ] at q0 q1 q2 q3
      have l9 := y9.lt
      have Y9 := Lib.hid y9
      clear c9 hb9 d9 y9 hvs
      cases m0 with
      | false =>
        have h1 := HSO.out
        have h2 := HEO.out
        rw [if_neg (by decide)] at h1 h2
        subst h1 h2
        have h3 : errN false = 210 := rfl
        simp only [h3]
        go_wp2_with (first | (go_at_call 10; refine (num_any _ _).mono ?_; rintro e w10 ⟨rfl, rfl⟩) | (go_at_call 11; refine (KA.out _ B9.out).mono ?_; rintro e w11 ⟨rfl, hb11⟩))
        go_ret
        exact ⟨rfl, B9.out.trans (hb11.mono B9.out.size)⟩
      | true =>
        have h3 : errN true = 0 := rfl
        simp only [h3]
        by_cases hnm : nm = []
        · subst hnm
          have h1 := HSO.out
          have h2 := HEO.out
          simp only [if_true, true_or] at h1 h2
          subst h1 h2
          go_wp2_with (first | (go_at_call 10; refine (num_any _ _).mono ?_; rintro e w10 ⟨rfl, rfl⟩) | (go_at_call 11; refine (KA.out _ B9.out).mono ?_; rintro e w11 ⟨rfl, hb11⟩))
          go_ret
          exact ⟨rfl, B9.out.trans (hb11.mono B9.out.size)⟩
        · have f0 : (nm == []) = false := by simpa using hnm
          have h1 := HSO.out
          have h2 : eo = eb := by
            rw [HEB.out, HEO.out]
            simp [hnm]
          simp only [if_true, if_neg hnm] at h1
          subst h1 h2
          go_wp2_with (go_at_call 10; refine (num_any _ _).mono ?_; rintro e w10 ⟨rfl, rfl⟩)
          refine (KRS.out w9 B9.out).mono ?_
          rintro e w12 ⟨rfl, hb12⟩
          clear q0 q1 q2 q3
          have B12 := Lib.hid (B9.out.trans (hb12.mono B9.out.size)); have y12 := Y9.out.below hb12 l9; have l12 := y12.lt; have q0 := y12.cell 0; have q1 := y12.cell 1; have q2 := y12.cell 2; have q3 := y12.cell 3; simp only [List.getElem?_toArray, List.getElem?_cons_zero, List.getElem?_cons_succ] at q0 q1 q2 q3; have Y12 := Lib.hid y12; clear hb12 y12
          go_wp2_with (first | (go_at_call 10; refine (num_any _ _).mono ?_; rintro e w13 ⟨rfl, rfl⟩) | fail)
          refine (KRE.out w12).mono ?_
          rintro e w14 ⟨rfl, hb14⟩
          have B14 := Lib.hid (B12.out.trans (hb14.mono B12.out.size))
          clear hb14
          go_wp2_with (go_at_call 11; refine (KA.out _ B14.out).mono ?_; rintro e w11 ⟨rfl, hb11⟩)
          go_ret
          exact ⟨rfl, B14.out.trans (hb11.mono B14.out.size)⟩
    | false =>
      have h1 := HIO.out
      rw [if_neg (by decide)] at h1
      subst h1
      have h2 : errN false = 210 := rfl
      simp only [h2]
      have fz := Y6.out.frozen 3
      go_wp2_with (go_at_call 10; refine (num_any _ _).mono ?_; rintro e w7 ⟨rfl, rfl⟩)
      -- the store n.Kids = nil
      obtain ⟨V, hV⟩ : ∃ V, w6.setCell ⟨w.heap.size, 3, none⟩ (.slice none 0 0) = V := ⟨_, rfl⟩
      rw [hV]
      have bv : Below w.heap.size w V := by rw [← hV]; exact B6.out.setCell (p := ⟨w.heap.size, 3, none⟩) (Nat.le_refl _) _
      have yv : Blk V w.heap.size 41 #[.string (str nm), .string (str tx), .slice Aa ats.length ca, .slice none 0 0] := by rw [← hV]; exact Y6.out.set_ 3 _
      have lv := yv.lt
      have hvs : V.heap.size = w6.heap.size := by rw [← hV]; simp
      have BV := Lib.hid bv
      have YV := Lib.hid yv
      clear hV bv yv q0 q1 q2 q3
      have c9 : Below V.heap.size V (V.alloc (.cells #[.string (str nm), .string (str tx), .slice Aa ats.length ca, .slice none 0 0] 41)) := (Below.refl _ V).alloc (Nat.le_refl _) _
      rw [← hvs]
      refine (KM0.out _ V.heap.size (BV.out.trans (c9.mono BV.out.size)) (Blk.new V _ _)).mono ?_
      rintro e w9 ⟨rfl, hb9⟩
      have d9 := c9.trans (hb9.mono c9.size)
      have B9 := Lib.hid (BV.out.trans (d9.mono BV.out.size))
      have y9 := YV.out.below d9 lv
      have q0 := y9.cell 0
      have q1 := y9.cell 1
      have q2 := y9.cell 2
      have q3 := y9.cell 3
      simp only [List.getElem?_toArray, List.getElem?_cons_zero, List.getElem?_cons_succ] at q0 q1 q2 q3
      have l9 := y9.lt
      have Y9 := Lib.hid y9
      clear c9 hb9 d9 y9 hvs
      cases m0 with
      | false =>
        have h1 := HSO.out
        have h2 := HEO.out
        rw [if_neg (by decide)] at h1 h2
        subst h1 h2
        have h3 : errN false = 210 := rfl
        simp only [h3]
        go_wp2_with (first | (go_at_call 10; refine (num_any _ _).mono ?_; rintro e w10 ⟨rfl, rfl⟩) | (go_at_call 11; refine (KA.out _ B9.out).mono ?_; rintro e w11 ⟨rfl, hb11⟩))
        go_ret
        exact ⟨rfl, B9.out.trans (hb11.mono B9.out.size)⟩
      | true =>
        have h3 : errN true = 0 := rfl
        simp only [h3]
        by_cases hnm : nm = []
        · subst hnm
          have h1 := HSO.out
          have h2 := HEO.out
          simp only [if_true, true_or] at h1 h2
          subst h1 h2
          go_wp2_with (first | (go_at_call 10; refine (num_any _ _).mono ?_; rintro e w10 ⟨rfl, rfl⟩) | (go_at_call 11; refine (KA.out _ B9.out).mono ?_; rintro e w11 ⟨rfl, hb11⟩))
          go_ret
          exact ⟨rfl, B9.out.trans (hb11.mono B9.out.size)⟩
        · have f0 : (nm == []) = false := by simpa using hnm
          have h1 := HSO.out
          have h2 : eo = eb := by
            rw [HEB.out, HEO.out]
            simp [hnm]
          simp only [if_true, if_neg hnm] at h1
          subst h1 h2
          go_wp2_with (go_at_call 10; refine (num_any _ _).mono ?_; rintro e w10 ⟨rfl, rfl⟩)
          refine (KRS.out w9 B9.out).mono ?_
          rintro e w12 ⟨rfl, hb12⟩
          clear q0 q1 q2 q3
          have B12 := Lib.hid (B9.out.trans (hb12.mono B9.out.size)); have y12 := Y9.out.below hb12 l9; have l12 := y12.lt; have q0 := y12.cell 0; have q1 := y12.cell 1; have q2 := y12.cell 2; have q3 := y12.cell 3; simp only [List.getElem?_toArray, List.getElem?_cons_zero, List.getElem?_cons_succ] at q0 q1 q2 q3; have Y12 := Lib.hid y12; clear hb12 y12
          go_wp2_with (first | (go_at_call 10; refine (num_any _ _).mono ?_; rintro e w13 ⟨rfl, rfl⟩) | fail)
          refine (KRE.out w12).mono ?_
          rintro e w14 ⟨rfl, hb14⟩
          have B14 := Lib.hid (B12.out.trans (hb14.mono B12.out.size))
          clear hb14
          go_wp2_with (go_at_call 11; refine (KA.out _ B14.out).mono ?_; rintro e w11 ⟨rfl, hb11⟩)
          go_ret
          exact ⟨rfl, B14.out.trans (hb11.mono B14.out.size)⟩
end Go.Proofs.YtcogoiphpfgkdaaDoor
