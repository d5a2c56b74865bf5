/-
  SerialPieces: the walk.
-/
import Derived.Test.YtcogoiphpfgkdaaDoorPiecesState
import Derived.Test.YtcogoiphpfgkdaaDoorRCopied
import Derived.Test.YtcogoiphpfgkdaaDoorSerialAll
import Derived.Test.YtcogoiphpfgkdaaDoorRMay
import Derived.Deep.CutRange
import Derived.LoopN
import Derived.LoopNIn
namespace Go.Proofs.YtcogoiphpfgkdaaDoor
open Go.RowKit
set_option linter.unusedVariables false
set_option linter.unusedSimpArgs false
attribute [local go_sem] Oper.semAt_some

/-- Leaving, the result in a cell, with the marks of loops. -/
theorem leave_cell {fn : Func} {t : Tmp} {b : Nat} {tmps : Array Value} {w0 W : World} (Ds : List Nat) (hres : fn.results = #[.cell t 4]) (hp : tmps.getD t undef = .pointer (some ⟨b, 0, none⟩)) (hb : Blk W b 4 #[.bool true])
    (hn : Ds.Nodup) (hD : ∀ D ∈ Ds, W.heap[D]? = some (.deferred (some []))) (hB : Below w0.heap.size w0 W) (hlow : ∀ D ∈ Ds, w0.heap.size ≤ D) :
    bodyPostM Fence.wide 9 Tryd.prog fn (fun e w' => e = .returned (.bool true) ∧ Below w0.heap.size w0 w') .ret { tmps := tmps, defers := marksOf Ds } W := by
  refine leaves_marks Ds W hn hD (results_cell (t := t) (ty := 4) (p := ⟨b, 0, none⟩) (v := .bool true) hres hp ?_) ⟨rfl, shut_below Ds W hB (fun D h => ⟨hlow D h, lt_of_heap (hD D h)⟩) hB.size⟩
  have b8 : Blk (shut W Ds) b 4 #[.bool true] := (shut_block Ds W (fun h => blk_not_cells hb (hD b h) rfl rfl)).trans hb
  have c8 := b8.cell 0
  simp only [List.getElem?_toArray, List.getElem?_cons_zero] at c8
  generalize shut W Ds = W8 at c8
  simp [go_sem, c8]

set_option maxHeartbeats 4000000 in
set_option maxRecDepth 100000 in
theorem serialPieces_walk (S : Nat → Prop) (L : List Nd) (A : Option Addr) (c : Nat) (stop : Int) (w : World) (hT : Tab w) (hRT : RawTab w) (hwt : wt L ≤ 1048576) (hN : Ns S w A L.length L) (hS : ∀ k, S k → k < w.heap.size) :
    Calls Tryd.prog 5 #[.slice A L.length c, .int .i64 stop] w fun e w' => e = .returned (.bool true) ∧ Below w.heap.size w w' := by
  have hS' : ∀ W, Below w.heap.size w W → ∀ k, S k → k < W.heap.size := fun W h k hk => Nat.lt_of_lt_of_le (hS k hk) h.size
  have KA := Lib.hid (fun (W : World) (h : Below w.heap.size w W) => awake_any W (hT.behind h) (hRT.behind h))
  have KG := Lib.hid (fun (W : World) (h : Below w.heap.size w W) => great_any S L hwt W A c (hN.behind h) (hS' W h))
  have KM := Lib.hid (fun (W : World) (h : Below w.heap.size w W) => rmay_any S L hwt W A c (hN.behind h) (hS' W h))
  have KR := Lib.hid (fun (W : World) (h : Below w.heap.size w W) => rpts_any S L hwt [] 0 W A c (hN.behind h) (hS' W h) (by omega))
  have KC := Lib.hid (fun (W : World) (h : Below w.heap.size w W) => rcopied_any S L hwt W A c (hN.behind h) (hS' W h))
  have KP := Lib.hid (fun (T : Nat → Prop) (W : World) (A' : Option Addr) (c' : Nat) (h : Ns T W A' L.length L) (hk : ∀ k, T k → k < W.heap.size) => pieces_any T L W A' c' hwt h hk)
  have HT := Lib.hid hT
  have HRT := Lib.hid hRT
  have hll := wt_length L
  have hpl : (piecesOf L).length ≤ 2097152 := by
    unfold piecesOf
    split
    · have := (ptB_le L [] 0).1; omega
    · simp
  obtain ⟨m, hm⟩ : ∃ m, mayB L = m := ⟨_, rfl⟩
  have HP := Lib.hid (show piecesOf L = if m = true then ptB [] 0 L else [] by unfold piecesOf; rw [hm])
  rw [hm] at KM
  have hq : ∀ (x : Option Addr) (W : World), (binOp .eql 37 (.func (.func 43) #[] #[.pointer x]) .nilFunc).run Tryd.prog W = .ok (.bool false) W := fun x W => by kernel_rfl
  clear hT hRT hN hS hS' hm
  refine calls_of_wp_marks Tryd.func5 rfl ?_
  simp only [Tryd.ntmps5, List.size_toArray, List.length_cons, List.length_nil, Nat.reduceAdd, Nat.reduceSub, Array.replicate_succ,
     Array.replicate_zero, List.push_toArray, List.append_toArray, List.nil_append, List.cons_append]
  go_wp2_with fail
  obtain ⟨W0, hW0⟩ : ∃ W0, ((w.alloc (Obj.cells #[Value.int IntKind.i64 stop] 3)).alloc (Obj.cells #[Value.bool false] 4)) = W0 := ⟨_, rfl⟩
  rw [hW0]
  have b3 : Blk W0 w.heap.size 3 #[.int .i64 stop] := by rw [← hW0]; exact (Blk.new w _ _).alloc _
  have b4 : Blk W0 (w.heap.size + 1) 4 #[.bool false] := by rw [← hW0]; exact Blk.new_at _ _ (by simp)
  have hB0 : Below w.heap.size w W0 := by rw [← hW0]; exact ((Below.refl _ w).alloc (Nat.le_refl _) _).alloc (by simp) _
  clear hW0
  have B0 := Lib.hid hB0
  refine (KG.out W0 hB0).mono ?_
  rintro e w1 ⟨⟨g, rfl⟩, hb1⟩
  have B1 := Lib.hid (B0.out.trans (hb1.mono B0.out.size))
  have D3 := Lib.hid (b3.below hb1 b3.lt)
  have D4 := Lib.hid (b4.below hb1 b4.lt)
  have l01 := hb1.size
  have l4 := b4.lt
  clear hb1 b3 b4 hB0
  cases g with
  | true =>
    go_wp2_with fail
    refine (KA.out w1 B1.out).mono ?_
    rintro e w2 ⟨rfl, hb2⟩
    have b4' := D4.out.below hb2 D4.out.lt
    have x4 := b4'.cell 0
    have f4 := b4'.frozen 0
    simp only [List.getElem?_toArray, List.getElem?_cons_zero] at x4
    have B2 := Lib.hid (B1.out.trans (hb2.mono B1.out.size))
    clear hb2
    go_wp2
    exact leave_cell [] rfl rfl (b4'.set_ 0 (.bool true)) List.nodup_nil (fun D h => by cases h) (B2.out.setCell (p := ⟨w.heap.size + 1, 0, none⟩) (by simp) _) (fun D h => by cases h)
  | false =>
    go_wp2_with fail
    obtain ⟨W2, hW2⟩ : ∃ W2, w1.alloc (Obj.cells #[Value.slice none 0 0] 33) = W2 := ⟨_, rfl⟩
    rw [hW2]
    have b5 : Blk W2 w1.heap.size 33 #[.slice none 0 0] := by rw [← hW2]; exact Blk.new _ _ _
    have hb12 : Below w1.heap.size w1 W2 := by rw [← hW2]; exact (Below.refl _ w1).alloc (Nat.le_refl _) _
    clear hW2
    have hB2 := B1.out.trans (hb12.mono B1.out.size)
    refine (KM.out W2 hB2).mono ?_
    rintro e w3 ⟨rfl, hb3⟩
    have B3 := Lib.hid (hB2.trans (hb3.mono hB2.size))
    have D3' := Lib.hid ((D3.out.below hb12 D3.out.lt).below hb3 (D3.out.below hb12 D3.out.lt).lt)
    have D4' := Lib.hid ((D4.out.below hb12 D4.out.lt).below hb3 (D4.out.below hb12 D4.out.lt).lt)
    have D5 := Lib.hid (b5.below hb3 b5.lt)
    have l12 := hb12.size
    have l23 := hb3.size
    have l1 := B1.out.size
    have l5 := b5.lt
    clear D3 D4 b5 hb12 hb3 hB2 B0 B1 KG KM
    go_upto_if 17 with fail
    go_cut [] from 18 to 19 (fun wc => ∃ Aw cw, Hid (Blk wc w1.heap.size 33 #[.slice Aw (piecesOf L).length cw]) ∧ Hid (Row (fun k => w1.heap.size < k ∧ k < wc.heap.size) wc 2 Aw (piecesOf L).length ((piecesOf L).flatMap ptCells)) ∧ Hid (Keep (fun k => k = w1.heap.size) w3 wc))
    case first =>
      cases m with
      | false =>
        have hp := HP.out
        rw [if_neg (by decide)] at hp
        go_wp2
        go_meet
        case rel =>
          rw [hp]
          exact ⟨_, _, D5, Row.none_, Keep.refl _ _⟩
      | true =>
        have hp := HP.out
        rw [if_pos rfl] at hp
        have x5 := D5.out.cell 0
        have f5 := D5.out.frozen 0
        simp only [List.getElem?_toArray, List.getElem?_cons_zero] at x5
        go_wp2_with fail
        refine (KR.out w3 B3.out).mono ?_
        rintro e w4 ⟨v4, rfl, hown, hb4⟩
        obtain ⟨Aw, cw, rfl, _, _⟩ := own_slice hown
        have hb5 := D5.out.below hb4 D5.out.lt
        replace x5 := (hb4.cell (p := ⟨w1.heap.size, 0, none⟩) D5.out.lt).trans x5
        replace f5 := hb5.frozen 0
        have HO := Lib.hid hown
        have HB4 := Lib.hid hb4
        have HB5 := Lib.hid hb5
        have l34 := hb4.size
        clear hown hb4 hb5
        go_wp2
        go_meet
        case rel =>
          have hk : Keep (fun k => k = w1.heap.size) w4 (w4.setCell ⟨w1.heap.size, 0, none⟩ (.slice Aw (ptB [] 0 L).length cw)) := (Keep.refl (fun k => k = w1.heap.size) w4).setCell (p := ⟨w1.heap.size, 0, none⟩) (.inl rfl) _
          rw [hp]
          refine ⟨_, _, HB5.out.set_ 0 _, ?_, ((Keep.of_below HB4.out (fun k => k = w1.heap.size)).trans hk)⟩
          exact ((Row.of_own HO.out).more (T := fun k => w3.heap.size ≤ k ∧ k < w4.heap.size) (fun k hk h => ⟨h, hk⟩) (by decide)).keep hk (fun k h e => by omega) |>.more (fun k hk h => by omega) (by decide)
    case rest =>
      obtain ⟨Aw, cw, HB5, HWT, HKW⟩ := hcut
      have B4 := Lib.hid (B3.out.trans (HKW.out.below (B := w.heap.size) B3.out.size (fun i hi (e : i = w1.heap.size) => by omega)))
      have C3 := Lib.hid (D3'.out.keep HKW.out (by omega))
      have C4 := Lib.hid (D4'.out.keep HKW.out (by omega))
      have l4 := HKW.out.size
      clear D3' D4' D5 HKW B3 KR
      go_wp2_with fail
      refine (KC.out wc B4.out).mono ?_
      rintro e w5 ⟨v5, rfl, Ag, cg, rfl, hng, ⟨xg, hog⟩, hb5⟩
      have NG := Lib.hid hng
      have OG := Lib.hid hog
      have V5 := Lib.hid hb5
      have l5' := hb5.size
      clear hng hog hb5 KC
      go_wp2_with fail
      refine (KP.out _ w5 Ag cg NG.out (fun k h => h.2)).mono ?_
      rintro e w6 ⟨bo, Ao, co, rfl, hbo, hblk, hno, hb6⟩
      have HBO := Lib.hid hblk
      have HNO := Lib.hid hno
      have V6 := Lib.hid hb6
      have l6 := hb6.size
      have lbo := hblk.lt
      have HG : Hid (0 < L.length → ∃ gb cur, Ag = some ⟨gb, 0, none⟩ ∧ wc.heap.size ≤ gb ∧ gb < w5.heap.size ∧ Blk w6 gb 41 cur ∧ L.length * 4 ≤ cur.size) := fun h => by
        rcases own_form OG.out with ⟨_, h0, _⟩ | ⟨g, cap, cur, hv, h1, h2, h3, h4, _, h6, _⟩
        · omega
        · injection hv with hv _ _
          exact ⟨g, cur, hv, h1, h2, h3.below V6.out h2, by omega⟩
      clear hblk hno hb6 KP NG OG
      go_wp2_with fail
      go_loopw [28] (fun i wr => ∃ (k : Nat), k ≤ L.length ∧ i = .int .i64 k ∧ Hid (Keep (fun j => wc.heap.size ≤ j ∧ j < w5.heap.size) w6 wr) ∧ Hid (∀ gb cur, gb < w5.heap.size → Blk w6 gb 41 cur → ∃ cs, Blk wr gb 41 cs ∧ cs.size = cur.size)) (fun i _ => L.length - (intOf i).toNat)
      case atStart => exact ⟨0, Nat.zero_le _, rfl, Keep.refl _ _, fun gb cur _ h => ⟨cur, h, rfl⟩⟩
      case round =>
        obtain ⟨k, hk, rfl, HKr, HCr⟩ := hrel
        by_cases hlt : k < L.length
        · obtain ⟨gb, cur, rfl, hg1, hg2, hg3, hg4⟩ := HG.out (by omega)
          obtain ⟨cs, hcs, hcz⟩ := HCr.out gb cur hg2 hg3
          have HG3 := Lib.hid hg3
          have HCS := Lib.hid hcs
          have i1 : (0 : Int) ≤ (k : Int) := by omega
          have i2 : (k : Int) < (L.length : Int) := by omega
          have i3 : decide ((k : Int) < (L.length : Int)) = true := decide_eq_true i2
          have g0 := (hcs.cell (k * 4)).trans (Array.getElem?_eq_getElem (by omega))
          have g1 := (hcs.cell (k * 4 + 1)).trans (Array.getElem?_eq_getElem (by omega))
          have g2 := (hcs.cell (k * 4 + 2)).trans (Array.getElem?_eq_getElem (by omega))
          have g3 := (hcs.cell (k * 4 + 3)).trans (Array.getElem?_eq_getElem (by omega))
          have f0 := hcs.frozen (k * 4)
          have f1 := hcs.frozen (k * 4 + 1)
          have f2 := hcs.frozen (k * 4 + 2)
          have f3 := hcs.frozen (k * 4 + 3)
          clear hg3 hcs
          go_wp2
          go_roundw
          case rel =>
            refine ⟨k + 1, by omega, by go_num, ?_, ?_⟩
            · exact (((HKr.out.setCell (p := ⟨gb, k * 4, none⟩) (.inl ⟨hg1, hg2⟩) _).setCell (p := ⟨gb, k * 4 + 1, none⟩) (.inl ⟨hg1, hg2⟩) _).setCell (p := ⟨gb, k * 4 + 2, none⟩) (.inl ⟨hg1, hg2⟩) _).setCell (p := ⟨gb, k * 4 + 3, none⟩) (.inl ⟨hg1, hg2⟩) _
            · intro hb hc hlb hh
              by_cases e : hb = gb
              · subst e
                obtain rfl : hc = cur := by
                  have := HG3.out
                  unfold Blk at this hh
                  rw [hh] at this
                  injection this with this
                  injection this
                exact ⟨_, (((HCS.out.set_ _ _).set_ _ _).set_ _ _).set_ _ _, by simpa using hcz⟩
              · obtain ⟨ds, h1, h2⟩ := HCr.out hb hc hlb hh
                exact ⟨ds, (((h1.far (p := ⟨gb, _, none⟩) e _).far (p := ⟨gb, _, none⟩) e _).far (p := ⟨gb, _, none⟩) e _).far (p := ⟨gb, _, none⟩) e _, h2⟩
          case measure => simp [intOf]; omega
        · have hkm : k = L.length := by omega
          subst hkm
          have hps : PS w w.heap.size (w.heap.size + 1) w1.heap.size bo stop Aw cw Ao co L (fun k => w1.heap.size < k ∧ k < wc.heap.size) (fun k => w5.heap.size ≤ k ∧ k < bo) [] w6.heap.size wr := by
            have hB6 : Below w.heap.size w w6 := (B4.out.trans (V5.out.mono B4.out.size)).trans (V6.out.mono (by omega))
            have b3 := (C3.out.below V5.out C3.out.lt).below V6.out (C3.out.below V5.out C3.out.lt).lt
            have b4 := (C4.out.below V5.out C4.out.lt).below V6.out (C4.out.below V5.out C4.out.lt).lt
            have b5 := (HB5.out.below V5.out HB5.out.lt).below V6.out (HB5.out.below V5.out HB5.out.lt).lt
            have r5 := (HWT.out.behind V5.out).behind V6.out
            have hsz := HKr.out.size
            exact { c3 := b3.keep HKr.out (by omega), c4 := b4.keep HKr.out (by omega), c5 := b5.keep HKr.out (by omega), want := r5.keep HKr.out (fun k h1 h2 => by omega),
                    own := HBO.out.keep HKr.out (by omega), trees := HNO.out.keep HKr.out (fun k h1 h2 => by omega), defs := (fun D h => by cases h),
                    base := hB6.trans (HKr.out.below (B := w.heap.size) hB6.size (fun i hi h => by omega)), l3 := by omega, l4 := by omega, l5 := by omega, lo := lbo, lw := fun k h => by omega, lt := fun k h => by omega,
                    ld := (fun D h => by cases h), le := hsz, lb := hB6.size }
          have PS0 := Lib.hid hps
          clear hps HKr HCr HG HBO HNO V5 V6 HB5 HWT C3 C4 B4
          go_wp2_with fail
          obtain ⟨V0, hV0⟩ : ∃ V0, wr.alloc (Obj.cells #[Value.int IntKind.i64 0] 3) = V0 := ⟨_, rfl⟩
          rw [hV0]
          have p9 : Blk V0 wr.heap.size 3 #[.int .i64 0] := by rw [← hV0]; exact Blk.new _ _ _
          have hvb : Below wr.heap.size wr V0 := by rw [← hV0]; exact (Below.refl _ wr).alloc (Nat.le_refl _) _
          have PV0 := Lib.hid ((PS0.out.behind hvb).up (lim' := V0.heap.size) (by have := PS0.out.le; have := hvb.size; omega) (Nat.le_refl _))
          have P9_0 := Lib.hid p9
          have l9_0 := p9.lt
          clear hV0 p9 hvb PS0
          generalize wr.heap.size = q0 at P9_0 l9_0 ⊢
          refine wp_loop_rounds 3 ?_
          rw [rounds_succ]
          have x9_0 := P9_0.out.cell 0
          simp only [List.getElem?_toArray, List.getElem?_cons_zero] at x9_0
          go_wp2_with fail
          obtain ⟨X0, hX0⟩ : ∃ X, V0.alloc (Obj.cells #[Value.int IntKind.i64 0] 3) = X := ⟨_, rfl⟩
          rw [hX0]
          have hb10_0 : Blk X0 V0.heap.size 3 #[.int .i64 0] := by rw [← hX0]; exact Blk.new _ _ _
          have hvx_0 : Below V0.heap.size V0 X0 := by rw [← hX0]; exact (Below.refl _ V0).alloc (Nat.le_refl _) _
          have PX0 := Lib.hid (PV0.out.behind hvx_0)
          have B10_0 := Lib.hid hb10_0
          have P9X_0 := Lib.hid (P9_0.out.below hvx_0 P9_0.out.lt)
          have lx_0 := hb10_0.lt
          have hbw_0 := Lib.hid (fun W (h : Keep (fun k => k = V0.heap.size) X0 W) => PX0.out.keep h (fun k e => Nat.le_of_eq e.symm))
          clear hX0 hb10_0 hvx_0 x9_0
          refine wp_range_pieces (S := fun k => w5.heap.size ≤ k ∧ k < bo) (bp := V0.heap.size) (bo := bo) (A := Ao) (c := co) (L := L) 3 25 (fun acc => #[.int .i64 (acc.length : Int)]) (fun acc => 0 = 0 ∧ (acc.length : Int) = stop) 4 rfl rfl (by have := PX0.out.lo; omega) PX0.out.own B10_0.out
            (fun W h => HT.out.behind (hbw_0.out W h).base) (fun W h => HRT.out.behind (hbw_0.out W h).base) (fun k h => by have := PX0.out.lo; omega) (fun k h => by have := PX0.out.lo; omega) (by omega) PX0.out.trees ?_ (fun a W h => h) ?_
          next =>
            rintro l D r' a0 p W0 W hD hDl hpre hPL
            simp only [pieceArgs]
            gi_wp2
            refine ⟨trivial, ?_⟩
            intro W2 hl hd hy2
            have hps := hbw_0.out W2 hy2.keep
            obtain ⟨hlt, adp, rfl, g0, g1⟩ := hps.get hpre
            have x10 := hy2.blk.cell 0
            have f10 := hy2.blk.frozen 0
            have x9 := (hy2.keep.cell (p := ⟨q0, 0, none⟩) P9X_0.out.lt (by show q0 ≠ _; omega)).trans (P9X_0.out.cell 0)
            have x5 := hps.c5.cell 0
            have x3 := hps.c3.cell 0
            simp only [List.getElem?_toArray, List.getElem?_cons_zero] at x10 x9 x5 x3
            have i1 : (0 : Int) ≤ (a0.length : Int) := by omega
            have i2 : (a0.length : Int) < ((piecesOf L).length : Int) := by omega
            have i3 : decide ((a0.length : Int) ≥ ((piecesOf L).length : Int)) = false := decide_eq_false (by omega)
            have HY := Lib.hid hy2
            have HL := Lib.hid hl
            have HD := Lib.hid hd
            clear hy2 hl hd hps
            have n3 := PX0.out.l3
            have n9 := l9_0
            have hk10 : Keep (fun k => k = V0.heap.size) W2 (W2.setCell ⟨V0.heap.size, 0, none⟩ (.int .i64 ((a0.length : Int) + 1))) := (Keep.refl (fun k => k = V0.heap.size) W2).setCell (p := ⟨V0.heap.size, 0, none⟩) (.inl rfl) _
            have hnext := HY.out.next (by unfold plainT; decide) (.int .i64 ((a0.length : Int) + 1))
            have HN2 := Lib.hid (show PL X0 V0.heap.size 3 #[.int .i64 (((a0 ++ [p]).length : Nat) : Int)] W0 (W2.setCell ⟨V0.heap.size, 0, none⟩ (.int .i64 ((a0.length : Int) + 1))) by
              have e : (((a0 ++ [p]).length : Nat) : Int) = (a0.length : Int) + 1 := by simp
              rw [e]
              exact hnext)
            have HL2 := Lib.hid (rec_keep HL.out hk10 (fun h => blk_not_cells HY.out.blk HL.out rfl h.symm))
            have HD2 := Lib.hid (rec_keep HD.out hk10 (fun h => blk_not_cells HY.out.blk HD.out rfl h.symm))
            clear hk10 hnext
            cases hst : ((a0.length : Int) + 1 == stop)
            all_goals
              gi_wp2
              first
                | exact ⟨HL2.out, HD2.out, hpre, HN2.out⟩
                | exact ⟨rfl, HL2.out, HD2.out, ⟨trivial, by have := eq_of_beq hst; simpa using this⟩, hpre, HN2.out⟩
          rintro D0 acc0 W0 Y0 hD0 hcase0 hPL hdd
          have hps := hbw_0.out Y0 hPL.keep
          have hlY0 : V0.heap.size < Y0.heap.size := hPL.blk.lt
          have x10_0 := hPL.blk.cell 0
          have p9_0 := P9X_0.out.keep hPL.keep (show q0 ≠ _ by omega)
          have x9_0 := p9_0.cell 0
          have x5_0 := hps.c5.cell 0
          have x3_0 := hps.c3.cell 0
          simp only [List.getElem?_toArray, List.getElem?_cons_zero] at x10_0 x9_0 x5_0 x3_0
          have PY0 := Lib.hid (hps.mark hdd (by have := lx_0; omega) (lt_of_heap hdd) (Nat.le_refl _))
          have hdl0 := fun E (h : E ∈ ([] : List Nat)) => (PX0.out.ld E h).2
          clear hps hPL hdd PX0 B10_0 P9X_0 hbw_0 P9_0 PV0
          go_upto_region 26 with fail
          go_cut [86] from 74 to 85 (fun s86 wx => s86 = .bool false ∧ Y0 = wx)
          case first =>
            by_cases hl : acc0.length = (piecesOf L).length
            · have h1 : ((acc0.length : Int) != ((piecesOf L).length : Int)) = false := by simp [hl]
              go_wp2
              go_meet
              case rel => exact ⟨rfl, rfl⟩
            · have h1 : ((acc0.length : Int) != ((piecesOf L).length : Int)) = true := by simp; omega
              rcases hcase0 with h | ⟨⟨h2, h3⟩, _⟩
              · exact absurd (congrArg List.length h) hl
              · first
                  | exact absurd h2 (by decide)
                  | (have h4 : ((acc0.length : Int) != stop) = false := by simp [h3]
                     go_wp2
                     go_meet
                     case rel => exact ⟨rfl, rfl⟩)
          obtain ⟨rfl, rfl⟩ := hcut
          go_wp2
          obtain ⟨V1, hV1⟩ : ∃ V, Y0.alloc (Obj.cells #[Value.int IntKind.i64 1] 3) = V := ⟨_, rfl⟩
          rw [hV1]
          have p9n : Blk V1 Y0.heap.size 3 #[.int .i64 1] := by rw [← hV1]; exact Blk.new _ _ _
          have hvb1 : Below Y0.heap.size Y0 V1 := by rw [← hV1]; exact (Below.refl _ Y0).alloc (Nat.le_refl _) _
          have PV1 := Lib.hid ((PY0.out.behind hvb1).up (lim' := V1.heap.size) hvb1.size (Nat.le_refl _))
          have P9_1 := Lib.hid p9n
          have l9_1 := p9n.lt
          clear hV1 p9n hvb1 PY0 x10_0 p9_0 x9_0 x5_0 x3_0 hcase0 hlY0
          generalize Y0.heap.size = q1 at P9_1 l9_1 ⊢
          rw [rounds_succ]
          have x9_1 := P9_1.out.cell 0
          simp only [List.getElem?_toArray, List.getElem?_cons_zero] at x9_1
          go_wp2_with fail
          obtain ⟨X1, hX1⟩ : ∃ X, V1.alloc (Obj.cells #[Value.int IntKind.i64 0] 3) = X := ⟨_, rfl⟩
          rw [hX1]
          have hb10_1 : Blk X1 V1.heap.size 3 #[.int .i64 0] := by rw [← hX1]; exact Blk.new _ _ _
          have hvx_1 : Below V1.heap.size V1 X1 := by rw [← hX1]; exact (Below.refl _ V1).alloc (Nat.le_refl _) _
          have PX1 := Lib.hid (PV1.out.behind hvx_1)
          have B10_1 := Lib.hid hb10_1
          have P9X_1 := Lib.hid (P9_1.out.below hvx_1 P9_1.out.lt)
          have lx_1 := hb10_1.lt
          have hbw_1 := Lib.hid (fun W (h : Keep (fun k => k = V1.heap.size) X1 W) => PX1.out.keep h (fun k e => Nat.le_of_eq e.symm))
          clear hX1 hb10_1 hvx_1 x9_1
          refine wp_range_pieces (S := fun k => w5.heap.size ≤ k ∧ k < bo) (bp := V1.heap.size) (bo := bo) (A := Ao) (c := co) (L := L) 3 25 (fun acc => #[.int .i64 (acc.length : Int)]) (fun acc => 1 = 0 ∧ (acc.length : Int) = stop) 4 rfl rfl (by have := PX1.out.lo; omega) PX1.out.own B10_1.out
            (fun W h => HT.out.behind (hbw_1.out W h).base) (fun W h => HRT.out.behind (hbw_1.out W h).base) (fun k h => by have := PX1.out.lo; omega) (fun k h => by have := PX1.out.lo; omega) (by omega) PX1.out.trees ?_ (fun a W h => h) ?_
          next =>
            rintro l D r' a0 p W0 W hD hDl hpre hPL
            simp only [pieceArgs]
            gi_wp2
            refine ⟨trivial, ?_⟩
            intro W2 hl hd hy2
            have hps := hbw_1.out W2 hy2.keep
            obtain ⟨hlt, adp, rfl, g0, g1⟩ := hps.get hpre
            have x10 := hy2.blk.cell 0
            have f10 := hy2.blk.frozen 0
            have x9 := (hy2.keep.cell (p := ⟨q1, 0, none⟩) P9X_1.out.lt (by show q1 ≠ _; omega)).trans (P9X_1.out.cell 0)
            have x5 := hps.c5.cell 0
            have x3 := hps.c3.cell 0
            simp only [List.getElem?_toArray, List.getElem?_cons_zero] at x10 x9 x5 x3
            have i1 : (0 : Int) ≤ (a0.length : Int) := by omega
            have i2 : (a0.length : Int) < ((piecesOf L).length : Int) := by omega
            have i3 : decide ((a0.length : Int) ≥ ((piecesOf L).length : Int)) = false := decide_eq_false (by omega)
            have HY := Lib.hid hy2
            have HL := Lib.hid hl
            have HD := Lib.hid hd
            clear hy2 hl hd hps
            have n3 := PX1.out.l3
            have n9 := l9_1
            have hk10 : Keep (fun k => k = V1.heap.size) W2 (W2.setCell ⟨V1.heap.size, 0, none⟩ (.int .i64 ((a0.length : Int) + 1))) := (Keep.refl (fun k => k = V1.heap.size) W2).setCell (p := ⟨V1.heap.size, 0, none⟩) (.inl rfl) _
            have hnext := HY.out.next (by unfold plainT; decide) (.int .i64 ((a0.length : Int) + 1))
            have HN2 := Lib.hid (show PL X1 V1.heap.size 3 #[.int .i64 (((a0 ++ [p]).length : Nat) : Int)] W0 (W2.setCell ⟨V1.heap.size, 0, none⟩ (.int .i64 ((a0.length : Int) + 1))) by
              have e : (((a0 ++ [p]).length : Nat) : Int) = (a0.length : Int) + 1 := by simp
              rw [e]
              exact hnext)
            have HL2 := Lib.hid (rec_keep HL.out hk10 (fun h => blk_not_cells HY.out.blk HL.out rfl h.symm))
            have HD2 := Lib.hid (rec_keep HD.out hk10 (fun h => blk_not_cells HY.out.blk HD.out rfl h.symm))
            clear hk10 hnext
            cases hst : ((a0.length : Int) + 1 == stop)
            all_goals
              gi_wp2
              first
                | exact ⟨HL2.out, HD2.out, hpre, HN2.out⟩
                | exact ⟨rfl, HL2.out, HD2.out, ⟨trivial, by have := eq_of_beq hst; simpa using this⟩, hpre, HN2.out⟩
          rintro D1 acc1 W0 Y1 hD1 hcase1 hPL hdd
          have hps := hbw_1.out Y1 hPL.keep
          have hlY1 : V1.heap.size < Y1.heap.size := hPL.blk.lt
          have x10_1 := hPL.blk.cell 0
          have p9_1 := P9X_1.out.keep hPL.keep (show q1 ≠ _ by omega)
          have x9_1 := p9_1.cell 0
          have x5_1 := hps.c5.cell 0
          have x3_1 := hps.c3.cell 0
          simp only [List.getElem?_toArray, List.getElem?_cons_zero] at x10_1 x9_1 x5_1 x3_1
          have PY1 := Lib.hid (hps.mark hdd (by have := lx_1; omega) (lt_of_heap hdd) (Nat.le_refl _))
          have hdl1 := fun E (h : E ∈ ([D0] : List Nat)) => (PX1.out.ld E h).2
          clear hps hPL hdd PX1 B10_1 P9X_1 hbw_1 P9_1 PV1
          go_upto_region 26 with fail
          go_cut [86] from 74 to 85 (fun s86 wx => s86 = .bool false ∧ Y1 = wx)
          case first =>
            by_cases hl : acc1.length = (piecesOf L).length
            · have h1 : ((acc1.length : Int) != ((piecesOf L).length : Int)) = false := by simp [hl]
              go_wp2
              go_meet
              case rel => exact ⟨rfl, rfl⟩
            · have h1 : ((acc1.length : Int) != ((piecesOf L).length : Int)) = true := by simp; omega
              rcases hcase1 with h | ⟨⟨h2, h3⟩, _⟩
              · exact absurd (congrArg List.length h) hl
              · first
                  | exact absurd h2 (by decide)
                  | (have h4 : ((acc1.length : Int) != stop) = false := by simp [h3]
                     go_wp2
                     go_meet
                     case rel => exact ⟨rfl, rfl⟩)
          obtain ⟨rfl, rfl⟩ := hcut
          go_wp2
          obtain ⟨V2, hV2⟩ : ∃ V, Y1.alloc (Obj.cells #[Value.int IntKind.i64 2] 3) = V := ⟨_, rfl⟩
          rw [hV2]
          have p9n : Blk V2 Y1.heap.size 3 #[.int .i64 2] := by rw [← hV2]; exact Blk.new _ _ _
          have hvb2 : Below Y1.heap.size Y1 V2 := by rw [← hV2]; exact (Below.refl _ Y1).alloc (Nat.le_refl _) _
          have PV2 := Lib.hid ((PY1.out.behind hvb2).up (lim' := V2.heap.size) hvb2.size (Nat.le_refl _))
          have P9_2 := Lib.hid p9n
          have l9_2 := p9n.lt
          clear hV2 p9n hvb2 PY1 x10_1 p9_1 x9_1 x5_1 x3_1 hcase1 hlY1
          generalize Y1.heap.size = q2 at P9_2 l9_2 ⊢
          rw [rounds_succ]
          have x9 := P9_2.out.cell 0
          simp only [List.getElem?_toArray, List.getElem?_cons_zero] at x9
          have hB := PV2.out.base
          go_wp2_with fail
          refine (KA.out V2 hB).mono ?_
          rintro e w9 ⟨rfl, hb9⟩
          have hp9 := Lib.hid (PV2.out.behind hb9)
          have x4 := hp9.out.c4.cell 0
          have f4 := hp9.out.c4.frozen 0
          simp only [List.getElem?_toArray, List.getElem?_cons_zero] at x4
          clear hb9 hB x9
          go_wp2
          have hk4 : Keep (fun k => k = w.heap.size + 1) w9 (w9.setCell ⟨w.heap.size + 1, 0, none⟩ (.bool true)) := (Keep.refl (fun k => k = w.heap.size + 1) w9).setCell (p := ⟨w.heap.size + 1, 0, none⟩) (.inl rfl) _
          exact leave_cell [D1, D0] rfl rfl (hp9.out.c4.set_ 0 (.bool true)) (by have h := hdl1 D0 (by simp); simp; omega)
            (fun E hE => rec_keep (hp9.out.defs E hE) hk4 (fun h => blk_not_cells hp9.out.c4 (hp9.out.defs E hE) rfl h.symm))
            (hp9.out.base.setCell (p := ⟨w.heap.size + 1, 0, none⟩) (by simp) _) (fun E hE => (hp9.out.ld E hE).1)
end Go.Proofs.YtcogoiphpfgkdaaDoor
