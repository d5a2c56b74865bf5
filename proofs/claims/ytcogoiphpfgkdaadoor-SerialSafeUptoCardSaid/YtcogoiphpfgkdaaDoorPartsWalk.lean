/-
  SerialParts: the walk.
-/
import Derived.Test.YtcogoiphpfgkdaaDoorPiecesAll
import Derived.Test.YtcogoiphpfgkdaaDoorCopies
import Derived.Test.YtcogoiphpfgkdaaDoorSerialAll
import Derived.Deep.Cut
namespace Go.Proofs.YtcogoiphpfgkdaaDoor
open Go.RowKit
set_option linter.unusedVariables false
set_option linter.unusedSimpArgs false
attribute [local go_sem] Oper.semAt_some

theorem mayB_append (a b : List Nd) : mayB (a ++ b) = (mayB a && mayB b) := by
  induction a with
  | nil => rw [List.nil_append, mayB_nil, Bool.true_and]
  | cons d a ih => rw [List.cons_append, mayB_cons, mayB_cons, ih, Bool.and_assoc]
theorem ptB_append (parent : List UInt8) (d : Nat) (a b : List Nd) : ptB parent d (a ++ b) = ptB parent d a ++ ptB parent d b := by
  induction a with
  | nil => rw [List.nil_append, ptB_nil, List.nil_append]
  | cons x a ih => rw [List.cons_append, ptB_cons, ptB_cons, ih, List.append_assoc]
theorem wt_append (a b : List Nd) : wt (a ++ b) = wt a + wt b := by
  induction a with
  | nil => rw [List.nil_append, wt_nil, Nat.zero_add]
  | cons x a ih => rw [List.cons_append, wt_cons, wt_cons, ih]; omega

theorem ptText_pre {a R : List PT} (h : a <+: R) : (ptText a).length ≤ (ptText R).length := by
  obtain ⟨r, rfl⟩ := h
  rw [ptText_append, List.length_append]
  omega
theorem piecesOf_le (L : List Nd) : (ptText (piecesOf L)).length ≤ 6 * wt L := by
  unfold piecesOf
  split
  · exact (ptB_le L [] 0).2
  · simp [ptText]
theorem serOut_pieces (L : List Nd) : serOut L = ptText (piecesOf L) := by
  unfold serOut piecesOf
  split <;> rfl
theorem serOut_append (a b : List Nd) : serOut (a ++ b) = if (mayB a && mayB b) = true then serOut a ++ serOut b else [] := by
  unfold serOut
  rw [mayB_append]
  cases mayB a <;> cases mayB b <;> simp [ptB_append, ptText_append]
/-- Leaving with a result in a slot. -/
theorem leave_tmp {fn : Func} {t : Tmp} {tmps : Array Value} {w0 W : World} (Ds : List Nat) (hr : fn.results = #[.tmp t]) (ht : tmps.getD t undef = .bool true)
    (hn : Ds.Nodup) (hD : ∀ D ∈ Ds, W.heap[D]? = some (.deferred (some []))) (hB : Below w0.heap.size w0 W) (hlow : ∀ D ∈ Ds, w0.heap.size ≤ D) :
    bodyPostM Fence.wide 9 Tryd.prog fn (fun e w' => e = .returned (.bool true) ∧ Below w0.heap.size w0 w') .ret { tmps := tmps, defers := marksOf Ds } W :=
  leaves_marks Ds W hn hD (by rw [results_tmp hr, ht]) ⟨rfl, shut_below Ds W hB (fun D h => ⟨hlow D h, lt_of_heap (hD D h)⟩) hB.size⟩

set_option maxHeartbeats 4000000 in
set_option maxRecDepth 100000 in
theorem serialParts_walk (S : Nat → Prop) (La Lb : List Nd) (A B : Option Addr) (c d : Nat) (w : World) (hT : Tab w) (hRT : RawTab w) (hwt : wt La + wt Lb ≤ 1048576) (hNa : Ns S w A La.length La) (hNb : Ns S w B Lb.length Lb) (hS : ∀ k, S k → k < w.heap.size) :
    Calls Tryd.prog 6 #[.slice A La.length c, .slice B Lb.length d] w fun e w' => e = .returned (.bool true) ∧ Below w.heap.size w w' := by
  have hS' : ∀ W, Below w.heap.size w W → ∀ k, S k → k < W.heap.size := fun W h k hk => Nat.lt_of_lt_of_le (hS k hk) h.size
  have KA := Lib.hid (fun (W : World) (h : Below w.heap.size w W) => awake_any W (hT.behind h) (hRT.behind h))
  have KGa := Lib.hid (great_any S La (by omega) w A c hNa hS)
  have KGb := Lib.hid (fun (W : World) (h : Below w.heap.size w W) => great_any S Lb (by omega) W B d (hNb.behind h) (hS' W h))
  have KSa := Lib.hid (fun (W : World) (h : Below w.heap.size w W) => serialize_any S La W A c (hT.behind h) (hRT.behind h) (hS' W h) (by omega) (hNa.behind h))
  have KSb := Lib.hid (fun (W : World) (h : Below w.heap.size w W) => serialize_any S Lb W B d (hT.behind h) (hRT.behind h) (hS' W h) (by omega) (hNb.behind h))
  have KSc := Lib.hid (fun (W : World) (A' : Option Addr) (c' : Nat) (h : Below w.heap.size w W) (hN : Ns (fun k => k < W.heap.size) W A' (La ++ Lb).length (La ++ Lb)) => serialize_any _ (La ++ Lb) W A' c' (hT.behind h) (hRT.behind h) (fun k h => h) (by rw [wt_append]; omega) hN)
  have KP := Lib.hid (fun (W : World) (h : Below w.heap.size w W) => pieces_any S La W A c (by omega) (hNa.behind h) (hS' W h))
  have KL := Lib.hid (fun (W : World) (h : Below w.heap.size w W) => length_any S Lb W B d (hT.behind h) (hRT.behind h) (hS' W h) (by omega) (hNb.behind h))
  have HNa := Lib.hid hNa
  have HNb := Lib.hid hNb
  have HT := Lib.hid hT
  have HRT := Lib.hid hRT
  have HS := Lib.hid hS
  have hla := wt_length La
  have hlb := wt_length Lb
  have hsc := serOut_append La Lb
  have hple := piecesOf_le La
  have hsp := serOut_pieces La
  have hle2 : (serOut Lb).length ≤ 6 * wt Lb := by rw [serOut_pieces]; exact piecesOf_le Lb
  rw [mayB_append] at KSc
  rw [List.length_append] at KSc
  obtain ⟨ma, hma⟩ : ∃ ma, mayB La = ma := ⟨_, rfl⟩
  obtain ⟨mb, hmb⟩ : ∃ mb, mayB Lb = mb := ⟨_, rfl⟩
  obtain ⟨sa, hsa⟩ : ∃ sa, serOut La = sa := ⟨_, rfl⟩
  obtain ⟨sb, hsb⟩ : ∃ sb, serOut Lb = sb := ⟨_, rfl⟩
  obtain ⟨sc, hsc'⟩ : ∃ sc, serOut (La ++ Lb) = sc := ⟨_, rfl⟩
  rw [hma, hmb, hsa, hsb, hsc'] at hsc
  rw [hma, hsa] at KSa
  rw [hmb, hsb] at KSb KL
  rw [hma, hmb, hsc'] at KSc
  rw [hsa] at hsp
  rw [hsb] at hle2
  have hzb := str_size sb
  have HSP := Lib.hid hsp
  have HPLE := Lib.hid hple
  have HSC := Lib.hid hsc
  obtain ⟨i0, hi, hz0, hz1, hz2⟩ := info_parts ndinfo
  have hq : ∀ (x : Option Addr) (W : World), (binOp .eql 37 (.func (.func 43) #[] #[.pointer x]) .nilFunc).run Tryd.prog W = .ok (.bool false) W := fun x W => by kernel_rfl
  clear hT hRT hNa hNb hS hS' hma hmb hsa hsb hsc' hsp hple hsc
  refine calls_of_wp_marks Tryd.func6 rfl ?_
  simp only [Tryd.ntmps6, List.size_toArray, List.length_cons, List.length_nil, Nat.reduceAdd, Nat.reduceSub, Array.replicate_succ,
     Array.replicate_zero, List.push_toArray, List.append_toArray, List.nil_append, List.cons_append]
  go_wp2_with fail
  refine KGa.out.mono ?_
  rintro e w1 ⟨⟨b1, rfl⟩, hb1⟩
  have B1 := Lib.hid hb1
  clear hb1
  cases b1 with
  | true =>
    go_wp2_with (go_at_call 11; refine (KA.out w1 B1.out).mono ?_; rintro e w3 ⟨rfl, hb3⟩)
    exact leave_tmp [] rfl rfl List.nodup_nil (fun D h => by cases h) (B1.out.trans (hb3.mono B1.out.size)) (fun D h => by cases h)
  | false =>
    go_wp2_with fail
    refine (KGb.out w1 B1.out).mono ?_
    rintro e w2 ⟨⟨b2, rfl⟩, hb2⟩
    have B2 := Lib.hid (B1.out.trans (hb2.mono B1.out.size))
    clear hb2
    cases b2 with
    | true =>
      go_wp2_with (go_at_call 11; refine (KA.out w2 B2.out).mono ?_; rintro e w3 ⟨rfl, hb3⟩)
      exact leave_tmp [] rfl rfl List.nodup_nil (fun D h => by cases h) (B2.out.trans (hb3.mono B2.out.size)) (fun D h => by cases h)
    | false =>
      go_wp2_with fail
      refine (KSa.out w2 B2.out).mono ?_
      rintro e w3 ⟨rfl, hb3⟩
      have B3 := Lib.hid (B2.out.trans (hb3.mono B2.out.size))
      clear hb3
      go_wp2_with fail
      refine (KSb.out w3 B3.out).mono ?_
      rintro e w4 ⟨rfl, hb4⟩
      have B4 := Lib.hid (B3.out.trans (hb4.mono B3.out.size))
      clear hb4
      obtain ⟨xa, hra, hca⟩ := (HNa.out.behind B4.out).row
      obtain ⟨xb, hrb, hcb⟩ := (HNb.out.behind B4.out).row
      have RA := Lib.hid hra
      have RB := Lib.hid hrb
      have CA := Lib.hid hca
      have CB := Lib.hid hcb
      clear hra hrb hca hcb
      go_wp2_with (first
        | (at_builtin; refine wpList_append_copy w4 rfl _ _ 25 rfl 41 i0 _ 4 80 Tryd.underlying25 hi hz0 hz1 hz2 rfl (by decide) rfl S A La.length c xa rfl RA.out CA.out.one (by simp only [maxLen]; omega) (by omega) ?_; intro A5 c5 w5 hown5 hb5 _ _; have O5 := Lib.hid hown5; have V5 := Lib.hid hb5; clear hown5 hb5)
        | (at_builtin; refine wpList_append_out _ rfl _ _ 25 rfl w4.heap.size 41 i0 _ 4 80 Tryd.underlying25 hi hz0 hz1 hz2 rfl (by decide) _ La.length xa rfl O5.out S B Lb.length d xb rfl (RB.out.behind V5.out) CB.out.one (by simp only [maxLen]; omega) (by omega) V5.out.size ?_; intro A6 c6 w6 hown6 hg6 _ _; have O6 := Lib.hid hown6; have V6 := Lib.hid (V5.out.grown hg6 V5.out.size (fun k hk => (O5.out.lt k hk).1)); clear hown6 hg6))
      have B6 := Lib.hid (B4.out.trans (V6.out.mono B4.out.size))
      have N6 := Lib.hid (Cells.ns (((CA.out.append CB.out).behind V6.out).wide (T := fun k => k < w6.heap.size) (fun k h _ => h)) ((Row.of_own O6.out).more (fun k h _ => h) (by decide)))
      clear CA CB RA RB O5 V5 O6 V6
      refine (KSc.out w6 A6 c6 B6.out N6.out).mono ?_
      rintro e w7 ⟨rfl, hb7⟩
      have B7 := Lib.hid (B6.out.trans (hb7.mono B6.out.size))
      clear hb7 KSa KSb KSc KGa KGb N6 B1 B2 B3 B4 B6
      by_cases hmm : (ma && mb) = true
      case neg =>
        have hsc := HSC.out
        rw [if_neg hmm] at hsc
        have h1 : (ma && mb) = false := by simpa using hmm
        rw [h1]
        subst hsc
        have h2 : errN false = 210 := rfl
        have h3 : errN true = 0 := rfl
        rw [h2]
        clear HSC hmm
        cases ma <;> cases mb
        case true.true => cases h1
        all_goals
          rw [h2]
          try rw [h3]
          clear h1 h2 h3
          go_wp2_with (first | (go_at_call 10; refine (num_any _ _).mono ?_; rintro e w8 ⟨rfl, rfl⟩) | (go_at_call 11; refine (KA.out _ B7.out).mono ?_; rintro e w9 ⟨rfl, hb9⟩))
          exact leave_tmp [] rfl rfl List.nodup_nil (fun D h => by cases h) (B7.out.trans (hb9.mono B7.out.size)) (fun D h => by cases h)
      case pos =>
        obtain ⟨rfl, rfl⟩ : ma = true ∧ mb = true := by simpa using hmm
        have hsc := HSC.out
        rw [if_pos hmm] at hsc
        have h3 : errN true = 0 := rfl
        have h4 : errN (true && true) = 0 := rfl
        rw [h3, h4]
        rw [h3] at KL
        have e1 : str sa ++ str sb = str sc := by rw [hsc]; exact str_append sa sb
        have z1 : (str sa).size ≤ 8388608 := by rw [str_size, HSP.out]; have := HPLE.out; omega
        have z2 : (str sb).size ≤ 8388608 := by rw [str_size]; omega
        clear HSC hmm hsc h3 h4
        go_wp2_with (go_at_call 10; refine (num_any _ _).mono ?_; rintro e w8 ⟨rfl, rfl⟩)
        obtain ⟨W8, hW8⟩ : ∃ W8, w7.alloc (.cells #[.string ⟨#[]⟩] 9) = W8 := ⟨_, rfl⟩
        rw [hW8]
        have b8 : Blk W8 w7.heap.size 9 #[.string ⟨#[]⟩] := by rw [← hW8]; exact Blk.new _ _ _
        have v8 : Below w7.heap.size w7 W8 := by rw [← hW8]; exact (Below.refl _ w7).alloc (Nat.le_refl _) _
        clear hW8
        have hB8 := B7.out.trans (v8.mono B7.out.size)
        have l7 := B7.out.size
        have l8 := v8.size
        have b8l := b8.lt
        refine (KP.out W8 hB8).mono ?_
        rintro e w9 ⟨bo, A9, c9, rfl, hbo, hblk, hn9, hb9⟩
        have B9 := Lib.hid (hB8.trans (hb9.mono hB8.size))
        have HB9 := Lib.hid (b8.below hb9 b8.lt)
        have HBO := Lib.hid hblk
        have HN9 := Lib.hid hn9
        have l9 := hb9.size
        have lbo := hblk.lt
        clear hblk hn9 hb9 hB8 b8 v8 KP B7
        have HBW := Lib.hid (fun W (h : Keep (fun k => k = w7.heap.size) w9 W) => B9.out.trans (h.below (B := w.heap.size) B9.out.size (fun i hi (e : i = w7.heap.size) => by omega)))
        go_wp2_with fail
        refine wp_range_pieces (S := fun k => W8.heap.size ≤ k ∧ k < bo) (bp := w7.heap.size) (bo := bo) (A := A9) (c := c9) (L := La) 9 25 (fun acc => #[.string (str (ptText acc))]) (fun _ => False) 0 rfl rfl (by omega) HBO.out HB9.out
          (fun W h => HT.out.behind (HBW.out W h)) (fun W h => HRT.out.behind (HBW.out W h)) (fun k h => by omega) (fun k h => by omega) (by omega) HN9.out ?_ (fun a W h => h) ?_
        next =>
          rintro l D r a0 p W0 W hD hDl hpre hPL
          have hle := ptText_pre hpre
          have hsn := ptText_snoc a0 p
          have e2 : str (ptText a0) ++ str p.t = str (ptText (a0 ++ [p])) := by rw [ptText_append]; simp only [ptText, List.flatMap_cons, List.flatMap_nil, List.append_nil]; exact str_append _ _
          have z3 : (str (ptText a0)).size ≤ 8388608 := by rw [str_size]; have := HPLE.out; omega
          have z4 : (str p.t).size ≤ 8388608 := by rw [str_size]; have := HPLE.out; omega
          obtain ⟨x0, hx0⟩ : ∃ x0, str (ptText a0) = x0 := ⟨_, rfl⟩
          obtain ⟨x1, hx1⟩ : ∃ x1, str (ptText (a0 ++ [p])) = x1 := ⟨_, rfl⟩
          have HX0 := Lib.hid hx0
          have HX1 := Lib.hid hx1
          rw [hx0] at z3
          rw [hx0, hx1] at e2
          clear hle hsn hPL hx0 hx1
          simp only [pieceArgs]
          gi_wp2
          refine ⟨trivial, ?_⟩
          intro W2 hl hd hy2
          have c0 := hy2.blk.cell 0
          have f0 := hy2.blk.frozen 0
          simp only [List.getElem?_toArray, List.getElem?_cons_zero] at c0
          rw [HX0.out] at c0
          have HY := Lib.hid hy2
          have HL := Lib.hid hl
          have HD := Lib.hid hd
          clear hy2 hl hd
          gi_wp2
          have hk : Keep (fun k => k = w7.heap.size) W2 (W2.setCell ⟨w7.heap.size, 0, none⟩ (.string x1)) := (Keep.refl (fun k => k = w7.heap.size) W2).setCell (p := ⟨w7.heap.size, 0, none⟩) (.inl rfl) _
          refine ⟨rec_keep HL.out hk (fun h => blk_not_cells HY.out.blk HL.out rfl h.symm), rec_keep HD.out hk (fun h => blk_not_cells HY.out.blk HD.out rfl h.symm), hpre, ?_⟩
          have := HY.out.next (by unfold plainT; decide) (.string x1)
          rw [← HX1.out] at this ⊢
          exact this
        next =>
          rintro D acc W0 W hD hcase hPL hdd
          have hacc : acc = piecesOf La := by rcases hcase with h | h; exact h; exact h.1.elim
          subst hacc
          have c0 := hPL.blk.cell 0
          simp only [List.getElem?_toArray, List.getElem?_cons_zero, ← HSP.out] at c0
          have B10 := Lib.hid (HBW.out W hPL.keep)
          have HD := Lib.hid hdd
          have lp := hPL.blk.lt
          clear hPL hcase hdd
          go_wp2_with fail
          refine (KL.out W B10.out).mono ?_
          rintro e w11 ⟨rfl, hb11⟩
          have B11 := Lib.hid (B10.out.trans (hb11.mono B10.out.size))
          have HD11 := Lib.hid (rec_keep HD.out (Keep.of_below hb11 (fun _ => False)) id)
          replace c0 := (hb11.cell (p := ⟨w7.heap.size, 0, none⟩) lp).trans c0
          have l11 := hb11.size
          clear hb11
          go_wp2_with (first | (go_at_call 10; refine (num_any _ _).mono ?_; rintro e w12 ⟨rfl, rfl⟩) | (go_at_call 11; refine (KA.out _ B11.out).mono ?_; rintro e w13 ⟨rfl, hb13⟩))
          exact leave_tmp [D] rfl rfl (by simp) (fun E h => by obtain rfl := List.mem_singleton.1 h; exact rec_keep HD11.out (Keep.of_below hb13 (fun _ => False)) id) (B11.out.trans (hb13.mono B11.out.size)) (fun E h => by obtain rfl := List.mem_singleton.1 h; have := B9.out.size; omega)
end Go.Proofs.YtcogoiphpfgkdaaDoor
