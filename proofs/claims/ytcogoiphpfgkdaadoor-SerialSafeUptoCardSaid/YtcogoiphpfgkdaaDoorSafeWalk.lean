/-
  SerialSafe: the walk.
-/
import Derived.Test.YtcogoiphpfgkdaaDoorPartsWalk
import Derived.Test.YtcogoiphpfgkdaaDoorSafeNames
namespace Go.Proofs.YtcogoiphpfgkdaaDoor
open Go.RowKit
set_option linter.unusedVariables false
set_option linter.unusedSimpArgs false
attribute [local go_sem] Oper.semAt_some

set_option maxHeartbeats 4000000 in
set_option maxRecDepth 100000 in
theorem serialSafe_walk (S : Nat → Prop) (L : List Nd) (A : Option Addr) (c : Nat) (w : World) (hT : Tab w) (hRT : RawTab w) (hwt : wt L ≤ 1048576) (hN : Ns S w A L.length L) (hS : ∀ k, S k → k < w.heap.size) :
    Calls Tryd.prog 8 #[.slice A L.length c] w fun e w' => e = .returned (.bool true) ∧ Below w.heap.size w w' := by
  have hS' : ∀ W, Below w.heap.size w W → ∀ k, S k → k < W.heap.size := fun W h k hk => Nat.lt_of_lt_of_le (hS k hk) h.size
  have KA := Lib.hid (fun (W : World) (h : Below w.heap.size w W) => awake_any W (hT.behind h) (hRT.behind h))
  have KG := Lib.hid (great_any S L hwt w A c hN hS)
  have KR := Lib.hid (fun (W : World) (h : Below w.heap.size w W) => raw_any S L hwt W A c (hN.behind h) (hS' W h))
  have KN := Lib.hid (fun (W : World) (h : Below w.heap.size w W) => names_any S L hwt W A c (hN.behind h) (hS' W h))
  have KS := Lib.hid (fun (W : World) (h : Below w.heap.size w W) => serialize_any S L W A c (hT.behind h) (hRT.behind h) (hS' W h) hwt (hN.behind h))
  have KP := Lib.hid (fun (W : World) (h : Below w.heap.size w W) => pieces_any S L W A c hwt (hN.behind h) (hS' W h))
  have HT := Lib.hid hT
  have HRT := Lib.hid hRT
  have hple := piecesOf_le L
  have hsp := serOut_pieces L
  have hplen : (piecesOf L).length ≤ 2097152 := by
    unfold piecesOf
    split
    · have := (ptB_le L [] 0).1; omega
    · simp
  have hpc : rawFree L = true → namesB L = true → pB (ptText (piecesOf L)) ∧ n60 (ptText (piecesOf L)) = (piecesOf L).countP tagB := fun h1 h2 => by
    refine text_clean _ fun p hp => ?_
    unfold piecesOf at hp
    split at hp
    · exact pt_clean L [] 0 (by decide) h2 h1 p hp
    · cases hp
  obtain ⟨m, hm⟩ : ∃ m, mayB L = m := ⟨_, rfl⟩
  have hso : m = false → serOut L = [] := fun h => by unfold serOut; rw [hm, h]; rfl
  obtain ⟨s, hs⟩ : ∃ s, serOut L = s := ⟨_, rfl⟩
  rw [hm, hs] at KS
  rw [hs] at hsp hso
  rw [← hsp] at hple hpc
  have hz := str_size s
  have HPC := Lib.hid hpc
  have HPLE := Lib.hid hple
  have HSP := Lib.hid hsp
  have hq : ∀ (x : Option Addr) (W : World), (binOp .eql 37 (.func (.func 43) #[] #[.pointer x]) .nilFunc).run Tryd.prog W = .ok (.bool false) W := fun x W => by kernel_rfl
  clear hT hRT hN hS hS' hm hs hpc hple hsp
  refine calls_of_wp_marks Tryd.func8 rfl ?_
  simp only [Tryd.ntmps8, List.size_toArray, List.length_cons, List.length_nil, Nat.reduceAdd, Nat.reduceSub, Array.replicate_succ,
     Array.replicate_zero, List.push_toArray, List.append_toArray, List.nil_append, List.cons_append]
  go_wp2_with fail
  refine KG.out.mono ?_
  rintro e w1 ⟨⟨b1, rfl⟩, hb1⟩
  have B1 := Lib.hid hb1
  clear hb1
  cases b1 with
  | true =>
    go_wp2_with (go_at_call 11; refine (KA.out w1 B1.out).mono ?_; rintro e w3 ⟨rfl, hb3⟩)
    exact leave_tmp [] rfl rfl List.nodup_nil (fun D h => by cases h) (B1.out.trans (hb3.mono B1.out.size)) (fun D h => by cases h)
  | false =>
  go_wp2_with fail
  refine (KR.out w1 B1.out).mono ?_
  rintro e w2 ⟨⟨b2, rfl, hr2⟩, hb2⟩
  have B2 := Lib.hid (B1.out.trans (hb2.mono B1.out.size))
  have HR2 := Lib.hid hr2
  clear hb2 hr2
  cases b2 with
  | true =>
    go_wp2_with (go_at_call 11; refine (KA.out w2 B2.out).mono ?_; rintro e w3 ⟨rfl, hb3⟩)
    exact leave_tmp [] rfl rfl List.nodup_nil (fun D h => by cases h) (B2.out.trans (hb3.mono B2.out.size)) (fun D h => by cases h)
  | false =>
  go_wp2_with fail
  refine (KN.out w2 B2.out).mono ?_
  rintro e w3 ⟨⟨b3, rfl, hr3⟩, hb3⟩
  have B3 := Lib.hid (B2.out.trans (hb3.mono B2.out.size))
  have HR3 := Lib.hid hr3
  clear hb3 hr3
  cases b3 with
  | true =>
    go_wp2_with (go_at_call 11; refine (KA.out w3 B3.out).mono ?_; rintro e w4 ⟨rfl, hb4⟩)
    exact leave_tmp [] rfl rfl List.nodup_nil (fun D h => by cases h) (B3.out.trans (hb4.mono B3.out.size)) (fun D h => by cases h)
  | false =>
  have HCL := Lib.hid (HPC.out (HR2.out (by first | rfl | trivial)) (HR3.out (by first | rfl | trivial)))
  clear HPC HR2 HR3
  go_wp2_with fail
  refine (KS.out w3 B3.out).mono ?_
  rintro e w4 ⟨rfl, hb4⟩
  have B4 := Lib.hid (B3.out.trans (hb4.mono B3.out.size))
  clear hb4
  cases m with
  | false =>
    obtain rfl := hso (by first | rfl | trivial)
    rw [show errN false = 210 from rfl]
    go_wp2_with (first | (go_at_call 10; refine (num_any _ _).mono ?_; rintro e w8 ⟨rfl, rfl⟩) | (go_at_call 11; refine (KA.out _ B4.out).mono ?_; rintro e w9 ⟨rfl, hb9⟩))
    exact leave_tmp [] rfl rfl List.nodup_nil (fun D h => by cases h) (B4.out.trans (hb9.mono B4.out.size)) (fun D h => by cases h)
  | true =>
  rw [show errN true = 0 from rfl]
  clear hso
  go_wp2_with (go_at_call 10; refine (num_any _ _).mono ?_; rintro e w8 ⟨rfl, rfl⟩)
  obtain ⟨W8, hW8⟩ : ∃ W8, w4.alloc (.cells #[.int .i64 0] 3) = W8 := ⟨_, rfl⟩
  rw [hW8]
  have b8 : Blk W8 w4.heap.size 3 #[.int .i64 0] := by rw [← hW8]; exact Blk.new _ _ _
  have v8 : Below w4.heap.size w4 W8 := by rw [← hW8]; exact (Below.refl _ w4).alloc (Nat.le_refl _) _
  clear hW8
  have hB8 := B4.out.trans (v8.mono B4.out.size)
  have l7 := B4.out.size
  have l8 := v8.size
  have b8l := b8.lt
  refine (KP.out W8 hB8).mono ?_
  rintro e w9 ⟨bo, A9, c9, rfl, hbo, hblk, hn9, hb9⟩
  have B9 := Lib.hid (hB8.trans (hb9.mono hB8.size))
  have HB9 := Lib.hid (b8.below hb9 b8.lt)
  have HBO := Lib.hid hblk
  have HN9 := Lib.hid hn9
  have l9 := hb9.size
  have lbo := hblk.lt
  clear hblk hn9 hb9 hB8 b8 v8 KP B4
  have HBW := Lib.hid (fun W (h : Keep (fun k => k = w4.heap.size) w9 W) => B9.out.trans (h.below (B := w.heap.size) B9.out.size (fun i hi (e : i = w4.heap.size) => by omega)))
  go_wp2_with fail
  refine wp_range_pieces (S := fun k => W8.heap.size ≤ k ∧ k < bo) (bp := w4.heap.size) (bo := bo) (A := A9) (c := c9) (L := L) 3 25 (fun acc => #[.int .i64 ((acc.countP tagB : Nat) : Int)]) (fun _ => False) 0 rfl rfl (by omega) HBO.out HB9.out
    (fun W h => HT.out.behind (HBW.out W h)) (fun W h => HRT.out.behind (HBW.out W h)) (fun k h => by omega) (fun k h => by omega) (by omega) HN9.out ?_ (fun a W h => h) ?_
  next =>
    rintro l D r a0 p W0 W hD hDl hpre hPL
    simp only [pieceArgs]
    gi_wp2
    refine ⟨trivial, ?_⟩
    intro W2 hl hd hy2
    have hcn : ((a0 ++ [p]).countP tagB : Nat) = a0.countP tagB + if tagB p = true then 1 else 0 := by rw [List.countP_append, List.countP_cons, List.countP_nil]; omega
    have hca : a0.countP tagB ≤ 2097152 := by
      have h1 := List.countP_le_length (p := tagB) (l := a0)
      obtain ⟨rr, hrr⟩ := hpre
      have h2 := congrArg List.length hrr
      rw [List.length_append, List.length_append] at h2
      omega
    have c0 := hy2.blk.cell 0
    have f0 := hy2.blk.frozen 0
    simp only [List.getElem?_toArray, List.getElem?_cons_zero] at c0
    have HY := Lib.hid hy2
    have HL := Lib.hid hl
    have HD := Lib.hid hd
    have HCN := Lib.hid hcn
    clear hy2 hl hd hPL hcn
    have hsame : tagB p = false → openPost (PI w9 w4.heap.size 3 (fun acc => #[.int .i64 ((acc.countP tagB : Nat) : Int)]) (piecesOf L)) (PX w9 w4.heap.size 3 (fun acc => #[.int .i64 ((acc.countP tagB : Nat) : Int)]) (piecesOf L) fun _ => False) 0 (a0 ++ [p], W0) l D r Exit.normal ⟨#[], []⟩ W2 := fun h => by
      refine ⟨HL.out, HD.out, hpre, ?_⟩
      have e := HCN.out
      rw [h, if_neg (by decide), Nat.add_zero] at e
      show PL _ _ _ #[.int .i64 (((a0 ++ [p]).countP tagB : Nat) : Int)] _ _
      rw [e]
      exact HY.out
    have hmore : tagB p = true → ∀ n, a0.countP tagB = n → openPost (PI w9 w4.heap.size 3 (fun acc => #[.int .i64 ((acc.countP tagB : Nat) : Int)]) (piecesOf L)) (PX w9 w4.heap.size 3 (fun acc => #[.int .i64 ((acc.countP tagB : Nat) : Int)]) (piecesOf L) fun _ => False) 0 (a0 ++ [p], W0) l D r Exit.normal ⟨#[], []⟩ (W2.setCell ⟨w4.heap.size, 0, none⟩ (.int .i64 ((n : Int) + 1))) := fun h n hn => by
      have hk : Keep (fun k => k = w4.heap.size) W2 (W2.setCell ⟨w4.heap.size, 0, none⟩ (.int .i64 ((n : Int) + 1))) := (Keep.refl (fun k => k = w4.heap.size) W2).setCell (p := ⟨w4.heap.size, 0, none⟩) (.inl rfl) _
      refine ⟨rec_keep HL.out hk (fun h => blk_not_cells HY.out.blk HL.out rfl h.symm), rec_keep HD.out hk (fun h => blk_not_cells HY.out.blk HD.out rfl h.symm), hpre, ?_⟩
      have e := HCN.out
      rw [h, if_pos rfl, hn] at e
      show PL _ _ _ #[.int .i64 (((a0 ++ [p]).countP tagB : Nat) : Int)] _ _
      rw [e]
      exact HY.out.next (by unfold plainT; decide) _
    have HSAME := Lib.hid hsame
    have HMORE := Lib.hid hmore
    clear hsame hmore
    obtain ⟨n, hn⟩ : ∃ n, a0.countP tagB = n := ⟨_, rfl⟩
    rw [hn] at c0 hca
    have HN := Lib.hid hn
    clear hn
    cases hpt : p.t with
    | nil =>
      have hz0 : (str ([] : List UInt8)).size = 0 := rfl
      gi_wp2
      exact HSAME.out (by unfold tagB; rw [hpt]; rfl)
    | cons x xs =>
      have hsz := str_size (x :: xs)
      have hget : (str (x :: xs))[0]'(by rw [str_size]; simp) = x := rfl
      cases hx : (((x.toNat : Nat) : Int) == 60) with
      | true =>
        have hx2 : tagB p = true := by unfold tagB; rw [hpt]; have := eq_of_beq hx; simp; omega
        have HX := Lib.hid hx2
        clear hx2
        gi_wp2
        exact HMORE.out HX.out n HN.out
      | false =>
        have hx2 : tagB p = false := by unfold tagB; rw [hpt]; have : ¬ ((x.toNat : Nat) : Int) = 60 := by simpa using hx
                                        simp; omega
        have HX := Lib.hid hx2
        clear hx2
        gi_wp2
        exact HSAME.out HX.out
  next =>
    rintro D acc W0 W hD hcase hPL hdd
    have hacc : acc = piecesOf L := by rcases hcase with h | h; exact h; exact h.1.elim
    subst hacc
    obtain ⟨hcl, hct⟩ := HCL.out
    have c0 := hPL.blk.cell 0
    simp only [List.getElem?_toArray, List.getElem?_cons_zero, ← hct] at c0
    have B10 := Lib.hid (HBW.out W hPL.keep)
    have HD := Lib.hid hdd
    have lp := hPL.blk.lt
    have hT0 : n60 s ≤ s.length := List.countP_le_length
    have hsl : s.length ≤ 6291456 := by have := HPLE.out; omega
    have hr0 := rns_facts s
    rw [hcl.2] at hr0
    obtain ⟨T, hT⟩ : ∃ T, n60 s = T := ⟨_, rfl⟩
    rw [hT] at c0 hT0 hr0
    have HR0 := Lib.hid hr0
    clear hPL hcase hdd hcl hct hr0 hT
    go_wp2_with fail
    obtain ⟨W3, hW3⟩ : ∃ W3, W.iter (str s) 0 = W3 := ⟨_, rfl⟩
    rw [hW3]
    have hit0 : W3.heap[W.heap.size]? = some (.stringIter (str s) 0) := by rw [← hW3]; simpa using World.iter_heap W (str s) 0
    have hb3 : Below W.heap.size W W3 := by rw [← hW3]; exact (Below.refl _ W).alloc (Nat.le_refl _) _
    have IT0 := Lib.hid hit0
    have V3 := Lib.hid hb3
    clear hW3 hit0 hb3
    go_loopw [6] (fun o wr3 => ∃ (pos k : Nat), pos ≤ s.length ∧ o = .int .i64 k ∧ Hid (wr3.heap[W.heap.size]? = some (.stringIter (str s) pos)) ∧ Hid (k + (rns (s.drop pos)).count 60 = T) ∧ Hid (160 ∉ rns (s.drop pos)) ∧ Hid (Below W.heap.size W wr3)) (fun _ wr3 => s.length - wr3.iterPos W.heap.size)
    case atStart => exact ⟨0, 0, Nat.zero_le _, rfl, IT0, Lib.hid (by rw [List.drop_zero, HR0.out.1]; omega), Lib.hid (by rw [List.drop_zero]; intro h; have := HR0.out.2.1 h; cases this), V3⟩
    case round =>
      obtain ⟨pos, k, hpl, rfl, HI, HK, H160, HV⟩ := hrel
      by_cases hpt : pos < s.length
      · obtain ⟨z, u, hdec, hu1, hu2, hrn⟩ := rns_step s pos hpt
        have hnx : ∀ ty, (Instr.next (.pointer (some ⟨W.heap.size, 0, none⟩)) true ty).run Tryd.prog wr = .ok (.tuple #[.bool true, .int .i64 pos, .int .i32 z]) (wr.iterAt W.heap.size (str s) (pos + u)) := fun ty => by
          have := Lib.run_next_any_at (P := Tryd.prog) wr W.heap.size (str s) pos ty HI.out (by rw [hz]; omega)
          rw [hdec] at this
          exact this
        have hit2 := Lib.iterAt_heap wr W.heap.size (str s) pos (pos + u) HI.out
        have hw2 : Below W.heap.size W (wr.iterAt W.heap.size (str s) (pos + u)) := by
          have hki : Keep (fun k => k = W.heap.size) wr (wr.iterAt W.heap.size (str s) (pos + u)) := ⟨rfl, rfl, rfl, by rw [Lib.iterAt_size]; exact Nat.le_refl _, fun k _ hk => Lib.iterAt_other wr _ k _ _ hk⟩
          exact HV.out.trans (hki.below HV.out.size (fun i hi e => by omega))
        have HMS := Lib.hid (show wr.iterPos W.heap.size = pos by simp [World.iterPos, HI.out])
        have hk2 := HK.out
        have h162 := H160.out
        rw [hrn] at hk2 h162
        rw [List.count_cons] at hk2
        simp only [List.mem_cons, not_or] at h162
        have hz160 : z ≠ 160 := fun e => h162.1 e.symm
        have H2 := Lib.hid h162.2
        obtain ⟨W4, hW4⟩ : ∃ W4, wr.iterAt W.heap.size (str s) (pos + u) = W4 := ⟨_, rfl⟩
        rw [hW4] at hnx hit2 hw2
        have HI2 := Lib.hid hit2
        have HV2 := Lib.hid hw2
        have hmeas : W4.iterPos W.heap.size = pos + u := by simp [World.iterPos, hit2]
        have HM2 := Lib.hid hmeas
        have f1 : ((z : Int) == 160) = false := by rw [beq_eq_false_iff_ne]; omega
        have hkb : k ≤ 6291456 := by omega
        clear hW4 hit2 hw2 hdec hrn hmeas h162
        by_cases q0 : z = 60
        · have f0 : ((z : Int) == 60) = true := by rw [q0]; rfl
          rw [if_pos (by simp [q0])] at hk2
          have HK2 := Lib.hid hk2
          clear hk2
          go_wp2
          go_roundw
          case rel => exact ⟨pos + u, k + 1, hu2, by go_num, HI2, Lib.hid (by have := HK2.out; omega), H2, HV2⟩
          case measure => rw [HMS.out, HM2.out]; omega
        · have f0 : ((z : Int) == 60) = false := by rw [beq_eq_false_iff_ne]; omega
          rw [if_neg (by simpa using q0)] at hk2
          have HK2 := Lib.hid hk2
          clear hk2
          go_wp2
          go_roundw
          case rel => exact ⟨pos + u, k, hu2, rfl, HI2, Lib.hid (by have := HK2.out; omega), H2, HV2⟩
          case measure => rw [HMS.out, HM2.out]; omega
      · have hnx : ∀ ty, (Instr.next (.pointer (some ⟨W.heap.size, 0, none⟩)) true ty).run Tryd.prog wr = .ok (.tuple #[.bool false]) wr := fun ty => Lib.run_next_end_at (P := Tryd.prog) wr W.heap.size (str s) pos ty HI.out (by rw [hz]; omega)
        obtain rfl : k = T := by
          have := HK.out
          rw [List.drop_eq_nil_of_le (by omega), rns_nil] at this
          simpa using this
        replace c0 := (HV.out.cell (p := ⟨w4.heap.size, 0, none⟩) lp).trans c0
        have B11 := Lib.hid (B10.out.trans (HV.out.mono B10.out.size))
        have HD11 := Lib.hid (rec_keep HD.out (Keep.of_below HV.out (fun _ => False)) id)
        go_wp2_with (go_at_call 11; refine (KA.out _ B11.out).mono ?_; rintro e w13 ⟨rfl, hb13⟩)
        exact leave_tmp [D] rfl rfl (by simp) (fun E h => by obtain rfl := List.mem_singleton.1 h; exact rec_keep HD11.out (Keep.of_below hb13 (fun _ => False)) id) (B11.out.trans (hb13.mono B11.out.size)) (fun E h => by obtain rfl := List.mem_singleton.1 h; have := B9.out.size; omega)
end Go.Proofs.YtcogoiphpfgkdaaDoor
