/-
  The program's All of bytes, as an iterator; its Runes of bytes.
-/
import Derived.Test.YtgkiffodnofggaaGreatDoorRangeOpen
import Derived.Test.YtgkiffodnofggaaGreatDoorUtfRead
import Derived.Test.YtgkiffodnofggaaGreatDoorRRunes
import Derived.RangeFuncBound
import Derived.OwnWalkIn
import Derived.TacticsInMore
import Derived.LoopIn
namespace Go.Proofs.YtgkiffodnofggaaGreatDoor
open Go.RowKit
set_option linter.unusedVariables false
set_option linter.unusedSimpArgs false
attribute [local go_sem] Oper.semAt_some

theorem blk_not_cells {W : World} {g l : Nat} {t : TypeId} {cs : Array Value} {o : Obj} (h : Blk W g t cs) (hl : W.heap[l]? = some o) (ho : o.isCells = false) : g ≠ l := by
  rintro rfl
  unfold Blk at h
  rw [h] at hl
  injection hl with hl
  subst hl
  simp [Obj.isCells] at ho
theorem blk_put {W : World} {g l : Nat} {t : TypeId} {cs : Array Value} (h : Blk W g t cs) (hne : g ≠ l) (o : Obj) : Blk (W.putObj l o) g t cs := (World.putObj_heap_other hne).trans h
theorem own_not {W : World} {lo size n l : Nat} {t : TypeId} {v : Value} {xs : List Value} {o : Obj} (h : W.ownsRow lo t size v n xs) (hl : W.heap[l]? = some o) (ho : o.isCells = false) : v.ownBlock ≠ some l := by
  rcases own_form h with ⟨rfl, _, _⟩ | ⟨g, cap, cur, rfl, _, _, hb, _⟩
  · simp [Value.ownBlock]
  · intro e
    have : g = l := by simpa [Value.ownBlock] using e
    subst this
    rw [hb] at hl
    injection hl with hl
    subst hl
    cases ho

/-- What a round is handed: a place and a rune. -/
def runeArgs (x : Nat × Nat) : Array Value := #[.int .i64 (x.1 : Int), .int .i32 (x.2 : Int)]
/-- What the iterator asks of the loop's words: where the bytes lie; a step. -/
structure UWords (bb n c : Nat) (A : Option Addr) (S : Nat → Prop) (l : List UInt8) (I : Nat × List Nat → World → Prop) (Y : Nat × List Nat → Nat × Nat → World → Prop) : Prop where
  src : ∀ s W, I s W → W.cell? ⟨bb, 0, none⟩ = some (.slice A n c) ∧ Row S W 1 A n (bv l)
  step : ∀ k P d r W q, I (k, P) W → l.drop k = d :: r → Y (k + (pcOf 0 d r).size, P ++ [(pcOf 0 d r).r]) (k, (pcOf 0 d r).r) (W.drewN q)

set_option maxHeartbeats 8000000 in
set_option maxRecDepth 100000 in
theorem all1_open {B : World} {bb n c : Nat} {A : Option Addr} {S : Nat → Prop} {l : List UInt8} {I Ix : Nat × List Nat → World → Prop} {Y : Nat × List Nat → Nat × Nat → World → Prop} (hw : UWords bb n c A S l I Y) (hn : n ≤ 1073741824) (hnc : n ≤ c) :
    IterOpen Tryz.prog 78 #[.pointer (some ⟨bb, 0, none⟩)] runeArgs B I Ix Y (fun s => s.1 = n) (0, []) := by
  intro lp K Kx W hK hB h0 hk0 hR
  have HW := Lib.hid hw
  have HK := Lib.hid hK
  have HI := Lib.hid h0
  have HK0 := Lib.hid hk0
  have HR := Lib.hid hR
  have hl : l.length = n := by have := (hw.src _ _ h0).2.1; rw [bv_length] at this; omega
  clear hw hK h0 hk0 hR hB
  refine callsIn_of_wp Tryz.func78 rfl trivial ?_ rfl
  simp only [Tryz.ntmps78, List.size_toArray, List.length_cons, List.length_nil, Nat.reduceAdd, Nat.reduceSub, Array.replicate_succ, Array.replicate_zero, List.push_toArray, List.append_toArray, List.nil_append, List.cons_append]
  gi_wp2_with fail
  gi_loopw [3] (fun v wr => ∃ (k : Nat) (P : List Nat), v = .int .i64 k ∧ k ≤ n ∧ Hid (I (k, P) wr) ∧ Hid (K wr)) (fun v _ => n - (intOf v).toNat)
  case atStart => exact ⟨0, [], rfl, Nat.zero_le _, HI.out, HK0.out⟩
  case round =>
    obtain ⟨k, P, rfl, hk, HJ, HKr⟩ := hrel
    obtain ⟨hc, hrow⟩ := HW.out.src _ _ HJ.out
    by_cases hlt : k < n
    · obtain ⟨d, r, hdr⟩ : ∃ d r, l.drop k = d :: r := by
        cases h : l.drop k with
        | nil => have := congrArg List.length h; simp at this; omega
        | cons d r => exact ⟨d, r, rfl⟩
      obtain ⟨A', hA'⟩ : ∃ A', Option.map (fun x => x.add k) A = A' := ⟨_, rfl⟩
      have hcut := hrow.cut (Nat.le_of_lt hlt) hnc
      rw [Nat.mul_one, if_neg (by omega), hA', ← bv_drop, hdr] at hcut
      have KR := Lib.hid (fun W' q (h : W' = wr.drewN q) => read_any S A' (n - k) (c - k) d r W' (by subst h; exact hcut.drewN q) (by omega))
      have hst := fun q => HW.out.step k P d r wr q HJ.out hdr
      have hps := pcOf_size 0 d r
      have hlr : r.length + 1 + k = n := by have := congrArg List.length hdr; simp at this; omega
      obtain ⟨pc, hpc⟩ : ∃ pc, pcOf 0 d r = pc := ⟨_, rfl⟩
      rw [hpc] at hps
      simp only [hpc] at hst
      have HPC := Lib.hid hpc
      have HST := Lib.hid hst
      have HS1 := hps.1
      have HS2 := hps.2
      have i0 : (0 : Int) ≤ (k : Int) := by omega
      have i1 : (k : Int) < (n : Int) := by omega
      have i2 : (k : Int) ≤ (c : Int) := by omega
      clear hcut hrow hst hps hdr hpc
      gi_wp2_with fail
      refine ⟨trivial, ?_⟩
      refine (callsIn_wide.2 (KR.out wr 0 rfl)).mono ?_
      rintro e w1 ⟨what, he, q, rfl⟩
      rw [HPC.out] at he
      subst he
      have HKs := Lib.hid (HK.out _ _ HKr.out ((Keep.refl (fun k => k < B.heap.size) wr).drewN q))
      obtain ⟨fn, tmps, assign, body, hy, hRd⟩ := HR.out _ _ _ (HST.out q) HKs.out
      have HRd := Lib.hid hRd
      clear hRd hc HKr HJ
      simp only [runeArgs] at hy
      gi_wp2_with fail
      refine HRd.out.mono ?_
      rintro r2 w3 (⟨rfl, hI3, hK3⟩ | ⟨rfl, hX, hKx⟩)
      · have J3 := Lib.hid hI3
        have K3 := Lib.hid hK3
        clear hI3 hK3 hy HRd
        gi_wp2
        go_round
        case rel => exact ⟨k + pc.size, P ++ [pc.r], by go_num, by omega, J3.out, K3.out⟩
        case measure => simp [intOf]; omega
      · have X3 := Lib.hid hX
        have K3 := Lib.hid hKx
        clear hX hKx hy HRd
        gi_wp2
        (try simp only [Exit.inBlock, Exit.then])
        refine bodyPost_ret (results_none rfl _ _ _) rfl ?_
        exact ⟨⟨_, rfl⟩, .inr ⟨_, X3.out, K3.out⟩⟩
    · have hkn : k = n := by omega
      subst hkn
      clear hrow
      gi_wp2
      go_end0
      exact ⟨⟨_, rfl⟩, .inl ⟨(k, P), rfl, HJ.out, HKr.out⟩⟩

/-- Inside the loop of Runes: the runes so far lie in a row of the loop's own. -/
structure UL (B : World) (bo : Nat) (P : List Nat) (W : World) : Prop where
  row : ∃ v, Blk W bo 64 #[v] ∧ W.ownsRow B.heap.size 21 1 v P.length (rv P)
  keep : Keep (fun k => k = bo) B W
theorem UL.behind {B W W2 : World} {bo : Nat} {P : List Nat} (h : UL B bo P W) (hb : Below W.heap.size W W2) : UL B bo P W2 := by
  obtain ⟨⟨v, h1, h2⟩, h3⟩ := h
  exact ⟨⟨v, h1.below hb h1.lt, own_behind h2 hb⟩, h3.then_below hb⟩
theorem UL.bides {B : World} {bo : Nat} {P : List Nat} (hbo : bo < B.heap.size) : Bides B.heap.size (UL B bo P) := by
  rintro W l o o' ⟨⟨v, h1, h2⟩, h3⟩ hl ho hc
  have h4 := h3.putObj (l := l) (.inr hl) o'
  refine ⟨⟨v, blk_put h1 (blk_not_cells h1 ho hc) o', own_keep h2 ((Keep.refl (fun k => k = l) W).putObj (.inl rfl) o') (fun k e1 e2 => own_not h2 ho hc (by rw [e1, e2]))⟩, h4⟩

set_option maxHeartbeats 8000000 in
set_option maxRecDepth 100000 in
theorem tall_any (S : Nat → Prop) (A : Option Addr) (n cp : Nat) (l : List UInt8) (w : World) (hr : Row S w 1 A n (bv l)) (hn : n ≤ 1073741824) :
    Calls Tryz.prog 54 #[.slice A n cp] w fun e w' => e = .returned (.func (.func 78) #[] #[.pointer (some ⟨w.heap.size, 0, none⟩)]) ∧
      ∃ A' c', Blk w' w.heap.size 43 #[.slice A' n c'] ∧ n ≤ c' ∧ Row (fun k => w.heap.size < k ∧ k < w'.heap.size) w' 1 A' n (bv l) ∧ Below w.heap.size w w' := by
  obtain ⟨i0, hi, hz0, hz1, hz2⟩ := info_parts u8info
  have HR := Lib.hid hr
  clear hr
  go_enter Tryz.func54, Tryz.ntmps54
  go_wp2_with (at_builtin; refine wpList_append_out _ rfl _ _ 43 rfl (w.heap.size + 1) 5 i0 _ 1 1 Tryz.underlying43 hi hz0 hz1 hz2 rfl (by decide) (.slice none 0 0) 0 [] rfl (World.ownsRow_nil _ _ _ _) S A n cp (bv l) rfl (HR.out.alloc _) (bv_one l) (by simp only [maxLen]; omega) (by omega) (by simp) ?_; intro A2 c2 w2 ho2 hg2 hn2 hm2; rw [Nat.zero_add] at ho2 hn2 ⊢; rw [List.nil_append] at ho2; have hb2 : Blk w2 w.heap.size 43 #[.slice A n cp] := (hg2.block w.heap.size (by simp) (by simp [Value.ownBlock])).trans (Blk.new w _ _); have x2 := hb2.cell 0; have f2 := hb2.frozen 0; simp only [List.getElem?_toArray, List.getElem?_cons_zero] at x2; have HB2 := Lib.hid hb2; have HO2 := Lib.hid ho2; have HG2 := Lib.hid (((Below.refl _ w).alloc (Nat.le_refl _) (.cells #[.slice A n cp] 43)).grown hg2 (by simp) (fun k e => by simp [Value.ownBlock] at e)); have hs2 := hg2.size; rw [World.size_alloc] at hs2; clear ho2 hg2 hb2)
  go_ret
  refine ⟨rfl, A2, c2, HB2.out.set_ 0 _, hn2, ?_, HG2.out.setCell (by simp) _⟩
  exact ((Row.of_own HO2.out).more (T := fun k => w.heap.size < k ∧ k < w2.heap.size) (fun k hk h => ⟨h, hk⟩) (by decide)).setCell (p := ⟨w.heap.size, 0, none⟩) (by simp) _ |>.more (fun k hk h => by simpa [World.setCell] using h) (by decide)

def UI (B : World) (bo n : Nat) (l : List UInt8) (s : Nat × List Nat) (W : World) : Prop := UL B bo s.2 W ∧ s.1 ≤ n ∧ s.2 ++ runesOf (l.drop s.1) = runesOf l
def UY (B : World) (bo n : Nat) (l : List UInt8) (s : Nat × List Nat) (x : Nat × Nat) (W : World) : Prop := ∃ P0, s.2 = P0 ++ [x.2] ∧ UL B bo P0 W ∧ s.1 ≤ n ∧ s.2 ++ runesOf (l.drop s.1) = runesOf l
theorem ul_words {B : World} {bo bb n c : Nat} {A : Option Addr} {S : Nat → Prop} {l : List UInt8} (hb : Blk B bb 43 #[.slice A n c]) (hne : bb ≠ bo) (hr : Row S B 1 A n (bv l)) (hS : ∀ k, S k → k ≠ bo) (hl : l.length = n) :
    UWords bb n c A S l (UI B bo n l) (UY B bo n l) where
  src := fun s W h => ⟨((hb.keep h.1.keep hne).cell 0), hr.keep h.1.keep hS⟩
  step := by
    rintro k P d r W q ⟨h1, h2, h3⟩ hd
    have hps := pcOf_size 0 d r
    have hlr := congrArg List.length hd
    simp only [List.length_drop, List.length_cons] at hlr
    refine ⟨P, rfl, h1.behind ⟨rfl, rfl, rfl, Nat.le_refl _, fun _ _ => rfl⟩, ?_, ?_⟩
    · show k + _ ≤ n
      simp only at h2
      omega
    · show P ++ [_] ++ runesOf (l.drop (k + _)) = _
      rw [← h3]
      simp only
      rw [hd, runesOf_cons, List.append_assoc]
      congr 1
      rw [List.singleton_append]
      congr 2
      obtain ⟨m, hm⟩ : ∃ m, (pcOf 0 d r).size = m + 1 := ⟨(pcOf 0 d r).size - 1, by omega⟩
      rw [hm, Nat.add_sub_cancel, ← List.drop_drop, hd, List.drop_succ_cons]

set_option maxHeartbeats 8000000 in
set_option maxRecDepth 100000 in
theorem trunes_any (S : Nat → Prop) (A : Option Addr) (n cp : Nat) (l : List UInt8) (w : World) (hr : Row S w 1 A n (bv l)) (hn : n ≤ 1073741824) :
    Calls Tryz.prog 35 #[.slice A n cp] w (Gives fun v w' => w'.ownsRow w.heap.size 21 1 v (runesOf l).length (rv (runesOf l)) ∧ Below w.heap.size w w') := by
  obtain ⟨i0', hi, hz0, hz1, hz2⟩ := info_parts i32info
  have hl : l.length = n := by have := hr.1; rw [bv_length] at this; omega
  have hrl := runesOf_length l
  have K := Lib.hid (fun W (h : Row S W 1 A n (bv l)) => tall_any S A n cp l W h hn)
  have HR := Lib.hid hr
  clear hr
  refine calls_of_wp_marks Tryz.func35 rfl ?_
  simp only [Tryz.ntmps35, List.size_toArray, List.length_cons, List.length_nil, Nat.reduceAdd, Nat.reduceSub, Array.replicate_succ,
     Array.replicate_zero, List.push_toArray, List.append_toArray, List.nil_append, List.cons_append]
  go_wp2_with fail
  obtain ⟨W0, hW0⟩ : ∃ W0, w.alloc (.cells #[.slice none 0 0] 64) = W0 := ⟨_, rfl⟩
  rw [hW0]
  have b0 : Blk W0 w.heap.size 64 #[.slice none 0 0] := by rw [← hW0]; exact Blk.new _ _ _
  have hB0 : Below w.heap.size w W0 := by rw [← hW0]; exact (Below.refl _ w).alloc (Nat.le_refl _) _
  have hr0 : Row S W0 1 A n (bv l) := by rw [← hW0]; exact HR.out.alloc _
  clear hW0
  refine (K.out W0 hr0).mono ?_
  rintro e w1 ⟨rfl, A1, c1, hb1, hc1, hr1, hbel⟩
  have l0 := b0.lt
  have hb01 := b0.below hbel l0
  have HB0 := Lib.hid hb01
  have HB1 := Lib.hid hb1
  have HR1 := Lib.hid hr1
  have HW1 := Lib.hid (hB0.trans (hbel.mono (Nat.le_of_lt l0)))
  have l1 := hbel.size
  have lb1 := hb1.lt
  clear b0 hB0 hr0 hb1 hr1 hbel hb01 K HR
  go_wp2_with fail
  refine wp_rangeFunc_open (gf := 78) (lb := #[.pointer (some ⟨W0.heap.size, 0, none⟩)]) (I := UI w1 w.heap.size n l) (Ix := fun _ _ => False) (Y := UY w1 w.heap.size n l) (Done := fun s => s.1 = n) (s0 := (0, [])) 0 rfl (fun args W => by kernel_rfl)
    (all1_open (ul_words HB1.out (by omega) HR1.out (fun k h => by omega) hl) hn hc1) (fun x => rfl) (fun s W l' o o' h h2 h3 h4 => ⟨UL.bides HB0.out.lt W l' o o' h.1 h2 h3 h4, h.2⟩) (fun s W l' o o' h => h.elim) (fun s x W l' o o' h h2 h3 h4 => ?_) (fun W hW => ?_) ?_ (fun a W h => h) ?_
  · obtain ⟨P0, e1, e2, e3⟩ := h
    exact ⟨P0, e1, UL.bides HB0.out.lt W l' o o' e2 h2 h3 h4, e3⟩
  · exact ⟨⟨⟨_, HB0.out.below hW HB0.out.lt, World.ownsRow_nil _ _ _ _⟩, Keep.of_below hW _⟩, Nat.zero_le _, rfl⟩
  · rintro l' D r ⟨k, P⟩ ⟨at_, x⟩ W hD hDl hy
    simp only [runeArgs]
    gi_wp2
    refine ⟨trivial, ?_⟩
    intro W2 hl2 hd hy2
    obtain ⟨P0, e1, ⟨⟨v, hb, ho⟩, hk⟩, e3, e4⟩ := hy2
    simp only at e1 e3 e4
    subst e1
    obtain ⟨Av, cv, rfl, _, _⟩ := own_slice ho
    have hP0 : P0.length + 1 ≤ (runesOf l).length := by have := congrArg List.length e4; simp at this; omega
    have x0 := hb.cell 0
    have f0 := hb.frozen 0
    simp only [List.getElem?_toArray, List.getElem?_cons_zero] at x0
    have hvb : (Value.slice Av P0.length cv).ownBlock ≠ some w.heap.size := fun e => by have := (ho.lt _ e).1; omega
    have hbl := hb.lt
    have hkl := hk.size
    have HB := Lib.hid hb
    have HO := Lib.hid ho
    have HK := Lib.hid hk
    have HE := Lib.hid e4
    have HL2 := Lib.hid hl2
    have HD2 := Lib.hid hd
    have HVB := Lib.hid hvb
    clear hb ho hk e4 hl2 hd hy hvb
    gi_wp2_with (gi_at_builtin; go_loud (refine wpListIn_append_own _ rfl _ _ 64 rfl w1.heap.size 21 i0' _ 1 4 Tryz.underlying64 hi hz0 hz1 hz2 rfl (by decide) (.slice Av P0.length cv) P0.length (rv P0) rfl (HO.out.alloc _) ⟨W2.heap.size, 0, none⟩ 1 1 [.int .i32 (x : Int)] rfl rfl (fun j u hu => by rw [addr_lit, Nat.zero_add]; exact cell_alloc_at _ _ _ _ _ (by simpa using hu)) (by simp [Value.oneCell']) (by simp only [maxLen]; omega) (by omega) (by simp; omega) ?_); intro v3 w3 ho3 hg3 hn3; obtain ⟨A3, c3, rfl, _, _⟩ := own_slice ho3; have hb3 : Blk w3 w.heap.size 64 #[.slice Av P0.length cv] := (hg3.block w.heap.size (by simp; omega) (fun e => HVB.out e.symm)).trans (HB.out.alloc _); have x3 := hb3.cell 0; have f3 := hb3.frozen 0; simp only [List.getElem?_toArray, List.getElem?_cons_zero] at x3; have HB3 := Lib.hid hb3; have HO3 := Lib.hid ho3; have HG3 := Lib.hid hg3; clear ho3 hg3 hn3 hb3 x0 f0)
    have hk3 : Keep (fun k => k = w.heap.size ∨ (Value.slice Av P0.length cv).ownBlock = some k) W2 (w3.setCell ⟨w.heap.size, 0, none⟩ (.slice A3 (P0.length + 1) c3)) := (((Keep.refl _ W2).alloc _).grown HG3.out (fun k e => .inl (.inr e))).setCell (p := ⟨w.heap.size, 0, none⟩) (.inl (.inl rfl)) (.slice A3 (P0.length + 1) c3)
    have hrec : ∀ (j : Nat) (o : Obj), W2.heap[j]? = some o → o.isCells = false → (w3.setCell ⟨w.heap.size, 0, none⟩ (.slice A3 (P0.length + 1) c3)).heap[j]? = some o := fun j o h1 h2 => (hk3.block j (lt_of_heap h1) (by
      rintro (e | e)
      · exact blk_not_cells HB.out h1 h2 e.symm
      · exact own_not HO.out h1 h2 e)).trans h1
    refine ⟨hrec _ _ HL2.out rfl, hrec _ _ HD2.out rfl, ⟨⟨(.slice A3 (P0.length + 1) c3), HB3.out.set_ 0 (.slice A3 (P0.length + 1) c3), ?_⟩, ?_⟩, e3, HE.out⟩
    · have := HO3.out
      have hv3 : (Value.slice A3 (P0.length + 1) c3).ownBlock ≠ some w.heap.size := fun e => by have := (HO3.out.lt _ e).1; omega
      rw [rv, List.map_append, List.length_append]
      exact own_setCell this (p := ⟨w.heap.size, 0, none⟩) hv3 _
    · exact (HK.out.trans_ (T := fun k => k = w.heap.size ∨ (Value.slice Av P0.length cv).ownBlock = some k) hk3 (fun i hi2 e => by
        rcases e with e | e
        · exact e
        · exact absurd (HO.out.lt _ e).1 (by omega)))
  · rintro D ⟨k, P⟩ W hD hcase hdd
    rcases hcase with ⟨hk, ⟨⟨v, hb, ho⟩, hkp⟩, h2, h3⟩ | hx
    · simp only at hk h3 hb ho
      subst hk
      rw [List.drop_eq_nil_of_le (by omega), show runesOf [] = [] by unfold runesOf; rw [pieces_nil]; rfl, List.append_nil] at h3
      subst h3
      have x0 := hb.cell 0
      simp only [List.getElem?_toArray, List.getElem?_cons_zero] at x0
      have HO := Lib.hid ho
      have HK := Lib.hid hkp
      have HD := Lib.hid hdd
      clear hb ho hkp hdd
      go_wp2
      have hbw := HW1.out.trans (HK.out.below (B := w.heap.size) (by omega) (fun i hi e => by omega))
      have hsh := shut_below [D] W hbw (fun E hE => by obtain rfl := List.mem_singleton.1 hE; exact ⟨by omega, lt_of_heap HD.out⟩) hbw.size
      refine leaves_marks [D] W (by simp) (fun E hE => by obtain rfl := List.mem_singleton.1 hE; exact HD.out) (results_tmp rfl _ _ _) ⟨_, rfl, ?_, hsh⟩
      have hvd : v.ownBlock ≠ some D := own_not HO.out HD.out rfl
      exact own_less (own_keep HO.out (T := fun k => k = D) ((Keep.refl (fun k => k = D) W).putObj (.inl rfl) _) (fun k e1 e2 => hvd (by rw [← e2]; exact e1))) (by omega)
    · exact hx.elim
end Go.Proofs.YtgkiffodnofggaaGreatDoor
