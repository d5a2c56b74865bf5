/-
  What plain text is written on, in memory: the program's paper; put.
-/
import Derived.Test.YtcogoiphpfgkdaaDoorPaperB
import Derived.Test.YtcogoiphpfgkdaaDoorLines
import Derived.Test.YtcogoiphpfgkdaaDoorNodesAll
namespace Go.Proofs.YtcogoiphpfgkdaaDoor
open Go.RowKit
set_option linter.unusedVariables false
set_option linter.unusedSimpArgs false

/-- The types of what the writing itself changes. -/
def oddT (t : TypeId) : Prop := t = 71 ∨ t = 76 ∨ t = 5 ∨ t = 21
/-- A frame: what lies below lo stays; and above it all that is none of these. -/
structure Fr (lo : Nat) (w w' : World) : Prop where
  below : Below lo w w'
  size : w.heap.size ≤ w'.heap.size
  obj : ∀ (k : Nat) (o : Obj), w.heap[k]? = some o → (∀ cs t fz, o = Obj.cells cs t fz → ¬ oddT t) → w'.heap[k]? = some o
section
variable {lo : Nat} {a w w' w2 : World}
theorem Fr.refl (lo : Nat) (w : World) : Fr lo w w := ⟨Below.refl _ _, Nat.le_refl _, fun _ _ h _ => h⟩
theorem Fr.trans (h : Fr lo a w) (k : Fr lo w w') : Fr lo a w' := ⟨h.below.trans k.below, Nat.le_trans h.size k.size, fun i o h1 h2 => k.obj i o (h.obj i o h1 h2) h2⟩
theorem Fr.of_keep {T : Nat → Prop} (hk : Keep T w w') (hlo : lo ≤ w.heap.size) (hT : ∀ k, T k → lo ≤ k ∧ ∀ o : Obj, w.heap[k]? = some o → ∃ cs t fz, o = Obj.cells cs t fz ∧ oddT t) : Fr lo w w' := by
  refine ⟨hk.below hlo (fun i hi t => by have := (hT i t).1; omega), hk.size, fun k o h1 h2 => ?_⟩
  by_cases ht : T k
  · obtain ⟨cs, t, fz, e, hodd⟩ := (hT k ht).2 o h1
    exact absurd hodd (h2 cs t fz e)
  · exact (hk.block k (lt_of_heap h1) ht).trans h1
theorem Fr.of_below (hb : Below w.heap.size w w') (hlo : lo ≤ w.heap.size) : Fr lo w w' := Fr.of_keep (Keep.of_below hb (fun _ => False)) hlo (fun _ h => h.elim)
theorem Fr.blk (h : Fr lo w w') {g : Nat} {t : TypeId} {cs : Array Value} (hb : Blk w g t cs) (ht : ¬ oddT t) : Blk w' g t cs := h.obj g _ hb (fun cs' t' fz e => by cases e; exact ht)
theorem Fr.ns (h : Fr lo w w') {S : Nat → Prop} {A : Option Addr} {n : Nat} {L : List Nd} (hn : Ns S w A n L) (hS : ∀ k, S k → k < lo) : Ns S w' A n L := hn.same fun p hs _ => h.below.cell (hS _ hs)
end

/-- The paper at block bp, its memory from lo on. -/
def PapAt (w : World) (lo bp : Nat) (s : Ls) : Prop := lo ≤ bp ∧ ∃ p v vl, (p = .pointer none ∨ p = .pointer (some ⟨bp, 0, none⟩)) ∧ Blk w bp 71 #[p, v, vl, .string (str (markB s.mark))] ∧
  w.ownsRowF lo 5 1 v s.told.length (bv s.told) ∧ (s.told = [] → v = .slice none 0 0) ∧ w.ownsRow lo 21 1 vl s.line.length (rv s.line)
theorem PapAt.keep {w w' : World} {lo bp : Nat} {s : Ls} {T : Nat → Prop} (h : PapAt w lo bp s) (hk : Keep T w w') (hT : ∀ k, T k → w.heap.size ≤ k ∨ ∃ o : Obj, w.heap[k]? = some o ∧ ∀ cs t fz, o = Obj.cells cs t fz → ¬ oddT t) : PapAt w' lo bp s := by
  obtain ⟨h1, p, v, vl, h2, h3, h4, h5, h6⟩ := h
  have hno : ∀ (k : Nat) (o : Obj), w.heap[k]? = some o → (∃ cs t fz, o = Obj.cells cs t fz ∧ oddT t) → ¬ T k := by
    rintro k o ho ⟨cs, t, fz, e, hodd⟩ hTk
    rcases hT k hTk with h | ⟨o', ho', hn⟩
    · have := lt_of_heap ho; omega
    · rw [ho] at ho'
      obtain rfl := Option.some.inj ho'
      exact hn cs t fz e hodd
  refine ⟨h1, p, v, vl, h2, h3.keep hk (hno _ _ h3 ⟨_, _, _, rfl, .inl rfl⟩), ownF_keep h4 hk ?_, h5, own_keep h6 hk ?_⟩
  · intro k e
    rcases h4.2 with ⟨rfl, _⟩ | ⟨g, cap, cur, fz, rfl, _, hg, _⟩
    · simp [Value.ownBlock] at e
    · obtain rfl : g = k := by simpa [Value.ownBlock] using e
      exact hno _ _ hg ⟨_, _, _, rfl, .inr (.inr (.inl rfl))⟩
  · intro k e
    rcases h6.2 with ⟨rfl, _⟩ | ⟨g, cap, cur, rfl, _, hg, _⟩
    · simp [Value.ownBlock] at e
    · obtain rfl : g = k := by simpa [Value.ownBlock] using e
      exact hno _ _ hg ⟨_, _, _, rfl, .inr (.inr (.inr rfl))⟩
theorem PapAt.behind {w w' : World} {lo bp : Nat} {s : Ls} (h : PapAt w lo bp s) (hb : Below w.heap.size w w') : PapAt w' lo bp s := h.keep (Keep.of_below hb (fun _ => False)) (fun _ t => t.elim)
theorem PapAt.lt {w : World} {lo bp : Nat} {s : Ls} (h : PapAt w lo bp s) : lo ≤ bp ∧ bp < w.heap.size := by
  obtain ⟨h1, p, v, vl, h2, h3, h4, h5, h6⟩ := h
  exact ⟨h1, h3.lt⟩

/-- The line and the mark are changed. -/
theorem pap_line {w w' : World} {lo bp : Nat} {told : List UInt8} {line line' : List Nat} {mark' : Bool} {p v vl vl' mk : Value} (hlo : lo ≤ bp) (hp : p = .pointer none ∨ p = .pointer (some ⟨bp, 0, none⟩)) (hb : Blk w bp 71 #[p, v, vl, mk])
    (hu : w.ownsRowF lo 5 1 v told.length (bv told)) (hnil : told = [] → v = .slice none 0 0) (hl : w.ownsRow lo 21 1 vl line.length (rv line)) (hk : Keep (fun k => k = bp ∨ vl.ownBlock = some k) w w')
    (hb' : Blk w' bp 71 #[p, v, vl', .string (str (markB mark'))]) (hl' : w'.ownsRow lo 21 1 vl' line'.length (rv line')) : PapAt w' lo bp ⟨told, line', mark'⟩ ∧ Fr lo w w' := by
  have ho : ∀ k, vl.ownBlock = some k → lo ≤ k ∧ ∃ cs, Blk w k 21 cs := by
    intro k e
    rcases hl.2 with ⟨rfl, _⟩ | ⟨g, cap, cur, rfl, h1, hg, _⟩
    · simp [Value.ownBlock] at e
    · obtain rfl : g = k := by simpa [Value.ownBlock] using e
      exact ⟨h1, _, hg⟩
  refine ⟨⟨hlo, p, v, vl', hp, hb', ownF_keep hu hk ?_, hnil, hl'⟩, Fr.of_keep hk (Nat.le_trans hlo (Nat.le_of_lt hb.lt)) ?_⟩
  · rintro k e (rfl | e2)
    · exact ownF_not hu hb (fun cs fz e => by cases e) e
    · obtain ⟨_, cs, hcs⟩ := ho k e2
      exact ownF_not hu hcs (fun cs fz e => by cases e) e
  · rintro k (rfl | e)
    · exact ⟨hlo, fun o ho => ⟨_, _, _, Option.some.inj (ho.symm.trans hb), .inl rfl⟩⟩
    · obtain ⟨h1, cs, hcs⟩ := ho k e
      exact ⟨h1, fun o ho => ⟨_, _, _, Option.some.inj (ho.symm.trans hcs), .inr (.inr (.inr rfl))⟩⟩
/-- '[]rune(mark)'. -/
theorem conv_mark (m : Bool) (w : World) : ∃ c w', (convert 9 69 (.string (str (markB m)))).run Tryd.prog w = .ok (.slice (some ⟨w.heap.size, 0, none⟩) (markR m).length c) w' ∧
    w'.ownsRow w.heap.size 21 1 (.slice (some ⟨w.heap.size, 0, none⟩) (markR m).length c) (markR m).length (rv (markR m)) ∧ Below w.heap.size w w' := by
  have hr : Conv.runesFrom (str (markB m)) (str (markB m)).size 0 #[] = (rv (markR m)).toArray := by cases m <;> kernel_rfl
  have hs : (Conv.runesFrom (str (markB m)) (str (markB m)).size 0 #[]).size = (markR m).length := by rw [hr]; simp [rv]
  have h := run_runes_of_string (P := Tryd.prog) w 9 69 21 (str (markB m)) Tryd.underlying9 Tryd.underlying69 Tryd.underlying21 (by rw [hs]; cases m <;> decide)
  rw [hs, hr] at h
  have hc := grownCap_ge w (markR m).length 0 21
  have hm := grownCap_le_maxLen w (markR m).length 0 21 (by cases m <;> decide)
  generalize grownCap w (markR m).length 0 21 = cap at h hc hm
  refine ⟨cap, _, h, ⟨by simp [rv], .inr ⟨w.heap.size, cap, _, rfl, Nat.le_refl _, heap_alloc_new w.drew _, hc, hm, ?_, ?_⟩⟩, ((Below.refl _ w).drew).alloc (Nat.le_refl _) _⟩
  · simp [rv]
    omega
  · simp [rv]

set_option maxHeartbeats 2000000 in
set_option maxRecDepth 100000 in
theorem put_any {w : World} {lo bp : Nat} {s : Ls} (h : PapAt w lo bp s) (r : Nat) (hn : s.line.length ≤ 67108864) :
    Calls Tryd.prog 70 #[.pointer (some ⟨bp, 0, none⟩), .int .i32 r] w fun e w' => e = .returned (.tuple #[]) ∧ PapAt w' lo bp (s.put r) ∧ Fr lo w w' := by
  obtain ⟨i0, hi, hz0, hz1, hz2⟩ := info_parts i32info
  obtain ⟨hlo, p, v, vl, hp, hb, hu, hnil, hl⟩ := h
  obtain ⟨told, line, mark⟩ := s
  simp only at hb hu hnil hl hn
  obtain ⟨Al, cl, rfl, _, _⟩ := own_slice hl
  have x2 := hb.cell 2
  have x3 := hb.cell 3
  have f2 := hb.frozen 2
  have f3 := hb.frozen 3
  simp only [List.getElem?_toArray, List.getElem?_cons_zero, List.getElem?_cons_succ] at x2 x3
  have hbl := hb.lt
  have HB := Lib.hid hb
  have HU := Lib.hid hu
  have HL := Lib.hid hl
  have HP := Lib.hid hp
  have HNIL := Lib.hid hnil
  clear hb hu hl hp hnil
  cases line with
  | nil =>
    obtain ⟨c, w1, hrun, hown, hb1⟩ := conv_mark mark w
    have hB1 := HB.out.below hb1 hbl
    have y2 := hB1.cell 2
    have y3 := hB1.cell 3
    have g2 := hB1.frozen 2
    have g3 := hB1.frozen 3
    simp only [List.getElem?_toArray, List.getElem?_cons_zero, List.getElem?_cons_succ] at y2 y3
    obtain ⟨W2, hW2⟩ : ∃ W2, (w1.setCell ⟨bp, 2, none⟩ (.slice (some ⟨w.heap.size, 0, none⟩) (markR mark).length c)).setCell ⟨bp, 3, none⟩ (.string ⟨#[]⟩) = W2 := ⟨_, rfl⟩
    have ne : (Value.slice (some ⟨w.heap.size, 0, none⟩) (markR mark).length c).ownBlock ≠ some bp := by simp [Value.ownBlock]; omega
    have hown2 : W2.ownsRow w.heap.size 21 1 (.slice (some ⟨w.heap.size, 0, none⟩) (markR mark).length c) (markR mark).length (rv (markR mark)) := by rw [← hW2]; exact own_setCell (own_setCell hown (p := ⟨bp, 2, none⟩) ne _) (p := ⟨bp, 3, none⟩) ne _
    have hB2 : Blk W2 bp 71 #[p, v, .slice (some ⟨w.heap.size, 0, none⟩) (markR mark).length c, .string (str (markB false))] := by rw [← hW2]; exact (hB1.set_ 2 _).set_ 3 _
    have hK2 : Keep (fun k => k = bp ∨ (Value.slice Al 0 cl).ownBlock = some k) w W2 := by rw [← hW2]; exact ((Keep.of_below hb1 _).setCell (p := ⟨bp, 2, none⟩) (.inl (.inl rfl)) _).setCell (p := ⟨bp, 3, none⟩) (.inl (.inl rfl)) _
    have l2 := hK2.size
    have u2 := hB2.cell 2
    simp only [List.getElem?_toArray, List.getElem?_cons_zero, List.getElem?_cons_succ] at u2
    have HO2 := Lib.hid hown2
    have HB2 := Lib.hid hB2
    have HK2 := Lib.hid hK2
    have hml : (markR mark).length ≤ 2 := by cases mark <;> decide
    clear hown hB1 hb1 hown2 hB2 hK2
    go_enter Tryd.func70, Tryd.ntmps70
    go_wp2_with (at_builtin; refine wpList_append_out _ rfl _ _ 69 rfl w.heap.size 21 i0 _ 1 4 Tryd.underlying69 hi hz0 hz1 hz2 rfl (by decide) (Value.slice (some ⟨w.heap.size, 0, none⟩) (markR mark).length c) (markR mark).length (rv (markR mark)) rfl (HO2.out.alloc _) (fun j => j = W2.heap.size) (some ⟨W2.heap.size, 0, none⟩) 1 1 [.int .i32 r] rfl (Row.new W2 _ #[.int .i32 r] 1 1 rfl) (by intro u hu; simp at hu; subst hu; rfl) (by simp only [maxLen]; omega) (by omega) (by simp; omega) ?_; intro A5 c5 w5 hown5 hg5 _ _; have n5 : some bp ≠ (Value.slice (some ⟨w.heap.size, 0, none⟩) (markR mark).length c).ownBlock := (fun e => ne e.symm); have hB5 : Blk w5 bp 71 #[p, v, .slice (some ⟨w.heap.size, 0, none⟩) (markR mark).length c, .string (str (markB false))] := (hg5.block bp (by simp; omega) n5).trans (HB2.out.alloc _); have z2 := hB5.cell 2; have q2 := hB5.frozen 2; simp only [List.getElem?_toArray, List.getElem?_cons_zero, List.getElem?_cons_succ] at z2; have HB5 := Lib.hid hB5; have HO5 := Lib.hid hown5; have HK5 := Lib.hid ((HK2.out.alloc (.cells #[.int .i32 r] 21)).grown hg5 (fun k e => .inr (by simp [Value.ownBlock] at e; omega))); clear hB5 hown5 hg5)
    go_end0
    have hl5 := HO5.out
    refine ⟨rfl, pap_line hlo HP.out HB.out HU.out HNIL.out HL.out (HK5.out.setCell (p := ⟨bp, 2, none⟩) (.inl (.inl rfl)) _) (HB5.out.set_ 2 _) ?_⟩
    have e1 : rv (markR mark) ++ [.int .i32 r] = rv (markR mark ++ [r]) := by simp [rv]
    have e2 : (markR mark).length + 1 = (markR mark ++ [r]).length := by simp
    rw [e1, e2] at hl5
    have ho5 := own_setCell (own_less hl5 (show lo ≤ w.heap.size by omega)) (p := ⟨bp, 2, none⟩) (own_ne hl5 HB5.out (by decide)) (.slice A5 (markR mark ++ [r]).length c5)
    rw [e2]
    exact ho5
  | cons r0 rs =>
    obtain ⟨n, hln⟩ : ∃ n, rs.length = n := ⟨_, rfl⟩
    simp only [List.length_cons, hln] at x2 hn
    have HLN := Lib.hid hln
    have d0 : (((n + 1 : Nat) : Int) == 0) = false := by rw [beq_eq_false_iff_ne]; omega
    have d1 : ((n : Int) + 1 == 0) = false := by rw [beq_eq_false_iff_ne]; omega
    have hl1 := HL.out
    rw [List.length_cons, hln] at hl1
    have ne : (Value.slice Al (n + 1) cl).ownBlock ≠ some bp := own_ne hl1 HB.out (by decide)
    have HL1 := Lib.hid hl1
    have hlt1 := hl1.lt
    clear hln hl1
    go_enter Tryd.func70, Tryd.ntmps70
    go_wp2_with (at_builtin; refine wpList_append_out _ rfl _ _ 69 rfl lo 21 i0 _ 1 4 Tryd.underlying69 hi hz0 hz1 hz2 rfl (by decide) (Value.slice Al (n + 1) cl) (n + 1) (rv (r0 :: rs)) rfl (HL1.out.alloc _) (fun j => j = w.heap.size) (some ⟨w.heap.size, 0, none⟩) 1 1 [.int .i32 r] rfl (Row.new w _ #[.int .i32 r] 1 1 rfl) (by intro u hu; simp at hu; subst hu; rfl) (by simp only [maxLen]; omega) (by omega) (by simp; omega) ?_; intro A5 c5 w5 hown5 hg5 _ _; have hB5 : Blk w5 bp 71 #[p, v, .slice Al (r0 :: rs).length cl, .string (str (markB mark))] := (hg5.block bp (by simp; omega) (fun e => ne e.symm)).trans (HB.out.alloc _); have z2 := hB5.cell 2; have q2 := hB5.frozen 2; simp only [List.getElem?_toArray, List.getElem?_cons_zero, List.getElem?_cons_succ] at z2; have HB5 := Lib.hid hB5; have HO5 := Lib.hid hown5; have HK5 := Lib.hid (((Keep.refl (fun k => k = bp ∨ (Value.slice Al (n + 1) cl).ownBlock = some k) w).alloc (.cells #[.int .i32 r] 21)).grown hg5 (fun k e => .inl (.inr e))); clear hB5 hown5 hg5)
    go_end0
    have hl5 := HO5.out
    have hk5 := HK5.out
    rw [← HLN.out, ← List.length_cons (a := r0)] at hk5
    have e1 : rv (r0 :: rs) ++ [.int .i32 r] = rv ((r0 :: rs) ++ [r]) := by simp [rv]
    have e2 : n + 1 + 1 = ((r0 :: rs) ++ [r]).length := by rw [← HLN.out]; simp
    rw [e1, e2] at hl5
    refine ⟨rfl, pap_line hlo HP.out HB.out HU.out HNIL.out HL.out (hk5.setCell (p := ⟨bp, 2, none⟩) (.inl (.inl rfl)) _) (HB5.out.set_ 2 _) ?_⟩
    rw [e2]
    exact own_setCell hl5 (p := ⟨bp, 2, none⟩) (own_ne hl5 HB5.out (by decide)) _
end Go.Proofs.YtcogoiphpfgkdaaDoor
