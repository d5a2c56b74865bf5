/-
  ChunkNones: the walk.
-/
import Derived.Test.YtadnceiohgjdhaaNones
import Derived.LoopN
namespace Go.Proofs.Ytadnceiohgjdhaa
open Go.RowKit
set_option linter.unusedVariables false
set_option linter.unusedSimpArgs false

set_option maxHeartbeats 16000000 in
set_option maxRecDepth 100000 in
theorem chunkNones_any (n c : Int) (w : World) : Calls Try.prog 10 #[.int .i64 n, .int .u8 c] w fun e w' => e = .returned (.bool true) ∧ Below w.heap.size w w' := by
  have hq : ∀ (x y : Option Addr) (W : World), (binOp .eql 61 (.func (.func 48) #[] #[.pointer x, .pointer y]) .nilFunc).run Try.prog W = .ok (.bool false) W := fun x y W => by kernel_rfl
  refine calls_of_wp_marks Try.func10 rfl ?_
  simp only [Try.ntmps10, List.size_toArray, List.length_cons, List.length_nil, Nat.reduceAdd, Nat.reduceSub, Array.replicate_succ,
     Array.replicate_zero, List.push_toArray, List.append_toArray, List.nil_append, List.cons_append]
  go_wp2
  obtain ⟨W0, hW0⟩ : ∃ W0, (((w.alloc (Obj.cells #[Value.bool false] 4)).alloc (Obj.cells #[Value.slice none 0 0, Value.int IntKind.i64 0, Value.int IntKind.i64 0, Value.int IntKind.i64 0, Value.bool false] 72)).alloc (Obj.cells #[Value.pointer none, Value.pointer (some { block := w.heap.size + 1, off := 0 })] 46)) = W0 := ⟨_, rfl⟩
  rw [hW0]
  have b0 : Blk W0 w.heap.size 4 #[.bool false] := by rw [← hW0]; exact ((Blk.new w _ _).alloc _).alloc _
  have b1 : Blk W0 (w.heap.size + 1) 72 #[Value.slice none 0 0, Value.int IntKind.i64 0, Value.int IntKind.i64 0, Value.int IntKind.i64 0, Value.bool false] := by
    rw [← hW0]; exact (Blk.new_at _ _ (by simp)).alloc _
  have b2 : Blk W0 (w.heap.size + 1 + 1) 46 #[Value.pointer none, Value.pointer (some { block := w.heap.size + 1, off := 0 })] := by
    rw [← hW0]; exact Blk.new_at _ _ (by simp)
  have B0 : Below w.heap.size w W0 := by
    rw [← hW0]; exact (((Below.refl _ w).alloc (Nat.le_refl _) _).alloc (by simp) _).alloc (by simp; omega) _
  have c20 := b2.cell 0
  have c21 := b2.cell 1
  have z1 := b1.cell 4
  simp only [List.getElem?_toArray, List.getElem?_cons_zero, List.getElem?_cons_succ] at c20 c21 z1
  clear hW0
  refine wp_loop_rounds 3 ?_
  rw [rounds_succ]
  go_wp2_with (first
    | (go_at_call 28; refine (srcRead_none _ _ _ (srcNil_no _)).mono ?_; rintro e w1 ⟨rfl, rfl⟩)
    | (go_at_call 35; refine (newBuffer_none _ _ _ (srcNil_no _)).mono ?_; rintro e w1 ⟨rfl, rfl⟩)
    | (go_at_call 13; refine (num_any _ _).mono ?_; rintro e w1 ⟨rfl, rfl⟩)
    | (go_at_call 30; refine (srcTold_none _ _ (srcNil_no _)).mono ?_; rintro e w1 ⟨rfl, rfl⟩)
    | (go_at_call 31; refine (srcOver_none _ _ (srcNil_no _)).mono ?_; rintro e w1 ⟨rfl, rfl⟩)
    | (go_at_call 33; refine (srcAll_any _ _ _).mono ?_; rintro e W1 ⟨B, rfl, hB, hBl, hc, _, hw⟩))
  refine wp_rangeFunc_none (gf := 48) (lb := #[.pointer (some ⟨B, 0, none⟩), .pointer (some ⟨B + 1, 0, none⟩)]) rfl (enters_of Try.func48 (by kernel_rfl) rfl) ?_ ?_
  · intro l W hW
    exact srcAll1_none (.pointer none) _ _ B W ((hW.cell (p := ⟨B, 0, none⟩) (by show B < _; omega)).trans hc) (srcNil_no _)
  intro D1 W2 hD1 hb2 hd1
  dsimp only
  have hwl := b2.lt
  have e01 : W0.heap.size ≤ W1.heap.size := hw.size
  have hb02 : Below W0.heap.size W0 W2 := hw.trans (hb2.mono e01)
  have c21' := (hb02.cell (p := ⟨w.heap.size + 1 + 1, 1, none⟩) hwl).trans c21
  have z1' := (hb02.cell (p := ⟨w.heap.size + 1, 4, none⟩) (Nat.lt_of_succ_lt hwl)).trans z1
  clear hc hw hb2 c20 c21 z1 b1
  go_wp2
  rw [rounds_succ]
  go_wp2_with (first
    | (go_at_call 28; refine (srcRead_none _ _ _ (srcZero_no _ _ z1')).mono ?_; rintro e w1 ⟨rfl, rfl⟩)
    | (go_at_call 35; refine (newBuffer_none _ _ _ (srcZero_no _ _ z1')).mono ?_; rintro e w1 ⟨rfl, rfl⟩)
    | (go_at_call 13; refine (num_any _ _).mono ?_; rintro e w1 ⟨rfl, rfl⟩)
    | (go_at_call 30; refine (srcTold_none _ _ (srcZero_no _ _ z1')).mono ?_; rintro e w1 ⟨rfl, rfl⟩)
    | (go_at_call 31; refine (srcOver_none _ _ (srcZero_no _ _ z1')).mono ?_; rintro e w1 ⟨rfl, rfl⟩)
    | (go_at_call 33; refine (srcAll_any _ _ _).mono ?_; rintro e W3 ⟨B', rfl, hB', hBl', hc, _, hw⟩))
  refine wp_rangeFunc_none (gf := 48) (lb := #[.pointer (some ⟨B', 0, none⟩), .pointer (some ⟨B' + 1, 0, none⟩)]) rfl (enters_of Try.func48 (by kernel_rfl) rfl) ?_ ?_
  · intro l W hW
    refine srcAll1_none (.pointer (some ⟨w.heap.size + 1, 0, none⟩)) _ _ B' W ((hW.cell (p := ⟨B', 0, none⟩) (by show B' < _; omega)).trans hc) (srcZero_no _ _ ?_)
    have e02 := hb02.size
    have e23 := hw.size
    exact (((hw.trans (hW.mono e23)).cell (p := ⟨w.heap.size + 1, 4, none⟩) (by show w.heap.size + 1 < _; omega))).trans z1'
  intro D2 W4 hD2 hb4 hd2
  dsimp only
  have e23 := hw.size
  have hd1l := lt_of_heap hd1
  have hb24 : Below W2.heap.size W2 W4 := hw.trans (hb4.mono e23)
  have hd1' : W4.heap[D1]? = some (.deferred (some [])) := (hb24.block D1 hd1l).trans hd1
  clear hc hw hb4 c21' z1' hd1
  go_wp2
  rw [rounds_succ]
  go_wp2
  obtain ⟨W5, hW5⟩ : ∃ W5, ((W4.alloc (Obj.cells #[Value.nilIface, Value.int IntKind.i64 0, Value.slice none 0 0, Value.int IntKind.i64 0] 77)).alloc (Obj.cells #[Value.pointer none, Value.pointer (some { block := W4.heap.size, off := 0 })] 68)) = W5 := ⟨_, rfl⟩
  rw [hW5]
  have b1 : Blk W5 W4.heap.size 77 #[Value.nilIface, Value.int IntKind.i64 0, Value.slice none 0 0, Value.int IntKind.i64 0] := by
    rw [← hW5]; exact (Blk.new_at _ _ rfl).alloc _
  have b2 : Blk W5 (W4.heap.size + 1) 68 #[Value.pointer none, Value.pointer (some { block := W4.heap.size, off := 0 })] := by
    rw [← hW5]; exact Blk.new_at _ _ (by simp)
  have B5 : Below W4.heap.size W4 W5 := by
    rw [← hW5]; exact ((Below.refl _ W4).alloc (Nat.le_refl _) _).alloc (by simp) _
  have c20 := b2.cell 0
  have c21 := b2.cell 1
  have z1 := b1.cell 0
  simp only [List.getElem?_toArray, List.getElem?_cons_zero, List.getElem?_cons_succ] at c20 c21 z1
  clear hW5
  refine wp_loop_rounds 3 ?_
  rw [rounds_succ]
  go_wp2_with (first
    | (go_at_call 39; refine (bufPeek_none _ _ _ (bufNil_no _)).mono ?_; rintro e w1 ⟨rfl, rfl⟩)
    | (go_at_call 36; refine (bufTake_none _ _ _ (bufNil_no _)).mono ?_; rintro e w1 ⟨rfl, rfl⟩)
    | (go_at_call 40; refine (bufUntil_none _ _ _ (bufNil_no _)).mono ?_; rintro e w1 ⟨rfl, rfl⟩)
    | (go_at_call 41; refine (bufRest_none _ _ (bufNil_no _)).mono ?_; rintro e w1 ⟨rfl, rfl⟩)
    | (go_at_call 13; refine (num_any _ _).mono ?_; rintro e w1 ⟨rfl, rfl⟩)
    | (go_at_call 38; refine (bufHas_none _ _ (bufNil_no _)).mono ?_; rintro e w1 ⟨rfl, rfl⟩)
    | (go_at_call 37; refine (bufTaken_none _ _ (bufNil_no _)).mono ?_; rintro e w1 ⟨rfl, rfl⟩))
  rw [rounds_succ]
  go_wp2_with (first
    | (go_at_call 39; refine (bufPeek_none _ _ _ (bufZero_no _ _ z1)).mono ?_; rintro e w1 ⟨rfl, rfl⟩)
    | (go_at_call 36; refine (bufTake_none _ _ _ (bufZero_no _ _ z1)).mono ?_; rintro e w1 ⟨rfl, rfl⟩)
    | (go_at_call 40; refine (bufUntil_none _ _ _ (bufZero_no _ _ z1)).mono ?_; rintro e w1 ⟨rfl, rfl⟩)
    | (go_at_call 41; refine (bufRest_none _ _ (bufZero_no _ _ z1)).mono ?_; rintro e w1 ⟨rfl, rfl⟩)
    | (go_at_call 13; refine (num_any _ _).mono ?_; rintro e w1 ⟨rfl, rfl⟩)
    | (go_at_call 38; refine (bufHas_none _ _ (bufZero_no _ _ z1)).mono ?_; rintro e w1 ⟨rfl, rfl⟩)
    | (go_at_call 37; refine (bufTaken_none _ _ (bufZero_no _ _ z1)).mono ?_; rintro e w1 ⟨rfl, rfl⟩))
  rw [rounds_succ]
  go_wp2_with fail
  refine (awake_any _).mono ?_
  rintro e W6 ⟨rfl, hb6⟩
  have e01 : w.heap.size ≤ W0.heap.size := B0.size
  have hwl : w.heap.size < W0.heap.size := b0.lt
  have e24 := hb24.size
  have e45 := B5.size
  have e02 := hb02.size
  have e56 := hb6.size
  have hb26 : Below W2.heap.size W2 W6 := (hb24.trans (B5.mono e24)).trans (hb6.mono (Nat.le_trans e24 e45))
  have hb06 : Below W0.heap.size W0 W6 := hb02.trans (hb26.mono e02)
  have b6 : Blk W6 w.heap.size 4 #[.bool false] := b0.below hb06 hwl
  have x6 := b6.cell 0
  have f6 := b6.frozen 0
  simp only [List.getElem?_toArray, List.getElem?_cons_zero] at x6
  have hd2l := lt_of_heap hd2
  have k1 : W6.heap[D1]? = some (.deferred (some [])) := ((B5.trans (hb6.mono e45)).block D1 (by omega)).trans hd1'
  have k2 : W6.heap[D2]? = some (.deferred (some [])) := ((B5.trans (hb6.mono e45)).block D2 hd2l).trans hd2
  have hB6 : Below w.heap.size w W6 := B0.trans (hb06.mono e01)
  clear hb6 hb24 hb02 hd1' hd2 B5 b1 b2 c20 c21 z1 B0 b0 hb26 hb06 hq
  go_wp2
  have b7 := b6.set_ 0 (.bool true)
  generalize hw7 : W6.setCell ⟨w.heap.size, 0, none⟩ (.bool true) = W7 at b7 ⊢
  have hs7 : W7.heap.size = W6.heap.size := by rw [← hw7]; simp [World.setCell]
  have k1' : W7.heap[D1]? = some (.deferred (some [])) := by rw [← hw7]; exact (Below.heap_setCell W6 _ _ D1 (by show D1 ≠ w.heap.size; omega)).trans k1
  have k2' : W7.heap[D2]? = some (.deferred (some [])) := by rw [← hw7]; exact (Below.heap_setCell W6 _ _ D2 (by show D2 ≠ w.heap.size; omega)).trans k2
  have B7 : Below w.heap.size w W7 := by rw [← hw7]; exact hB6.setCell (p := ⟨w.heap.size, 0, none⟩) (Nat.le_refl _) _
  have hne : D1 ≠ D2 := by omega
  refine leaves_marks [D2, D1] W7 (by simp; omega) (fun D hD => ?_) (results_cell (t := 4) (ty := 4) (p := ⟨w.heap.size, 0, none⟩) (v := .bool true) rfl rfl ?_) ⟨rfl, ?_⟩
  · simp only [List.mem_cons, List.not_mem_nil, or_false] at hD
    rcases hD with rfl | rfl
    · exact k2'
    · exact k1'
  · have b8 : Blk (shut W7 [D2, D1]) w.heap.size 4 #[.bool true] := (shut_block [D2, D1] W7 (by simp; omega)).trans b7
    have c8 := b8.cell 0
    simp only [List.getElem?_toArray, List.getElem?_cons_zero] at c8
    generalize shut W7 [D2, D1] = W8 at c8
    simp [go_sem, c8]
  · refine shut_below [D2, D1] W7 B7 (fun D hD => ?_) (by omega)
    simp only [List.mem_cons, List.not_mem_nil, or_false] at hD
    have := lt_of_heap k1'
    have := lt_of_heap k2'
    rcases hD with rfl | rfl <;> omega
end Go.Proofs.Ytadnceiohgjdhaa
