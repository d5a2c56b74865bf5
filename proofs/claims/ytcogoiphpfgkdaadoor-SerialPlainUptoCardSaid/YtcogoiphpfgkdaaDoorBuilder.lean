/-
  strings.Builder: what it holds, and the contracts of copyCheck, WriteString, WriteRune, String.
-/
import Derived.Test.YtcogoiphpfgkdaaDoorUtfAll
import Derived.Test.YtcogoiphpfgkdaaDoorShelf
namespace Go.Proofs.YtcogoiphpfgkdaaDoor
open Go.RowKit
set_option linter.unusedVariables false
set_option linter.unusedSimpArgs false

theorem bv_byteCells (l : List UInt8) : Lib.byteCells l = bv l := rfl
theorem strCells_str (l : List UInt8) : Lib.strCells (str l) = bv l := rfl
/-- A builder at block b holds the bytes l; its buffer is v. -/
def Bld (w : World) (lo b : Nat) (v : Value) (l : List UInt8) : Prop :=
  lo ≤ b ∧ (∃ p, (p = .pointer none ∨ p = .pointer (some ⟨b, 0, none⟩)) ∧ Blk w b 68 #[p, v]) ∧ w.ownsRowF lo 5 1 v l.length (bv l) ∧ v.ownBlock ≠ some b
theorem Bld.isF {w : World} {lo b : Nat} {v : Value} {l : List UInt8} (h : Bld w lo b v l) : Lib.IsBuilderF 68 5 lo b (Lib.byteCells l) w := by
  obtain ⟨h1, ⟨p, hp, hb⟩, h2, h3⟩ := h
  have h2' : w.ownsRowF lo 5 1 v (bv l).length (bv l) := by rw [bv_length]; exact h2
  rcases hp with rfl | rfl
  · exact .inl ⟨h1, v, hb, h2', h3⟩
  · exact .inr ⟨h1, v, hb, h2', h3⟩
theorem Bld.new {w : World} {b : Nat} (hb : Blk w b 68 #[.pointer none, .slice none 0 0]) (lo : Nat) (h : lo ≤ b) : Bld w lo b (.slice none 0 0) [] :=
  ⟨h, ⟨_, .inl rfl, hb⟩, World.ownsRowF_nil _ _ _ _, by simp [Value.ownBlock]⟩
theorem Bld.blk {w : World} {lo b : Nat} {v : Value} {l : List UInt8} (h : Bld w lo b v l) : ∃ p, Blk w b 68 #[p, v] := by
  obtain ⟨_, ⟨p, _, hb⟩, _⟩ := h
  exact ⟨p, hb⟩
theorem Bld.keep {w w' : World} {lo b : Nat} {v : Value} {l : List UInt8} {T : Nat → Prop} (h : Bld w lo b v l) (hk : Keep T w w') (h1 : ¬ T b) (h2 : ∀ k, v.ownBlock = some k → ¬ T k) : Bld w' lo b v l := by
  obtain ⟨a1, ⟨p, hp, hb⟩, a2, a3⟩ := h
  refine ⟨a1, ⟨p, hp, hb.keep hk h1⟩, ⟨a2.1, ?_⟩, a3⟩
  rcases a2.2 with ⟨rfl, e⟩ | ⟨g, cap, cur, fz, rfl, b1, b2, rest⟩
  · exact .inl ⟨rfl, e⟩
  · exact .inr ⟨g, cap, cur, fz, rfl, b1, (hk.block g (lt_of_heap b2) (h2 g rfl)).trans b2, rest⟩
theorem Bld.lt {w : World} {lo b : Nat} {v : Value} {l : List UInt8} (h : Bld w lo b v l) : b < w.heap.size := by
  obtain ⟨p, hb⟩ := h.blk
  exact hb.lt
theorem ownF_not {W : World} {lo size n k : Nat} {t : TypeId} {v : Value} {xs : List Value} {o : Obj} (h : W.ownsRowF lo t size v n xs) (hl : W.heap[k]? = some o) (ho : ∀ cs fz, o ≠ .cells cs t fz) : v.ownBlock ≠ some k := by
  rcases h.2 with ⟨rfl, _⟩ | ⟨g, cap, cur, fz, rfl, _, hb, _⟩
  · simp [Value.ownBlock]
  · intro e
    have : g = k := by simpa [Value.ownBlock] using e
    subst this
    rw [hb] at hl
    exact ho _ _ (Option.some.inj hl).symm

theorem ownF_slice {W : World} {lo size n : Nat} {t : TypeId} {v : Value} {xs : List Value} (h : W.ownsRowF lo t size v n xs) : ∃ A c, v = .slice A n c := by
  rcases h.2 with ⟨rfl, rfl⟩ | ⟨g, cap, cur, fz, rfl, _⟩
  · exact ⟨none, 0, rfl⟩
  · exact ⟨_, _, rfl⟩
theorem ownF_keep {w w' : World} {lo size n : Nat} {t : TypeId} {v : Value} {xs : List Value} {T : Nat → Prop} (h : w.ownsRowF lo t size v n xs) (hk : Keep T w w') (h2 : ∀ k, v.ownBlock = some k → ¬ T k) : w'.ownsRowF lo t size v n xs := by
  refine ⟨h.1, ?_⟩
  rcases h.2 with ⟨rfl, e⟩ | ⟨g, cap, cur, fz, rfl, b1, b2, rest⟩
  · exact .inl ⟨rfl, e⟩
  · exact .inr ⟨g, cap, cur, fz, rfl, b1, (hk.block g (lt_of_heap b2) (h2 g rfl)).trans b2, rest⟩
theorem bld_info : ∃ j, Tryd.prog.info? 68 = some j ∧ j.size = 2 := by
  have h : (Tryd.prog.info? 68).map (·.size) = some 2 := by kernel_rfl
  obtain ⟨j, hj, hjs⟩ := Option.map_eq_some_iff.1 h
  exact ⟨j, hj, hjs⟩
theorem bld_lies : liesAt Tryd.prog Tryd.prog.depth 68 (2 / Tryd.prog.cellsOf 68) 0 68 1 = true := by kernel_rfl

set_option maxHeartbeats 4000000 in
set_option maxRecDepth 100000 in
theorem copyCheck_any {w : World} {b : Nat} {p v : Value} (hp : p = .pointer none ∨ p = .pointer (some ⟨b, 0, none⟩)) (hb : Blk w b 68 #[p, v]) :
    Calls Tryd.prog 80 #[.pointer (some ⟨b, 0, none⟩)] w fun e w' => e = .returned (.tuple #[]) ∧ Blk w' b 68 #[.pointer (some ⟨b, 0, none⟩), v] ∧ Keep (fun k => k = b) w w' := by
  obtain ⟨j, hj, hjs⟩ := bld_info
  have x0 := hb.cell 0
  have f0 := hb.frozen 0
  simp only [List.getElem?_toArray, List.getElem?_cons_zero] at x0
  have hsh : w.shape? b = some (68, 2) := by
    unfold Blk at hb
    simp [World.shape?, hb]
  have HB := Lib.hid hb
  have hto := Lib.run_to_unsafe (P := Tryd.prog) w ⟨b, 0, none⟩ Tryd.underlying66 Tryd.underlying126 hj (by rw [hjs]; decide) hsh (Nat.zero_lt_succ 1)
  have hfr := Lib.run_from_unsafe (P := Tryd.prog) w ⟨b, 0, none⟩ Tryd.underlying126 Tryd.underlying66 hj hsh bld_lies
  have hne : ∀ W : World, (binOp .neq 66 (.pointer (some ⟨b, 0, none⟩)) (.pointer (some ⟨b, 0, none⟩))).run Tryd.prog W = .ok (.bool false) W := fun W => Lib.run_neq_ptr_same W _ Tryd.underlying66 hj
  clear hb
  rcases hp with rfl | rfl
  · go_enter Tryd.func80, Tryd.ntmps80
    go_wp2
    rw [run_callFunc_extern Tryd.func97 (by kernel_rfl) (by kernel_rfl) (by kernel_rfl) (e := Extern.AbiNoEscape.same) (by kernel_rfl), Lib.run_noEscape]
    simp only [Result.andThen]
    rw [Oper.upon_value]
    go_wp2
    go_end0
    refine ⟨rfl, HB.out.set_ 0 (.pointer (some ⟨b, 0, none⟩)), (Keep.refl (fun k => k = b) w).setCell (p := ⟨b, 0, none⟩) (.inl rfl) _⟩
  · go_enter Tryd.func80, Tryd.ntmps80
    go_wp2
    go_end0
    exact ⟨rfl, HB.out, Keep.refl _ _⟩

set_option maxHeartbeats 4000000 in
set_option maxRecDepth 100000 in
theorem writeString_any {w : World} {lo b : Nat} {v : Value} {l : List UInt8} (h : Bld w lo b v l) (s : List UInt8) (hn : l.length + s.length ≤ 140737488355328) :
    Calls Tryd.prog 55 #[.pointer (some ⟨b, 0, none⟩), .string (str s)] w fun e w' => e = .returned (.tuple #[.int .i64 s.length, .nilIface]) ∧
      ∃ v', Bld w' lo b v' (l ++ s) ∧ Keep (fun k => k = b ∨ v.ownBlock = some k) w w' := by
  obtain ⟨i0, hi, hz0, hz1, hz2⟩ := info_parts u8info
  obtain ⟨hlo, ⟨p, hp, hb⟩, how, hov⟩ := h
  have K := Lib.hid (copyCheck_any hp hb)
  have hbl := hb.lt
  have HO := Lib.hid how
  clear hb how
  go_enter Tryd.func55, Tryd.ntmps55
  go_wp2_with fail
  refine K.out.mono ?_
  rintro e w1 ⟨rfl, hb1, hk1⟩
  have O1 := ownF_keep HO.out hk1 (fun k e1 e2 => hov (by rw [e1, e2]))
  have x1 := hb1.cell 1
  have f1 := hb1.frozen 1
  simp only [List.getElem?_toArray, List.getElem?_cons_succ, List.getElem?_cons_zero] at x1
  have HB1 := Lib.hid hb1
  have HK1 := Lib.hid hk1
  have HO1 := Lib.hid O1
  have hl1 := hk1.size
  have hsz := str_size s
  clear hb1 hk1 O1
  go_wp2_with (at_builtin; refine Lib.wpList_append_own_stringF _ rfl _ _ 55 9 rfl lo 5 i0 Tryd.underlying55 Tryd.underlying9 hi hz0 hz1 hz2 v l.length (bv l) rfl HO1.out (str s) rfl (by simp only [str_size, maxLen]; omega) (by rw [str_size]; exact hn) (by omega) ?_; intro v2 w2 ho2 hg2 hnil; obtain ⟨A2, c2, rfl⟩ := ownF_slice ho2; have hb2 : Blk w2 b 68 #[.pointer (some ⟨b, 0, none⟩), v] := (hg2.block b (by omega) (fun e => hov e.symm)).trans HB1.out; have x2 := hb2.cell 1; have f2 := hb2.frozen 1; simp only [List.getElem?_toArray, List.getElem?_cons_succ, List.getElem?_cons_zero] at x2; have HB2 := Lib.hid hb2; have HO2 := Lib.hid ho2; have HG2 := Lib.hid hg2; clear ho2 hg2 hnil hb2)
  go_ret2
  have ho := HO2.out
  rw [str_size, strCells_str, ← bv_append] at ho
  have hnb : (Value.slice A2 (l.length + s.length) c2).ownBlock ≠ some b := ownF_not ho HB2.out (fun cs fz e => by cases e)
  refine ⟨rfl, _, ⟨hlo, ⟨_, .inr rfl, HB2.out.set_ 1 _⟩, ?_, hnb⟩, ?_⟩
  · rw [List.length_append]
    exact ownF_keep ho ((Keep.refl (fun k => k = b) w2).setCell (p := ⟨b, 1, none⟩) (.inl rfl) _) (fun k e1 e2 => hnb (by rw [e1, e2]))
  · exact ((HK1.out.mono (T := fun k => k = b ∨ v.ownBlock = some k) (fun i _ e => Or.inl e)).grown HG2.out (fun k e => .inl (.inr e))).setCell (p := ⟨b, 1, none⟩) (.inl (.inl rfl)) _

/-- The bytes of a rune. -/
theorem runeCells_bv (r : Int) (h0 : -2147483648 ≤ r) : Lib.runeCells r = bv (Lib.encodeRune r) := by rw [← bv_byteCells]; exact (Lib.byteCells_encodeRune r).symm
set_option maxHeartbeats 4000000 in
set_option maxRecDepth 100000 in
theorem writeRune_any {w : World} {lo b : Nat} {v : Value} {l : List UInt8} (h : Bld w lo b v l) (r : Int) (h0 : -2147483648 ≤ r) (h1 : r ≤ 2147483647) (hn : l.length + 4 ≤ 140737488355328) :
    Calls Tryd.prog 81 #[.pointer (some ⟨b, 0, none⟩), .int .i32 r] w fun e w' => (∃ u, e = .returned u) ∧
      ∃ v', Bld w' lo b v' (l ++ Lib.encodeRune r) ∧ Keep (fun k => k = b ∨ v.ownBlock = some k) w w' := by
  obtain ⟨hlo, ⟨p, hp, hb⟩, how, hov⟩ := h
  have K := Lib.hid (copyCheck_any hp hb)
  have hbl := hb.lt
  obtain ⟨A, c, rfl⟩ := ownF_slice how
  have HO := Lib.hid how
  have HC := Lib.hid (runeCells_bv r h0)
  clear hb how
  go_enter Tryd.func81, Tryd.ntmps81
  go_wp2_with fail
  refine K.out.mono ?_
  rintro e w1 ⟨rfl, hb1, hk1⟩
  have O1 := ownF_keep HO.out hk1 (fun k e1 e2 => hov (by rw [e1, e2]))
  have x1 := hb1.cell 1
  simp only [List.getElem?_toArray, List.getElem?_cons_succ, List.getElem?_cons_zero] at x1
  have HB1 := Lib.hid hb1
  have HK1 := Lib.hid hk1
  have HO1 := Lib.hid O1
  have hl1 := hk1.size
  clear hb1 hk1 O1
  go_wp2_with fail
  refine (Tryd.utf8_AppendRune_row lo _ _ _ r h0 h1 _ HO1.out (by omega) (by omega)).mono ?_
  rintro e w2 ⟨v2, rfl, ho2, o, hg2⟩
  obtain ⟨A2, c2, rfl⟩ := ownF_slice ho2
  have hb2 : Blk w2 b 68 #[.pointer (some ⟨b, 0, none⟩), .slice A l.length c] := (hg2.block b (by simp; omega) (fun e => hov e.symm)).trans (HB1.out.alloc o)
  have x2 := hb2.cell 1
  have f2 := hb2.frozen 1
  simp only [List.getElem?_toArray, List.getElem?_cons_succ, List.getElem?_cons_zero] at x2
  have HB2 := Lib.hid hb2
  have HO2 := Lib.hid ho2
  have HG2 := Lib.hid hg2
  clear ho2 hg2 hb2 x1
  go_wp2
  go_ret2
  have ho := HO2.out
  rw [HC.out, ← bv_append] at ho
  have hle : (bv (Lib.encodeRune r)).length = (Lib.encodeRune r).length := bv_length _
  have e2 : l.length + (Lib.runeCells r).length = (l ++ Lib.encodeRune r).length := by rw [HC.out, hle, List.length_append]
  rw [hle, ← List.length_append] at ho
  rw [e2]
  have hnb : (Value.slice A2 (l ++ Lib.encodeRune r).length c2).ownBlock ≠ some b := ownF_not ho HB2.out (fun cs fz e => by cases e)
  refine ⟨⟨_, rfl⟩, _, ⟨hlo, ⟨_, .inr rfl, HB2.out.set_ 1 _⟩, ?_, hnb⟩, ?_⟩
  · exact ownF_keep ho ((Keep.refl (fun k => k = b) w2).setCell (p := ⟨b, 1, none⟩) (.inl rfl) _) (fun k e1 e2 => hnb (by rw [e1, e2]))
  · exact (((HK1.out.mono (T := fun k => k = b ∨ (Value.slice A l.length c).ownBlock = some k) (fun i _ e => Or.inl e)).alloc o).grown HG2.out (fun k e => .inl (.inr e))).setCell (p := ⟨b, 1, none⟩) (.inl (.inl rfl)) _

theorem builderString_any {w : World} {lo b : Nat} {v : Value} {l : List UInt8} (h : Bld w lo b v l) :
    Calls Tryd.prog 50 #[.pointer (some ⟨b, 0, none⟩)] w fun e w' => e = .returned (.string (str l)) ∧ Below lo w w' := by
  have hb := h.lt
  refine (Tryd.Builder_String_any_k lo b l w h.isF (by have := h.1; omega)).mono ?_
  rintro e w' ⟨rfl, _, hk, _⟩
  exact ⟨rfl, hk⟩
end Go.Proofs.YtcogoiphpfgkdaaDoor
