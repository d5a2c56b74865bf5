/-
  strings.Builder: what it holds, and the contracts of copyCheck, WriteString, WriteByte, String.
-/
import Derived.Test.YtgkiffodnofggaaGreatDoorTexts
import Derived.Lib.FrozenHead2
import Derived.Test.YtgkiffodnofggaaGreatDoorShelf
namespace Go.Proofs.YtgkiffodnofggaaGreatDoor
open Go.RowKit
set_option linter.unusedVariables false
set_option linter.unusedSimpArgs false

theorem bv_byteCells (l : List UInt8) : Lib.byteCells l = bv l := rfl
theorem strCells_str (l : List UInt8) : Lib.strCells (str l) = bv l := rfl
/-- A builder at block b holds the bytes l; its buffer is v. -/
def Bld (w : World) (lo b : Nat) (v : Value) (l : List UInt8) : Prop :=
  lo ≤ b ∧ (∃ p, (p = .pointer none ∨ p = .pointer (some ⟨b, 0, none⟩)) ∧ Blk w b 45 #[p, v]) ∧ w.ownsRowF lo 5 1 v l.length (bv l) ∧ v.ownBlock ≠ some b
theorem Bld.isF {w : World} {lo b : Nat} {v : Value} {l : List UInt8} (h : Bld w lo b v l) : Lib.IsBuilderF 45 5 lo b (Lib.byteCells l) w := by
  obtain ⟨h1, ⟨p, hp, hb⟩, h2, h3⟩ := h
  have h2' : w.ownsRowF lo 5 1 v (bv l).length (bv l) := by rw [bv_length]; exact h2
  rcases hp with rfl | rfl
  · exact .inl ⟨h1, v, hb, h2', h3⟩
  · exact .inr ⟨h1, v, hb, h2', h3⟩
theorem Bld.new {w : World} {b : Nat} (hb : Blk w b 45 #[.pointer none, .slice none 0 0]) (lo : Nat) (h : lo ≤ b) : Bld w lo b (.slice none 0 0) [] :=
  ⟨h, ⟨_, .inl rfl, hb⟩, World.ownsRowF_nil _ _ _ _, by simp [Value.ownBlock]⟩
theorem Bld.blk {w : World} {lo b : Nat} {v : Value} {l : List UInt8} (h : Bld w lo b v l) : ∃ p, Blk w b 45 #[p, v] := by
  obtain ⟨_, ⟨p, _, hb⟩, _⟩ := h
  exact ⟨p, hb⟩
theorem Bld.keep {w w' : World} {lo b : Nat} {v : Value} {l : List UInt8} {T : Nat → Prop} (h : Bld w lo b v l) (hk : Keep T w w') (h1 : ¬ T b) (h2 : ∀ k, v.ownBlock = some k → ¬ T k) : Bld w' lo b v l := by
  obtain ⟨a1, ⟨p, hp, hb⟩, a2, a3⟩ := h
  refine ⟨a1, ⟨p, hp, hb.keep hk h1⟩, ⟨a2.1, ?_⟩, a3⟩
  rcases a2.2 with ⟨rfl, e⟩ | ⟨g, cap, cur, fz, rfl, b1, b2, rest⟩
  · exact .inl ⟨rfl, e⟩
  · exact .inr ⟨g, cap, cur, fz, rfl, b1, (hk.block g (lt_of_heap b2) (h2 g rfl)).trans b2, rest⟩
theorem Bld.lt {w : World} {lo b : Nat} {v : Value} {l : List UInt8} (h : Bld w lo b v l) : b < w.heap.size := by
  obtain ⟨p, hb⟩ := h.blk
  exact hb.lt
theorem ownF_not {W : World} {lo size n k : Nat} {t : TypeId} {v : Value} {xs : List Value} {o : Obj} (h : W.ownsRowF lo t size v n xs) (hl : W.heap[k]? = some o) (ho : ∀ cs fz, o ≠ .cells cs t fz) : v.ownBlock ≠ some k := by
  rcases h.2 with ⟨rfl, _⟩ | ⟨g, cap, cur, fz, rfl, _, hb, _⟩
  · simp [Value.ownBlock]
  · intro e
    have : g = k := by simpa [Value.ownBlock] using e
    subst this
    rw [hb] at hl
    exact ho _ _ (Option.some.inj hl).symm

theorem ownF_slice {W : World} {lo size n : Nat} {t : TypeId} {v : Value} {xs : List Value} (h : W.ownsRowF lo t size v n xs) : ∃ A c, v = .slice A n c := by
  rcases h.2 with ⟨rfl, rfl⟩ | ⟨g, cap, cur, fz, rfl, _⟩
  · exact ⟨none, 0, rfl⟩
  · exact ⟨_, _, rfl⟩
theorem ownF_keep {w w' : World} {lo size n : Nat} {t : TypeId} {v : Value} {xs : List Value} {T : Nat → Prop} (h : w.ownsRowF lo t size v n xs) (hk : Keep T w w') (h2 : ∀ k, v.ownBlock = some k → ¬ T k) : w'.ownsRowF lo t size v n xs := by
  refine ⟨h.1, ?_⟩
  rcases h.2 with ⟨rfl, e⟩ | ⟨g, cap, cur, fz, rfl, b1, b2, rest⟩
  · exact .inl ⟨rfl, e⟩
  · exact .inr ⟨g, cap, cur, fz, rfl, b1, (hk.block g (lt_of_heap b2) (h2 g rfl)).trans b2, rest⟩
theorem bld_info : ∃ j, Tryz.prog.info? 45 = some j ∧ j.size = 2 := by
  have h : (Tryz.prog.info? 45).map (·.size) = some 2 := by kernel_rfl
  obtain ⟨j, hj, hjs⟩ := Option.map_eq_some_iff.1 h
  exact ⟨j, hj, hjs⟩
theorem bld_lies : liesAt Tryz.prog Tryz.prog.depth 45 (2 / Tryz.prog.cellsOf 45) 0 45 1 = true := by kernel_rfl

set_option maxHeartbeats 4000000 in
set_option maxRecDepth 100000 in
theorem copyCheck_any {w : World} {b : Nat} {p v : Value} (hp : p = .pointer none ∨ p = .pointer (some ⟨b, 0, none⟩)) (hb : Blk w b 45 #[p, v]) :
    Calls Tryz.prog 31 #[.pointer (some ⟨b, 0, none⟩)] w fun e w' => e = .returned (.tuple #[]) ∧ Blk w' b 45 #[.pointer (some ⟨b, 0, none⟩), v] ∧ Keep (fun k => k = b) w w' := by
  obtain ⟨j, hj, hjs⟩ := bld_info
  have x0 := hb.cell 0
  have f0 := hb.frozen 0
  simp only [List.getElem?_toArray, List.getElem?_cons_zero] at x0
  have hsh : w.shape? b = some (45, 2) := by
    unfold Blk at hb
    simp [World.shape?, hb]
  have HB := Lib.hid hb
  have hto := Lib.run_to_unsafe (P := Tryz.prog) w ⟨b, 0, none⟩ Tryz.underlying42 Tryz.underlying81 hj (by rw [hjs]; decide) hsh (Nat.zero_lt_succ 1)
  have hfr := Lib.run_from_unsafe (P := Tryz.prog) w ⟨b, 0, none⟩ Tryz.underlying81 Tryz.underlying42 hj hsh bld_lies
  have hne : ∀ W : World, (binOp .neq 42 (.pointer (some ⟨b, 0, none⟩)) (.pointer (some ⟨b, 0, none⟩))).run Tryz.prog W = .ok (.bool false) W := fun W => Lib.run_neq_ptr_same W _ Tryz.underlying42 hj
  clear hb
  rcases hp with rfl | rfl
  · go_enter Tryz.func31, Tryz.ntmps31
    go_wp2
    rw [run_callFunc_extern Tryz.func50 (by kernel_rfl) (by kernel_rfl) (by kernel_rfl) (e := Extern.AbiNoEscape.same) (by kernel_rfl), Lib.run_noEscape]
    simp only [Result.andThen]
    rw [Oper.upon_value]
    go_wp2
    go_end0
    refine ⟨rfl, HB.out.set_ 0 (.pointer (some ⟨b, 0, none⟩)), (Keep.refl (fun k => k = b) w).setCell (p := ⟨b, 0, none⟩) (.inl rfl) _⟩
  · go_enter Tryz.func31, Tryz.ntmps31
    go_wp2
    go_end0
    exact ⟨rfl, HB.out, Keep.refl _ _⟩

set_option maxHeartbeats 4000000 in
set_option maxRecDepth 100000 in
theorem writeString_any {w : World} {lo b : Nat} {v : Value} {l : List UInt8} (h : Bld w lo b v l) (s : List UInt8) (hn : l.length + s.length ≤ 140737488355328) :
    Calls Tryz.prog 16 #[.pointer (some ⟨b, 0, none⟩), .string (str s)] w fun e w' => e = .returned (.tuple #[.int .i64 s.length, .nilIface]) ∧
      ∃ v', Bld w' lo b v' (l ++ s) ∧ Keep (fun k => k = b ∨ v.ownBlock = some k) w w' := by
  obtain ⟨i0, hi, hz0, hz1, hz2⟩ := info_parts u8info
  obtain ⟨hlo, ⟨p, hp, hb⟩, how, hov⟩ := h
  have K := Lib.hid (copyCheck_any hp hb)
  have hbl := hb.lt
  have HO := Lib.hid how
  clear hb how
  go_enter Tryz.func16, Tryz.ntmps16
  go_wp2_with fail
  refine K.out.mono ?_
  rintro e w1 ⟨rfl, hb1, hk1⟩
  have O1 := ownF_keep HO.out hk1 (fun k e1 e2 => hov (by rw [e1, e2]))
  have x1 := hb1.cell 1
  have f1 := hb1.frozen 1
  simp only [List.getElem?_toArray, List.getElem?_cons_succ, List.getElem?_cons_zero] at x1
  have HB1 := Lib.hid hb1
  have HK1 := Lib.hid hk1
  have HO1 := Lib.hid O1
  have hl1 := hk1.size
  have hsz := str_size s
  clear hb1 hk1 O1
  go_wp2_with (at_builtin; refine Lib.wpList_append_own_stringF _ rfl _ _ 43 9 rfl lo 5 i0 Tryz.underlying43 Tryz.underlying9 hi hz0 hz1 hz2 v l.length (bv l) rfl HO1.out (str s) rfl (by simp only [str_size, maxLen]; omega) (by rw [str_size]; exact hn) (by omega) ?_; intro v2 w2 ho2 hg2 hnil; obtain ⟨A2, c2, rfl⟩ := ownF_slice ho2; have hb2 : Blk w2 b 45 #[.pointer (some ⟨b, 0, none⟩), v] := (hg2.block b (by omega) (fun e => hov e.symm)).trans HB1.out; have x2 := hb2.cell 1; have f2 := hb2.frozen 1; simp only [List.getElem?_toArray, List.getElem?_cons_succ, List.getElem?_cons_zero] at x2; have HB2 := Lib.hid hb2; have HO2 := Lib.hid ho2; have HG2 := Lib.hid hg2; clear ho2 hg2 hnil hb2)
  go_ret2
  have ho := HO2.out
  rw [str_size, strCells_str, ← bv_append] at ho
  have hnb : (Value.slice A2 (l.length + s.length) c2).ownBlock ≠ some b := ownF_not ho HB2.out (fun cs fz e => by cases e)
  refine ⟨rfl, _, ⟨hlo, ⟨_, .inr rfl, HB2.out.set_ 1 _⟩, ?_, hnb⟩, ?_⟩
  · rw [List.length_append]
    exact ownF_keep ho ((Keep.refl (fun k => k = b) w2).setCell (p := ⟨b, 1, none⟩) (.inl rfl) _) (fun k e1 e2 => hnb (by rw [e1, e2]))
  · exact ((HK1.out.mono (T := fun k => k = b ∨ v.ownBlock = some k) (fun i _ e => Or.inl e)).grown HG2.out (fun k e => .inl (.inr e))).setCell (p := ⟨b, 1, none⟩) (.inl (.inl rfl)) _

set_option maxHeartbeats 4000000 in
set_option maxRecDepth 100000 in
theorem writeByte_any {w : World} {lo b : Nat} {v : Value} {l : List UInt8} (h : Bld w lo b v l) (c : UInt8) (hn : l.length + 1 ≤ 140737488355328) :
    Calls Tryz.prog 21 #[.pointer (some ⟨b, 0, none⟩), .int .u8 (c.toNat : Int)] w fun e w' => e = .returned .nilIface ∧
      ∃ v', Bld w' lo b v' (l ++ [c]) ∧ Keep (fun k => k = b ∨ v.ownBlock = some k) w w' := by
  obtain ⟨i0, hi, hz0, hz1, hz2⟩ := info_parts u8info
  obtain ⟨hlo, ⟨p, hp, hb⟩, how, hov⟩ := h
  have K := Lib.hid (copyCheck_any hp hb)
  have hbl := hb.lt
  have HO := Lib.hid how
  clear hb how
  go_enter Tryz.func21, Tryz.ntmps21
  go_wp2_with fail
  refine K.out.mono ?_
  rintro e w1 ⟨rfl, hb1, hk1⟩
  have O1 := ownF_keep HO.out hk1 (fun k e1 e2 => hov (by rw [e1, e2]))
  obtain ⟨A1, c1, rfl⟩ := ownF_slice O1
  have x1 := hb1.cell 1
  have f1 := hb1.frozen 1
  simp only [List.getElem?_toArray, List.getElem?_cons_succ, List.getElem?_cons_zero] at x1
  have HB1 := Lib.hid hb1
  have HK1 := Lib.hid hk1
  have HO1 := Lib.hid (ownF_keep (T := fun _ => False) O1 ((Keep.refl _ w1).alloc (.cells #[.int .u8 (c.toNat : Int)] 5)) (fun _ _ => id))
  have hl1 := hk1.size
  clear hb1 hk1 O1
  go_wp2_with (at_builtin; go_loud (refine wpList_append_ownF _ rfl _ _ 43 rfl lo 5 i0 (.int .u8 0) 1 1 Tryz.underlying43 hi hz0 hz1 hz2 rfl (by decide) (.slice A1 l.length c1) l.length (bv l) rfl HO1.out ⟨w1.heap.size, 0, none⟩ 1 1 [.int .u8 (c.toNat : Int)] rfl rfl (fun j u hu => by rw [addr_lit, Nat.zero_add]; exact cell_alloc_at _ _ _ _ _ (by simpa using hu)) (by simp [Value.oneCell']) (by simp only [maxLen]; omega) (by omega) (by simp; omega) ?_); intro v2 w2 ho2 hg2 hnil; obtain ⟨A2, c2, rfl⟩ := ownF_slice ho2; have hb2 : Blk w2 b 45 #[.pointer (some ⟨b, 0, none⟩), .slice A1 l.length c1] := (hg2.block b (by simp; omega) (fun e => hov e.symm)).trans (HB1.out.alloc _); have x2 := hb2.cell 1; have f2 := hb2.frozen 1; simp only [List.getElem?_toArray, List.getElem?_cons_succ, List.getElem?_cons_zero] at x2; have HB2 := Lib.hid hb2; have HO2 := Lib.hid ho2; have HG2 := Lib.hid hg2; clear ho2 hg2 hnil hb2)
  go_ret
  have ho := HO2.out
  rw [show bv l ++ [.int .u8 (c.toNat : Int)] = bv (l ++ [c]) by rw [bv_append]; rfl] at ho
  have hnb : (Value.slice A2 (l.length + 1) c2).ownBlock ≠ some b := ownF_not ho HB2.out (fun cs fz e => by cases e)
  refine ⟨rfl, _, ⟨hlo, ⟨_, .inr rfl, HB2.out.set_ 1 _⟩, ?_, hnb⟩, ?_⟩
  · rw [List.length_append]
    exact ownF_keep ho ((Keep.refl (fun k => k = b) w2).setCell (p := ⟨b, 1, none⟩) (.inl rfl) _) (fun k e1 e2 => hnb (by rw [e1, e2]))
  · exact (((HK1.out.mono (T := fun k => k = b ∨ (Value.slice A1 l.length c1).ownBlock = some k) (fun i _ e => Or.inl e)).alloc _).grown HG2.out (fun k e => .inl (.inr e))).setCell (p := ⟨b, 1, none⟩) (.inl (.inl rfl)) _

theorem builderString_any {w : World} {lo b : Nat} {v : Value} {l : List UInt8} (h : Bld w lo b v l) :
    Calls Tryz.prog 22 #[.pointer (some ⟨b, 0, none⟩)] w fun e w' => e = .returned (.string (str l)) ∧ Below lo w w' := by
  have hb := h.lt
  refine (Tryz.Builder_String_any_k lo b l w h.isF (by have := h.1; omega)).mono ?_
  rintro e w' ⟨rfl, _, hk, _⟩
  exact ⟨rfl, hk⟩
end Go.Proofs.YtgkiffodnofggaaGreatDoor
