/-
  A strings.Builder in a struct of four cells (serial.paper): the contracts of copyCheck, WriteString, String.
-/
import Derived.Test.YtcogoiphpfgkdaaDoorBuilder
import Derived.Shelf.RegionOpen
namespace Go.Proofs.YtcogoiphpfgkdaaDoor
open Go.RowKit
set_option linter.unusedVariables false
set_option linter.unusedSimpArgs false

theorem pap_lies : liesAt Tryd.prog Tryd.prog.depth 71 (4 / Tryd.prog.cellsOf 71) 0 68 1 = true := by kernel_rfl

set_option maxHeartbeats 4000000 in
set_option maxRecDepth 100000 in
theorem copyCheck4_any {w : World} {b : Nat} {p v x y : Value} (hp : p = .pointer none ∨ p = .pointer (some ⟨b, 0, none⟩)) (hb : Blk w b 71 #[p, v, x, y]) :
    Calls Tryd.prog 80 #[.pointer (some ⟨b, 0, none⟩)] w fun e w' => e = .returned (.tuple #[]) ∧ Blk w' b 71 #[.pointer (some ⟨b, 0, none⟩), v, x, y] ∧ Keep (fun k => k = b) w w' := by
  obtain ⟨j, hj, hjs⟩ := bld_info
  have x0 := hb.cell 0
  have f0 := hb.frozen 0
  simp only [List.getElem?_toArray, List.getElem?_cons_zero] at x0
  have hsh : w.shape? b = some (71, 4) := by
    unfold Blk at hb
    simp [World.shape?, hb]
  have HB := Lib.hid hb
  have hto := Lib.run_to_unsafe (P := Tryd.prog) w ⟨b, 0, none⟩ Tryd.underlying66 Tryd.underlying126 hj (by rw [hjs]; decide) hsh (Nat.zero_lt_succ 3)
  have hfr := Lib.run_from_unsafe (P := Tryd.prog) w ⟨b, 0, none⟩ Tryd.underlying126 Tryd.underlying66 hj hsh pap_lies
  have hne : ∀ W : World, (binOp .neq 66 (.pointer (some ⟨b, 0, none⟩)) (.pointer (some ⟨b, 0, none⟩))).run Tryd.prog W = .ok (.bool false) W := fun W => Lib.run_neq_ptr_same W _ Tryd.underlying66 hj
  clear hb
  rcases hp with rfl | rfl
  · go_enter Tryd.func80, Tryd.ntmps80
    go_wp2
    rw [run_callFunc_extern Tryd.func97 (by kernel_rfl) (by kernel_rfl) (by kernel_rfl) (e := Extern.AbiNoEscape.same) (by kernel_rfl), Lib.run_noEscape]
    simp only [Result.andThen]
    rw [Oper.upon_value]
    go_wp2
    go_end0
    refine ⟨rfl, HB.out.set_ 0 (.pointer (some ⟨b, 0, none⟩)), (Keep.refl (fun k => k = b) w).setCell (p := ⟨b, 0, none⟩) (.inl rfl) _⟩
  · go_enter Tryd.func80, Tryd.ntmps80
    go_wp2
    go_end0
    exact ⟨rfl, HB.out, Keep.refl _ _⟩

set_option maxHeartbeats 4000000 in
set_option maxRecDepth 100000 in
theorem writeString4_any {w : World} {lo b : Nat} {p v x y : Value} {l : List UInt8} (hlo : lo ≤ b) (hp : p = .pointer none ∨ p = .pointer (some ⟨b, 0, none⟩)) (hb : Blk w b 71 #[p, v, x, y]) (how : w.ownsRowF lo 5 1 v l.length (bv l)) (s : List UInt8) (hn : l.length + s.length ≤ 140737488355328) :
    Calls Tryd.prog 55 #[.pointer (some ⟨b, 0, none⟩), .string (str s)] w fun e w' => e = .returned (.tuple #[.int .i64 s.length, .nilIface]) ∧
      ∃ v', Blk w' b 71 #[.pointer (some ⟨b, 0, none⟩), v', x, y] ∧ w'.ownsRowF lo 5 1 v' (l ++ s).length (bv (l ++ s)) ∧ Keep (fun k => k = b ∨ v.ownBlock = some k) w w' := by
  obtain ⟨i0, hi, hz0, hz1, hz2⟩ := info_parts u8info
  have hov : v.ownBlock ≠ some b := ownF_not how hb (fun cs fz e => by cases e)
  have K := Lib.hid (copyCheck4_any hp hb)
  have hbl := hb.lt
  have HO := Lib.hid how
  clear hb how
  go_enter Tryd.func55, Tryd.ntmps55
  go_wp2_with fail
  refine K.out.mono ?_
  rintro e w1 ⟨rfl, hb1, hk1⟩
  have O1 := ownF_keep HO.out hk1 (fun k e1 e2 => hov (by rw [e1, e2]))
  have x1 := hb1.cell 1
  have f1 := hb1.frozen 1
  simp only [List.getElem?_toArray, List.getElem?_cons_succ, List.getElem?_cons_zero] at x1
  have HB1 := Lib.hid hb1
  have HK1 := Lib.hid hk1
  have HO1 := Lib.hid O1
  have hl1 := hk1.size
  have hsz := str_size s
  clear hb1 hk1 O1
  go_wp2_with (at_builtin; refine Lib.wpList_append_own_stringF _ rfl _ _ 55 9 rfl lo 5 i0 Tryd.underlying55 Tryd.underlying9 hi hz0 hz1 hz2 v l.length (bv l) rfl HO1.out (str s) rfl (by simp only [str_size, maxLen]; omega) (by rw [str_size]; exact hn) (by omega) ?_; intro v2 w2 ho2 hg2 hnil; obtain ⟨A2, c2, rfl⟩ := ownF_slice ho2; have hb2 : Blk w2 b 71 #[.pointer (some ⟨b, 0, none⟩), v, x, y] := (hg2.block b (by omega) (fun e => hov e.symm)).trans HB1.out; have x2 := hb2.cell 1; have f2 := hb2.frozen 1; simp only [List.getElem?_toArray, List.getElem?_cons_succ, List.getElem?_cons_zero] at x2; have HB2 := Lib.hid hb2; have HO2 := Lib.hid ho2; have HG2 := Lib.hid hg2; clear ho2 hg2 hnil hb2)
  go_ret2
  have ho := HO2.out
  rw [str_size, strCells_str, ← bv_append] at ho
  have hnb : (Value.slice A2 (l.length + s.length) c2).ownBlock ≠ some b := ownF_not ho HB2.out (fun cs fz e => by cases e)
  refine ⟨rfl, _, HB2.out.set_ 1 _, ?_, ?_⟩
  · rw [List.length_append]
    exact ownF_keep ho ((Keep.refl (fun k => k = b) w2).setCell (p := ⟨b, 1, none⟩) (.inl rfl) _) (fun k e1 e2 => hnb (by rw [e1, e2]))
  · exact ((HK1.out.mono (T := fun k => k = b ∨ v.ownBlock = some k) (fun i _ e => Or.inl e)).grown HG2.out (fun k e => .inl (.inr e))).setCell (p := ⟨b, 1, none⟩) (.inl (.inl rfl)) _

theorem unsafeString_none : ∀ (a : Value) (W : World), (a = .pointer none) → (Builtin.unsafeString_ #[100, 3] 9 #[a, .int .i64 0]).run Tryd.prog W = .ok (.string ⟨#[]⟩) W := by
  rintro a W rfl
  kernel_rfl
set_option maxHeartbeats 4000000 in
set_option maxRecDepth 100000 in
/-- String, of a builder that was never written. -/
theorem string4_none {w : World} {lo b : Nat} {p x y : Value} (hb : Blk w b 71 #[p, .slice none 0 0, x, y]) :
    Calls Tryd.prog 50 #[.pointer (some ⟨b, 0, none⟩)] w fun e w' => e = .returned (.string (str [])) ∧ Below lo w w' := by
  have hUS := unsafeString_none
  have c1 : w.drew.cell? ⟨b, 1, none⟩ = some (.slice none 0 0) := hb.drew.cell 1
  have hSD : (Builtin.unsafeSliceData_ #[55] 100 #[.slice none 0 0]).run Tryd.prog w.drew = .ok (.pointer none) w.drew := rfl
  clear hb
  go_enter Tryd.func50, Tryd.ntmps50
  have mixed : Tryd.prog.follows .mixedOrders = true := by kernel_rfl
  go_wp2
  go_region_o
  all_goals (go_wp2; go_ret; exact ⟨rfl, Below.drew (Below.refl lo w)⟩)
set_option maxHeartbeats 4000000 in
set_option maxRecDepth 100000 in
theorem string4_some {w : World} {lo b : Nat} {p v x y : Value} {l : List UInt8} (hb : Blk w b 71 #[p, v, x, y]) (how : w.ownsRowF lo 5 1 v l.length (bv l)) (h0 : l ≠ []) :
    Calls Tryd.prog 50 #[.pointer (some ⟨b, 0, none⟩)] w fun e w' => e = .returned (.string (str l)) ∧ Below lo w w' := by
  have hl0 : l.length ≠ 0 := by simpa using h0
  obtain ⟨g, cap, cur, fz, rfl, hbg, hg, hfz, hnc, hcm, hcs, htake⟩ : ∃ g cap cur fz, v = .slice (some ⟨g, 0, none⟩) l.length cap ∧ lo ≤ g ∧ w.heap[g]? = some (.cells cur 5 fz) ∧ fz.2 ≤ l.length * 1 ∧ l.length ≤ cap ∧ cap ≤ maxLen ∧ cur.size = cap * 1 ∧ cur.toList.take (l.length * 1) = bv l := by
    rcases how.2 with ⟨_, hz⟩ | ⟨g, cap, cur, fz, hv, r⟩
    · exact absurd hz hl0
    · exact ⟨g, cap, cur, fz, hv, r⟩
  have c1 : w.drew.cell? ⟨b, 1, none⟩ = some (.slice (some ⟨g, 0, none⟩) l.length cap) := hb.drew.cell 1
  have hSD : (Builtin.unsafeSliceData_ #[55] 100 #[.slice (some ⟨g, 0, none⟩) l.length cap]).run Tryd.prog w.drew = .ok (.pointer (some ⟨g, 0, none⟩)) w.drew :=
    Lib.run_unsafeSliceData_row _ _ _ _ _ _ (by omega)
  have hUS : (Builtin.unsafeString_ #[100, 3] 9 #[.pointer (some ⟨g, 0, none⟩), .int .i64 l.length]).run Tryd.prog w.drew = .ok (.string (str l)) (w.drew.freeze ⟨g, 0, none⟩ l.length) := by
    refine Lib.run_unsafeString_row w.drew 100 3 9 5 Tryd.underlying100 (by kernel_rfl) g cur.size (by have hg' : w.drew.heap[g]? = some (.cells cur 5 fz) := hg; simp [World.shape?, hg']) l h0 (by omega) (by unfold maxLen at hcm; omega) ?_
    intro j u hu
    exact how.cells (g := g) rfl j (.int .u8 u.toNat) (by simp [bv, hu])
  clear hb how
  go_enter Tryd.func50, Tryd.ntmps50
  have mixed : Tryd.prog.follows .mixedOrders = true := by kernel_rfl
  go_wp2
  go_region_o
  all_goals (go_wp2; go_ret; exact ⟨rfl, Lib.below_freeze (Below.drew (Below.refl lo w)) (p := ⟨g, 0, none⟩) hbg _⟩)
end Go.Proofs.YtcogoiphpfgkdaaDoor
