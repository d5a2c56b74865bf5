/-
  append of a text onto a slice of bytes of the call's own, of whatever content: where the new slice lies, and that every block keeps its shape.
-/
import Derived.Test.YtadnceiohgjdhaaSpoil
import Derived.Lib.AppendStr
namespace Go.Proofs.Ytadnceiohgjdhaa
open Go.RowKit
set_option linter.unusedVariables false

section
variable {P : Program} (w : World)

theorem run_append_text (t u ty e : TypeId) (i : TypeInfo) (ht : P.underlying t = some (.slice e)) (hu : P.underlying u = some .string) (hi : P.info? e = some i) (hz : i.zero = some (.int .u8 0))
    (hsize : i.size = 1) (hby : i.bytes = 1) (s : ByteArray) (h0 : 0 < s.size) (v : Value) (n : Nat)
    (hv : (v = .slice none 0 0 ∧ n = 0) ∨ ∃ g cap cur, v = .slice (some ⟨g, 0, none⟩) n cap ∧ Blk w g e cur ∧ cur.size = cap ∧ n ≤ cap ∧ cap ≤ maxLen)
    (hn : n + s.size ≤ 140737488355328) :
    ∃ g' cap' w', (Builtin.append_ #[t, u] ty #[v, .string s]).run P w = .ok (.slice (some ⟨g', 0, none⟩) (n + s.size) cap') w' ∧ (∃ cur', Blk w' g' e cur' ∧ cur'.size = cap') ∧ n + s.size ≤ cap' ∧ cap' ≤ maxLen ∧
      (v.ownBlock = some g' ∨ g' = w.heap.size) ∧ w.grownBy w' v.ownBlock ∧ ∀ k cs, Blk w k e cs → ∃ cs', Blk w' k e cs' ∧ cs'.size = cs.size := by
  have h63 : n + s.size ≤ maxLen := by simp only [maxLen]; omega
  have hk : ∀ (o : Obj) (k : Nat) (cs : Array Value), Blk w k e cs → Blk (w.drew.alloc o) k e cs := fun o k cs h => h.drew.alloc o
  rcases hv with ⟨rfl, rfl⟩ | ⟨g, cap, cur, rfl, hg, hcs, hnc, hcm⟩
  · have hr := Go.run_append_nil_string (P := P) w t u ty e i (.int .u8 0) ht hu hi hz s h0 (by omega) (by rw [hby]; omega)
    have hge := grownCap_ge w s.size 0 e
    rw [Nat.zero_add] at h63 ⊢
    refine ⟨_, _, _, hr, ⟨_, Blk.new w.drew e _, ?_⟩, hge, grownCap_le_maxLen w s.size 0 e h63, .inr rfl, ⟨rfl, rfl, rfl, by simp, fun k hk _ => heap_alloc_old w.drew _ hk⟩, fun k cs h => ⟨cs, hk _ k cs h, rfl⟩⟩
    have hz1 : (Value.int IntKind.u8 0).cells.size = 1 := rfl
    have hsz : s.data.size = s.size := rfl
    simp only [Array.size_append, Array.size_map, size_zeroCells, hz1, hsz]
    omega
  · by_cases hroom : n + s.size ≤ cap
    · have hr := Lib.run_append_room_string (P := P) w t u ty e i ht hu hi hsize g n cap cur hg s hroom (by omega)
      have hsz : ((cur.toList.take n ++ Lib.strCells s ++ cur.toList.drop (n + s.size)).toArray).size = cur.size := by
        simp only [List.size_toArray, List.length_append, List.length_take, List.length_drop, Array.length_toList, Lib.strCells_length]
        omega
      refine ⟨g, cap, _, hr, ⟨_, setRow_heap w g cur _ e _ hg, hsz.trans hcs⟩, hroom, hcm, .inl rfl, ⟨rfl, rfl, rfl, by simp, fun k _ hk => setRow_other w g k _ (fun e => hk (by simp [Value.ownBlock, e]))⟩, fun k cs h => ?_⟩
      by_cases e1 : k = g
      · subst e1
        have : cs = cur := by
          unfold Blk at h hg
          rw [hg] at h
          injection h with h
          injection h with h
          exact h.symm
        subst this
        exact ⟨_, setRow_heap w k cs _ e _ hg, hsz⟩
      · exact ⟨cs, (setRow_other w g k _ e1).trans h, rfl⟩
    · have hl : (cur.toList.take n).length = n * i.size := by rw [hsize, Nat.mul_one, List.length_take, Array.length_toList]; omega
      have holds : ∀ j u, (cur.toList.take n)[j]? = some u → w.cell? ((⟨g, 0, none⟩ : Addr).add j) = some u := by
        intro j u hu
        rw [addr_lit, Nat.zero_add, hg.cell j]
        rw [List.getElem?_take] at hu
        split at hu
        · simpa using hu
        · cases hu
      have hr := Lib.run_append_grow_string (P := P) w t u ty e i (.int .u8 0) ht hu hi hz ⟨g, 0, none⟩ n cap (cur.toList.take n) hl holds s (by omega) (by omega) (by rw [hby]; exact growslice_fits (by omega) (by omega))
      have hge := grownCap_ge w (n + s.size) cap e
      refine ⟨_, _, _, hr, ⟨_, Blk.new w.drew e _, ?_⟩, hge, grownCap_le_maxLen w (n + s.size) cap e h63, .inr rfl, ⟨rfl, rfl, rfl, by simp, fun k hk _ => heap_alloc_old w.drew _ hk⟩, fun k cs h => ⟨cs, hk _ k cs h, rfl⟩⟩
      have hz1 : (Value.int IntKind.u8 0).cells.size = 1 := rfl
      rw [hsize, Nat.mul_one] at hl
      simp only [Array.size_append, List.size_toArray, hl, Lib.strCells_length, size_zeroCells, hz1]
      omega

theorem wpList_append_text {ops : Array Oper} {rest : List Oper} {o : Oper} {a : Act} {Q : Exit → Act → World → Prop} (hgd : o.guard = none) (sl x : Operand) (t u : TypeId)
    (ho : o.op = .call { callee := .builtin .append, args := #[sl, x], argTypes := #[t, u] })
    (e : TypeId) (i : TypeInfo) (ht : P.underlying t = some (.slice e)) (hu : P.underlying u = some .string) (hi : P.info? e = some i) (hz : i.zero = some (.int .u8 0))
    (hsize : i.size = 1) (hby : i.bytes = 1) (s : ByteArray) (h0 : 0 < s.size) (v : Value) (n : Nat) (hs : a.eval sl = v) (hx : a.eval x = .string s)
    (hv : (v = .slice none 0 0 ∧ n = 0) ∨ ∃ g cap cur, v = .slice (some ⟨g, 0, none⟩) n cap ∧ Blk w g e cur ∧ cur.size = cap ∧ n ≤ cap ∧ cap ≤ maxLen)
    (hn : n + s.size ≤ 140737488355328)
    (h : ∀ g' cap' w', (∃ cur', Blk w' g' e cur' ∧ cur'.size = cap') → n + s.size ≤ cap' → cap' ≤ maxLen → (v.ownBlock = some g' ∨ g' = w.heap.size) → w.grownBy w' v.ownBlock → (∀ k cs, Blk w k e cs → ∃ cs', Blk w' k e cs' ∧ cs'.size = cs.size) → wpList P ops Q rest (a.put o.dst (.slice (some ⟨g', 0, none⟩) (n + s.size) cap')) w') : wpList P ops Q (o :: rest) a w := by
  refine wpList_plain hgd fun K hK => ?_
  obtain ⟨g', cap', w', hr, h2, h3, h4, h5, h6, h7⟩ := run_append_text (P := P) w t u o.type e i ht hu hi hz hsize hby s h0 v n hv hn
  unfold Oper.wp execOp
  simp only [ho, resolve, invoke, builtin, Sem.run_bind, Sem.run_pure, Result.andThen_ok, List.map_toArray, List.map_cons, List.map_nil, hs, hx, hr]
  exact hK _ _ (h g' cap' w' h2 h3 h4 h5 h6 h7)
end
end Go.Proofs.Ytadnceiohgjdhaa
