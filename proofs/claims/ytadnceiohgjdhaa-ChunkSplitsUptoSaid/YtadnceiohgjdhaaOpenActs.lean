/-
  A slice of acts that came in, opened.
-/
import Derived.Test.YtadnceiohgjdhaaOpenSteps
import Derived.Test.YtadnceiohgjdhaaBuffersWalk
namespace Go.Proofs.Ytadnceiohgjdhaa
open Go.ChangeShapes Go.WideShapes Go.ChangeAt Go.RowKit Go.Deep Go.Joins
set_option linter.unusedVariables false

theorem cells_act : Try.prog.cellsOf 87 = 2 := by kernel_rfl
section
variable {H : Type} {enc : TypeId × Value → H} {w : World}
theorem open_acts {fuel : Nat} {cs : List Value} {x : DataW H × List MemPlace} (h : DataW.trod enc Try.prog w 0 (fun _ => true) true fuel 82 cs = some x) :
    ∃ (A : Option Addr) (n c : Nat) (L : List (Int × Int)), cs = [.slice A n c] ∧ n ≤ c ∧ c ≤ maxLen ∧ Acts (fun k => k < w.heap.size) w A n L ∧ n ≤ Rows.uptoBulk x.1 := by
  rcases open_slice Try.underlying82 h with ⟨rfl, rfl⟩ | ⟨a, len, cap, m, n, D, Pl, rfl, _, hl, hm, hmm, rfl, hi⟩
  · exact ⟨none, 0, 0, [], rfl, Nat.le_refl _, Nat.zero_le _, ⟨rfl, by intro k d h; simp at h⟩, by simp⟩
  · rw [if_pos rfl] at hmm
    subst hmm
    have hx : ∀ i, i < m → ∃ y : Int × Int, w.cell? (a.add (i * 2)) = some (.int .i64 y.1) ∧ w.cell? (a.add (i * 2 + 1)) = some (.int .i64 y.2) := by
      intro i him
      obtain ⟨cs', hc, ht'⟩ := hi i him
      rw [cells_act] at hc
      obtain ⟨_, hlen, hat⟩ := World.cells?_some hc
      obtain ⟨y0, y1, n', hy, _, h0, h1⟩ := trod_struct2 Try.underlying87 ht'
      obtain ⟨c0, c1, rfl⟩ := two_of_length hlen
      have g0 : DataW.trod enc Try.prog w 0 (fun _ => true) true n' 3 [c0] = some y0 := by simpa [cells_int] using h0
      have g1 : DataW.trod enc Try.prog w 0 (fun _ => true) true n' 3 [c1] = some y1 := by simpa [cells_int] using h1
      obtain ⟨u, eu⟩ := dec_i64 Try.underlying3 _ _ _ g0
      obtain ⟨v, ev⟩ := dec_i64 Try.underlying3 _ _ _ g1
      injection eu with eu _
      injection ev with ev _
      subst eu ev
      have a0 := hat 0 (by omega)
      have a1 := hat 1 (by omega)
      rw [addr_add] at a0 a1
      exact ⟨(u, v), a0, a1⟩
    obtain ⟨X, hX⟩ := choose_lt hx
    refine ⟨some a, len, m, (List.range len).map X, rfl, hl, hm, ⟨by simp, fun k p hk => ?_⟩, ?_⟩
    · have hkl : k < len := by have := (List.getElem?_eq_some_iff.1 hk).1; simpa using this
      simp [hkl] at hk
      obtain ⟨x0, x1⟩ := hX k (by omega)
      rw [hk] at x0 x1
      have hlt := World.block_lt_of_cell? w _ x0
      rw [addr_block] at hlt
      exact ⟨a, rfl, hlt, x0, x1⟩
    · have h1 := bulks.length_le ((List.range len).map D)
      simp only [List.length_map, List.length_range] at h1
      simp only [Rows.uptoBulk]
      omega
end
end Go.Proofs.Ytadnceiohgjdhaa
