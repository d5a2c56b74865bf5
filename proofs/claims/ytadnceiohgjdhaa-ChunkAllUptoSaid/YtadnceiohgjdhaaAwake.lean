/-
  The contract of the law's own awake: the document's example.
-/
import Derived.Test.YtadnceiohgjdhaaCut
import Derived.Lib.SlBytesConst
namespace Go.Proofs.Ytadnceiohgjdhaa
open Go.RowKit
set_option linter.unusedVariables false

/-- A block, whatever its mark, read as a row. -/
theorem Row.of_heap {w : World} {g : Nat} {t : TypeId} {cs : Array Value} {fr : Nat × Nat} (h : w.heap[g]? = some (.cells cs t fr)) (size n : Nat) (hs : cs.size = n * size) : Row (fun k => k = g) w size (some ⟨g, 0, none⟩) n cs.toList := by
  refine ⟨by simpa using hs, fun _ => ⟨_, rfl, rfl, fun j u hu => ?_⟩⟩
  rw [addr_lit, cell_of_row w g (0 + j) cs t fr h]
  simpa using hu

theorem OwnSteps.cells {T : TypeId} {lo : Nat} {w : World} {v : Value} {L : List Stp} (h : OwnSteps T lo w v L) (hne : L ≠ []) :
    ∃ g cap, v = .slice (some ⟨g, 0, none⟩) L.length cap ∧ lo ≤ g ∧ g < w.heap.size ∧ L.length ≤ cap ∧ ∀ (k : Nat) (d : List UInt8) (f : Bool), L[k]? = some (d, f) → ∃ Ak ck, w.cell? ⟨g, k * 2, none⟩ = some (.slice Ak d.length ck) ∧ w.cell? ⟨g, k * 2 + 1, none⟩ = some (.bool f) ∧ Row (fun k => lo ≤ k) w 1 Ak d.length (bv d) := by
  have h' := h
  obtain ⟨vs, h1, h2, h3⟩ := h'
  rcases own_form h1 with ⟨rfl, h0, _⟩ | ⟨g, cap, cur, rfl, hb, hl, hg, hn, hm, hs, ht⟩
  · exact absurd (List.eq_nil_of_length_eq_zero h0) hne
  · refine ⟨g, cap, rfl, hb, hl, hn, fun k d f hk => ?_⟩
    obtain ⟨ad, Ak, ck, e, _, c0, c1, hr, _⟩ := h.steps.2 k d f hk
    injection e with e
    subst e
    rw [addr_lit] at c0 c1
    exact ⟨Ak, ck, by simpa using c0, by simpa using c1, hr⟩

set_option maxHeartbeats 4000000 in
set_option maxRecDepth 100000 in
theorem awake_any (w : World) : Calls Try.prog 14 #[] w fun e w' => e = .returned (.bool true) ∧ Below w.heap.size w w' := by
  have kc := fun (w : World) (C : Array Value) (n c : Nat) => Lib.run_convert_bytes_const (P := Try.prog) w 26 5 C n c Try.underlying26 Try.underlying5
  go_enter Try.func14, Try.ntmps14
  go_wp2_with fail
  refine (cut_any (fun _ => True) _ _ 3 3 3 3 [97, 98, 99] [1, 1, 9] false _ ?_ ?_ (by omega) (by omega) (by omega)).mono ?_
  · exact (Row.of_heap (cs := #[.int .u8 97, .int .u8 98, .int .u8 99]) ((Below.heap_alloc (w.alloc _) _ w.heap.size (by simp)).trans (heap_alloc_new w _)) 1 3 rfl).more (fun _ _ _ => trivial) (by omega)
  · exact (Row.of_heap (cs := #[.int .i64 1, .int .i64 1, .int .i64 9]) (g := w.heap.size + 1) (by rw [← World.size_alloc w]; exact heap_alloc_new (w.alloc _) _) 1 3 rfl).more (fun _ _ _ => trivial) (by omega)
  rintro e w1 ⟨v, rfl, hos, hb⟩
  have hcut : cut [97, 98, 99] [1, 1, 9] false = [([97], false), ([], false), ([98, 99], false), ([], false)] := by decide
  rw [hcut] at hos
  clear hcut
  obtain ⟨g, cap, rfl, _, _, hcap, hc⟩ := hos.cells (by simp)
  clear hos
  obtain ⟨A0, c0, a0, _, r0⟩ := hc 0 _ _ rfl
  obtain ⟨A1, c1, a1, _, _⟩ := hc 1 _ _ rfl
  obtain ⟨A2, c2, a2, _, r2⟩ := hc 2 _ _ rfl
  obtain ⟨A3, c3, a3, _, _⟩ := hc 3 _ _ rfl
  clear hc
  simp only [List.length_cons, List.length_nil, Nat.reduceMul, Nat.reduceAdd] at a0 a1 a2 a3 r0 r2 hcap ⊢
  have h0 := conv_row r0 c0
  have h2 := conv_row r2 c2
  clear r0 r2
  go_wp2
  go_ret
  refine ⟨rfl, ?_⟩
  exact (((Below.refl _ w).alloc (Nat.le_refl _) _).alloc (by simp) _).trans (hb.mono (by simp; omega))

end Go.Proofs.Ytadnceiohgjdhaa
