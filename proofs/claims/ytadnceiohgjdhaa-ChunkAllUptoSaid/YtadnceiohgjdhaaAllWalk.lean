/-
  ChunkAll: the walk.
-/
import Derived.Test.YtadnceiohgjdhaaAllState
import Derived.Test.YtadnceiohgjdhaaMkSteps
import Derived.Test.YtadnceiohgjdhaaAlike
import Derived.LoopN
import Derived.LoopNIn
import Derived.RangeFuncCalls
namespace Go.Proofs.Ytadnceiohgjdhaa
open Go.RowKit
set_option linter.unusedVariables false
set_option linter.unusedSimpArgs false

/-- Leaving, the result in a cell, with the marks of loops. -/
theorem leave_cell {fn : Func} {t : Tmp} {b : Nat} {tmps : Array Value} {w0 W : World} (Ds : List Nat) (hres : fn.results = #[.cell t 4]) (hp : tmps.getD t undef = .pointer (some ⟨b, 0, none⟩)) (hb : Blk W b 4 #[.bool true])
    (hn : Ds.Nodup) (hD : ∀ D ∈ Ds, W.heap[D]? = some (.deferred (some []))) (hB : Below w0.heap.size w0 W) (hlow : ∀ D ∈ Ds, w0.heap.size ≤ D) :
    bodyPostM Fence.wide 9 Try.prog fn (fun e w' => e = .returned (.bool true) ∧ Below w0.heap.size w0 w') .ret { tmps := tmps, defers := marksOf Ds } W := by
  refine leaves_marks Ds W hn hD (results_cell (t := t) (ty := 4) (p := ⟨b, 0, none⟩) (v := .bool true) hres hp ?_) ⟨rfl, shut_below Ds W hB (fun D h => ⟨hlow D h, lt_of_heap (hD D h)⟩) hB.size⟩
  have b8 : Blk (shut W Ds) b 4 #[.bool true] := (shut_block Ds W (fun h => blk_not_def hb (hD b h) rfl)).trans hb
  have c8 := b8.cell 0
  simp only [List.getElem?_toArray, List.getElem?_cons_zero] at c8
  generalize shut W Ds = W8 at c8
  simp [go_sem, c8]

/-- The law's alike, where all is as it is wanted. -/
theorem alike_same (l lo : Nat) (T : Nat → Prop) (v : Value) (B : Option Addr) (d n : Nat) (X : List UInt8) (e : Int) (w : World) (hn : X.length = n) (hv : w.ownsRow lo 5 1 v n (bv X)) (hT : Row T w 1 B n (bv X)) {m : Nat} :
    CallsIn (Fence.wide.inRound l) m Try.prog 18 #[v, .int .i64 e, .slice B n d, .int .i64 e] w fun r w' => r = .returned (.bool true) ∧ Keep (fun k => v.ownBlock = some k) w w' := by
  have h := alike_any lo T v B n n d X X e e w hv hT
  rw [show alikeB e X e X = true by simp [alikeB]] at h
  exact CallsIn.inRound l (callsIn_wide.2 h)

theorem eql_all_nil : ∀ w : World, (binOp .eql 46 (.pointer none) (.pointer none)).run Try.prog w = .ok (.bool true) w := fun w => by kernel_rfl

set_option maxHeartbeats 16000000 in
set_option maxRecDepth 100000 in
/-- Where the script is too large. -/
theorem chunkAll_large (A : Option Addr) (n c : Nat) (L : List Stp) (z stop : Int) (w : World) (hA : Steps (fun k => k < w.heap.size) w A n L) (hn : n ≤ 1048576) (hlg : large L = true) :
    Calls Try.prog 7 #[.slice A n c, .int .i64 z, .int .i64 stop] w fun e w' => e = .returned (.bool true) ∧ Below w.heap.size w w' := by
  have hLn := hA.1
  have k1 := fun (S : Nat → Prop) W h => steps_any S A n c L W h (by omega)
  have k2 := fun (S : Nat → Prop) A' c' W h => new_any S A' n c' L W h (by omega)
  have k3 := fun (S : Nat → Prop) W h => large_any S A n c L W h (by omega)
  rw [hlg] at k3
  have K1 := Lib.hid k1
  have K2 := Lib.hid k2
  have K3 := Lib.hid k3
  have HA := Lib.hid hA
  have HLn := Lib.hid hLn
  have HLG := Lib.hid hlg
  have hq := eql_all_nil
  clear k1 k2 k3 hA hLn hlg
  refine calls_of_wp_marks Try.func7 rfl ?_
  simp only [Try.ntmps7, List.size_toArray, List.length_cons, List.length_nil, Nat.reduceAdd, Nat.reduceSub, Array.replicate_succ,
     Array.replicate_zero, List.push_toArray, List.append_toArray, List.nil_append, List.cons_append]
  go_wp2_with fail
  obtain ⟨W0, hW0⟩ : ∃ W0, (((w.alloc (Obj.cells #[Value.int IntKind.i64 z] 3)).alloc (Obj.cells #[Value.int IntKind.i64 stop] 3)).alloc (Obj.cells #[Value.bool false] 4)) = W0 := ⟨_, rfl⟩
  rw [hW0]
  have b6 : Blk W0 (w.heap.size + 1 + 1) 4 #[.bool false] := by rw [← hW0]; exact Blk.new_at _ _ (by simp)
  have B0 : Below w.heap.size w W0 := by
    rw [← hW0]; exact (((Below.refl _ w).alloc (Nat.le_refl _) _).alloc (by simp) _).alloc (by simp; omega) _
  clear hW0
  have l0 := B0.size
  refine (K1.out _ _ (HA.out.behind B0)).mono ?_
  rintro e w1 ⟨vx, rfl, hx, hb1⟩
  obtain ⟨Ax, cx, hvx, _, _⟩ := hx.form
  rw [HLn.out] at hvx
  subst hvx
  have Hx := Lib.hid hx
  have B1 := Lib.hid (B0.trans (hb1.mono l0))
  have b61 := b6.below hb1 b6.lt
  have l1 := hb1.size
  clear hx hb1 b6 B0
  go_wp2_with fail
  refine (K2.out _ _ _ _ Hx.out.steps).mono ?_
  rintro e w2 ⟨v, rfl, hb2, hcase⟩
  rcases hcase with ⟨_, rfl⟩ | ⟨hf, _⟩
  case inr => have := HLG.out; rw [hf] at this; cases this
  have B2 := Lib.hid (B1.out.trans (hb2.mono B1.out.size))
  have b62 := b61.below hb2 b61.lt
  clear hb2 b61
  go_wp2_with (first
    | (go_at_call 26; refine (K3.out _ _ (HA.out.behind B2.out)).mono ?_; rintro e w3 ⟨rfl, hb3⟩)
    | (go_at_call 13; refine (num_any _ _).mono ?_; rintro e w4 ⟨rfl, rfl⟩)
    | fail)
  refine (awake_any _).mono ?_
  rintro e w5 ⟨rfl, hb5⟩
  have B5 := Lib.hid ((B2.out.trans (hb3.mono B2.out.size)).trans (hb5.mono (Nat.le_trans B2.out.size hb3.size)))
  have b65 := (b62.below hb3 b62.lt).below hb5 (b62.below hb3 b62.lt).lt
  have x6 := b65.cell 0
  have f6 := b65.frozen 0
  simp only [List.getElem?_toArray, List.getElem?_cons_zero] at x6
  clear hb3 hb5 b62
  go_wp2
  have b7 := b65.set_ 0 (.bool true)
  have B7 := B5.out.setCell (p := ⟨w.heap.size + 1 + 1, 0, none⟩) (by show _ ≤ w.heap.size + 1 + 1; omega) (.bool true)
  exact leave_cell [] rfl rfl b7 List.nodup_nil (fun D h => by cases h) B7 (fun D h => by cases h)
end Go.Proofs.Ytadnceiohgjdhaa
