/-
  Ranges over a function in a function that is walked at the wide fence: entering it, the loop that has no round, leaving with the loops' marks.
-/
import Derived.Test.YtgkiffodnofggaaGreatDoorBase
import Derived.RangeFuncNested
import Derived.RangeFuncLeaves
import Derived.Shelf.Abstract
namespace Go.Proofs.YtgkiffodnofggaaGreatDoor
open Go.RowKit
set_option linter.unusedVariables false
variable {P : Program}

/-- The mark of a loop whose block for deferred calls is D. -/
def markOf (D : Nat) : Deferred := { target := .collected D, args := #[] }

/-- A function that holds ranges over functions. -/
theorem calls_of_wp_marks {f : FuncId} {fn : Func} {c : Code} {args : Array Value} {w : World} {R : Ending → World → Prop}
    (hf : P.funcs[f]? = some fn) (hb : fn.body = some c)
    (h : c.wp P (bodyPostM Fence.wide 9 P fn R) { tmps := args ++ Array.replicate (fn.ntmps - args.size) undef, defers := [] } w) : Calls P f args w R :=
  (callsIn_wide (n := 9)).1 (callsIn_of_wp_marks hf hb trivial (wpIn_wide.2 h) rfl)

/-- A range over a function that calls no round. -/
theorem wp_rangeFunc_none {g : Operand} {ps : Array Tmp} {assign body : Code} {Q : Exit → Act → World → Prop} {a : Act} {w : World}
    {gf : Nat} {lb : Array Value} (hg : a.eval g = .func (.func gf) #[] lb) (eg : ∀ args w, (callFunc gf args).run P w = .ok (.enter gf args) w)
    (hcall : ∀ l W, Below w.heap.size w W → Calls P gf (#[.func (.yield l) #[] #[]] ++ lb) W fun e W' => (∃ v, e = .returned v) ∧ W = W')
    (hQ : ∀ D W, w.heap.size ≤ D → Below w.heap.size w W → W.heap[D]? = some (.deferred (some [])) → Q .normal { a with defers := markOf D :: a.defers } W) :
    (Code.rangeFunc g ps assign body).wp P Q a w := by
  refine (wpIn_wide (n := 9)).1 (wpIn_rangeFunc ?_)
  intro fn hfn
  obtain ⟨rec, hrec⟩ : ∃ rec : LoopState → Option Code → Loop, rec = fun st pe => { state := st, pending := pe, fn, tmps := a.tmps, params := ps, assign, body, defers := w.heap.size } := ⟨_, rfl⟩
  obtain ⟨W1, hW1⟩ : ∃ W1, (w.alloc (.deferred (some []))).alloc (.loop (rec .ready none)) = W1 := ⟨_, rfl⟩
  have hL1 : W1.heap[w.heap.size + 1]? = some (.loop (rec .ready none)) := by
    rw [← hW1]; have := World.alloc_heap_new (w.alloc (.deferred (some []))) (.loop (rec .ready none)); rwa [World.size_alloc] at this
  have hK1 : W1.heap[w.heap.size]? = some (.deferred (some [])) := by
    rw [← hW1]; exact (Below.heap_alloc _ _ _ (by simp)).trans (World.alloc_heap_new w _)
  have hB1 : Below w.heap.size w W1 := by rw [← hW1]; exact ((Below.refl _ w).alloc (Nat.le_refl _) _).alloc (by simp) _
  refine ⟨w.heap.size + 1, [markOf w.heap.size], W1, { target := .fn (.func gf) lb, args := #[.func (.yield (w.heap.size + 1)) #[] #[]] }, W1, gf,
    #[.func (.yield (w.heap.size + 1)) #[] #[]] ++ lb, W1, ?_, ?_, ?_, ?_, fun h => (by cases h), ?_⟩
  · rw [← hW1, hrec]; exact run_enterLoop_outer _ _ _ _ _
  · simp only [resolve, hg]
    simp [go_sem]
  · intro f' hf'; trivial
  · simp [invoke, go_sem, eg]
  · refine callsIn_wide.2 ((hcall _ _ hB1).mono ?_)
    rintro e W' ⟨⟨v, rfl⟩, rfl⟩
    refine ⟨none, _, by have := run_endLoop (P := P) hL1 (by rw [hrec]; simp); rw [hrec] at this; exact this, ?_⟩
    refine hQ w.heap.size _ (Nat.le_refl _) ?_ ?_
    · exact hB1.grown (grownBy_putObj' _ _ _) hB1.size (fun k e => by cases e; omega)
    · exact (World.putObj_heap_other (by omega)).trans hK1

/-- One result, in a cell. -/
theorem results_cell {fn : Func} {t : Tmp} {ty : TypeId} {tmps : Array Value} {p : Addr} {v : Value} {w : World} (h : fn.results = #[.cell t ty]) (hp : tmps.getD t undef = .pointer (some p))
    (hl : (loadVar ty p).run P w = .ok v w) : (results fn tmps).run P w = .ok v w := by
  rw [Array.getD_eq_getD_getElem?] at hp
  simp [results, h, hp, asAddr, hl]

/-- Leaving with the marks of loops that ran no deferred call. -/
def marksOf : List Nat → List Deferred
  | [] => []
  | D :: Ds => markOf D :: marksOf Ds
/-- The world when so many blocks are shut. -/
def shut (w : World) : List Nat → World
  | [] => w
  | D :: Ds => shut (w.putObj D (.deferred none)) Ds
theorem leaves_marks {F : Fence} {n : Nat} {fn : Func} {tmps : Array Value} {R : Ending → World → Prop} {v : Value} : ∀ (Ds : List Nat) (w : World), Ds.Nodup → (∀ D ∈ Ds, w.heap[D]? = some (.deferred (some []))) →
    (results fn tmps).run P (shut w Ds) = .ok v (shut w Ds) → R (.returned v) (shut w Ds) → LeavesInM F n P fn tmps R (marksOf Ds) .returning w
  | [], w, _, _, h1, h2 => ⟨v, h1, h2⟩
  | D :: Ds, w, hn, hD, h1, h2 => by
    refine ⟨by simp, .inl ⟨_, _, rfl, run_takeDeferred (hD D (by simp)), leaves_marks Ds _ (List.nodup_cons.1 hn).2 (fun E hE => ?_) h1 h2⟩⟩
    exact (World.putObj_heap_other (by rintro rfl; exact (List.nodup_cons.1 hn).1 hE)).trans (hD E (by simp [hE]))
theorem shut_block {k : Nat} : ∀ (Ds : List Nat) (w : World), k ∉ Ds → (shut w Ds).heap[k]? = w.heap[k]?
  | [], _, _ => rfl
  | D :: Ds, w, h => (shut_block Ds _ (fun e => h (by simp [e]))).trans (World.putObj_heap_other (fun e => h (by simp [e])))
theorem shut_below {B : Nat} {a : World} : ∀ (Ds : List Nat) (w : World), Below B a w → (∀ D ∈ Ds, B ≤ D ∧ D < w.heap.size) → B ≤ w.heap.size → Below B a (shut w Ds)
  | [], _, h, _, _ => h
  | D :: Ds, w, h, hD, hB => shut_below Ds _ (h.grown (grownBy_putObj' w D _) hB (fun k e => by cases e; exact (hD D (by simp)).1)) (fun E hE => by simpa using hD E (by simp [hE])) (by simpa using hB)
end Go.Proofs.YtgkiffodnofggaaGreatDoor
