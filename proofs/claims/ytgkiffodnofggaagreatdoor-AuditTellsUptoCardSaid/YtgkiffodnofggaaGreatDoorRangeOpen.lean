/-
  A range over a function whose iterator keeps state of its own in cells, read and written between two rounds.
-/
import Derived.Test.YtgkiffodnofggaaGreatDoorRange
namespace Go.Proofs.YtgkiffodnofggaaGreatDoor
open Go.RowKit
set_option linter.unusedVariables false
variable {P : Program}

theorem Keep.putObj {S : Nat → Prop} {a w : World} (h : Keep S a w) {l : Nat} (hl : S l ∨ a.heap.size ≤ l) (o : Obj) : Keep S a (w.putObj l o) :=
  h.grown (grownBy_putObj' w l o) (fun k e => by cases e; exact hl)

/-- How the body of a round may be left. -/
def openPost {β : Type} (I Ix : β → World → Prop) (id : Nat) (s : β) (l D : Nat) (r : Loop) : Exit → Act → World → Prop
  | .normal, _, W' => W'.heap[l]? = some (.loop r) ∧ W'.heap[D]? = some (.deferred (some [])) ∧ I s W'
  | .exit id', _, W' => id' = id ∧ W'.heap[l]? = some (.loop r) ∧ W'.heap[D]? = some (.deferred (some [])) ∧ Ix s W'
  | _, _, _ => False

/-- An iterator's contract: I: between two rounds; Y: a round is called; Ix: a round has said 'no more'; K: what is not the iterator's; B: what lay ahead of the loop. -/
def IterOpen (P : Program) (gf : Nat) (lb : Array Value) {β ε : Type} (encs : ε → Array Value) (B : World) (I Ix : β → World → Prop) (Y : β → ε → World → Prop) (Done : β → Prop) (s0 : β) : Prop :=
  ∀ (l : Nat) (K Kx : World → Prop) (W : World), (∀ W1 W2, K W1 → Keep (fun k => k < B.heap.size) W1 W2 → K W2) → Below B.heap.size B W → I s0 W → K W →
    (∀ s x W1, Y s x W1 → K W1 → YieldAt Fence.wide 7 P l (encs x) W1 fun e W2 => (e = .returned (.bool true) ∧ I s W2 ∧ K W2) ∨ (e = .returned (.bool false) ∧ Ix s W2 ∧ Kx W2)) →
    CallsIn Fence.wide 8 P gf (#[.func (.yield l) #[] #[]] ++ lb) W fun e W2 => (∃ v, e = .returned v) ∧ ((∃ s, Done s ∧ I s W2 ∧ K W2) ∨ (∃ s, Ix s W2 ∧ Kx W2))

/-- What the loop's own book-keeping leaves as it was. -/
def Bides (B : Nat) (I : World → Prop) : Prop := ∀ (W : World) (l : Nat) (o o' : Obj), I W → B ≤ l → W.heap[l]? = some o → o.isCells = false → I (W.putObj l o')

theorem wp_rangeFunc_open {g : Operand} {ps : Array Tmp} {assign body : Code} {Q : Exit → Act → World → Prop} {a : Act} {w : World} {gf : Nat} {lb : Array Value} {β ε : Type} {encs : ε → Array Value}
    {I Ix : β → World → Prop} {Y : β → ε → World → Prop} {Done : β → Prop} {s0 : β} (id : Nat)
    (hg : a.eval g = .func (.func gf) #[] lb) (eg : ∀ args w, (callFunc gf args).run P w = .ok (.enter gf args) w)
    (hiter : IterOpen P gf lb encs w I Ix Y Done s0) (hps : ∀ x, (encs x).size = ps.size)
    (hI : ∀ s, Bides w.heap.size (I s)) (hIx : ∀ s, Bides w.heap.size (Ix s)) (hY : ∀ s x, Bides w.heap.size (Y s x))
    (h0 : ∀ W, Below w.heap.size w W → I s0 W)
    (hround : ∀ (l D : Nat) (r : Loop) (s : β) (x : ε) (W : World), w.heap.size ≤ D → D < l → Y s x W →
      assign.wpIn (Fence.wide.inRound l) 7 P (Exit.then (fun a' W' => W' = W ∧ ∀ W2, W2.heap[l]? = some (.loop r) → W2.heap[D]? = some (.deferred (some [])) → Y s x W2 →
        body.wpIn (Fence.wide.inRound l) 7 P (openPost I Ix id s l D r) a' W2) (fun _ _ _ => False)) { tmps := (ps.zip (encs x)).foldl (fun t (p, v) => t.setIfInBounds p v) a.tmps, defers := [] } W)
    (hQ : ∀ a W, Q .normal a W → Q (.exit id) a W)
    (hout : ∀ (D : Nat) (s : β) (W : World), w.heap.size ≤ D → ((Done s ∧ I s W) ∨ Ix s W) → W.heap[D]? = some (.deferred (some [])) → Q .normal { a with defers := markOf D :: a.defers } W) :
    (Code.rangeFunc g ps assign body).wp P Q a w := by
  refine (wpIn_wide (n := 9)).1 (wpIn_rangeFunc ?_)
  intro fn hfn
  obtain ⟨rec, hrec⟩ : ∃ rec : LoopState → Option Code → Loop, rec = fun st pe => { state := st, pending := pe, fn, tmps := a.tmps, params := ps, assign, body, defers := w.heap.size } := ⟨_, rfl⟩
  obtain ⟨W1, hW1⟩ : ∃ W1, (w.alloc (.deferred (some []))).alloc (.loop (rec .ready none)) = W1 := ⟨_, rfl⟩
  have hL1 : W1.heap[w.heap.size + 1]? = some (.loop (rec .ready none)) := by
    rw [← hW1]; have := World.alloc_heap_new (w.alloc (.deferred (some []))) (.loop (rec .ready none)); rwa [World.size_alloc] at this
  have hK1 : W1.heap[w.heap.size]? = some (.deferred (some [])) := by
    rw [← hW1]; exact (Below.heap_alloc _ _ _ (by simp)).trans (World.alloc_heap_new w _)
  have hB1 : Below w.heap.size w W1 := by rw [← hW1]; exact ((Below.refl _ w).alloc (Nat.le_refl _) _).alloc (by simp) _
  refine ⟨w.heap.size + 1, [markOf w.heap.size], W1, { target := .fn (.func gf) lb, args := #[.func (.yield (w.heap.size + 1)) #[] #[]] }, W1, gf,
    #[.func (.yield (w.heap.size + 1)) #[] #[]] ++ lb, W1, ?_, ?_, ?_, ?_, fun h => (by cases h), ?_⟩
  · rw [← hW1, hrec]; exact run_enterLoop_outer _ _ _ _ _
  · simp only [resolve, hg]
    simp [go_sem]
  · intro f' hf'; trivial
  · simp [invoke, go_sem, eg]
  · refine (hiter (w.heap.size + 1) (fun W => W.heap[w.heap.size + 1]? = some (.loop (rec .ready none)) ∧ W.heap[w.heap.size]? = some (.deferred (some [])))
      (fun W => W.heap[w.heap.size + 1]? = some (.loop (rec .done (some (.exit id)))) ∧ W.heap[w.heap.size]? = some (.deferred (some []))) W1
      (fun A B h hk => ⟨(hk.block _ (Array.getElem?_eq_some_iff.1 h.1).1 (by omega)).trans h.1, (hk.block _ (Array.getElem?_eq_some_iff.1 h.2).1 (by omega)).trans h.2⟩) hB1 (h0 _ hB1) ⟨hL1, hK1⟩ ?_).mono ?_
    · rintro s x W hy ⟨hl, hk⟩
      have hlt : w.heap.size + 1 < W.heap.size := (Array.getElem?_eq_some_iff.1 hl).1
      have hyl := run_yield (P := P) (args := encs x) hl (by rw [hrec]; exact hps x)
      rw [hrec] at hyl
      refine ⟨fn, _, assign, body, hyl, roundIn_of_wpIn hfn (wpIn_mono (hround (w.heap.size + 1) w.heap.size ({ rec .ready none with state := .busy }) s x W (Nat.le_refl _) (by omega) hy) ?_)⟩
      clear hyl
      rintro e1 a1 W' he1
      cases e1 with
      | exit id' => exact he1.elim
      | ret => exact he1.elim
      | goto t => exact he1.elim
      | panic ch => exact he1.elim
      | outgrown => exact he1.elim
      | normal =>
      obtain ⟨rfl, hbody⟩ := he1
      refine ⟨_, run_beginRound hl (by rw [hrec]), ?_⟩
      have hl2 : (W'.putObj (w.heap.size + 1) (.loop { rec .ready none with state := .busy })).heap[w.heap.size + 1]? = some (.loop { rec .ready none with state := .busy }) := World.putObj_heap_same hlt
      have hk2 : (W'.putObj (w.heap.size + 1) (.loop { rec .ready none with state := .busy })).heap[w.heap.size]? = some (.deferred (some [])) := (World.putObj_heap_other (by omega)).trans hk
      refine wpIn_mono (hbody _ hl2 hk2 (hY s x W' _ _ _ hy (by omega) hl rfl)) ?_
      have fin : ∀ (jump : Option Code) (W3 : World), W3.heap[w.heap.size + 1]? = some (.loop { rec .ready none with state := .busy }) → W3.heap[w.heap.size]? = some (.deferred (some [])) →
          (Instr.endRound (w.heap.size + 1) jump).run P W3 = .ok (.bool jump.isNone) (W3.putObj (w.heap.size + 1) (.loop (rec (if jump.isNone then .ready else .done) jump))) ∧
          (W3.putObj (w.heap.size + 1) (.loop (rec (if jump.isNone then .ready else .done) jump))).heap[w.heap.size + 1]? = some (.loop (rec (if jump.isNone then .ready else .done) jump)) ∧
          (W3.putObj (w.heap.size + 1) (.loop (rec (if jump.isNone then .ready else .done) jump))).heap[w.heap.size]? = some (.deferred (some [])) := fun jump W3 hl3 hk3 => by
        have := run_endRound (P := P) jump hl3
        rw [hrec] at this ⊢
        exact ⟨this, World.putObj_heap_same (Array.getElem?_eq_some_iff.1 hl3).1, (World.putObj_heap_other (by omega)).trans hk3⟩
      rintro e a3 W3 hp
      cases e with
      | normal =>
        obtain ⟨hl3, hk3, hi3⟩ := hp
        obtain ⟨hr, hl4, hk4⟩ := fin none W3 hl3 hk3
        exact ⟨_, _, hr, .inl ⟨rfl, hI s W3 _ _ _ hi3 (by omega) hl3 rfl, hl4, hk4⟩⟩
      | exit id' =>
        obtain ⟨rfl, hl3, hk3, hi3⟩ := hp
        obtain ⟨hr, hl4, hk4⟩ := fin (some (.exit id')) W3 hl3 hk3
        exact ⟨_, _, hr, .inr ⟨rfl, hIx s W3 _ _ _ hi3 (by omega) hl3 rfl, hl4, hk4⟩⟩
      | ret => exact hp.elim
      | goto t => exact hp.elim
      | panic ch => exact hp.elim
      | outgrown => exact hp.elim
    · rintro e W2 ⟨⟨v, rfl⟩, (⟨s, hS, hi, hl, hk⟩ | ⟨s, hi, hl, hk⟩)⟩
      · exact ⟨none, _, by have := run_endLoop (P := P) hl (by rw [hrec]; simp); rw [hrec] at this; exact this, hout _ s _ (Nat.le_refl _) (.inl ⟨hS, hI s W2 _ _ _ hi (by omega) hl rfl⟩) ((World.putObj_heap_other (by omega)).trans hk)⟩
      · refine ⟨some (.exit id), _, by have := run_endLoop (P := P) hl (by rw [hrec]; simp); rw [hrec] at this; exact this, ?_⟩
        exact wpIn_exit (hQ _ _ (hout _ s _ (Nat.le_refl _) (.inr (hIx s W2 _ _ _ hi (by omega) hl rfl)) ((World.putObj_heap_other (by omega)).trans hk)))
end Go.Proofs.YtgkiffodnofggaaGreatDoor
