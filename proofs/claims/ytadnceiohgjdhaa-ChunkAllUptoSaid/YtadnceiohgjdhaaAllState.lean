/-
  ChunkAll: what its variables hold.
-/
import Derived.Test.YtadnceiohgjdhaaRNew
import Derived.Test.YtadnceiohgjdhaaAllIter
namespace Go.Proofs.Ytadnceiohgjdhaa
open Go.RowKit
set_option linter.unusedVariables false

theorem rec_keep {T : Nat → Prop} {W W' : World} {l : Nat} {o : Obj} (h : W.heap[l]? = some o) (hk : Keep T W W') (hl : ¬ T l) : W'.heap[l]? = some o := (hk.block l (lt_of_heap h) hl).trans h
theorem blk_not_rec {W : World} {g l : Nat} {t : TypeId} {cs : Array Value} {r : Loop} (h : Blk W g t cs) (hl : W.heap[l]? = some (.loop r)) : g ≠ l := by
  rintro rfl
  unfold Blk at h
  rw [h] at hl
  cases hl
theorem blk_not_def {W : World} {g l : Nat} {t : TypeId} {cs : Array Value} {r : Option (List Deferred)} (h : Blk W g t cs) (hl : W.heap[l]? = some (.deferred r)) : g ≠ l := by
  rintro rfl
  unfold Blk at h
  rw [h] at hl
  cases hl
theorem own_not {W : World} {lo size n l : Nat} {t : TypeId} {v : Value} {xs : List Value} {o : Obj} (h : W.ownsRow lo t size v n xs) (hl : W.heap[l]? = some o) (ho : o.isCells = false) : v.ownBlock ≠ some l := by
  rcases own_form h with ⟨rfl, _, _⟩ | ⟨g, cap, cur, rfl, _, _, hb, _⟩
  · simp [Value.ownBlock]
  · intro e
    have : g = l := by simpa [Value.ownBlock] using e
    subst this
    rw [hb] at hl
    injection hl with hl
    subst hl
    cases ho
/-- Where the law's variables lie. -/
structure AllP where
  w : World
  b4 : Nat
  b5 : Nat
  b6 : Nat
  g : Nat
  rg : Nat
  b9 : Nat
  S : Nat → Prop
  SR : Nat → Prop
  n : Int
  stop : Int
structure AllP.ok (p : AllP) : Prop where
  h4 : p.w.heap.size ≤ p.b4
  h5 : p.b4 < p.b5
  h6 : p.b5 < p.b6
  hg : p.b6 < p.g
  hS : ∀ k, p.S k → p.g < k ∧ k < p.rg
  hr : p.g < p.rg
  hSR : ∀ k, p.SR k → p.rg < k ∧ k < p.b9
  h9 : p.rg < p.b9
/-- What they hold, the source at s, the reference at r. -/
structure AllAt (p : AllP) (W : World) (s r : Src) : Prop where
  c4 : Blk W p.b4 3 #[.int .i64 p.n]
  c5 : Blk W p.b5 3 #[.int .i64 p.stop]
  c6 : Blk W p.b6 4 #[.bool false]
  c9 : Blk W p.b9 50 #[.pointer (some ⟨p.rg, 0, none⟩)]
  src : IsSrc p.S W p.g s
  rsrc : IsRSrc p.SR W p.rg r
  below : Below p.w.heap.size p.w W
section
variable {p : AllP} {W W' : World} {s r : Src} {T : Nat → Prop}
/-- A step that leaves alone all up to b9. -/
theorem AllAt.keep (hp : p.ok) (h : AllAt p W s r) (hk : Keep T W W') (hT : ∀ k, T k → p.b9 < k) : AllAt p W' s r := by
  obtain ⟨h4, h5, h6, hg, hS, hr, hSR, h9⟩ := hp
  have hn : ∀ k, k ≤ p.b9 → ¬ T k := fun k hk ht => by have := hT k ht; omega
  exact ⟨h.c4.keep hk (hn _ (by omega)), h.c5.keep hk (hn _ (by omega)), h.c6.keep hk (hn _ (by omega)), h.c9.keep hk (hn _ (by omega)),
    h.src.keep hk (hn _ (by omega)) (fun k h1 => hn k (by have := hS k h1; omega)), h.rsrc.keep hk (hn _ (by omega)) (fun k h1 => hn k (by have := hSR k h1; omega)),
    h.below.trans (hk.below h.below.size (fun i hi ht => by have := hT i ht; omega))⟩
theorem AllAt.behind (hp : p.ok) (h : AllAt p W s r) (hb : Below W.heap.size W W') : AllAt p W' s r := h.keep hp (Keep.of_below hb (fun _ => False)) (fun _ e => e.elim)
theorem AllAt.readS (hp : p.ok) (h : AllAt p W s r) {s' : Src} (hk : Keep (fun k => k = p.g) W W') (hs : IsSrc p.S W' p.g s') : AllAt p W' s' r := by
  obtain ⟨h4, h5, h6, hg, hS, hr, hSR, h9⟩ := hp
  exact ⟨h.c4.keep hk (by omega), h.c5.keep hk (by omega), h.c6.keep hk (by omega), h.c9.keep hk (by omega), hs, h.rsrc.keep hk (by omega) (fun k h1 h2 => by have := hSR k h1; omega),
    h.below.trans (hk.below h.below.size (fun i hi ht => by omega))⟩
theorem AllAt.readR (hp : p.ok) (h : AllAt p W s r) {r' : Src} (hk : Keep (fun k => k = p.rg) W W') (hs : IsRSrc p.SR W' p.rg r') : AllAt p W' s r' := by
  obtain ⟨h4, h5, h6, hg, hS, hr, hSR, h9⟩ := hp
  exact ⟨h.c4.keep hk (by omega), h.c5.keep hk (by omega), h.c6.keep hk (by omega), h.c9.keep hk (by omega), h.src.keep hk (by omega) (fun k h1 h2 => by have := hS k h1; omega), hs,
    h.below.trans (hk.below h.below.size (fun i hi ht => by omega))⟩
end

/-- The loop's own variables: the round, how many were told, whether it is over; and the function value's two. -/
structure AllQ where
  b10 : Nat
  b11 : Nat
  b12 : Nat
  bA : Nat
  bN : Nat
  rd : Int
  Ds : List Nat
structure AllQ.ok (p : AllP) (q : AllQ) : Prop where
  h10 : p.b9 < q.b10
  h11 : q.b10 < q.b11
  h12 : q.b11 < q.b12
  hA : q.b12 < q.bA
  hN : q.bA < q.bN
  hD : ∀ D ∈ q.Ds, p.b9 < D ∧ D < q.b10
structure LoopAt (p : AllP) (q : AllQ) (W : World) (s r : Src) (ov : Bool) (k : Int) : Prop where
  base : AllAt p W s r
  c10 : Blk W q.b10 3 #[.int .i64 q.rd]
  c11 : Blk W q.b11 3 #[.int .i64 k]
  c12 : Blk W q.b12 4 #[.bool ov]
  cA : W.cell? ⟨q.bA, 0, none⟩ = some (.pointer (some ⟨p.g, 0, none⟩))
  cN : W.cell? ⟨q.bN, 0, none⟩ = some (.int .i64 p.n)
  hN : q.bN < W.heap.size
  defs : ∀ D ∈ q.Ds, W.heap[D]? = some (.deferred (some []))
section
variable {p : AllP} {q : AllQ} {W W' : World} {s r : Src} {T : Nat → Prop} {ov : Bool} {k : Int}
theorem LoopAt.keep (hp : p.ok) (hq : q.ok p) (h : LoopAt p q W s r ov k) (hk : Keep T W W') (hT : ∀ k, T k → q.bN < k) : LoopAt p q W' s r ov k := by
  obtain ⟨h10, h11, h12, hA, hN, hD⟩ := hq
  have hn : ∀ k, k ≤ q.bN → ¬ T k := fun k hk ht => by have := hT k ht; omega
  have hl := h.hN
  exact ⟨h.base.keep hp hk (fun k hk => by have := hT k hk; omega), h.c10.keep hk (hn _ (by omega)), h.c11.keep hk (hn _ (by omega)), h.c12.keep hk (hn _ (by omega)),
    (hk.cell (p := ⟨q.bA, 0, none⟩) (by show q.bA < _; omega) (hn q.bA (by omega))).trans h.cA, (hk.cell (p := ⟨q.bN, 0, none⟩) hl (hn q.bN (by omega))).trans h.cN, Nat.lt_of_lt_of_le hl hk.size, (fun D h1 => rec_keep (h.defs D h1) hk (hn D (by have := hD D h1; omega)))⟩
theorem LoopAt.readS (hp : p.ok) (hq : q.ok p) (h : LoopAt p q W s r ov k) {s' : Src} (hk : Keep (fun k => k = p.g) W W') (hs : IsSrc p.S W' p.g s') : LoopAt p q W' s' r ov k := by
  obtain ⟨h10, h11, h12, hA, hN, hD⟩ := hq
  have hl := h.hN
  have hp' := hp
  obtain ⟨h4, h5, h6, hg, hS, hr, hSR, h9⟩ := hp'
  exact ⟨h.base.readS hp hk hs, h.c10.keep hk (by omega), h.c11.keep hk (by omega), h.c12.keep hk (by omega),
    (hk.cell (p := ⟨q.bA, 0, none⟩) (by show q.bA < _; omega) (by show ¬ q.bA = _; omega)).trans h.cA, (hk.cell (p := ⟨q.bN, 0, none⟩) hl (by show ¬ q.bN = _; omega)).trans h.cN, Nat.lt_of_lt_of_le hl hk.size, (fun D h1 => rec_keep (h.defs D h1) hk (by have := hD D h1; show ¬ D = _; omega))⟩
theorem LoopAt.readR (hp : p.ok) (hq : q.ok p) (h : LoopAt p q W s r ov k) {r' : Src} (hk : Keep (fun k => k = p.rg) W W') (hs : IsRSrc p.SR W' p.rg r') : LoopAt p q W' s r' ov k := by
  obtain ⟨h10, h11, h12, hA, hN, hD⟩ := hq
  have hl := h.hN
  have hp' := hp
  obtain ⟨h4, h5, h6, hg, hS, hr, hSR, h9⟩ := hp'
  exact ⟨h.base.readR hp hk hs, h.c10.keep hk (by omega), h.c11.keep hk (by omega), h.c12.keep hk (by omega),
    (hk.cell (p := ⟨q.bA, 0, none⟩) (by show q.bA < _; omega) (by show ¬ q.bA = _; omega)).trans h.cA, (hk.cell (p := ⟨q.bN, 0, none⟩) hl (by show ¬ q.bN = _; omega)).trans h.cN, Nat.lt_of_lt_of_le hl hk.size, (fun D h1 => rec_keep (h.defs D h1) hk (by have := hD D h1; show ¬ D = _; omega))⟩
theorem LoopAt.over (hp : p.ok) (hq : q.ok p) (h : LoopAt p q W s r ov k) (o : Bool) : LoopAt p q (W.setCell ⟨q.b12, 0, none⟩ (.bool o)) s r o k := by
  have hk : Keep (fun k => k = q.b12) W (W.setCell ⟨q.b12, 0, none⟩ (.bool o)) := (Keep.refl (fun k => k = q.b12) W).setCell (p := ⟨q.b12, 0, none⟩) (.inl rfl) _
  obtain ⟨h10, h11, h12, hA, hN, hD⟩ := hq
  have hl := h.hN
  exact ⟨h.base.keep hp hk (fun k hk => by omega), h.c10.keep hk (by omega), h.c11.keep hk (by omega), h.c12.set_ 0 (.bool o),
    (hk.cell (p := ⟨q.bA, 0, none⟩) (by show q.bA < _; omega) (by show ¬ q.bA = _; omega)).trans h.cA, (hk.cell (p := ⟨q.bN, 0, none⟩) hl (by show ¬ q.bN = _; omega)).trans h.cN, Nat.lt_of_lt_of_le hl hk.size, (fun D h1 => rec_keep (h.defs D h1) hk (by have := hD D h1; show ¬ D = _; omega))⟩
theorem LoopAt.count (hp : p.ok) (hq : q.ok p) (h : LoopAt p q W s r ov k) (j : Int) : LoopAt p q (W.setCell ⟨q.b11, 0, none⟩ (.int .i64 j)) s r ov j := by
  have hk : Keep (fun k => k = q.b11) W (W.setCell ⟨q.b11, 0, none⟩ (.int .i64 j)) := (Keep.refl (fun k => k = q.b11) W).setCell (p := ⟨q.b11, 0, none⟩) (.inl rfl) _
  obtain ⟨h10, h11, h12, hA, hN, hD⟩ := hq
  have hl := h.hN
  exact ⟨h.base.keep hp hk (fun k hk => by omega), h.c10.keep hk (by omega), h.c11.set_ 0 (.int .i64 j), h.c12.keep hk (by omega),
    (hk.cell (p := ⟨q.bA, 0, none⟩) (by show q.bA < _; omega) (by show ¬ q.bA = _; omega)).trans h.cA, (hk.cell (p := ⟨q.bN, 0, none⟩) hl (by show ¬ q.bN = _; omega)).trans h.cN, Nat.lt_of_lt_of_le hl hk.size, (fun D h1 => rec_keep (h.defs D h1) hk (by have := hD D h1; show ¬ D = _; omega))⟩
theorem LoopAt.putObj (hp : p.ok) (hq : q.ok p) (h : LoopAt p q W s r ov k) {l : Nat} (hl : q.bN < l) (o : Obj) : LoopAt p q (W.putObj l o) s r ov k :=
  h.keep hp hq ((Keep.refl (fun k => k = l) W).putObj (.inl rfl) o) (fun k e => by omega)
end

/-! ## The loop's words -/
/-- Between two rounds. -/
def AllI (p : AllP) (q : AllQ) (L : List Stp) (B : Nat) (s : Src × Int) (W : World) : Prop := s.1.L = L ∧ B ≤ W.heap.size ∧ ∃ k, LoopAt p q W s.1 s.1 (s.2 != 0) k
/-- A round is called. -/
def AllY (p : AllP) (q : AllQ) (L : List Stp) (B : Nat) (s : Src × Int) (x : Told) (W : World) : Prop :=
  s.1.L = L ∧ B ≤ W.heap.size ∧ x.2 = s.2 ∧ W.ownsRow B 5 1 (.slice x.1.1 x.1.2.1.length x.1.2.2) x.1.2.1.length (bv x.1.2.1) ∧ ∃ (r : Src) (k : Int), r.readI p.n = ((x.1.2.1, s.2), s.1) ∧ LoopAt p q W s.1 r false k
/-- A round has said 'no more'. -/
def AllX (p : AllP) (q : AllQ) (L : List Stp) (B : Nat) (s : Src × Int) (W : World) : Prop := s.1.L = L ∧ B ≤ W.heap.size ∧ q.rd = 0 ∧ LoopAt p q W s.1 s.1 (s.2 != 0) p.stop
theorem own_lower {W : World} {lo lo' size n : Nat} {t : TypeId} {v : Value} {xs : List Value} (h : W.ownsRow lo t size v n xs) (hl : lo' ≤ lo) : W.ownsRow lo' t size v n xs :=
  ⟨h.1, h.2.imp id (fun ⟨g, cap, cur, e, hb, rest⟩ => ⟨g, cap, cur, e, Nat.le_trans hl hb, rest⟩)⟩
section
variable {p : AllP} {q : AllQ} {L : List Stp} {B : Nat}
theorem AllI.bides (hp : p.ok) (hq : q.ok p) (hB : q.bN < B) (s : Src × Int) : Bides B (AllI p q L B s) := fun W l o o' h hl _ _ => by
  obtain ⟨h1, h2, k, h⟩ := h
  exact ⟨h1, by simpa using h2, k, h.putObj hp hq (by omega) o'⟩
theorem AllX.bides (hp : p.ok) (hq : q.ok p) (hB : q.bN < B) (s : Src × Int) : Bides B (AllX p q L B s) := fun W l o o' h hl _ _ => by
  obtain ⟨h1, h2, h3, h⟩ := h
  exact ⟨h1, by simpa using h2, h3, h.putObj hp hq (by omega) o'⟩
theorem AllY.bides (hp : p.ok) (hq : q.ok p) (hB : q.bN < B) (s : Src × Int) (x : Told) : Bides B (AllY p q L B s x) := fun W l o o' h hl h1 h2 => by
  obtain ⟨k1, k2, k3, h4, r, k, e1, h3⟩ := h
  refine ⟨k1, by simpa using k2, k3, own_keep h4 ((Keep.refl (fun k => k = l) W).putObj (.inl rfl) o') (fun j hj e => ?_), r, k, e1, h3.putObj hp hq (by omega) o'⟩
  subst e
  exact own_not h4 h1 h2 hj
theorem all_words (hp : p.ok) (hq : q.ok p) {W0 : World} (hgB : p.g < W0.heap.size) :
    AllWords W0 p.S p.g q.bA q.bN p.n L (AllI p q L W0.heap.size) (AllY p q L W0.heap.size) where
  src := fun s e W h => by
    obtain ⟨hL, _, k, h⟩ := h
    exact ⟨h.base.src, hL, h.cA, h.cN⟩
  step := fun s W bs e s' A c W' h ht => by
    obtain ⟨hL, hz, k, h⟩ := h
    have hok : s.ok := by obtain ⟨_, _, _, _, _, h2⟩ := h.base.src; exact h2
    refine ⟨(Src.readI_facts hok ht.eq).2.1.trans hL, Nat.le_trans hz ht.keep.size, rfl, own_lower ht.own hz, s, k, ht.eq, ?_⟩
    have := h.readS hp hq ht.keep ht.src
    simpa using this
  lt := hgB
end
end Go.Proofs.Ytadnceiohgjdhaa
