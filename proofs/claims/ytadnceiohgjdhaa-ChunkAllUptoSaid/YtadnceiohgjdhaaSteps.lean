/-
  Scripts: lists of steps, as plain data and in memory.
-/
import Derived.Test.YtadnceiohgjdhaaBytes
namespace Go.Proofs.Ytadnceiohgjdhaa
open Go.RowKit
set_option linter.unusedVariables false

/-- A step of a script: its bytes, and whether it fails. -/
abbrev Stp := List UInt8 × Bool

/-! ## Plain -/
def cutStep (data : List UInt8) (p : List Stp × Nat) (c : Int) : List Stp × Nat :=
  (p.1 ++ [((data.drop p.2).take ((min (max c p.2) data.length).toNat - p.2), false)], (min (max c p.2) data.length).toNat)
def cutTo (data : List UInt8) (cs : List Int) : List Stp × Nat := cs.foldl (cutStep data) ([], 0)
def cut (data : List UInt8) (cs : List Int) (fail : Bool) : List Stp := (cutTo data cs).1 ++ [(data.drop (cutTo data cs).2, fail)]
theorem cutTo_snoc (data : List UInt8) (cs : List Int) (c : Int) : cutTo data (cs ++ [c]) = cutStep data (cutTo data cs) c := by simp [cutTo]
theorem cutTo_le (data : List UInt8) (cs : List Int) : (cutTo data cs).2 ≤ data.length := by
  rcases List.eq_nil_or_concat cs with rfl | ⟨l, c, rfl⟩
  · simp [cutTo]
  · rw [List.concat_eq_append, cutTo_snoc]
    simp only [cutStep]
    omega
theorem cutTo_length (data : List UInt8) (cs : List Int) : (cutTo data cs).1.length = cs.length := by
  suffices h : ∀ (l : List Int) (p : List Stp × Nat), (l.foldl (cutStep data) p).1.length = p.1.length + l.length by have := h cs ([], 0); simpa [cutTo] using this
  intro l
  induction l with
  | nil => intro p; simp
  | cons c l ih => intro p; rw [List.foldl_cons, ih]; simp [cutStep]; omega

/-! ## In memory -/
/-- A slice of steps that is read: where its array lies, and each step's bytes, is in S. -/
def Steps (S : Nat → Prop) (w : World) (A : Option Addr) (n : Nat) (L : List Stp) : Prop :=
  L.length = n ∧ ∀ (k : Nat) (d : List UInt8) (f : Bool), L[k]? = some (d, f) → ∃ ad Ak ck, A = some ad ∧ S ad.block ∧ w.cell? (ad.add (k * 2)) = some (.slice Ak d.length ck) ∧ w.cell? (ad.add (k * 2 + 1)) = some (.bool f) ∧ Row S w 1 Ak d.length (bv d) ∧ d.length ≤ ck ∧ ck ≤ maxLen ∧ d.length ≤ 140737488355328

section
variable {S T : Nat → Prop} {w w' : World} {A : Option Addr} {n : Nat} {L : List Stp}
theorem Steps.same (h : Steps S w A n L) (hk : ∀ p : Addr, S p.block → p.block < w.heap.size → w'.cell? p = w.cell? p) : Steps S w' A n L := by
  refine ⟨h.1, fun k d f hL => ?_⟩
  obtain ⟨ad, Ak, ck, e, hs, h0, h1, hr, rest⟩ := h.2 k d f hL
  refine ⟨ad, Ak, ck, e, hs, ?_, ?_, hr.same hk, rest⟩
  · exact (hk _ (by rw [addr_block]; exact hs) (World.block_lt_of_cell? w _ h0)).trans h0
  · exact (hk _ (by rw [addr_block]; exact hs) (World.block_lt_of_cell? w _ h1)).trans h1
theorem Steps.keep (h : Steps S w A n L) (hk : Keep T w w') (hST : ∀ k, S k → ¬ T k) : Steps S w' A n L := h.same fun _ hs hl => hk.cell hl (hST _ hs)
theorem Steps.behind (h : Steps S w A n L) (hb : Below w.heap.size w w') : Steps S w' A n L := h.same fun _ _ hl => hb.cell hl
theorem Steps.drewN (h : Steps S w A n L) (k : Nat) : Steps S (w.drewN k) A n L := h
theorem Steps.more (h : Steps S w A n L) (hS : ∀ k, k < w.heap.size → S k → T k) : Steps T w A n L := by
  refine ⟨h.1, fun k d f hL => ?_⟩
  obtain ⟨ad, Ak, ck, e, hs, h0, h1, hr, rest⟩ := h.2 k d f hL
  refine ⟨ad, Ak, ck, e, hS _ ?_ hs, h0, h1, hr.more hS (by omega), rest⟩
  have := World.block_lt_of_cell? w _ h0
  rwa [addr_block] at this
/-- Step k, in the walk's own spelling. -/
theorem Steps.get (h : Steps S w A n L) {k : Nat} (hk : k < n) : ∃ ad Ak ck d f, A = some ad ∧ S ad.block ∧ L[k]? = some (d, f) ∧ w.cell? (ad.add (k * 2)) = some (.slice Ak d.length ck) ∧ w.cell? ⟨(ad.add (k * 2)).block, (ad.add (k * 2)).off + 1, none⟩ = some (.bool f) ∧ Row S w 1 Ak d.length (bv d) ∧ d.length ≤ ck ∧ ck ≤ maxLen ∧ d.length ≤ 140737488355328 := by
  have hl := h.1
  obtain ⟨⟨d, f⟩, hdf⟩ : ∃ s, L[k]? = some s := ⟨L[k], List.getElem?_eq_getElem (by omega)⟩
  obtain ⟨ad, Ak, ck, e, hs, h0, h1, hr, rest⟩ := h.2 k d f hdf
  refine ⟨ad, Ak, ck, d, f, e, hs, hdf, h0, ?_, hr, rest⟩
  rw [← addr_one, addr_add]
  exact h1
end

/-- The cells of steps whose bytes' slices are given. -/
def stepCells : List (Value × Bool) → List Value
  | [] => []
  | p :: r => p.1 :: .bool p.2 :: stepCells r
theorem stepCells_length (vs : List (Value × Bool)) : (stepCells vs).length = vs.length * 2 := by
  induction vs with
  | nil => rfl
  | cons p vs ih => simp only [stepCells, List.length_cons, ih]; omega
theorem stepCells_append (vs us : List (Value × Bool)) : stepCells (vs ++ us) = stepCells vs ++ stepCells us := by
  induction vs with
  | nil => rfl
  | cons p vs ih => simp only [List.cons_append, stepCells, ih]
theorem stepCells_get (vs : List (Value × Bool)) (k : Nat) (p : Value × Bool) (h : vs[k]? = some p) : (stepCells vs)[k * 2]? = some p.1 ∧ (stepCells vs)[k * 2 + 1]? = some (.bool p.2) := by
  induction vs generalizing k with
  | nil => simp at h
  | cons q vs ih =>
    cases k with
    | zero => simp at h; subst h; simp [stepCells]
    | succ k =>
      have h' : vs[k]? = some p := by simpa using h
      have e1 : (k + 1) * 2 = k * 2 + 1 + 1 := by omega
      rw [e1]
      simp only [stepCells, List.getElem?_cons_succ]
      exact ih k h'
theorem stepCells_one (vs : List (Value × Bool)) (h : ∀ p ∈ vs, p.1.oneCell' = true) : ∀ u ∈ stepCells vs, u.oneCell' = true := by
  induction vs with
  | nil => intro u hu; simp [stepCells] at hu
  | cons p vs ih =>
    intro u hu
    simp only [stepCells, List.mem_cons] at hu
    rcases hu with rfl | rfl | hu
    · exact h p (by simp)
    · rfl
    · exact ih (fun q hq => h q (by simp [hq])) u hu

/-- The steps' bytes lie in blocks of the call's own, each in its own. -/
def Parts (lo : Nat) (w : World) (vs : List (Value × Bool)) (L : List Stp) : Prop :=
  (∀ (k : Nat) (p : Value × Bool) (s : Stp), vs[k]? = some p → L[k]? = some s → p.2 = s.2 ∧ w.ownsRow lo 5 1 p.1 s.1.length (bv s.1) ∧ s.1.length ≤ 140737488355328) ∧
  ∀ (i j : Nat) (p q : Value × Bool), i ≠ j → vs[i]? = some p → vs[j]? = some q → p.1.ownBlock = none ∨ p.1.ownBlock ≠ q.1.ownBlock
/-- A slice of steps of element type T that lies in memory of the call's own (blocks from lo on). -/
def OwnSteps (T : TypeId) (lo : Nat) (w : World) (v : Value) (L : List Stp) : Prop :=
  ∃ vs : List (Value × Bool), w.ownsRow lo T 2 v L.length (stepCells vs) ∧ vs.length = L.length ∧ Parts lo w vs L

section
variable {T : TypeId} {lo : Nat} {w w' : World} {v : Value} {L : List Stp} {S R : Nat → Prop}
theorem Parts.nil (lo : Nat) (w : World) : Parts lo w [] [] := ⟨by intro k p s h; simp at h, by intro i j p q _ h; simp at h⟩
theorem OwnSteps.nil (T : TypeId) (lo : Nat) (w : World) : OwnSteps T lo w (.slice none 0 0) [] := ⟨[], World.ownsRow_nil _ _ _ _, rfl, Parts.nil _ _⟩
theorem OwnSteps.form (h : OwnSteps T lo w v L) : ∃ A c, v = .slice A L.length c ∧ L.length ≤ c ∧ c ≤ maxLen := by
  obtain ⟨vs, h1, h2, h3⟩ := h
  exact own_slice h1
theorem OwnSteps.keep (h : OwnSteps T lo w v L) (hk : Keep R w w') (hR : ∀ k, lo ≤ k → k < w.heap.size → ¬ R k) : OwnSteps T lo w' v L := by
  obtain ⟨vs, h1, h2, h3, h4⟩ := h
  refine ⟨vs, own_keep h1 hk (fun k e => hR k (h1.lt k e).1 (h1.lt k e).2), h2, fun k p s hp hs => ?_, h4⟩
  obtain ⟨e, h4, h5⟩ := h3 k p s hp hs
  exact ⟨e, own_keep h4 hk (fun j e => hR j (h4.lt j e).1 (h4.lt j e).2), h5⟩
theorem OwnSteps.behind (h : OwnSteps T lo w v L) (hb : Below w.heap.size w w') : OwnSteps T lo w' v L := h.keep (Keep.of_below hb (fun _ => False)) (fun _ _ _ => id)
/-- An append of one step, whole. -/
theorem OwnSteps.push {wa w2 : World} {u v2 : Value} {vs : List (Value × Bool)} {p : Value × Bool} {s : Stp} (hT : T ≠ 5) (hlo : lo ≤ w.heap.size)
    (hv : w.ownsRow lo T 2 u L.length (stepCells vs)) (h2 : vs.length = L.length) (h3 : Parts lo w vs L)
    (hb : Below w.heap.size w wa) (hp : wa.ownsRow w.heap.size 5 1 p.1 s.1.length (bv s.1)) (he : p.2 = s.2) (hl : s.1.length ≤ 140737488355328)
    (hg : wa.grownBy w2 u.ownBlock) (hv2 : w2.ownsRow lo T 2 v2 (L.length + 1) (stepCells vs ++ stepCells [p])) : OwnSteps T lo w2 v2 (L ++ [s]) := by
  have hva := own_behind hv hb
  have hlast : ∀ (k : Nat) (q : Value × Bool), (vs ++ [p])[k]? = some q → (k < L.length ∧ vs[k]? = some q) ∨ (k = L.length ∧ q = p) := by
    intro k q hq
    rcases Nat.lt_or_ge k L.length with hk | hk
    · rw [List.getElem?_append_left (by omega)] at hq
      exact .inl ⟨hk, hq⟩
    · have hkk : k = L.length := by
        have := (List.getElem?_eq_some_iff.1 hq).1
        simp at this
        omega
      subst hkk
      rw [List.getElem?_append_right (by omega)] at hq
      simp [h2] at hq
      exact .inr ⟨rfl, hq.symm⟩
  have hfar : ∀ (k : Nat) (q : Value × Bool), vs[k]? = some q → q.1.ownBlock = none ∨ q.1.ownBlock ≠ p.1.ownBlock := by
    intro k q hq
    have hk : k < L.length := by have := (List.getElem?_eq_some_iff.1 hq).1; omega
    obtain ⟨_, h4, _⟩ := h3.1 k q L[k] hq (List.getElem?_eq_getElem hk)
    cases hb : q.1.ownBlock with
    | none => exact .inl rfl
    | some g =>
      refine .inr fun e => ?_
      have l1 := (h4.lt g hb).2
      have l2 := (hp.lt g e.symm).1
      omega
  refine ⟨vs ++ [p], by simpa [stepCells_append] using hv2, by simp [h2], fun k q r hq hr => ?_, fun i j q r hij hq hr => ?_⟩
  · rcases hlast k q hq with ⟨hk, hq⟩ | ⟨rfl, rfl⟩
    · rw [List.getElem?_append_left hk] at hr
      obtain ⟨e, h4, h5⟩ := h3.1 k q r hq hr
      have h4a := own_behind h4 hb
      exact ⟨e, h4a.kept hg (own_apart h4a hva hT.symm), h5⟩
    · simp at hr
      subst hr
      exact ⟨he, (own_less hp hlo).kept hg (own_apart hp hva hT.symm), hl⟩
  · rcases hlast i q hq with ⟨hi, hq1⟩ | ⟨hi, hq1⟩
    · rcases hlast j r hr with ⟨hj, hr1⟩ | ⟨hj, hr1⟩
      · exact h3.2 i j q r hij hq1 hr1
      · rw [hr1]
        exact hfar i q hq1
    · rcases hlast j r hr with ⟨hj, hr1⟩ | ⟨hj, hr1⟩
      · rw [hq1]
        rcases hfar j r hr1 with h | h
        · cases hp1 : p.1.ownBlock with
          | none => exact .inl rfl
          | some g => exact .inr (by rw [h]; simp)
        · exact .inr fun e => h e.symm
      · exact absurd (hi.trans hj.symm) hij
/-- It reads as the list. -/
theorem OwnSteps.steps {A : Option Addr} {n c : Nat} (h : OwnSteps T lo w (.slice A n c) L) : Steps (fun k => lo ≤ k) w A n L := by
  obtain ⟨vs, h1, h2, h3⟩ := h
  have hn : L.length = n := by
    rcases own_form h1 with ⟨e, h0, _⟩ | ⟨g, cap, _, e, _⟩
    · injection e; omega
    · injection e; omega
  refine ⟨hn, fun k d f hk => ?_⟩
  have hkl := (List.getElem?_eq_some_iff.1 hk).1
  have hkv : k < vs.length := by omega
  obtain ⟨e, h4, h5⟩ := h3.1 k vs[k] (d, f) (List.getElem?_eq_getElem hkv) hk
  obtain ⟨c0, c1⟩ := stepCells_get vs k vs[k] (List.getElem?_eq_getElem hkv)
  subst hn
  obtain ⟨hl, had⟩ := Row.of_own h1
  obtain ⟨ad, rfl, hS, hc⟩ := had (by omega)
  obtain ⟨Ak, ck, hv, hd1, hd2⟩ := own_slice h4
  have e0 := hc _ _ c0
  have e1 := hc _ _ c1
  rw [hv] at e0
  rw [e] at e1
  rw [hv] at h4
  have hck : ck ≤ maxLen := hd2
  refine ⟨ad, Ak, ck, rfl, hS, e0, e1, Row.of_own h4, hd1, hck, h5⟩
end

end Go.Proofs.Ytadnceiohgjdhaa
