/-
  What findings tell, as plain data: which keys come first, how often, in which order; reasons' words; numbers; quoted texts.
-/
import Derived.Test.YtgkiffodnofggaaGreatDoorBase
import Derived.Lib.ItoaNum
namespace Go.Proofs.YtgkiffodnofggaaGreatDoor
set_option linter.unusedVariables false

/-- A finding. -/
structure Fd where
  byte : Int
  line : Int
  col : Int
  why : Int
  name : List UInt8

section
variable {α : Type} [DecidableEq α]
/-- The keys, each once, in the order in which they first come. -/
def firsts (ks : List α) : List α := ks.foldl (fun o x => if x ∈ o then o else o ++ [x]) []
theorem firsts_snoc (ks : List α) (x : α) : firsts (ks ++ [x]) = if x ∈ firsts ks then firsts ks else firsts ks ++ [x] := by
  unfold firsts
  rw [List.foldl_append]
  rfl
theorem firsts_facts (ks : List α) : (firsts ks).Nodup ∧ (∀ x, x ∈ firsts ks ↔ x ∈ ks) ∧ (firsts ks).length ≤ ks.length := by
  obtain ⟨m, rfl⟩ : ∃ m : List α, ks = m.reverse := ⟨ks.reverse, by simp⟩
  induction m with
  | nil => exact ⟨List.nodup_nil, by simp [firsts], by simp [firsts]⟩
  | cons x m ih =>
    rw [List.reverse_cons]
    generalize m.reverse = ks at ih ⊢
    obtain ⟨h1, h2, h3⟩ := ih
    rw [firsts_snoc]
    split
    · rename_i h
      refine ⟨h1, fun y => ?_, by simp; omega⟩
      rw [h2, List.mem_append, List.mem_singleton]
      constructor
      · exact .inl
      · rintro (h | rfl)
        · exact h
        · exact (h2 _).1 (by assumption)
    · rename_i h
      refine ⟨?_, fun y => ?_, by simp; omega⟩
      · rw [List.nodup_append]
        refine ⟨h1, by simp, fun a ha b hb => ?_⟩
        rw [List.mem_singleton] at hb
        rintro rfl
        exact h (hb ▸ ha)
      · simp [h2]
/-- How often each first key comes. -/
def cnts (ks : List α) : List Int := (firsts ks).map fun x => (ks.count x : Int)
theorem cnts_length (ks : List α) : (cnts ks).length = (firsts ks).length := by simp [cnts]
theorem cnts_new (ks : List α) (x : α) (h : x ∉ ks) : firsts (ks ++ [x]) = firsts ks ++ [x] ∧ cnts (ks ++ [x]) = cnts ks ++ [1] := by
  have hf := (firsts_facts ks).2.1
  have e : firsts (ks ++ [x]) = firsts ks ++ [x] := by rw [firsts_snoc, if_neg (fun h1 => h ((hf x).1 h1))]
  refine ⟨e, ?_⟩
  unfold cnts
  rw [e, List.map_append]
  congr 1
  · apply List.map_congr_left
    intro y hy
    have : y ≠ x := fun e => h (e ▸ (hf y).1 hy)
    rw [List.count_append, List.count_singleton, if_neg (by simpa using fun e => this e.symm)]
    rfl
  · simp [List.count_append, List.count_eq_zero_of_not_mem h]
theorem cnts_old (ks : List α) (x : α) (j : Nat) (h : (firsts ks)[j]? = some x) : firsts (ks ++ [x]) = firsts ks ∧ cnts (ks ++ [x]) = (cnts ks).set j ((ks.count x : Int) + 1) ∧ (cnts ks)[j]? = some (ks.count x : Int) := by
  obtain ⟨hn, hf, _⟩ := firsts_facts ks
  have e : firsts (ks ++ [x]) = firsts ks := by rw [firsts_snoc, if_pos (List.mem_of_getElem? h)]
  refine ⟨e, ?_, by simp [cnts, h]⟩
  unfold cnts
  rw [e]
  apply List.ext_getElem?
  intro i
  rw [List.getElem?_set]
  split
  · rename_i hi
    subst hi
    have hl : j < (firsts ks).length := (List.getElem?_eq_some_iff.1 h).1
    rw [List.length_map, if_pos hl, List.getElem?_map, h]
    simp [List.count_append]
  · rename_i hi
    rw [List.getElem?_map, List.getElem?_map]
    cases hy : (firsts ks)[i]? with
    | none => rfl
    | some y =>
      have : y ≠ x := by
        rintro rfl
        have h1 := List.getElem?_eq_some_iff.1 h
        have h2 := List.getElem?_eq_some_iff.1 hy
        exact hi ((List.getElem_inj hn).1 (h1.2.trans h2.2.symm))
      simp only [Option.map_some]
      rw [List.count_append, List.count_singleton, if_neg (by simpa using fun e => this e.symm)]
      rfl
theorem count_le_length (ks : List α) (x : α) : ks.count x ≤ ks.length := List.count_le_length

end
section
variable {α : Type}
/-- One step of the sort that the reference has: x goes in among those that lie behind one another, the last one ahead. -/
def bub (lt : α → α → Bool) (x : α) : List α → List α
  | [] => [x]
  | y :: r => if lt x y = true then y :: bub lt x r else x :: y :: r
/-- All in order, the last one ahead. -/
def srtR (lt : α → α → Bool) (L : List α) : List α := L.foldl (fun a x => bub lt x a) []
def srt (lt : α → α → Bool) (L : List α) : List α := (srtR lt L).reverse
theorem bub_perm (lt : α → α → Bool) (x : α) (r : List α) : (bub lt x r).Perm (x :: r) := by
  induction r with
  | nil => exact List.Perm.refl _
  | cons y r ih =>
    rw [bub]
    split
    · exact (ih.cons y).trans (List.Perm.swap x y r)
    · exact List.Perm.refl _
theorem srtR_snoc (lt : α → α → Bool) (L : List α) (x : α) : srtR lt (L ++ [x]) = bub lt x (srtR lt L) := by
  unfold srtR
  rw [List.foldl_append]
  rfl
theorem srtR_perm (lt : α → α → Bool) (L : List α) : (srtR lt L).Perm L := by
  obtain ⟨m, rfl⟩ : ∃ m : List α, L = m.reverse := ⟨L.reverse, by simp⟩
  induction m with
  | nil => exact List.Perm.refl _
  | cons x m ih =>
    rw [List.reverse_cons]
    generalize m.reverse = L at ih ⊢
    rw [srtR_snoc]
    refine (bub_perm lt x _).trans ((ih.cons x).trans ?_)
    exact (List.perm_append_singleton x L).symm
theorem srt_perm (lt : α → α → Bool) (L : List α) : (srt lt L).Perm L := (List.reverse_perm _).trans (srtR_perm lt L)
theorem srt_length (lt : α → α → Bool) (L : List α) : (srt lt L).length = L.length := (srt_perm lt L).length_eq
/-- The order is total: of two that are not one, just one lies ahead. -/
structure Tot (lt : α → α → Bool) : Prop where
  asym : ∀ x y, lt x y = true → lt y x = false
  trans : ∀ x y z, lt x y = true → lt y z = true → lt x z = true
  total : ∀ x y, lt x y = false → lt y x = false → x = y
theorem Tot.not_trans {lt : α → α → Bool} (h : Tot lt) (x y z : α) (h1 : lt y x = false) (h2 : lt z y = false) : lt z x = false := by
  rw [Bool.eq_false_iff]
  intro h3
  by_cases e : lt x y = true
  · have := h.trans z x y h3 e
    rw [h2] at this
    cases this
  · have := h.total x y (by simpa using e) h1
    subst this
    rw [h2] at h3
    cases h3
theorem bub_sorted {lt : α → α → Bool} (h : Tot lt) (x : α) (r : List α) (hr : r.Pairwise fun a b => lt a b = false) : (bub lt x r).Pairwise fun a b => lt a b = false := by
  induction r with
  | nil => simp [bub]
  | cons y r ih =>
    rw [List.pairwise_cons] at hr
    rw [bub]
    split
    · rename_i hxy
      rw [List.pairwise_cons]
      refine ⟨fun z hz => ?_, ih hr.2⟩
      rcases List.mem_cons.1 ((bub_perm lt x r).mem_iff.1 hz) with rfl | hz
      · exact h.asym _ _ hxy
      · exact hr.1 z hz
    · rename_i hxy
      have hxy : lt x y = false := by simpa using hxy
      rw [List.pairwise_cons, List.pairwise_cons]
      refine ⟨fun z hz => ?_, hr⟩
      rcases List.mem_cons.1 hz with rfl | hz
      · exact hxy
      · exact h.not_trans z y x (hr.1 z hz) hxy
theorem srt_sorted {lt : α → α → Bool} (h : Tot lt) (L : List α) : (srt lt L).Pairwise fun a b => lt b a = false := by
  unfold srt
  rw [List.pairwise_reverse]
  obtain ⟨m, rfl⟩ : ∃ m : List α, L = m.reverse := ⟨L.reverse, by simp⟩
  induction m with
  | nil => simp [srtR]
  | cons x m ih =>
    rw [List.reverse_cons]
    generalize m.reverse = L at ih ⊢
    rw [srtR_snoc]
    exact bub_sorted h x _ ih
/-- There is one order. -/
theorem srt_merge {lt : α → α → Bool} (h : Tot lt) (L : List α) : L.mergeSort (fun x y => !lt y x) = srt lt L := by
  refine List.Perm.eq_of_pairwise (le := fun a b => lt b a = false) ?_ ?_ (srt_sorted h L) ((List.mergeSort_perm _ _).trans (srt_perm lt L).symm)
  · intro a b _ _ h1 h2
    exact h.total a b h2 h1
  · have := List.pairwise_mergeSort (le := fun x y => !lt y x) (fun a b c h1 h2 => by
      simp only [Bool.not_eq_true'] at h1 h2 ⊢
      exact h.not_trans a b c h1 h2) (fun a b => by
      cases e : lt b a with
      | false => rfl
      | true => rw [h.asym _ _ e]; rfl) L
    exact this.imp (fun h1 => by simpa using h1)
end

/-- A reason's word. -/
def wordsB : List (List UInt8) := [[101,108,101,109,101,110,116],[99,111,110,116,101,110,116],[97,116,116,114,105,98,117,116,101],[118,97,108,117,101],[99,111,109,109,101,110,116],[100,111,99,116,121,112,101],[119,105,110,100,111,119],[115,116,114,97,121],[100,101,112,116,104],[105,109,112,108,105,101,100]]
def wordB (w : Int) : List UInt8 := if 0 ≤ w ∧ w ≤ 9 then wordsB.getD w.toNat [] else [111,116,104,101,114]
/-- A byte between marks. -/
def escQ (c : UInt8) : List UInt8 := if c.toNat = 10 then [92, 110] else if c.toNat = 9 then [92, 116] else if c.toNat = 34 then [92, 34] else if c.toNat = 92 then [92, 92] else [c]
def escQs (l : List UInt8) : List UInt8 := l.flatMap escQ
def quoteB (l : List UInt8) : List UInt8 := [34] ++ escQs l ++ [34]
theorem escQ_le (c : UInt8) : 1 ≤ (escQ c).length ∧ (escQ c).length ≤ 2 := by
  unfold escQ
  repeat' split
  all_goals simp
theorem escQs_le (l : List UInt8) : l.length ≤ (escQs l).length ∧ (escQs l).length ≤ 2 * l.length := by
  induction l with
  | nil => simp [escQs]
  | cons c l ih =>
    have := escQ_le c
    simp only [escQs, List.flatMap_cons, List.length_append, List.length_cons] at ih ⊢
    omega
theorem wordB_le (w : Int) : (wordB w).length ≤ 9 := by
  unfold wordB
  split
  · rename_i h
    obtain ⟨n, rfl⟩ : ∃ n : Nat, w = n := ⟨w.toNat, by omega⟩
    have : n < 10 := by omega
    have hh : ∀ n, n < 10 → (wordsB.getD n []).length ≤ 9 := by decide
    exact hh n this
  · simp
theorem decDigits_le (u k : Nat) (h : u < 10 ^ (k + 1)) : (Lib.decDigits u).length ≤ k + 1 := by
  induction k generalizing u with
  | zero =>
    rw [Lib.decDigits, dif_pos (by simpa using h)]
    simp
  | succ k ih =>
    rw [Lib.decDigits]
    split
    · simp
    · rw [Nat.pow_succ] at h
      have := ih (u / 10) (by omega)
      simp
      omega
theorem itoa_le (n : Int) (h0 : -9223372036854775808 ≤ n) (h1 : n ≤ 9223372036854775807) : (Lib.itoa n).length ≤ 20 := by
  unfold Lib.itoa
  split
  · have := decDigits_le n.natAbs 18 (by omega)
    simp
    omega
  · have := decDigits_le n.toNat 18 (by omega)
    omega
end Go.Proofs.YtgkiffodnofggaaGreatDoor
