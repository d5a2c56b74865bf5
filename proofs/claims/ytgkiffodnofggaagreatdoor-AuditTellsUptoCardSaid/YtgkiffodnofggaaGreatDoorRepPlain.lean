/-
  What a replacer of four marks makes of a text, as plain data: how many marks there are.
-/
import Derived.Test.YtgkiffodnofggaaGreatDoorAudQuote
import Derived.Lib.Bytealg
namespace Go.Proofs.YtgkiffodnofggaaGreatDoor
open Go.RowKit
set_option linter.unusedVariables false
set_option linter.unusedSimpArgs false

/-- The marks, and what stands in their place. -/
def reps : List (UInt8 × List UInt8) := [(92, [92, 92]), (34, [92, 34]), (10, [92, 110]), (9, [92, 116])]
/-- The marks in the order in which the replacer has them. -/
def marks : List UInt8 := [9, 10, 34, 92]
theorem reps_len : ∀ p ∈ reps, p.2.length = 2 := by decide
theorem reps_esc : ∀ p ∈ reps, escQ p.1 = p.2 := by decide
theorem not_marks (c : UInt8) (h : c ∉ marks) : c.toNat ≠ 9 ∧ c.toNat ≠ 10 ∧ c.toNat ≠ 34 ∧ c.toNat ≠ 92 := by
  simp only [marks, List.mem_cons, not_or, List.not_mem_nil, not_false_eq_true, and_true] at h
  have e : ∀ (n : Nat) (h : n < 256), c.toNat = n → c = UInt8.ofNat n := fun n hn e => by rw [← e]; simp
  exact ⟨fun e1 => h.1 (e 9 (by decide) e1), fun e1 => h.2.1 (e 10 (by decide) e1), fun e1 => h.2.2.1 (e 34 (by decide) e1), fun e1 => h.2.2.2 (e 92 (by decide) e1)⟩
theorem esc_not (c : UInt8) (h : c ∉ marks) : escQ c = [c] := by
  obtain ⟨h1, h2, h3, h4⟩ := not_marks c h
  exact escQ_e c h2 h1 h3 h4
theorem marks_reps (c : UInt8) (h : c ∈ marks) : (c, escQ c) ∈ reps := by
  simp only [marks, List.mem_cons, List.not_mem_nil, or_false] at h
  rcases h with rfl | rfl | rfl | rfl <;> decide
theorem reps_marks (p : UInt8 × List UInt8) (h : p ∈ reps) : p.1 ∈ marks := by
  have : ∀ p ∈ reps, p.1 ∈ marks := by decide
  exact this p h
theorem esc_len (c : UInt8) (h : c ∈ marks) : (escQ c).length = 2 := reps_len _ (marks_reps c h)
/-- How many marks a text has. -/
def spN (l : List UInt8) : Nat := l.countP fun c => decide (c ∈ marks)
theorem spN_snoc (l : List UInt8) (c : UInt8) : spN (l ++ [c]) = spN l + if c ∈ marks then 1 else 0 := by
  unfold spN
  rw [List.countP_append, List.countP_singleton]
  simp
theorem escQs_len (l : List UInt8) : (escQs l).length = l.length + spN l := by
  obtain ⟨m, rfl⟩ : ∃ m : List UInt8, l = m.reverse := ⟨l.reverse, by simp⟩
  induction m with
  | nil => rfl
  | cons c m ih =>
    rw [List.reverse_cons, escQs_snoc, List.length_append, ih, spN_snoc, List.length_append, List.length_singleton]
    split
    · rename_i h
      rw [esc_len c h]
      omega
    · rename_i h
      rw [esc_not c h]
      simp
      omega
theorem escQs_none (l : List UInt8) (h : spN l = 0) : escQs l = l := by
  have h2 : ∀ c ∈ l, c ∉ marks := by
    intro c hc hm
    unfold spN at h
    rw [List.countP_eq_zero] at h
    exact h c hc (by simpa using hm)
  clear h
  induction l with
  | nil => rfl
  | cons c l ih =>
    have := ih (fun x hx => h2 x (List.mem_cons_of_mem _ hx))
    unfold escQs at this ⊢
    rw [List.flatMap_cons, this, esc_not c (h2 c (by simp))]
    rfl
/-- The marks counted one kind behind the other. -/
def sumN (l : List UInt8) (k : Nat) : Nat := ((marks.take k).map fun c => l.count c).sum
theorem sumN_zero (l : List UInt8) : sumN l 0 = 0 := rfl
theorem sumN_next (l : List UInt8) (k : Nat) (c : UInt8) (h : marks[k]? = some c) : sumN l (k + 1) = sumN l k + l.count c := by
  unfold sumN
  rw [List.take_add_one, h]
  simp
theorem sumN_all (l : List UInt8) : sumN l 4 = spN l := by
  induction l with
  | nil => rfl
  | cons c l ih =>
    have e : ∀ l : List UInt8, sumN l 4 = l.count 9 + (l.count 10 + (l.count 34 + (l.count 92 + 0))) := fun l => rfl
    rw [e] at ih ⊢
    have e2 : spN (c :: l) = spN l + if c ∈ marks then 1 else 0 := by
      unfold spN
      rw [List.countP_cons]
      simp
    rw [e2, ← ih]
    simp only [List.count_cons]
    by_cases h : c ∈ marks
    · rw [if_pos h]
      simp only [marks, List.mem_cons, List.not_mem_nil, or_false] at h
      rcases h with rfl | rfl | rfl | rfl <;> simp <;> omega
    · rw [if_neg h]
      simp only [marks, List.mem_cons, not_or, List.not_mem_nil, not_false_eq_true, and_true] at h
      simp [h.1, h.2.1, h.2.2.1, h.2.2.2]
theorem spN_le (l : List UInt8) : spN l ≤ l.length := List.countP_le_length
theorem sumN_le (l : List UInt8) (k : Nat) : sumN l k ≤ 4 * l.length := by
  unfold sumN marks
  rcases k with _ | _ | _ | _ | k <;> simp
  · have := List.count_le_length (a := (9 : UInt8)) (l := l); omega
  · have := List.count_le_length (a := (9 : UInt8)) (l := l); have := List.count_le_length (a := (10 : UInt8)) (l := l); omega
  · have := List.count_le_length (a := (9 : UInt8)) (l := l); have := List.count_le_length (a := (10 : UInt8)) (l := l); have := List.count_le_length (a := (34 : UInt8)) (l := l); omega
  · have := List.count_le_length (a := (9 : UInt8)) (l := l); have := List.count_le_length (a := (10 : UInt8)) (l := l); have := List.count_le_length (a := (34 : UInt8)) (l := l); have := List.count_le_length (a := (92 : UInt8)) (l := l); omega

/-- A text as a cell. -/
def sv (t : List UInt8) : Value := .string (str t)
/-- The table of a replacer: block b holds C, and v the marks; L: the pairs that lie in it. -/
structure RepAt (W : World) (lo b : Nat) (v : Value) (L : List (UInt8 × List UInt8)) (C : Array Value) : Prop where
  size : C.size = 257
  bare : ∀ c : UInt8, (∀ p ∈ L, p.1 ≠ c) → C[c.toNat]? = some (.slice none 0 0)
  there : ∀ p ∈ L, ∃ g cp, C[p.1.toNat]? = some (.slice (some ⟨g, 0, none⟩) p.2.length cp) ∧ g ≠ b ∧ v.ownBlock ≠ some g ∧ p.2.length ≤ cp ∧ Row (fun k => k = g) W 1 (some ⟨g, 0, none⟩) p.2.length (bv p.2) ∧ lo ≤ g
  last_ : C[256]? = some v
/-- A byteStringReplacer of the four marks. -/
def Bsr (W : World) (lo b : Nat) : Prop := ∃ C A cp, Blk W b 155 C ∧ RepAt W lo b (.slice A 4 cp) reps C ∧ W.ownsRow lo 9 1 (.slice A 4 cp) 4 (marks.map fun c => sv [c])
theorem RepAt.keep {W W' : World} {lo b : Nat} {v : Value} {L : List (UInt8 × List UInt8)} {C : Array Value} {T : Nat → Prop} (h : RepAt W lo b v L C) (hk : Keep T W W') (hT : ∀ k, T k → k < lo) : RepAt W' lo b v L C :=
  ⟨h.size, h.bare, fun p hp => by
    obtain ⟨g, cp, e1, e2, e3, e4, e5, e6⟩ := h.there p hp
    exact ⟨g, cp, e1, e2, e3, e4, e5.keep hk (fun k (e : k = g) ht => by have := hT k ht; omega), e6⟩, h.last_⟩
theorem Bsr.keep {W W' : World} {lo b : Nat} {T : Nat → Prop} (h : Bsr W lo b) (hk : Keep T W W') (hT : ∀ k, T k → k < lo) (hb : lo ≤ b) : Bsr W' lo b := by
  obtain ⟨C, A, cp, h1, h2, h3⟩ := h
  exact ⟨C, A, cp, h1.keep hk (fun h => by have := hT b h; omega), h2.keep hk hT, own_keep h3 hk (fun k e ht => by have := hT k ht; have := (h3.lt _ e).1; omega)⟩
end Go.Proofs.YtgkiffodnofggaaGreatDoor
