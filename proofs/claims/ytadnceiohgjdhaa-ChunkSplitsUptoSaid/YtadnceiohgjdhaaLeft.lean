/-
  What is left of a source and of a buffer, as plain data: nothing is lost.
-/
import Derived.Test.YtadnceiohgjdhaaRest
import Derived.Test.YtadnceiohgjdhaaBytesOf
namespace Go.Proofs.Ytadnceiohgjdhaa
open Go.RowKit
set_option linter.unusedVariables false

/-- What a source has yet to tell, and whether it fails behind it. -/
def Src.left (s : Src) : List UInt8 × Bool :=
  match s.L[s.step]? with
  | none => ([], false)
  | some (d, f) => if f then (d.drop s.frm, true) else (d.drop s.frm ++ (bytesOf (s.L.drop (s.step + 1))).1, (bytesOf (s.L.drop (s.step + 1))).2)
theorem Src.left_start (s : Src) (h : s.frm = 0) : s.left = bytesOf (s.L.drop s.step) := by
  cases hd : s.L[s.step]? with
  | none =>
    have : s.L.length ≤ s.step := List.getElem?_eq_none_iff.1 hd
    rw [List.drop_eq_nil_of_le this]
    simp [Src.left, hd, bytesOf]
  | some x =>
    obtain ⟨d, f⟩ := x
    obtain ⟨hl, hg⟩ := List.getElem?_eq_some_iff.1 hd
    rw [drop_get s.L s.step hl, hg]
    simp only [Src.left, hd, h, List.drop_zero, bytesOf]
theorem Src.left_new (L : List Stp) : (Src.new L).left = bytesOf L := Src.left_start _ rfl
/-- A read: what it tells and what is left behind it is what was left. -/
theorem Src.read_left {s : Src} (h : s.ok) (n : Nat) (hn : 1 ≤ n) :
    ((s.read n).1.2 = 0 ∧ s.left = ((s.read n).1.1 ++ (s.read n).2.left.1, (s.read n).2.left.2) ∧ s.step ≤ (s.read n).2.step ∧ ((s.read n).1.1 = [] → (s.read n).2.step = s.step + 1)) ∨
    ((s.read n).1.2 = (if s.left.2 then 20 else 21) ∧ s.left.1 = [] ∧ (s.read n).1.1 = [] ∧ (s.read n).2 = s) := by
  obtain ⟨h1, h2, h3, h4, h5, h6⟩ := h
  cases hd : s.L[s.step]? with
  | none => exact .inr (by simp [Src.read, Src.left, hd])
  | some x =>
    obtain ⟨d, f⟩ := x
    have hfd := h2 d f hd
    by_cases c1 : f = true ∧ s.frm = d.length
    · refine .inr ?_
      obtain ⟨rfl, c1⟩ := c1
      simp [Src.read, Src.left, hd, c1]
    · refine .inl ?_
      obtain ⟨k, hk⟩ : ∃ k, k = min n (d.length - s.frm) := ⟨_, rfl⟩
      have hdl : (d.drop s.frm).length = d.length - s.frm := List.length_drop
      by_cases c2 : s.frm + k = d.length ∧ f = false
      · obtain ⟨c2, rfl⟩ := c2
        rw [Src.read_next hd hk c2]
        refine ⟨rfl, ?_, Nat.le_succ _, fun _ => rfl⟩
        rw [Src.left_start ⟨s.L, s.step + 1, 0, s.told + k⟩ rfl, List.take_of_length_le (by omega)]
        simp [Src.left, hd]
      · rw [Src.read_on hd c1 hk c2]
        refine ⟨rfl, ?_, Nat.le_refl _, fun h0 => ?_⟩
        · have ht : (d.drop s.frm).take k ++ d.drop (s.frm + k) = d.drop s.frm := by rw [← List.drop_drop, List.take_append_drop]
          simp only [Src.left, hd]
          cases f
          · simp [← List.append_assoc, ht]
          · simp [ht]
        · exfalso
          have h0' : ((d.drop s.frm).take k).length = 0 := by rw [show (d.drop s.frm).take k = [] from h0]; rfl
          rw [List.length_take] at h0'
          cases f
          · exact c2 ⟨by omega, rfl⟩
          · exact c1 ⟨rfl, by omega⟩
/-- What a buffer has yet to give, and whether its source fails behind it. -/
def Buf.left (x : Buf) : List UInt8 × Bool := (x.held ++ x.src.left.1, x.src.left.2)
/-- Filling loses nothing. -/
theorem Buf.fill_left {x : Buf} (h : x.ok) (em : Nat) (hroom : x.held.length < x.size) :
    (x.fill em).2.left = x.left ∧ x.src.step ≤ (x.fill em).2.src.step ∧ x.held <+: (x.fill em).2.held ∧
    ((x.fill em).1.1 = 0 ∧ ((x.fill em).1.2 = 0 ∨ ((x.fill em).1.2 = em + 1 ∧ em + 1 ≠ 100 ∧ (x.fill em).2.src.step = x.src.step + 1)) ∨ ((x.fill em).1.1 = 22 ∧ em + 1 = 100 ∧ (x.fill em).2.src.step = x.src.step + 1) ∨
      ((x.fill em).1.1 = (if x.left.2 then 20 else 21) ∧ x.src.left.1 = [])) := by
  obtain ⟨bs, er, s', hr⟩ : ∃ bs er s', x.src.read (x.size - x.held.length) = ((bs, er), s') := ⟨_, _, _, rfl⟩
  have hl := Src.read_left h.1 (x.size - x.held.length) (by omega)
  rw [hr] at hl
  simp only at hl
  rcases hl with ⟨rfl, h1, h2, h3⟩ | ⟨h0, h1, rfl, rfl⟩
  · by_cases hb : 0 < bs.length
    · rw [Buf.fill_some hr em hb]
      exact ⟨by simp [Buf.left, h1], h2, List.prefix_append _ _, .inl ⟨rfl, .inl rfl⟩⟩
    · obtain rfl : bs = [] := List.eq_nil_of_length_eq_zero (by omega)
      rw [Buf.fill_none hr em]
      refine ⟨by simp [Buf.left, h1], h2, List.prefix_refl _, ?_⟩
      by_cases h100 : em + 1 = 100
      · exact .inr (.inl ⟨by simp [h100], h100, h3 rfl⟩)
      · exact .inl ⟨by simp [h100], .inr ⟨rfl, h100, h3 rfl⟩⟩
  · have he : er ≠ 0 := by rw [h0]; split <;> decide
    rw [Buf.fill_err hr em he]
    exact ⟨rfl, Nat.le_refl _, List.prefix_refl _, .inr (.inr ⟨h0, h1⟩)⟩
theorem Buf.fill_less' {x : Buf} {em : Nat} (h0 : (x.fill em).1.1 ≠ 0) (h : (x.fill em).1.1 ≠ 22) : (x.fill em).2 = x := by
  obtain ⟨bs, er, s', hr⟩ : ∃ bs er s', x.src.read (x.size - x.held.length) = ((bs, er), s') := ⟨_, _, _, rfl⟩
  by_cases he : er = 0
  · subst he
    by_cases hb : 0 < bs.length
    · rw [Buf.fill_some hr em hb] at h0
      simp at h0
    · obtain rfl : bs = [] := List.eq_nil_of_length_eq_zero (by omega)
      rw [Buf.fill_none hr em] at h h0
      simp only at h h0
      by_cases h1 : em + 1 = 100
      · rw [if_pos h1] at h
        exact absurd rfl h
      · rw [if_neg h1] at h0
        exact absurd rfl h0
  · rw [Buf.fill_err hr em he]
/-- .. till so much is held. -/
theorem Buf.pulled_left {n : Nat} {x : Buf} {em : Nat} (hx : x.ok) (hem : em < 100) (hn : n ≤ x.size) :
    (x.pulled n em).2.left = x.left ∧ x.src.step ≤ (x.pulled n em).2.src.step ∧
    (((x.pulled n em).1 = 0 ∧ n ≤ (x.pulled n em).2.held.length) ∨ ((x.pulled n em).1 = 22 ∧ (x.pulled n em).2.held.length < n ∧ x.src.step + 100 ≤ (x.pulled n em).2.src.step + em) ∨
      ((x.pulled n em).1 = (if x.left.2 then 20 else 21) ∧ (x.pulled n em).2.held.length < n ∧ (x.pulled n em).2.src.left.1 = [])) := by
  generalize hm : x.meas em = m
  induction m using Nat.strongRecOn generalizing x em with
  | _ m ih =>
    by_cases h : n ≤ x.held.length
    · rw [Buf.pulled_done h]
      exact ⟨rfl, Nat.le_refl _, .inl ⟨rfl, h⟩⟩
    · obtain ⟨f1, f2, f3, f4, f5, f6⟩ := Buf.fill_facts hx em hem
      obtain ⟨g1, g2, g3, g4⟩ := Buf.fill_left hx em (by omega)
      by_cases he : (x.fill em).1.1 = 0
      · rw [Buf.pulled_go hx hem h he]
        have h5 := f5.resolve_left (by simpa using he)
        obtain ⟨k1, k2, k3⟩ := ih _ (hm ▸ h5.2) f1 h5.1 (by omega) rfl
        refine ⟨k1.trans g1, Nat.le_trans g2 k2, ?_⟩
        rcases k3 with k3 | ⟨k3, k4, k5⟩ | ⟨k3, k4, k5⟩
        · exact .inl k3
        · refine .inr (.inl ⟨k3, k4, ?_⟩)
          rcases g4 with ⟨_, g4 | g4⟩ | ⟨g4, _⟩ | ⟨g4, _⟩
          · omega
          · omega
          · rw [he] at g4; cases g4
          · rw [he] at g4; split at g4 <;> cases g4
        · exact .inr (.inr ⟨by rw [k3, g1], k4, k5⟩)
      · rw [Buf.pulled_err h he]
        refine ⟨g1, g2, ?_⟩
        have hh := Buf.fill_held em he
        rcases g4 with ⟨g4, _⟩ | ⟨g4, g5, g6⟩ | ⟨g4, g5⟩
        · exact absurd g4 he
        · exact .inr (.inl ⟨g4, by simp only [hh]; omega, by simp only; omega⟩)
        · refine .inr (.inr ⟨g4, by simp only [hh]; omega, ?_⟩)
          have h22 : (x.fill em).1.1 ≠ 22 := by rw [g4]; split <;> decide
          have := (Buf.fill_less' he h22)
          simp only [this]
          exact g5
end Go.Proofs.Ytadnceiohgjdhaa
