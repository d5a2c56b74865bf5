/-
  What filling a buffer comes to, as plain data; the measure of its loops.
-/
import Derived.Test.YtadnceiohgjdhaaBufFill
namespace Go.Proofs.Ytadnceiohgjdhaa
open Go.RowKit
set_option linter.unusedVariables false

/-- How much filling is left at most. -/
def Buf.meas (x : Buf) (em : Nat) : Nat := (total x.src.L - x.src.told) * 101 + (100 - em)
/-- Filled till so many bytes are held, or an error: the error, the buffer. -/
def Buf.pulled (need : Nat) (x : Buf) (em : Nat) : Int × Buf :=
  if need ≤ x.held.length then (0, x)
  else if (x.fill em).1.1 ≠ 0 then ((x.fill em).1.1, (x.fill em).2)
  else if h : (x.fill em).2.meas (x.fill em).1.2 < x.meas em then Buf.pulled need (x.fill em).2 (x.fill em).1.2 else (0, x)
termination_by x.meas em

theorem Src.told_total {s : Src} (h : s.ok) : s.told ≤ total s.L := by
  obtain ⟨h1, h2, h3, h4, h5, h6⟩ := h
  by_cases hst : s.step = s.L.length
  · have := h3 hst
    have h4' := total_take_le s.L s.step
    omega
  · have hlt : s.step < s.L.length := by omega
    have hdf : s.L[s.step]? = some (s.L[s.step].1, s.L[s.step].2) := List.getElem?_eq_getElem hlt
    have h7 := h2 _ _ hdf
    have h8 := total_take s.L s.step _ _ hdf
    have h9 := total_take_le s.L (s.step + 1)
    omega
theorem Src.read_L {s : Src} (n : Nat) : (s.read n).2.L = s.L := by
  cases hd : s.L[s.step]? with
  | none => simp [Src.read, hd]
  | some y =>
    obtain ⟨d, f⟩ := y
    by_cases c1 : f = true ∧ s.frm = d.length
    · simp [Src.read, hd, c1]
    · by_cases c2 : s.frm + min n (d.length - s.frm) = d.length ∧ f = false
      · obtain ⟨c2, rfl⟩ := c2
        rw [Src.read_next hd rfl c2]
      · rw [Src.read_on hd c1 rfl c2]
/-- What a fill leaves alone, and what it turns. -/
theorem Buf.fill_facts {x : Buf} (h : x.ok) (em : Nat) (hem : em < 100) :
    (x.fill em).2.ok ∧ (x.fill em).2.size = x.size ∧ (x.fill em).2.taken = x.taken ∧ (x.fill em).2.src.L = x.src.L ∧ ((x.fill em).1.1 ≠ 0 ∨ ((x.fill em).1.2 < 100 ∧ (x.fill em).2.meas (x.fill em).1.2 < x.meas em)) ∧ (x.fill em).1.2 ≤ 100 := by
  obtain ⟨bs, er, s', hr⟩ : ∃ bs er s', x.src.read (x.size - x.held.length) = ((bs, er), s') := ⟨_, _, _, rfl⟩
  have hL := Src.read_L (s := x.src) (x.size - x.held.length)
  have hT := Src.read_told (s := x.src) (x.size - x.held.length)
  have hok := Buf.more_ok h hr
  have htot := Src.told_total hok.1
  rw [hr] at hL hT
  simp only at hL hT htot
  rw [hL] at htot
  by_cases he : er = 0
  · subst he
    by_cases hb : 0 < bs.length
    · rw [Buf.fill_some hr em hb]
      refine ⟨hok, rfl, rfl, hL, .inr ⟨by simp, ?_⟩, by simp⟩
      simp only [Buf.meas, hL]
      omega
    · obtain rfl : bs = [] := List.eq_nil_of_length_eq_zero (by omega)
      rw [Buf.fill_none hr em]
      rw [List.append_nil] at hok
      refine ⟨hok, rfl, rfl, hL, ?_, by simp; omega⟩
      by_cases h1 : em + 1 = 100
      · exact .inl (by simp [h1])
      · refine .inr ⟨by simp; omega, ?_⟩
        simp only [Buf.meas, hL]
        simp only [List.length_nil, Nat.add_zero] at hT
        rw [hT]
        omega
  · rw [Buf.fill_err hr em he]
    exact ⟨h, rfl, rfl, rfl, .inl he, by simp; omega⟩
theorem Buf.pulled_done {need : Nat} {x : Buf} {em : Nat} (h : need ≤ x.held.length) : Buf.pulled need x em = (0, x) := by
  rw [Buf.pulled, if_pos h]
theorem Buf.pulled_err {need : Nat} {x : Buf} {em : Nat} (h : ¬ need ≤ x.held.length) (he : (x.fill em).1.1 ≠ 0) : Buf.pulled need x em = ((x.fill em).1.1, (x.fill em).2) := by
  rw [Buf.pulled, if_neg h, if_pos he]
theorem Buf.pulled_go {need : Nat} {x : Buf} {em : Nat} (hx : x.ok) (hem : em < 100) (h : ¬ need ≤ x.held.length) (he : (x.fill em).1.1 = 0) : Buf.pulled need x em = Buf.pulled need (x.fill em).2 (x.fill em).1.2 := by
  rw [Buf.pulled, if_neg h, if_neg (by simpa using he), dif_pos]
  rcases (Buf.fill_facts hx em hem).2.2.2.2.1 with h1 | h1
  · exact absurd he h1
  · exact h1.2

/-- A cell's number. -/
def cellNum (w : World) (p : Addr) : Nat := match w.cell? p with | some (.int _ z) => z.toNat | _ => 0
theorem cellNum_of {w : World} {p : Addr} {k : IntKind} {n : Nat} (h : w.cell? p = some (.int k n)) : cellNum w p = n := by simp [cellNum, h]
end Go.Proofs.Ytadnceiohgjdhaa
