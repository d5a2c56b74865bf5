/-
  Findings in memory; what a line of a print says; the table of powers of ten; a number's digits.
-/
import Derived.Test.YtgkiffodnofggaaGreatDoorBuilder
import Derived.Test.YtgkiffodnofggaaGreatDoorAudWords
import Derived.Test.YtgkiffodnofggaaGreatDoorAudDigits
import Derived.Test.YtgkiffodnofggaaGreatDoorMendPlain
import Derived.Test.YtgkiffodnofggaaGreatDoorStructs
import Derived.Test.YtgkiffodnofggaaGreatDoorAudQuote
namespace Go.Proofs.YtgkiffodnofggaaGreatDoor
open Go.RowKit
set_option linter.unusedVariables false
set_option linter.unusedSimpArgs false

/-- A finding's cells. -/
def fdCells (f : Fd) : List Value := [.int .i64 f.byte, .int .i64 f.line, .int .i64 f.col, .int .i64 f.why, .string (str f.name)]
theorem fdCells_length (f : Fd) : (fdCells f).length = 5 := rfl
theorem fdCells_one (f : Fd) : ∀ u ∈ fdCells f, u.oneCell' = true := by simp [fdCells, Value.oneCell']
/-- Its numbers are numbers of 64 bits. -/
structure Fd.ok (f : Fd) : Prop where
  l0 : -9223372036854775808 ≤ f.line
  l1 : f.line ≤ 9223372036854775807
  c0 : -9223372036854775808 ≤ f.col
  c1 : f.col ≤ 9223372036854775807
  w0 : -9223372036854775808 ≤ f.why
  w1 : f.why ≤ 9223372036854775807
/-- How much a list of findings weighs. -/
def fwt (L : List Fd) : Nat := (L.map fun f => f.name.length + 7).sum
theorem fwt_append (A B : List Fd) : fwt (A ++ B) = fwt A + fwt B := by simp [fwt]
theorem fwt_length (L : List Fd) : 7 * L.length ≤ fwt L := by
  induction L with
  | nil => simp [fwt]
  | cons f L ih => simp only [fwt, List.map_cons, List.sum_cons, List.length_cons] at ih ⊢; omega
theorem fwt_mem {L : List Fd} {f : Fd} (h : f ∈ L) : f.name.length + 7 ≤ fwt L := by
  obtain ⟨A, B, rfl⟩ := List.append_of_mem h
  simp only [fwt, List.map_append, List.map_cons, List.sum_append, List.sum_cons]
  omega
theorem fwt_take (L : List Fd) (k : Nat) : fwt (L.take k) ≤ fwt L := by
  conv => rhs; rw [← List.take_append_drop k L, fwt_append]
  omega

/-- A line's head: where, and why. -/
def fdHead (f : Fd) : List UInt8 := Lib.itoa f.line ++ [58] ++ Lib.itoa f.col ++ [32] ++ wordB f.why
/-- A line's name. -/
def fdName (f : Fd) : List UInt8 := if f.name = [] then [] else 32 :: quoteB (mendB f.name)
def fdLine (f : Fd) : List UInt8 := fdHead f ++ fdName f ++ [10]
def printB (L : List Fd) : List UInt8 := L.flatMap fdLine
theorem printB_snoc (L : List Fd) (f : Fd) : printB (L ++ [f]) = printB L ++ fdHead f ++ fdName f ++ [10] := by simp [printB, fdLine]
theorem fdHead_le (f : Fd) (h : f.ok) : (fdHead f).length ≤ 51 := by
  have h1 := itoa_le f.line h.l0 h.l1
  have h2 := itoa_le f.col h.c0 h.c1
  have h3 := wordB_le f.why
  simp only [fdHead, List.length_append, List.length_singleton]
  omega
theorem quoteB_le (l : List UInt8) : (quoteB l).length ≤ 2 * l.length + 2 := by
  have := escQs_le l
  simp only [quoteB, List.length_append, List.length_singleton]
  omega
theorem fdName_le (f : Fd) : (fdName f).length ≤ 8 * f.name.length + 3 := by
  unfold fdName
  split
  · simp
  · have h1 := quoteB_le (mendB f.name)
    have h2 := mendB_le f.name
    rw [List.length_cons]
    omega
theorem printB_le (L : List Fd) (h : ∀ f ∈ L, f.ok) : (printB L).length ≤ 8 * fwt L := by
  induction L with
  | nil => simp [printB]
  | cons f L ih =>
    have h1 := fdHead_le f (h f (by simp))
    have h2 := fdName_le f
    have := ih (fun x hx => h x (List.mem_cons_of_mem _ hx))
    simp only [printB, List.flatMap_cons, fdLine, List.length_append, List.length_singleton, fwt, List.map_cons, List.sum_cons] at this ⊢
    omega

theorem var_behind {w w' : World} {x : String} {cs : Array Value} (h : w.var? Tryz.prog x = some cs) (hb : Below w.heap.size w w') : w'.var? Tryz.prog x = some cs := by
  unfold World.var? at h ⊢
  cases hg : Tryz.prog.globalNamed x with
  | none => rw [hg] at h; simp at h
  | some g =>
    rw [hg] at h
    simp only [Option.bind_some] at h ⊢
    cases hh : w.heap[g]? with
    | none => rw [hh] at h; cases h
    | some o => rw [hb.block g (lt_of_heap hh), hh]; rw [hh] at h; exact h
/-- The library's table of powers of ten is there. -/
def Tab (w : World) : Prop := Lib.TabIs Tryz.prog w "internal/strconv.uint64pow10" .u64 Lib.pow10Tab
theorem Tab.behind {w w' : World} (h : Tab w) (hb : Below w.heap.size w w') : Tab w' := var_behind h hb
theorem Tab.below {B : Nat} {w w' : World} (h : Tab w) (hb : Below B w w') (hB : w.heap.size ≤ B) : Tab w' := h.behind (hb.mono hB)
theorem Bld.behind {w w' : World} {lo b : Nat} {v : Value} {l : List UInt8} (h : Bld w lo b v l) (hb : Below w.heap.size w w') : Bld w' lo b v l := h.keep (Keep.of_below hb (fun _ => False)) id (fun _ _ => id)
theorem below_grow (w : World) (k : Nat) (os : Array Obj) : Below w.heap.size w (Sort.grow (w.drewN k) os) := by
  refine ⟨rfl, rfl, rfl, by simp [Sort.grow], fun i hi => ?_⟩
  show (w.heap ++ os)[i]? = _
  rw [Array.getElem?_append_left hi]
/-- strconv.Itoa -/
theorem itoa_any (n : Int) (h0 : -9223372036854775808 ≤ n) (h1 : n ≤ 9223372036854775807) (w : World) (hT : Tab w) :
    Calls Tryz.prog 17 #[.int .i64 n] w fun e w' => e = .returned (.string (str (Lib.itoa n))) ∧ Below w.heap.size w w' := by
  refine (Tryz.strconv_Itoa n h0 h1 w hT).mono ?_
  rintro e w' ⟨rfl, k, os, rfl⟩
  exact ⟨rfl, below_grow w k os⟩
theorem digits_any (n : Int) (h0 : -9223372036854775808 ≤ n) (h1 : n ≤ 9223372036854775807) (w : World) :
    Calls Tryz.prog 23 #[.int .i64 n] w fun e w' => e = .returned (.string (str (Lib.itoa n))) ∧ Below w.heap.size w w' := rdigits_any n.natAbs n (Nat.le_refl _) h0 h1 w
end Go.Proofs.YtgkiffodnofggaaGreatDoor
