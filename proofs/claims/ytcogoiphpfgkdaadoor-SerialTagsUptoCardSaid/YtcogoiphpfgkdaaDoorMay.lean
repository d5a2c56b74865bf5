/-
  Which trees may be, and how great they are, as plain data.
-/
import Derived.Test.YtcogoiphpfgkdaaDoorNodes
import Derived.Test.YtcogoiphpfgkdaaDoorAttrs
import Derived.Test.YtcogoiphpfgkdaaDoorSets
namespace Go.Proofs.YtcogoiphpfgkdaaDoor
open Go.RowKit
set_option linter.unusedVariables false

/-- May a node be, its kids being so? -/
def mayF (nm tx : List UInt8) (ats : List At) (kids : List Nd) (kidsOk : Bool) : Bool :=
  if nm = [] then !tx.isEmpty && validB tx && ats.isEmpty && kids.isEmpty
  else tx.isEmpty && (nameB false nm && attrsB ats) && !(decide (nm ∈ setNames0) && !kids.isEmpty) && kidsOk
theorem mayF_text {nm tx : List UInt8} {ats : List At} {kids : List Nd} {kb : Bool} (h : nm = []) : mayF nm tx ats kids kb = (!tx.isEmpty && validB tx && ats.isEmpty && kids.isEmpty) := by
  unfold mayF
  rw [if_pos h]
theorem mayF_elem {nm tx : List UInt8} {ats : List At} {kids : List Nd} {kb : Bool} (h : nm ≠ []) : mayF nm tx ats kids kb = (tx.isEmpty && (nameB false nm && attrsB ats) && !(decide (nm ∈ setNames0) && !kids.isEmpty) && kb) := by
  unfold mayF
  rw [if_neg h]
def mayOne (d : Nd) (kidsOk : Bool) : Bool := mayF d.name d.text d.attrs d.kids kidsOk
/-- May trees be? -/
def mayB (L : List Nd) : Bool :=
  match L with
  | [] => true
  | d :: rest => mayOne d (mayB d.kids) && mayB rest
termination_by SizeOf.sizeOf L
decreasing_by
  · have := d.kids_lt
    simp
    omega
  · simp
    omega
theorem mayB_nil : mayB [] = true := by rw [mayB]
theorem mayB_cons (d : Nd) (rest : List Nd) : mayB (d :: rest) = (mayOne d (mayB d.kids) && mayB rest) := by rw [mayB]

def awt (l : List At) : Nat := (l.map fun a => 1 + a.name.length + a.value.length).sum
/-- How great trees are. -/
def wt (L : List Nd) : Nat :=
  match L with
  | [] => 0
  | d :: rest => 1 + d.name.length + d.text.length + awt d.attrs + wt d.kids + wt rest
termination_by SizeOf.sizeOf L
decreasing_by
  · have := d.kids_lt
    simp
    omega
  · simp
    omega
theorem wt_nil : wt [] = 0 := by rw [wt]
theorem wt_cons (d : Nd) (rest : List Nd) : wt (d :: rest) = 1 + d.name.length + d.text.length + awt d.attrs + wt d.kids + wt rest := by rw [wt]
theorem awt_mem {l : List At} {a : At} (h : a ∈ l) : 1 + a.name.length + a.value.length ≤ awt l := by
  induction l with
  | nil => cases h
  | cons x l ih =>
    simp only [awt, List.map_cons, List.sum_cons] at ih ⊢
    rcases List.mem_cons.1 h with rfl | h
    · omega
    · have := ih h
      omega
theorem awt_length (l : List At) : l.length ≤ awt l := by
  induction l with
  | nil => simp
  | cons a l ih => simp only [awt, List.map_cons, List.sum_cons, List.length_cons] at ih ⊢; omega
theorem wt_mem {L : List Nd} {d : Nd} (h : d ∈ L) : 1 + d.name.length + d.text.length + awt d.attrs + wt d.kids ≤ wt L := by
  induction L with
  | nil => cases h
  | cons x rest ih =>
    rw [wt_cons]
    rcases List.mem_cons.1 h with rfl | h
    · omega
    · have := ih h
      omega
theorem wt_length (L : List Nd) : L.length ≤ wt L := by
  induction L with
  | nil => simp
  | cons x rest ih => rw [wt_cons, List.length_cons]; omega
theorem wt_drop (L : List Nd) (k : Nat) : wt (L.drop k) ≤ wt L := by
  induction L generalizing k with
  | nil => simp
  | cons x rest ih =>
    cases k with
    | zero => simp
    | succ k => rw [List.drop_succ_cons, wt_cons]; have := ih k; omega
end Go.Proofs.YtcogoiphpfgkdaaDoor
