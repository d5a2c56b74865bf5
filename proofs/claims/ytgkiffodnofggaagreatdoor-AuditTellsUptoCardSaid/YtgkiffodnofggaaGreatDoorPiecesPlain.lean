/-
  The reference's pieces of bytes, as plain data.
-/
import Derived.Test.YtgkiffodnofggaaGreatDoorUtfPlain
namespace Go.Proofs.YtgkiffodnofggaaGreatDoor
set_option linter.unusedVariables false

/-- A rune of bytes, where it begins, how many bytes it was made of, whether it is right. -/
structure Pc where
  r : Nat
  at_ : Nat
  size : Nat
  right : Bool
/-- What the first byte gives of a rune. -/
def uBase (c : UInt8) : Nat := if uLen c = 2 then c.toNat % 32 else if uLen c = 3 then c.toNat % 16 else if uLen c = 4 then c.toNat % 8 else c.toNat
def uMore (a : Nat) (l : List UInt8) : Nat := l.foldl (fun a d => a * 64 + d.toNat % 64) a
/-- The rune of a good beginning. -/
def uVal (c : UInt8) (r : List UInt8) : Nat := uMore (uBase c) (r.take (uLen c - 1))
def pcOf (at_ : Nat) (c : UInt8) (r : List UInt8) : Pc :=
  if uLen c ≠ 0 ∧ uGood c r = uLen c then ⟨uVal c r, at_, uLen c, true⟩ else ⟨65533, at_, if uGood c r = 0 then 1 else uGood c r, false⟩
theorem pcOf_size (at_ : Nat) (c : UInt8) (r : List UInt8) : 1 ≤ (pcOf at_ c r).size ∧ (pcOf at_ c r).size ≤ 1 + r.length := by
  have h := (uRun_le c (uLen c) r 1).2
  have h1 := (uRun_le c (uLen c) r 1).1
  unfold pcOf
  split
  · rename_i hg
    obtain ⟨h2, h3⟩ := hg
    rw [uGood, if_neg h2] at h3
    simp only
    omega
  · simp only
    unfold uGood
    repeat' split
    all_goals omega
/-- All pieces. -/
def pieces (at_ : Nat) : List UInt8 → List Pc
  | [] => []
  | c :: r => pcOf at_ c r :: pieces (at_ + (pcOf at_ c r).size) (r.drop ((pcOf at_ c r).size - 1))
termination_by l => l.length
decreasing_by simp; omega
theorem pieces_cons (at_ : Nat) (c : UInt8) (r : List UInt8) : pieces at_ (c :: r) = pcOf at_ c r :: pieces (at_ + (pcOf at_ c r).size) (r.drop ((pcOf at_ c r).size - 1)) := by rw [pieces]
theorem pieces_nil (at_ : Nat) : pieces at_ [] = [] := by rw [pieces]
theorem pieces_length (l : List UInt8) : ∀ at_, (pieces at_ l).length ≤ l.length := by
  generalize hn : l.length = n
  induction n using Nat.strongRecOn generalizing l with
  | _ n ih =>
    intro at_
    cases l with
    | nil => rw [pieces_nil]; simp
    | cons c r =>
      rw [pieces_cons, List.length_cons]
      have h := pcOf_size at_ c r
      have := ih _ (by simp at hn ⊢; omega) (r.drop ((pcOf at_ c r).size - 1)) rfl (at_ + (pcOf at_ c r).size)
      simp at hn this ⊢
      omega
/-- Valid bytes are those whose pieces are all right. -/
theorem validB_pieces (l : List UInt8) : ∀ at_, validB l = (pieces at_ l).all (·.right) := by
  generalize hn : l.length = n
  induction n using Nat.strongRecOn generalizing l with
  | _ n ih =>
    intro at_
    cases l with
    | nil => rw [pieces_nil, validB]; rfl
    | cons c r =>
      rw [pieces_cons, validB, List.all_cons]
      by_cases hg : uLen c ≠ 0 ∧ uGood c r = uLen c
      · have hp : pcOf at_ c r = ⟨uVal c r, at_, uLen c, true⟩ := by rw [pcOf, if_pos hg]
        rw [if_pos hg, hp]
        simp only [Bool.true_and]
        exact ih _ (by simp at hn ⊢; omega) _ rfl _
      · have hp : (pcOf at_ c r).right = false := by rw [pcOf, if_neg hg]
        rw [if_neg hg, hp]
        rfl
theorem uMore_snoc (a : Nat) (l : List UInt8) (d : UInt8) : uMore a (l ++ [d]) = uMore a l * 64 + d.toNat % 64 := by simp [uMore]
theorem uBase_lt (c : UInt8) (h : 2 ≤ uLen c) : uBase c < 32 := by
  have h4 : uLen c ≤ 4 := by
    unfold uLen
    repeat' split
    all_goals omega
  unfold uBase
  repeat' split
  all_goals omega
theorem uMore_lt (a : Nat) (ha : a < 32) : ∀ (l : List UInt8), uMore a l < 32 * 64 ^ l.length := by
  intro l
  generalize hn : l.length = n
  induction n generalizing l with
  | zero =>
    obtain rfl := List.eq_nil_of_length_eq_zero hn
    simpa [uMore] using ha
  | succ n ih =>
    rcases List.eq_nil_or_concat l with rfl | ⟨m, d, rfl⟩
    · simp at hn
    · rw [List.concat_eq_append] at hn ⊢
      rw [List.length_append, List.length_singleton] at hn
      have := ih m (by omega)
      rw [uMore_snoc, Nat.pow_succ]
      omega
end Go.Proofs.YtgkiffodnofggaaGreatDoor
