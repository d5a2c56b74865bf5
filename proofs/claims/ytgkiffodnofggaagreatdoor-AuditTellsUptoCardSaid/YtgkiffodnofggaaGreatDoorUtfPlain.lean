/-
  UTF-8, as plain data: how long a good beginning is; whether bytes are valid.
-/
import Derived.Test.YtgkiffodnofggaaGreatDoorBase
namespace Go.Proofs.YtgkiffodnofggaaGreatDoor
set_option linter.unusedVariables false

/-- How many bytes a character has that begins with a byte; 0: none does. -/
def uLen (c : UInt8) : Nat :=
  if c.toNat < 128 then 1 else if 194 ≤ c.toNat ∧ c.toNat ≤ 223 then 2 else if 224 ≤ c.toNat ∧ c.toNat ≤ 239 then 3 else if 240 ≤ c.toNat ∧ c.toNat ≤ 244 then 4 else 0
/-- Between which the second byte must lie. -/
def uLo (c : UInt8) : Nat := if c.toNat = 224 then 160 else if c.toNat = 240 then 144 else 128
def uHi (c : UInt8) : Nat := if c.toNat = 237 then 159 else if c.toNat = 244 then 143 else 191
/-- May byte d stand at place k (from 1 on) behind c? -/
def uAt (c : UInt8) (k : Nat) (d : UInt8) : Bool := if k = 1 then decide (uLo c ≤ d.toNat ∧ d.toNat ≤ uHi c) else decide (128 ≤ d.toNat ∧ d.toNat ≤ 191)
/-- How far a beginning is good, from place k on. -/
def uRun (c : UInt8) (n : Nat) : Nat → List UInt8 → Nat
  | k, [] => k
  | k, d :: r => if k < n ∧ uAt c k d = true then uRun c n (k + 1) r else k
/-- The longest good beginning: its bytes. -/
def uGood (c : UInt8) (r : List UInt8) : Nat := if uLen c = 0 then 0 else uRun c (uLen c) 1 r
/-- Are bytes valid? -/
def validB : List UInt8 → Bool
  | [] => true
  | c :: r => if uLen c ≠ 0 ∧ uGood c r = uLen c then validB (r.drop (uLen c - 1)) else false
termination_by l => l.length
decreasing_by simp; omega
theorem uRun_le (c : UInt8) (n : Nat) : ∀ (r : List UInt8) (k : Nat), k ≤ uRun c n k r ∧ uRun c n k r ≤ k + r.length
  | [], k => by simp [uRun]
  | d :: r, k => by
    simp only [uRun]
    split
    · have := uRun_le c n r (k + 1)
      simp only [List.length_cons]
      omega
    · simp
theorem uRun_max (c : UInt8) (n : Nat) : ∀ (r : List UInt8) (k : Nat), k ≤ n → uRun c n k r ≤ n
  | [], k, h => by simpa [uRun] using h
  | d :: r, k, h => by
    simp only [uRun]
    split
    · exact uRun_max c n r (k + 1) (by omega)
    · exact h
end Go.Proofs.YtgkiffodnofggaaGreatDoor
