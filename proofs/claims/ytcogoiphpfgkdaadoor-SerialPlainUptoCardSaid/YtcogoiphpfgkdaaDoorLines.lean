/-
  Plain text as it is built, as plain data: lines, runes, marks.
-/
import Derived.Test.YtcogoiphpfgkdaaDoorRunesAll
import Derived.Laws.Cover4
import Derived.Laws.IdiomStrings
import Derived.Lib.SlTrimSet
namespace Go.Proofs.YtcogoiphpfgkdaaDoor
open Go.RowKit
set_option linter.unusedVariables false
set_option linter.unusedSimpArgs false

/-- What plain text is written on. -/
structure Ls where
  told : List UInt8
  line : List Nat
  mark : Bool
def markB (m : Bool) : List UInt8 := if m = true then [45, 32] else []
def markR (m : Bool) : List Nat := if m = true then [45, 32] else []
def encU (r : Nat) : List UInt8 := (Utf8.encode (r : Int)).data.toList
def encL (l : List Nat) : List UInt8 := l.flatMap encU
def blankR (r : Nat) : Bool := r == 9 || r == 32
def trimR (l : List Nat) : List Nat := (l.reverse.dropWhile blankR).reverse
def whiteR (r : Nat) : Bool := r == 9 || r == 10 || r == 12 || r == 32
def Ls.put (s : Ls) (r : Nat) : Ls := if s.line = [] then ⟨s.told, markR s.mark ++ [r], false⟩ else ⟨s.told, s.line ++ [r], s.mark⟩
def Ls.fin (s : Ls) : Ls := ⟨if trimR s.line = [] then s.told else s.told ++ (encL (trimR s.line) ++ [10]), [], s.mark⟩
/-- Does a line end in something that is no blank? -/
def solid (l : List Nat) : Bool := match l.getLast? with | none => false | some x => !blankR x
def Ls.step (kept : Bool) (s : Ls) (r : Nat) : Ls := if (kept && r == 10) = true then s.fin else if (kept || !whiteR r) = true then s.put r else if solid s.line = true then s.put 32 else s
def Ls.text (kept : Bool) (s : Ls) (rs : List Nat) : Ls := rs.foldl (Ls.step kept) s

/-- A rune's bytes, by its number. -/
def encN (c : Nat) : List UInt8 :=
  if c < 128 then [UInt8.ofNat c] else if c < 2048 then [UInt8.ofNat (192 + c / 64), UInt8.ofNat (128 + c % 64)]
  else if c < 65536 then [UInt8.ofNat (224 + c / 4096), UInt8.ofNat (128 + c / 64 % 64), UInt8.ofNat (128 + c % 64)]
  else [UInt8.ofNat (240 + c / 262144), UInt8.ofNat (128 + c / 4096 % 64), UInt8.ofNat (128 + c / 64 % 64), UInt8.ofNat (128 + c % 64)]
set_option maxRecDepth 100000 in
theorem encU_N (r : Nat) : encU r = encN (if Utf8.valid (r : Int) = true then r else 65533) := by
  unfold encU
  by_cases h : Utf8.valid (r : Int) = true
  · rw [if_pos h]
    unfold encN
    simp only [Utf8.encode, h, if_true, Int.toNat_natCast]
    split
    · rfl
    · split
      · rfl
      · split <;> rfl
  · rw [if_neg h]
    simp only [Utf8.encode, h, if_false, Utf8.runeError, Bool.false_eq_true]
    rfl
theorem valid_small (r : Nat) (h : r < 128) : Utf8.valid (r : Int) = true := by
  simp [Utf8.valid]
  omega
theorem encU_small (r : Nat) (h : r < 128) : encU r = [UInt8.ofNat r] := by
  rw [encU_N, if_pos (valid_small r h), encN, if_pos h]
theorem encU_le (r : Nat) : (encU r).length ≤ 4 := by
  rw [encU_N]
  generalize (if Utf8.valid (r : Int) = true then r else 65533) = c
  unfold encN
  split
  · simp
  · split
    · simp
    · split <;> simp
theorem encU_last (r : Nat) (h : blankR r = false) : ∃ p b, encU r = p ++ [b] ∧ b.toNat ≠ 9 ∧ b.toNat ≠ 32 := by
  rw [encU_N]
  obtain ⟨c, hc, hb⟩ : ∃ c, (if Utf8.valid (r : Int) = true then r else 65533) = c ∧ blankR c = false := by
    refine ⟨_, rfl, ?_⟩
    split
    · exact h
    · decide
  rw [hc]
  have hb1 : c ≠ 9 ∧ c ≠ 32 := by simpa [blankR] using hb
  unfold encN
  split
  · refine ⟨[], _, rfl, ?_⟩
    rw [UInt8.toNat_ofNat']
    omega
  · split
    · refine ⟨[_], _, rfl, ?_⟩
      rw [UInt8.toNat_ofNat']
      omega
    · split
      · refine ⟨[_, _], _, rfl, ?_⟩
        rw [UInt8.toNat_ofNat']
        omega
      · refine ⟨[_, _, _], _, rfl, ?_⟩
        rw [UInt8.toNat_ofNat']
        omega
theorem encL_append (a b : List Nat) : encL (a ++ b) = encL a ++ encL b := by simp [encL]
theorem encL_le (l : List Nat) : (encL l).length ≤ 4 * l.length := by
  induction l with
  | nil => simp [encL]
  | cons r l ih =>
    have := encU_le r
    simp only [encL, List.flatMap_cons, List.length_append, List.length_cons] at ih ⊢
    omega
theorem trimR_snoc (l : List Nat) (r : Nat) : trimR (l ++ [r]) = if blankR r = true then trimR l else l ++ [r] := by
  unfold trimR
  rw [List.reverse_append]
  simp only [List.reverse_cons, List.reverse_nil, List.nil_append, List.cons_append, List.dropWhile_cons]
  split <;> simp
/-- What is cut off a line's bytes is what is cut off its runes. -/
theorem trim_law (l : List Nat) : Lib.trimRightS (encL l) [32, 9] = encL (trimR l) := by
  obtain ⟨m, rfl⟩ : ∃ m : List Nat, l = m.reverse := ⟨l.reverse, by simp⟩
  induction m with
  | nil => rfl
  | cons r m ih =>
    rw [List.reverse_cons]
    generalize m.reverse = l at ih ⊢
    rw [trimR_snoc, encL_append]
    by_cases h : blankR r = true
    · rw [if_pos h, ← ih]
      have hr : r = 9 ∨ r = 32 := by simpa [blankR] using h
      have e : encL [r] = [UInt8.ofNat r] := by
        rw [show encL [r] = encU r ++ [] from rfl, List.append_nil, encU_small r (by omega)]
      rw [e]
      unfold Lib.trimRightS
      rw [List.reverse_append]
      simp only [List.reverse_cons, List.reverse_nil, List.nil_append, List.cons_append]
      rw [List.dropWhile_cons, if_pos]
      rcases hr with rfl | rfl <;> rfl
    · rw [if_neg h]
      obtain ⟨p, b, e, h1, h2⟩ := encU_last r (by simpa using h)
      have e2 : encL [r] = p ++ [b] := by rw [show encL [r] = encU r ++ [] from rfl, List.append_nil, e]
      rw [encL_append, e2]
      unfold Lib.trimRightS
      rw [← List.append_assoc, List.reverse_append]
      simp only [List.reverse_cons, List.reverse_nil, List.nil_append, List.cons_append]
      rw [List.dropWhile_cons, if_neg]
      · simp
      · simp
        refine ⟨fun e => h2 (by rw [e]; rfl), fun e => h1 (by rw [e]; rfl)⟩
theorem encL_nil {l : List Nat} : encL l = [] ↔ l = [] := by
  constructor
  · intro h
    cases l with
    | nil => rfl
    | cons r l =>
      exfalso
      have : encU r ≠ [] := by
        by_cases hb : blankR r = true
        · have hr : r = 9 ∨ r = 32 := by simpa [blankR] using hb
          rw [encU_small r (by omega)]
          simp
        · obtain ⟨p, b, e, _⟩ := encU_last r (by simpa using hb)
          rw [e]
          simp
      simp [encL] at h
      exact this h.1
  · rintro rfl; rfl
set_option maxRecDepth 1000000 in
theorem encU_def (r : Nat) : (Utf8.encode (r : Int)).data.toList = encU r := by unfold encU; with_reducible rfl
theorem encL_cons (r : Nat) (l : List Nat) : encL (r :: l) = encU r ++ encL l := List.flatMap_cons
set_option maxRecDepth 1000000 in
theorem foldl_enc (l : List Nat) : ∀ s : ByteArray, ((l.map fun (r : Nat) => (r : Int)).foldl (fun r n => r ++ Utf8.encode n) s).data.toList = s.data.toList ++ encL l := by
  induction l with
  | nil => intro s; rw [List.map_nil, List.foldl_nil, encL, List.flatMap_nil, List.append_nil]
  | cons r l ih =>
    intro s
    rw [List.map_cons, List.foldl_cons, ih, encL_cons, ByteArray.data_append, Array.toList_append, List.append_assoc, encU_def]
set_option maxRecDepth 1000000 in
theorem runesBytes_eq (l : List Nat) : runesBytes (l.map fun (r : Nat) => (r : Int)) = str (encL l) := by
  apply ByteArray.ext
  apply Array.toList_inj.1
  have he : ByteArray.empty.data = #[] := rfl
  rw [runesBytes, foldl_enc, he]
  rfl
end Go.Proofs.YtcogoiphpfgkdaaDoor
