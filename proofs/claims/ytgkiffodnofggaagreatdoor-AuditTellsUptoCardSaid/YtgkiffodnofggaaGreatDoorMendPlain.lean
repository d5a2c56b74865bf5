/-
  Runes as bytes; the bytes of good pieces; what a decoder says of good and of wrong pieces; mended texts, as plain data.
-/
import Derived.Test.YtgkiffodnofggaaGreatDoorCommon
import Derived.Test.YtgkiffodnofggaaGreatDoorPiecesPlain
import Derived.Laws.Cover4
import Derived.Laws.IdiomStrings
import Derived.Lib.TrimUEq
import Derived.Lib.MapLaws
import Derived.Lib.RuneCount
namespace Go.Proofs.YtgkiffodnofggaaGreatDoor
open Go.RowKit
set_option linter.unusedVariables false
set_option linter.unusedSimpArgs false

def encU (r : Nat) : List UInt8 := (Utf8.encode (r : Int)).data.toList
def encL (l : List Nat) : List UInt8 := l.flatMap encU
/-- A rune's bytes, by its number. -/
def encN (c : Nat) : List UInt8 :=
  if c < 128 then [UInt8.ofNat c] else if c < 2048 then [UInt8.ofNat (192 + c / 64), UInt8.ofNat (128 + c % 64)]
  else if c < 65536 then [UInt8.ofNat (224 + c / 4096), UInt8.ofNat (128 + c / 64 % 64), UInt8.ofNat (128 + c % 64)]
  else [UInt8.ofNat (240 + c / 262144), UInt8.ofNat (128 + c / 4096 % 64), UInt8.ofNat (128 + c / 64 % 64), UInt8.ofNat (128 + c % 64)]
set_option maxRecDepth 100000 in
theorem encU_N (r : Nat) : encU r = encN (if Utf8.valid (r : Int) = true then r else 65533) := by
  unfold encU
  by_cases h : Utf8.valid (r : Int) = true
  · rw [if_pos h]
    unfold encN
    simp only [Utf8.encode, h, if_true, Int.toNat_natCast]
    split
    · rfl
    · split
      · rfl
      · split <;> rfl
  · rw [if_neg h]
    simp only [Utf8.encode, h, if_false, Utf8.runeError, Bool.false_eq_true]
    rfl
theorem valid_small (r : Nat) (h : r < 128) : Utf8.valid (r : Int) = true := by
  simp [Utf8.valid]
  omega
theorem encU_small (r : Nat) (h : r < 128) : encU r = [UInt8.ofNat r] := by
  rw [encU_N, if_pos (valid_small r h), encN, if_pos h]
theorem encU_le (r : Nat) : (encU r).length ≤ 4 := by
  rw [encU_N]
  generalize (if Utf8.valid (r : Int) = true then r else 65533) = c
  unfold encN
  split
  · simp
  · split
    · simp
    · split <;> simp
theorem encL_append (a b : List Nat) : encL (a ++ b) = encL a ++ encL b := by simp [encL]
theorem encL_le (l : List Nat) : (encL l).length ≤ 4 * l.length := by
  induction l with
  | nil => simp [encL]
  | cons r l ih =>
    have := encU_le r
    simp only [encL, List.flatMap_cons, List.length_append, List.length_cons] at ih ⊢
    omega
set_option maxRecDepth 1000000 in
theorem encU_def (r : Nat) : (Utf8.encode (r : Int)).data.toList = encU r := by unfold encU; with_reducible rfl
theorem encL_cons (r : Nat) (l : List Nat) : encL (r :: l) = encU r ++ encL l := List.flatMap_cons
set_option maxRecDepth 1000000 in
theorem foldl_enc (l : List Nat) : ∀ s : ByteArray, ((l.map fun (r : Nat) => (r : Int)).foldl (fun r n => r ++ Utf8.encode n) s).data.toList = s.data.toList ++ encL l := by
  induction l with
  | nil => intro s; rw [List.map_nil, List.foldl_nil, encL, List.flatMap_nil, List.append_nil]
  | cons r l ih =>
    intro s
    rw [List.map_cons, List.foldl_cons, ih, encL_cons, ByteArray.data_append, Array.toList_append, List.append_assoc, encU_def]
set_option maxRecDepth 1000000 in
theorem runesBytes_eq (l : List Nat) : runesBytes (l.map fun (r : Nat) => (r : Int)) = str (encL l) := by
  apply ByteArray.ext
  apply Array.toList_inj.1
  have he : ByteArray.empty.data = #[] := rfl
  rw [runesBytes, foldl_enc, he]
  rfl
theorem uRun_step {c : UInt8} {n k : Nat} {d : UInt8} {r : List UInt8} (h : k < uRun c n k (d :: r)) : k < n ∧ uAt c k d = true := by
  rw [uRun] at h
  split at h
  · assumption
  · omega
theorem uRun_next {c : UInt8} {n k : Nat} {d : UInt8} {r : List UInt8} (h : k < n ∧ uAt c k d = true) : uRun c n k (d :: r) = uRun c n (k + 1) r := by rw [uRun, if_pos h]
theorem run_cons {c : UInt8} {n k : Nat} {r : List UInt8} (h : uRun c n k r = n) (hk : k < n) : ∃ d r', r = d :: r' ∧ uAt c k d = true ∧ uRun c n (k + 1) r' = n := by
  cases r with
  | nil => rw [uRun] at h; omega
  | cons d r' =>
    have hs := uRun_step (by omega : k < uRun c n k (d :: r'))
    rw [uRun_next hs] at h
    exact ⟨d, r', rfl, hs.2, h⟩

theorem uAt_one {c d : UInt8} (h : uAt c 1 d = true) : 128 ≤ d.toNat ∧ d.toNat ≤ 191 ∧ (c.toNat = 224 → 160 ≤ d.toNat) ∧ (c.toNat = 240 → 144 ≤ d.toNat) ∧ (c.toNat = 237 → d.toNat ≤ 159) ∧ (c.toNat = 244 → d.toNat ≤ 143) := by
  rw [uAt, if_pos rfl] at h
  have h := of_decide_eq_true h
  unfold uLo uHi at h
  repeat' split at h
  all_goals omega
theorem uAt_more {c d : UInt8} {k : Nat} (hk : k ≠ 1) (h : uAt c k d = true) : 128 ≤ d.toNat ∧ d.toNat ≤ 191 := by
  rw [uAt, if_neg hk] at h
  exact of_decide_eq_true h
theorem decode_good (l : List UInt8) (pos : Nat) (c : UInt8) (r : List UInt8) (h : l.drop pos = c :: r) (hg : uLen c ≠ 0 ∧ uGood c r = uLen c) : Utf8.decode (str l) pos = (uVal c r, uLen c) := by
  have hlen : l.length - pos = r.length + 1 := by have := congrArg List.length h; simpa using this
  have hget : ∀ j, l.getD (pos + j) 0 = (c :: r).getD j 0 := fun j => by
    rw [← h]
    simp [List.getD_eq_getElem?_getD, List.getElem?_drop]
  have h0 := hget 0
  have h1 := hget 1
  have h2 := hget 2
  have h3 := hget 3
  rw [Nat.add_zero] at h0
  rw [Lib.decode_N]
  have hd : (str l).data.toList = l := by simp [str]
  rw [hd, hlen, h0, h1, h2, h3]
  obtain ⟨hn, hr⟩ := hg
  rw [uGood, if_neg hn] at hr
  have hc : c.toNat < 256 := c.toNat_lt
  have hlc : (c.toNat < 128 ∧ uLen c = 1) ∨ (194 ≤ c.toNat ∧ c.toNat ≤ 223 ∧ uLen c = 2) ∨ (224 ≤ c.toNat ∧ c.toNat ≤ 239 ∧ uLen c = 3) ∨ (240 ≤ c.toNat ∧ c.toNat ≤ 244 ∧ uLen c = 4) := by
    unfold uLen at hn ⊢
    repeat' split
    all_goals simp_all
  rcases hlc with ⟨hc1, hl⟩ | ⟨hc1, hc2, hl⟩ | ⟨hc1, hc2, hl⟩ | ⟨hc1, hc2, hl⟩
  · rw [uVal, uBase, hl]
    simp only [Nat.sub_self, List.take_zero, uMore, List.foldl_nil, List.getD_cons_zero]
    rw [Lib.decodeN, if_pos hc1]
    simp
  · rw [hl] at hr
    obtain ⟨d, r1, rfl, a1, hr1⟩ := run_cons hr (by omega)
    have a1 := uAt_one a1
    rw [uVal, uBase, hl]
    simp only [List.getD_cons_zero, List.getD_cons_succ, uMore, List.length_cons, Nat.reduceSub, List.take_succ_cons, List.take_zero, List.foldl_cons, List.foldl_nil, if_true]
    generalize d.toNat = x at a1 ⊢
    generalize c.toNat = y at a1 hc hc1 hc2 ⊢
    rw [Lib.decodeN, if_neg (by omega), if_pos ⟨by omega, by omega, by omega⟩, if_pos (by omega)]
  · rw [hl] at hr
    obtain ⟨d, r1, rfl, a1, hr1⟩ := run_cons hr (by omega)
    obtain ⟨d2, r2, rfl, a2, hr2⟩ := run_cons hr1 (by omega)
    have a1 := uAt_one a1
    have a2 := uAt_more (by omega) a2
    rw [uVal, uBase, hl]
    simp only [List.getD_cons_zero, List.getD_cons_succ, uMore, List.length_cons, Nat.reduceSub, List.take_succ_cons, List.take_zero, List.foldl_cons, List.foldl_nil, if_true, Nat.reduceEqDiff, if_false]
    generalize d.toNat = x at a1 ⊢
    generalize d2.toNat = x2 at a2 ⊢
    generalize c.toNat = y at a1 hc hc1 hc2 ⊢
    rw [Lib.decodeN, if_neg (by omega), if_neg (by omega), if_pos ⟨by omega, ⟨by omega, by omega⟩, by omega, by omega⟩]
    have e : y % 16 * 4096 + x % 64 * 64 + x2 % 64 = (y % 16 * 64 + x % 64) * 64 + x2 % 64 := by omega
    rw [if_pos (by omega), e]
  · rw [hl] at hr
    obtain ⟨d, r1, rfl, a1, hr1⟩ := run_cons hr (by omega)
    obtain ⟨d2, r2, rfl, a2, hr2⟩ := run_cons hr1 (by omega)
    obtain ⟨d3, r3, rfl, a3, hr3⟩ := run_cons hr2 (by omega)
    have a1 := uAt_one a1
    have a2 := uAt_more (by omega) a2
    have a3 := uAt_more (by omega) a3
    rw [uVal, uBase, hl]
    simp only [List.getD_cons_zero, List.getD_cons_succ, uMore, List.length_cons, Nat.reduceSub, List.take_succ_cons, List.take_zero, List.foldl_cons, List.foldl_nil, if_true, Nat.reduceEqDiff, if_false]
    generalize d.toNat = x at a1 ⊢
    generalize d2.toNat = x2 at a2 ⊢
    generalize d3.toNat = x3 at a3 ⊢
    generalize c.toNat = y at a1 hc hc1 hc2 ⊢
    rw [Lib.decodeN, if_neg (by omega), if_neg (by omega), if_neg (by omega), if_pos ⟨by omega, ⟨by omega, by omega⟩, ⟨by omega, by omega⟩, by omega, by omega⟩]
    have e : y % 8 * 262144 + x % 64 * 4096 + x2 % 64 * 64 + x3 % 64 = ((y % 8 * 64 + x % 64) * 64 + x2 % 64) * 64 + x3 % 64 := by omega
    rw [if_pos (by omega), e]

/-- The runes of bytes. -/
def runesOf (l : List UInt8) : List Nat := (pieces 0 l).map (·.r)
theorem runesOf_length (l : List UInt8) : (runesOf l).length ≤ l.length := by
  unfold runesOf
  rw [List.length_map]
  exact pieces_length l 0
theorem pieces_r (l : List UInt8) : ∀ a b, (pieces a l).map (·.r) = (pieces b l).map (·.r) := by
  generalize hn : l.length = n
  induction n using Nat.strongRecOn generalizing l with
  | _ n ih =>
    intro a b
    cases l with
    | nil => rw [pieces_nil, pieces_nil]
    | cons c r =>
      have e1 : (pcOf a c r).r = (pcOf b c r).r := by unfold pcOf; split <;> rfl
      have e2 : (pcOf a c r).size = (pcOf b c r).size := by unfold pcOf; split <;> rfl
      rw [pieces_cons, pieces_cons, List.map_cons, List.map_cons, e1, e2]
      congr 1
      exact ih _ (by simp at hn ⊢; omega) _ rfl _ _
theorem runesOf_cons (c : UInt8) (r : List UInt8) : runesOf (c :: r) = (pcOf 0 c r).r :: runesOf (r.drop ((pcOf 0 c r).size - 1)) := by
  unfold runesOf
  rw [pieces_cons, List.map_cons]
  congr 1
  exact pieces_r _ _ _
/-- A mended text. -/
def mendB (l : List UInt8) : List UInt8 := encL (runesOf l)
theorem mendB_le (l : List UInt8) : (mendB l).length ≤ 4 * l.length := by
  have h1 := encL_le (runesOf l)
  have h2 := runesOf_length l
  unfold mendB
  omega
theorem uLen_shape {c : UInt8} (hn : uLen c ≠ 0) : (c.toNat < 128 ∧ uLen c = 1) ∨ (194 ≤ c.toNat ∧ c.toNat ≤ 223 ∧ uLen c = 2) ∨ (224 ≤ c.toNat ∧ c.toNat ≤ 239 ∧ uLen c = 3) ∨ (240 ≤ c.toNat ∧ c.toNat ≤ 244 ∧ uLen c = 4) := by
  unfold uLen at hn ⊢
  repeat' split
  all_goals simp_all
theorem u8_of (n : Nat) (d : UInt8) (h : n = d.toNat) : UInt8.ofNat n = d := by subst h; simp
theorem valid_nat (n : Nat) (h : n < 55296 ∨ (57344 ≤ n ∧ n < 1114112)) : Utf8.valid (n : Int) = true := by
  simp [Utf8.valid]
  omega
/-- A good piece's rune, as bytes, is the piece. -/
theorem enc_good (c : UInt8) (r : List UInt8) (hg : uLen c ≠ 0 ∧ uGood c r = uLen c) : encU (uVal c r) = (c :: r).take (uLen c) := by
  obtain ⟨hn, hr⟩ := hg
  rw [uGood, if_neg hn] at hr
  have hc : c.toNat < 256 := c.toNat_lt
  rcases uLen_shape hn with ⟨hc1, hl⟩ | ⟨hc1, hc2, hl⟩ | ⟨hc1, hc2, hl⟩ | ⟨hc1, hc2, hl⟩
  · rw [uVal, uBase, hl]
    simp only [Nat.sub_self, List.take_zero, uMore, List.foldl_nil, List.take_succ_cons]
    rw [if_neg (by decide), if_neg (by decide), if_neg (by decide), encU_small _ hc1, u8_of _ c rfl]
  · rw [hl] at hr
    obtain ⟨d, r1, rfl, a1, hr1⟩ := run_cons hr (by omega)
    have a1 := uAt_one a1
    rw [uVal, uBase, hl]
    simp only [uMore, Nat.reduceSub, List.take_succ_cons, List.take_zero, List.foldl_cons, List.foldl_nil, if_true]
    have hd : d.toNat < 256 := d.toNat_lt
    rw [encU_N, if_pos (valid_nat _ (by omega)), encN, if_neg (by omega), if_pos (by omega), u8_of _ c (by omega), u8_of _ d (by omega)]
  · rw [hl] at hr
    obtain ⟨d, r1, rfl, a1, hr1⟩ := run_cons hr (by omega)
    obtain ⟨d2, r2, rfl, a2, hr2⟩ := run_cons hr1 (by omega)
    have a1 := uAt_one a1
    have a2 := uAt_more (by omega) a2
    rw [uVal, uBase, hl]
    simp only [uMore, Nat.reduceSub, List.take_succ_cons, List.take_zero, List.foldl_cons, List.foldl_nil, if_true, Nat.reduceEqDiff, if_false]
    have hd : d.toNat < 256 := d.toNat_lt
    have hd2 : d2.toNat < 256 := d2.toNat_lt
    rw [encU_N, if_pos (valid_nat _ (by omega)), encN, if_neg (by omega), if_neg (by omega), if_pos (by omega), u8_of _ c (by omega), u8_of _ d (by omega), u8_of _ d2 (by omega)]
  · rw [hl] at hr
    obtain ⟨d, r1, rfl, a1, hr1⟩ := run_cons hr (by omega)
    obtain ⟨d2, r2, rfl, a2, hr2⟩ := run_cons hr1 (by omega)
    obtain ⟨d3, r3, rfl, a3, hr3⟩ := run_cons hr2 (by omega)
    have a1 := uAt_one a1
    have a2 := uAt_more (by omega) a2
    have a3 := uAt_more (by omega) a3
    rw [uVal, uBase, hl]
    simp only [uMore, Nat.reduceSub, List.take_succ_cons, List.take_zero, List.foldl_cons, List.foldl_nil, if_true, Nat.reduceEqDiff, if_false]
    have hd : d.toNat < 256 := d.toNat_lt
    have hd2 : d2.toNat < 256 := d2.toNat_lt
    have hd3 : d3.toNat < 256 := d3.toNat_lt
    rw [encU_N, if_pos (valid_nat _ (by omega)), encN, if_neg (by omega), if_neg (by omega), if_neg (by omega), u8_of _ c (by omega), u8_of _ d (by omega), u8_of _ d2 (by omega), u8_of _ d3 (by omega)]
/-- A valid text is its own mend. -/
theorem mend_valid (l : List UInt8) (h : validB l = true) : mendB l = l := by
  generalize hn : l.length = n
  induction n using Nat.strongRecOn generalizing l with
  | _ n ih =>
    cases l with
    | nil => unfold mendB runesOf; rw [pieces_nil]; rfl
    | cons c r =>
      rw [validB] at h
      split at h
      · rename_i hg
        have hp : pcOf 0 c r = ⟨uVal c r, 0, uLen c, true⟩ := by rw [pcOf, if_pos hg]
        have := ih _ (by simp at hn ⊢; omega) _ h rfl
        unfold mendB at this ⊢
        rw [runesOf_cons, encL_cons, hp, enc_good c r hg, this]
        obtain ⟨m, hm⟩ : ∃ m, uLen c = m + 1 := ⟨uLen c - 1, by omega⟩
        rw [hm, List.take_succ_cons, List.cons_append, Nat.add_sub_cancel, List.take_append_drop]
      · cases h
/-- Of a wrong piece a decoder says 65533; and the piece is not that rune's. -/
theorem decode_bad (l : List UInt8) (pos : Nat) (c : UInt8) (r : List UInt8) (h : l.drop pos = c :: r) (hg : ¬ (uLen c ≠ 0 ∧ uGood c r = uLen c)) : Utf8.decode (str l) pos = (65533, 1) := by
  have hlen : l.length - pos = r.length + 1 := by have := congrArg List.length h; simpa using this
  have hget : ∀ j, l.getD (pos + j) 0 = (c :: r).getD j 0 := fun j => by
    rw [← h]
    simp [List.getD_eq_getElem?_getD, List.getElem?_drop]
  have h0 := hget 0
  have h1 := hget 1
  have h2 := hget 2
  have h3 := hget 3
  rw [Nat.add_zero] at h0
  rw [Lib.decode_N]
  have hd : (str l).data.toList = l := by simp [str]
  rw [hd, hlen, h0, h1, h2, h3]
  have hc : c.toNat < 256 := c.toNat_lt
  rcases Lib.decodeN_shape (r.length + 1) ((c :: r).getD 0 0).toNat ((c :: r).getD 1 0).toNat ((c :: r).getD 2 0).toNat ((c :: r).getD 3 0).toNat with ⟨h1, e⟩ | ⟨h1, h2, h3, h4, e⟩ | ⟨h1, h2, h3, h4, h5, h6, e⟩ | ⟨h1, h2, h3, h4, h5, h6, h7, e⟩ | e
  · exfalso
    simp only [List.getD_cons_zero] at h1
    have hl : uLen c = 1 := by unfold uLen; rw [if_pos h1]
    refine hg ⟨by omega, ?_⟩
    rw [uGood, if_neg (by omega), hl]
    have := uRun_le c 1 r 1
    have := uRun_max c 1 r 1 (Nat.le_refl _)
    omega
  · exfalso
    rcases r with _ | ⟨d, r⟩
    · simp at h2
    simp only [List.getD_cons_zero, List.getD_cons_succ] at h1 h3 h4
    have hl : uLen c = 2 := by unfold uLen; rw [if_neg (by omega), if_pos (by omega)]
    refine hg ⟨by omega, ?_⟩
    have q1 : uAt c 1 d = true := by rw [uAt, if_pos rfl]; apply decide_eq_true; unfold uLo uHi; refine ⟨?_, ?_⟩ <;> (repeat' split) <;> omega
    rw [uGood, if_neg (by omega), hl, uRun, if_pos ⟨by omega, q1⟩]
    have := uRun_le c 2 r (1 + 1)
    have := uRun_max c 2 r (1 + 1) (Nat.le_refl _)
    omega
  · exfalso
    rcases r with _ | ⟨d, _ | ⟨d2, r⟩⟩
    · simp at h2
    · simp at h2
    simp only [List.getD_cons_zero, List.getD_cons_succ] at h1 h3 h4 h5 h6
    have hl : uLen c = 3 := by unfold uLen; rw [if_neg (by omega), if_neg (by omega), if_pos (by omega)]
    refine hg ⟨by omega, ?_⟩
    have q1 : uAt c 1 d = true := by rw [uAt, if_pos rfl]; apply decide_eq_true; unfold uLo uHi; refine ⟨?_, ?_⟩ <;> (repeat' split) <;> omega
    have q2 : uAt c 2 d2 = true := by rw [uAt, if_neg (by omega)]; apply decide_eq_true; omega
    rw [uGood, if_neg (by omega), hl, uRun, if_pos ⟨by omega, q1⟩, uRun, if_pos ⟨by omega, q2⟩]
    have := uRun_le c 3 r (1 + 1 + 1)
    have := uRun_max c 3 r (1 + 1 + 1) (Nat.le_refl _)
    omega
  · exfalso
    rcases r with _ | ⟨d, _ | ⟨d2, _ | ⟨d3, r⟩⟩⟩
    · simp at h2
    · simp at h2
    · simp at h2
    simp only [List.getD_cons_zero, List.getD_cons_succ] at h1 h3 h4 h5 h6 h7
    have hl : uLen c = 4 := by unfold uLen; rw [if_neg (by omega), if_neg (by omega), if_neg (by omega), if_pos (by omega)]
    refine hg ⟨by omega, ?_⟩
    have q1 : uAt c 1 d = true := by rw [uAt, if_pos rfl]; apply decide_eq_true; unfold uLo uHi; refine ⟨?_, ?_⟩ <;> (repeat' split) <;> omega
    have q2 : uAt c 2 d2 = true := by rw [uAt, if_neg (by omega)]; apply decide_eq_true; omega
    have q3 : uAt c 3 d3 = true := by rw [uAt, if_neg (by omega)]; apply decide_eq_true; omega
    rw [uGood, if_neg (by omega), hl, uRun, if_pos ⟨by omega, q1⟩, uRun, if_pos ⟨by omega, q2⟩, uRun, if_pos ⟨by omega, q3⟩]
    have := uRun_le c 4 r (1 + 1 + 1 + 1)
    have := uRun_max c 4 r (1 + 1 + 1 + 1) (Nat.le_refl _)
    omega
  · exact e
theorem not_fffd (c : UInt8) (r : List UInt8) (hg : ¬ (uLen c ≠ 0 ∧ uGood c r = uLen c)) : (c :: r).take 3 ≠ [239, 191, 189] := by
  intro h
  rcases r with _ | ⟨d, _ | ⟨d2, r⟩⟩
  · simp at h
  · simp at h
  simp at h
  obtain ⟨rfl, rfl, rfl⟩ := h
  have := uRun_le 239 3 r (1 + 1 + 1)
  have := uRun_max 239 3 r (1 + 1 + 1) (Nat.le_refl _)
  have e : uLen 239 = 3 := rfl
  refine hg ⟨by rw [e]; decide, ?_⟩
  rw [uGood, if_neg (by rw [e]; decide), e, uRun, if_pos ⟨by decide, by decide⟩, uRun, if_pos ⟨by decide, by decide⟩]
  omega
end Go.Proofs.YtgkiffodnofggaaGreatDoor
