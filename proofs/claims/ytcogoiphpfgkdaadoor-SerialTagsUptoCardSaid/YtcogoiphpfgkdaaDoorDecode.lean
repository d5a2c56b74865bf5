/-
  The model's decoding of a text, at a good beginning.
-/
import Derived.Test.YtcogoiphpfgkdaaDoorPiecesPlain
import Derived.Test.YtcogoiphpfgkdaaDoorToken
import Derived.Lib.TrimUEq
namespace Go.Proofs.YtcogoiphpfgkdaaDoor
set_option linter.unusedVariables false

theorem uRun_step {c : UInt8} {n k : Nat} {d : UInt8} {r : List UInt8} (h : k < uRun c n k (d :: r)) : k < n ∧ uAt c k d = true := by
  rw [uRun] at h
  split at h
  · assumption
  · omega
theorem uRun_next {c : UInt8} {n k : Nat} {d : UInt8} {r : List UInt8} (h : k < n ∧ uAt c k d = true) : uRun c n k (d :: r) = uRun c n (k + 1) r := by rw [uRun, if_pos h]
theorem run_cons {c : UInt8} {n k : Nat} {r : List UInt8} (h : uRun c n k r = n) (hk : k < n) : ∃ d r', r = d :: r' ∧ uAt c k d = true ∧ uRun c n (k + 1) r' = n := by
  cases r with
  | nil => rw [uRun] at h; omega
  | cons d r' =>
    have hs := uRun_step (by omega : k < uRun c n k (d :: r'))
    rw [uRun_next hs] at h
    exact ⟨d, r', rfl, hs.2, h⟩

theorem uAt_one {c d : UInt8} (h : uAt c 1 d = true) : 128 ≤ d.toNat ∧ d.toNat ≤ 191 ∧ (c.toNat = 224 → 160 ≤ d.toNat) ∧ (c.toNat = 240 → 144 ≤ d.toNat) ∧ (c.toNat = 237 → d.toNat ≤ 159) ∧ (c.toNat = 244 → d.toNat ≤ 143) := by
  rw [uAt, if_pos rfl] at h
  have h := of_decide_eq_true h
  unfold uLo uHi at h
  repeat' split at h
  all_goals omega
theorem uAt_more {c d : UInt8} {k : Nat} (hk : k ≠ 1) (h : uAt c k d = true) : 128 ≤ d.toNat ∧ d.toNat ≤ 191 := by
  rw [uAt, if_neg hk] at h
  exact of_decide_eq_true h
theorem decode_good (l : List UInt8) (pos : Nat) (c : UInt8) (r : List UInt8) (h : l.drop pos = c :: r) (hg : uLen c ≠ 0 ∧ uGood c r = uLen c) : Utf8.decode (str l) pos = (uVal c r, uLen c) := by
  have hlen : l.length - pos = r.length + 1 := by have := congrArg List.length h; simpa using this
  have hget : ∀ j, l.getD (pos + j) 0 = (c :: r).getD j 0 := fun j => by
    rw [← h]
    simp [List.getD_eq_getElem?_getD, List.getElem?_drop]
  have h0 := hget 0
  have h1 := hget 1
  have h2 := hget 2
  have h3 := hget 3
  rw [Nat.add_zero] at h0
  rw [Lib.decode_N]
  have hd : (str l).data.toList = l := by simp [str]
  rw [hd, hlen, h0, h1, h2, h3]
  obtain ⟨hn, hr⟩ := hg
  rw [uGood, if_neg hn] at hr
  have hc : c.toNat < 256 := c.toNat_lt
  have hlc : (c.toNat < 128 ∧ uLen c = 1) ∨ (194 ≤ c.toNat ∧ c.toNat ≤ 223 ∧ uLen c = 2) ∨ (224 ≤ c.toNat ∧ c.toNat ≤ 239 ∧ uLen c = 3) ∨ (240 ≤ c.toNat ∧ c.toNat ≤ 244 ∧ uLen c = 4) := by
    unfold uLen at hn ⊢
    repeat' split
    all_goals simp_all
  rcases hlc with ⟨hc1, hl⟩ | ⟨hc1, hc2, hl⟩ | ⟨hc1, hc2, hl⟩ | ⟨hc1, hc2, hl⟩
  · rw [uVal, uBase, hl]
    simp only [Nat.sub_self, List.take_zero, uMore, List.foldl_nil, List.getD_cons_zero]
    rw [Lib.decodeN, if_pos hc1]
    simp
  · rw [hl] at hr
    obtain ⟨d, r1, rfl, a1, hr1⟩ := run_cons hr (by omega)
    have a1 := uAt_one a1
    rw [uVal, uBase, hl]
    simp only [List.getD_cons_zero, List.getD_cons_succ, uMore, List.length_cons, Nat.reduceSub, List.take_succ_cons, List.take_zero, List.foldl_cons, List.foldl_nil, if_true]
    generalize d.toNat = x at a1 ⊢
    generalize c.toNat = y at a1 hc hc1 hc2 ⊢
    rw [Lib.decodeN, if_neg (by omega), if_pos ⟨by omega, by omega, by omega⟩, if_pos (by omega)]
  · rw [hl] at hr
    obtain ⟨d, r1, rfl, a1, hr1⟩ := run_cons hr (by omega)
    obtain ⟨d2, r2, rfl, a2, hr2⟩ := run_cons hr1 (by omega)
    have a1 := uAt_one a1
    have a2 := uAt_more (by omega) a2
    rw [uVal, uBase, hl]
    simp only [List.getD_cons_zero, List.getD_cons_succ, uMore, List.length_cons, Nat.reduceSub, List.take_succ_cons, List.take_zero, List.foldl_cons, List.foldl_nil, if_true, Nat.reduceEqDiff, if_false]
    generalize d.toNat = x at a1 ⊢
    generalize d2.toNat = x2 at a2 ⊢
    generalize c.toNat = y at a1 hc hc1 hc2 ⊢
    rw [Lib.decodeN, if_neg (by omega), if_neg (by omega), if_pos ⟨by omega, ⟨by omega, by omega⟩, by omega, by omega⟩]
    have e : y % 16 * 4096 + x % 64 * 64 + x2 % 64 = (y % 16 * 64 + x % 64) * 64 + x2 % 64 := by omega
    rw [if_pos (by omega), e]
  · rw [hl] at hr
    obtain ⟨d, r1, rfl, a1, hr1⟩ := run_cons hr (by omega)
    obtain ⟨d2, r2, rfl, a2, hr2⟩ := run_cons hr1 (by omega)
    obtain ⟨d3, r3, rfl, a3, hr3⟩ := run_cons hr2 (by omega)
    have a1 := uAt_one a1
    have a2 := uAt_more (by omega) a2
    have a3 := uAt_more (by omega) a3
    rw [uVal, uBase, hl]
    simp only [List.getD_cons_zero, List.getD_cons_succ, uMore, List.length_cons, Nat.reduceSub, List.take_succ_cons, List.take_zero, List.foldl_cons, List.foldl_nil, if_true, Nat.reduceEqDiff, if_false]
    generalize d.toNat = x at a1 ⊢
    generalize d2.toNat = x2 at a2 ⊢
    generalize d3.toNat = x3 at a3 ⊢
    generalize c.toNat = y at a1 hc hc1 hc2 ⊢
    rw [Lib.decodeN, if_neg (by omega), if_neg (by omega), if_neg (by omega), if_pos ⟨by omega, ⟨by omega, by omega⟩, ⟨by omega, by omega⟩, by omega, by omega⟩]
    have e : y % 8 * 262144 + x % 64 * 4096 + x2 % 64 * 64 + x3 % 64 = ((y % 8 * 64 + x % 64) * 64 + x2 % 64) * 64 + x3 % 64 := by omega
    rw [if_pos (by omega), e]
end Go.Proofs.YtcogoiphpfgkdaaDoor
