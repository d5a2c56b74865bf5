/-
  The runes that a range over a string tells, as plain data: how many are 60, whether one is 160.
-/
import Derived.Test.YtcogoiphpfgkdaaDoorBase
import Derived.Lib.TrimUEq
import Derived.Lib.MapLaws
import Derived.Lib.RuneCount
namespace Go.Proofs.YtcogoiphpfgkdaaDoor
open Go Go.Lib
set_option linter.unusedVariables false

/-- Does no 160 stand behind a 194? -/
def qB : List UInt8 → Bool
  | [] => true
  | [_] => true
  | c :: d :: r => !(c.toNat == 194 && d.toNat == 160) && qB (d :: r)
/-- How many bytes are 60. -/
def n60 (l : List UInt8) : Nat := l.countP fun c => c.toNat == 60
theorem n60_append (a b : List UInt8) : n60 (a ++ b) = n60 a + n60 b := by simp [n60]
theorem n60_cons (c : UInt8) (r : List UInt8) : n60 (c :: r) = n60 r + if c.toNat = 60 then 1 else 0 := by simp [n60, List.countP_cons]

theorem qB_cons (c : UInt8) (r : List UInt8) (h : c.toNat ≠ 194) : qB (c :: r) = qB r := by
  cases r with
  | nil => rfl
  | cons d r => simp [qB, h]
theorem qB_append (a b : List UInt8) (ha : qB a = true) (hb : qB b = true) (h : a.getLast?.map (·.toNat) ≠ some 194 ∨ b.head?.map (·.toNat) ≠ some 160) : qB (a ++ b) = true := by
  induction a with
  | nil => exact hb
  | cons c a ih =>
    cases a with
    | nil =>
      cases b with
      | nil => rfl
      | cons d b =>
        simp only [List.cons_append, List.nil_append, qB, hb, Bool.and_true]
        simp at h
        simp
        omega
    | cons d a =>
      simp only [List.cons_append, qB, Bool.and_eq_true] at ha ⊢
      exact ⟨ha.1, ih ha.2 (by simpa using h)⟩
theorem qB_left (a b : List UInt8) (h : qB (a ++ b) = true) : qB a = true := by
  induction a with
  | nil => rfl
  | cons c a ih =>
    cases a with
    | nil => rfl
    | cons d a =>
      simp only [List.cons_append, qB, Bool.and_eq_true] at h ⊢
      exact ⟨h.1, ih h.2⟩
theorem qB_right (a b : List UInt8) (h : qB (a ++ b) = true) : qB b = true := by
  induction a with
  | nil => exact h
  | cons c a ih =>
    refine ih ?_
    cases hab : a ++ b with
    | nil => rfl
    | cons d r =>
      rw [List.cons_append, hab] at h
      simp only [qB, Bool.and_eq_true] at h
      exact h.2

/-- What one step of a range says. -/
theorem dec_facts (c : UInt8) (r : List UInt8) : 1 ≤ (decodeL (c :: r)).2 ∧ (decodeL (c :: r)).2 ≤ r.length + 1 ∧ n60 ((c :: r).take (decodeL (c :: r)).2) = (if (decodeL (c :: r)).1 = 60 then 1 else 0) ∧
    qB (c :: r) = (!(decodeL (c :: r)).1 == 160 && qB ((c :: r).drop (decodeL (c :: r)).2)) := by
  have hc : c.toNat < 256 := c.toNat_lt
  have hq1 : ∀ d r', r = d :: r' → c.toNat = 194 → d.toNat = 160 → decodeN (c :: r).length c.toNat d.toNat ((c :: r).getD 2 0).toNat ((c :: r).getD 3 0).toNat = (160, 2) := by
    rintro d r' rfl h1 h2
    rw [h1, h2, decodeN, if_neg (by omega), if_pos (by simp)]
    simp
  rw [decodeL_N]
  rcases decodeN_shape (c :: r).length ((c :: r).getD 0 0).toNat ((c :: r).getD 1 0).toNat ((c :: r).getD 2 0).toNat ((c :: r).getD 3 0).toNat with ⟨h1, e⟩ | ⟨h1, h2, h3, h4, e⟩ | ⟨h1, h2, h3, h4, h5, h6, e⟩ | ⟨h1, h2, h3, h4, h5, h6, h7, e⟩ | e
  · rw [e]
    simp only [List.getD_cons_zero] at h1
    simp only [List.getD_cons_zero, List.take_succ_cons, List.take_zero, List.drop_succ_cons, List.drop_zero, n60_cons]
    refine ⟨Nat.le_refl _, by omega, by simp [n60], ?_⟩
    rw [qB_cons _ _ (by omega)]
    have : (c.toNat == 160) = false := by simp; omega
    simp [this]
  · rcases r with _ | ⟨d, r⟩
    · simp at h2
    rw [e]
    simp only [List.getD_cons_zero, List.getD_cons_succ] at h1 h3 h4 ⊢
    have hd : d.toNat < 256 := d.toNat_lt
    simp only [List.take_succ_cons, List.take_zero, List.drop_succ_cons, List.drop_zero, n60_cons, List.length_cons]
    refine ⟨by omega, by omega, ?_, ?_⟩
    · rw [if_neg (by omega), if_neg (by omega), if_neg (by omega)]; rfl
    · rw [qB, qB_cons d r (by omega)]
      congr 1
      have : (c.toNat == 194 && d.toNat == 160) = (c.toNat % 32 * 64 + d.toNat % 64 == 160) := by
        rw [Bool.eq_iff_iff]
        simp
        omega
      rw [this]
  · rcases r with _ | ⟨d, _ | ⟨d2, r⟩⟩
    · simp at h2
    · simp at h2
    rw [e]
    simp only [List.getD_cons_zero, List.getD_cons_succ] at h1 h3 h4 h5 h6 ⊢
    have hd : d.toNat < 256 := d.toNat_lt
    have hd2 : d2.toNat < 256 := d2.toNat_lt
    simp only [List.take_succ_cons, List.take_zero, List.drop_succ_cons, List.drop_zero, n60_cons, List.length_cons]
    refine ⟨by omega, by omega, ?_, ?_⟩
    · rw [if_neg (by omega), if_neg (by omega), if_neg (by omega), if_neg (by omega)]; rfl
    · rw [qB_cons c _ (by omega), qB_cons d _ (by omega), qB_cons d2 _ (by omega)]
      simp
      omega
  · rcases r with _ | ⟨d, _ | ⟨d2, _ | ⟨d3, r⟩⟩⟩
    · simp at h2
    · simp at h2
    · simp at h2
    rw [e]
    simp only [List.getD_cons_zero, List.getD_cons_succ] at h1 h3 h4 h5 h6 h7 ⊢
    have hd : d.toNat < 256 := d.toNat_lt
    have hd2 : d2.toNat < 256 := d2.toNat_lt
    have hd3 : d3.toNat < 256 := d3.toNat_lt
    simp only [List.take_succ_cons, List.take_zero, List.drop_succ_cons, List.drop_zero, n60_cons, List.length_cons]
    refine ⟨by omega, by omega, ?_, ?_⟩
    · rw [if_neg (by omega), if_neg (by omega), if_neg (by omega), if_neg (by omega), if_neg (by omega)]; rfl
    · rw [qB_cons c _ (by omega), qB_cons d _ (by omega), qB_cons d2 _ (by omega), qB_cons d3 _ (by omega)]
      simp
      omega
  · have h0 : ¬ c.toNat < 128 := fun h => by
      rw [List.getD_cons_zero, decodeN_ascii _ _ _ _ _ h] at e
      injection e with e1
      omega
    rw [e]
    simp only [List.take_succ_cons, List.take_zero, List.drop_succ_cons, List.drop_zero, n60_cons]
    refine ⟨Nat.le_refl _, by omega, ?_, ?_⟩
    · rw [if_neg (by omega), if_neg (by omega)]; rfl
    · rcases r with _ | ⟨d, r⟩
      · rfl
      · have : (c.toNat == 194 && d.toNat == 160) = false := by
          rw [Bool.eq_false_iff]
          intro h
          simp at h
          have h2 := hq1 d r rfl h.1 h.2
          simp only [List.getD_cons_zero, List.getD_cons_succ] at e h2
          rw [e] at h2
          injection h2 with h2
          omega
        rw [qB, this]
        rfl

/-- The runes of a range. -/
def rns (l : List UInt8) : List Nat :=
  match l with
  | [] => []
  | c :: r => (decodeL (c :: r)).1 :: rns ((c :: r).drop (decodeL (c :: r)).2)
termination_by l.length
decreasing_by
  have := dec_facts c r
  rw [List.length_drop, List.length_cons]
  omega
theorem rns_nil : rns [] = [] := by rw [rns]
theorem rns_cons (c : UInt8) (r : List UInt8) : rns (c :: r) = (decodeL (c :: r)).1 :: rns ((c :: r).drop (decodeL (c :: r)).2) := by rw [rns]
/-- As many runes are 60 as bytes are; one is 160 just where a 160 stands behind a 194. -/
theorem rns_facts (l : List UInt8) : (rns l).count 60 = n60 l ∧ (160 ∈ rns l ↔ qB l = false) := by
  generalize hn : l.length = n
  induction n using Nat.strongRecOn generalizing l with
  | _ n ih =>
    cases l with
    | nil => simp [rns_nil, n60, qB]
    | cons c r =>
      obtain ⟨h1, h2, h3, h4⟩ := dec_facts c r
      obtain ⟨h5, h6⟩ := ih ((c :: r).drop (decodeL (c :: r)).2).length (by rw [List.length_drop, List.length_cons] at *; omega) _ rfl
      rw [rns_cons]
      refine ⟨?_, ?_⟩
      · rw [List.count_cons, h5]
        conv => rhs; rw [← List.take_append_drop (decodeL (c :: r)).2 (c :: r), n60_append, h3]
        simp only [beq_iff_eq]
        omega
      · rw [List.mem_cons, h6, h4]
        generalize (decodeL (c :: r)).1 = z
        generalize qB ((c :: r).drop (decodeL (c :: r)).2) = b
        cases b <;> simp <;> omega
end Go.Proofs.YtcogoiphpfgkdaaDoor
