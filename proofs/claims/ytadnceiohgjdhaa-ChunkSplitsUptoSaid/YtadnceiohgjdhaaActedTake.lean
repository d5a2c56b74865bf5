/-
  The law's own acted: Take; any act; NewBuffer.
-/
import Derived.Test.YtadnceiohgjdhaaActed
namespace Go.Proofs.Ytadnceiohgjdhaa
open Go.RowKit
set_option linter.unusedVariables false
set_option linter.unusedSimpArgs false

section
variable {w : World} {b g rb rg : Nat} {S SR H HR : Nat → Prop} {x : Buf}

set_option maxHeartbeats 16000000 in
set_option maxRecDepth 100000 in
/-- Take -/
theorem acted_take (n : Nat) (h : Both w b g rb rg S SR H HR x x) (hn : n ≤ x.size) :
    Calls Try.prog 42 #[.pointer (some ⟨b, 0, none⟩), .pointer (some ⟨rb, 0, none⟩), .agg #[.int .i64 1, .int .i64 n]] w (ActedGives b g rb rg S SR H HR w) := by
  have HH := Lib.hid (h.behind ((Below.refl _ w).alloc (Nat.le_refl _) (.cells #[.int .i64 1, .int .i64 n] 87)))
  have HL := Lib.hid h.all_lt
  obtain ⟨l0, e0, y, hr0⟩ : ∃ l e y, x.peek n = ((l, e), y) := ⟨_, _, _, rfl⟩
  obtain ⟨l, e1, z, hr⟩ : ∃ l e z, y.takeB n = ((l, e), z) := ⟨_, _, _, rfl⟩
  have hys : y.size = x.size := by
    have := (Buf.pulled_ok (n := n) h.p.ok (em := 0) (by omega)).2.1
    have h2 : (x.peek n).2 = (x.pulled n 0).2 := rfl
    rw [hr0] at h2
    rw [← this, ← h2]
  have HR0 := Lib.hid hr0
  have HR1 := Lib.hid hr
  have hny : n ≤ y.size := by omega
  have d1 : decide ((n : Int) < 0) = false := by simp
  have d2 : decide (y.size < n) = false := by simp; omega
  have d3 : decide ((y.size : Int) < (n : Int)) = false := by simp; omega
  have d4 : decide (x.size < n) = false := by simp; omega
  have d5 : decide ((x.size : Int) < (n : Int)) = false := by simp; omega
  clear h hr hr0 hys
  go_enter Try.func42, Try.ntmps42
  go_wp2_with fail
  refine (bufPeek_any n HH.out.p hn).mono ?_
  rintro e w1 ⟨v, rfl, g1⟩
  rw [HR0.out] at g1
  obtain ⟨A1, c1, H1, rfl, ho1, hb1, hd1, hk1, hs1⟩ := HH.out.stepP g1
  have O1 := Lib.hid ho1
  have B1 := Lib.hid hb1
  have D1 := Lib.hid hd1
  have K1 := Lib.hid hk1
  have S1 := Lib.hid hs1
  have X1 := (Blk.new w 87 #[.int .i64 1, .int .i64 n]).keep hk1 (fun h => Nat.lt_irrefl _ (HL.out _ (both_p h)))
  have a0 : w1.cell? ⟨w.heap.size, 0, none⟩ = some (.int .i64 1) := X1.cell 0
  have a1 : w1.cell? ⟨w.heap.size, 1, none⟩ = some (.int .i64 n) := X1.cell 1
  have X := Lib.hid X1
  clear g1 ho1 hb1 hd1 hk1 hs1 X1
  go_wp2_with fail
  refine (alike_any _ (fun _ => True) _ _ _ _ _ _ [] _ _ _ O1.out Row.none_).mono ?_
  rintro e w2 ⟨rfl, hk2⟩
  have l2 := hk2.size
  have l1 := K1.out.size
  have B2 := Lib.hid (B1.out.keep hk2 (fun k h1 h2 => D1.out k h2 h1))
  have X2 := X.out.keep hk2 (fun h => by have := (O1.out.lt _ h).1; simp at this <;> omega)
  have b1 : w2.cell? ⟨w.heap.size, 1, none⟩ = some (.int .i64 n) := X2.cell 1
  have XX2 := Lib.hid X2
  have K2 := Lib.hid (((Keep.refl _ w).alloc _).trans_ K1.out (fun i _ h => both_p (g := g) (b := b) (rb := rb) (rg := rg) (S := S) (SR := SR) (HR := HR) h) |>.trans_ hk2 (fun i hi h => by have := (O1.out.lt _ h).1; simp at this; omega))
  generalize alikeB e0 l0 0 [] = al
  clear hk2 X2 a0 a1
  go_wp2_with fail
  refine (bufTake_any n B2.out.p hny).mono ?_
  rintro e w3 ⟨v, rfl, g3⟩
  rw [HR1.out] at g3
  obtain ⟨A3, c3, H3, rfl, ho3, hb3, hd3, hk3, hs3⟩ := B2.out.stepP g3
  have O3 := Lib.hid ho3
  have B3 := Lib.hid hb3
  have D3 := Lib.hid hd3
  have S3 := Lib.hid (show ∀ k, H3 k → H k ∨ w.heap.size ≤ k from fun k h => by
    rcases hs3 k h with h | h
    · rcases S1.out k h with h | h
      · exact .inl h
      · simp at h; exact .inr (by omega)
    · simp at l1; exact .inr (by omega))
  have K3 := Lib.hid (K2.out.trans_ hk3 (fun i hi h => by
    rcases h with h | h | h
    · exact .inl (.inl h)
    · exact .inl (.inr (.inl h))
    · rcases S1.out i h with h | h
      · exact .inl (.inr (.inr (.inr h)))
      · simp at h; omega))
  have l3 := hk3.size
  have X3 := XX2.out.keep hk3 (fun h => by
    rcases h with h | h | h
    · exact Nat.lt_irrefl _ (HL.out _ (.inl (.inl h)))
    · exact Nat.lt_irrefl _ (HL.out _ (.inl (.inr (.inl h))))
    · rcases S1.out _ h with h | h
      · exact Nat.lt_irrefl _ (HL.out _ (.inl (.inr (.inr (.inr h)))))
      · simp at h <;> omega)
  have f0 : w3.cell? ⟨w.heap.size, 0, none⟩ = some (.int .i64 1) := X3.cell 0
  have f1 : w3.cell? ⟨w.heap.size, 1, none⟩ = some (.int .i64 n) := X3.cell 1
  obtain ⟨Ar, cr, hrb, _⟩ := hb3.r.blk
  have xr : w3.cell? ⟨rb, 1, none⟩ = some (.int .i64 x.size) := hrb.cell 1
  have XX3 := Lib.hid X3
  clear g3 ho3 hb3 hd3 hk3 hs3 X3 hrb b1
  go_wp2_with fail
  go_quiet (fail)
  rename_i nq
  go_wp2_with fail
  refine (rbufPeek_any n (B3.out.keep (Keep.drewN (Keep.refl (fun _ => False) _) _) (fun _ _ => id)).r hn).mono ?_
  rintro e w4 ⟨v, rfl, g4⟩
  rw [HR0.out] at g4
  obtain ⟨A4, c4, H4, rfl, hr4, ho4, hb4, hd4, hk4, hs4⟩ := (B3.out.keep (Keep.drewN (Keep.refl (fun _ => False) _) nq) (fun _ _ => id)).second (own_drewN O3.out _) D3.out g4
  have O4 := Lib.hid ho4
  have B4 := Lib.hid hb4
  have D4 := Lib.hid hd4
  have l4 : w3.heap.size ≤ w4.heap.size := hk4.size
  have K4 := Lib.hid ((K3.out.drewN nq).trans_ hk4 (fun i _ h => both_r h))
  have S4 := Lib.hid (show ∀ k, H4 k → HR k ∨ w.heap.size ≤ k from fun k h => by
    rcases hs4 k h with h | h
    · exact .inl h
    · have h' : w3.heap.size ≤ k := h
      simp at l1; exact .inr (by omega))
  have X4 := (XX3.out.drewN nq).keep hk4 (fun h => Nat.lt_irrefl _ (HL.out _ (both_r h)))
  have h0 : w4.cell? ⟨w.heap.size, 0, none⟩ = some (.int .i64 1) := X4.cell 0
  have h1 : w4.cell? ⟨w.heap.size, 1, none⟩ = some (.int .i64 n) := X4.cell 1
  clear g4 hr4 ho4 hb4 hd4 hk4 hs4 X4 f0 f1 xr
  go_wp2_with fail
  refine (rbufTake_any n B4.out.r hny).mono ?_
  rintro e w5 ⟨v, rfl, g5⟩
  rw [HR1.out] at g5
  obtain ⟨A5, c5, H5, rfl, hr5, ho5, hb5, hd5, hk5, hs5⟩ := B4.out.second O4.out D4.out g5
  have R5 := Lib.hid hr5
  have O5 := Lib.hid ho5
  have B5 := Lib.hid hb5
  have D5 := Lib.hid hd5
  have K5 := Lib.hid (K4.out.trans_ hk5 (fun i hi h => by
    rcases h with h | h | h
    · exact .inr (.inl h)
    · exact .inr (.inr (.inl h))
    · rcases S4.out i h with h | h
      · exact .inr (.inr (.inr (.inr h)))
      · omega))
  have S5 := Lib.hid (show ∀ k, H5 k → HR k ∨ w.heap.size ≤ k from fun k h => by
    rcases hs5 k h with h | h
    · exact S4.out k h
    · simp at l1; exact .inr (by omega))
  clear g5 hr5 ho5 hb5 hd5 hk5 hs5 h0 h1
  go_wp2_with fail
  refine (alike_any _ _ _ _ _ _ _ _ _ _ _ _ O5.out R5.out).mono ?_
  rintro e w6 ⟨rfl, hk6⟩
  rw [alikeB_refl']
  have K6 := Lib.hid hk6
  clear hk6
  go_wp2_with fail
  go_ret
  exact acted_done B5.out D5.out O5.out K6.out S3.out S5.out (by simp at l1; omega) K5.out

/-- Any act. -/
theorem acted_any (kd n : Int) (h : Both w b g rb rg S SR H HR x x) :
    Calls Try.prog 42 #[.pointer (some ⟨b, 0, none⟩), .pointer (some ⟨rb, 0, none⟩), .agg #[.int .i64 kd, .int .i64 n]] w (ActedGives b g rb rg S SR H HR w) := by
  by_cases hk : kd = 0 ∨ kd = 1
  · by_cases hn : n < 0 ∨ (x.size : Int) < n
    · exact acted_bad kd n h hk hn
    · obtain ⟨m, rfl⟩ : ∃ m : Nat, n = m := ⟨n.toNat, by omega⟩
      rcases hk with rfl | rfl
      · exact acted_peek m h (by omega)
      · exact acted_take m h (by omega)
  · by_cases h2 : kd = 2
    · subst h2
      exact acted_until n h
    · by_cases h3 : kd = 3
      · subst h3
        exact acted_rest n h
      · exact acted_other kd n h (by omega) (by omega) h2 h3
end

/-! ## NewBuffer -/
set_option maxHeartbeats 2000000 in
theorem newBuffer_nil (n : Int) (w : World) : Calls Try.prog 35 #[.pointer none, .int .i64 n] w fun e w' => e = .returned (.tuple #[.pointer none, .int .i64 2]) ∧ w = w' := by
  have k : Calls Try.prog 46 #[.pointer none] w fun e w' => e = .returned (.bool false) ∧ w = w' := by
    have hq : ∀ w : World, (binOp .neq 46 (.pointer none) (.pointer none)).run Try.prog w = .ok (.bool false) w := fun w => by kernel_rfl
    go_enter Try.func46, Try.ntmps46
    go_wp2
    go_ret
    exact ⟨rfl, rfl⟩
  have K := Lib.hid k
  clear k
  go_enter Try.func35, Try.ntmps35
  go_wp2_with (go_at_call 46; refine K.out.mono ?_; rintro e w1 ⟨rfl, rfl⟩)
  go_ret2
  exact ⟨rfl, rfl⟩
set_option maxHeartbeats 4000000 in
theorem newBuffer_arg {S : Nat → Prop} {w : World} {g : Nat} {s : Src} (n : Int) (h : IsSrc S w g s) (hn : n < 1 ∨ 16777216 < n) :
    Calls Try.prog 35 #[.pointer (some ⟨g, 0, none⟩), .int .i64 n] w fun e w' => e = .returned (.tuple #[.pointer none, .int .i64 1]) ∧ w = w' := by
  have HH := Lib.hid h
  clear h
  by_cases h0 : n < 1
  · have d : decide (n < 1) = true := by simpa using h0
    clear hn
    go_enter Try.func35, Try.ntmps35
    go_wp2_with (go_at_call 46; refine (srcIs_any HH.out).mono ?_; rintro e w1 ⟨rfl, rfl⟩)
    go_ret2
    exact ⟨rfl, rfl⟩
  · have h1 := hn.resolve_left h0
    have d : decide (n < 1) = false := by simpa using h0
    have d1 : decide (16777216 < n) = true := by simpa using h1
    clear hn
    go_enter Try.func35, Try.ntmps35
    go_wp2_with (go_at_call 46; refine (srcIs_any HH.out).mono ?_; rintro e w1 ⟨rfl, rfl⟩)
    go_ret2
    exact ⟨rfl, rfl⟩
/-- A new buffer over a source that has told nothing. -/
def Buf.new (s : Src) (n : Nat) : Buf := ⟨s, n, [], 0⟩
set_option maxHeartbeats 4000000 in
theorem newBuffer_any {S : Nat → Prop} {w : World} {g : Nat} {s : Src} (n : Nat) (h : IsSrc S w g s) (hs : s.ok) (h0 : s.told = 0) (hl : ∀ k, S k → k < w.heap.size) (h1 : 1 ≤ n) (h2 : n ≤ 16777216) :
    Calls Try.prog 35 #[.pointer (some ⟨g, 0, none⟩), .int .i64 n] w fun e w' => e = .returned (.tuple #[.pointer (some ⟨w.heap.size, 0, none⟩), .int .i64 0]) ∧ IsBuf (fun _ => False) S w' w.heap.size g (Buf.new s n) ∧ Below w.heap.size w w' ∧ w'.heap.size = w.heap.size + 1 := by
  have HH := Lib.hid h
  have HS := Lib.hid hs
  have HL := Lib.hid hl
  have H0 := Lib.hid h0
  have lg := h.lt
  have d : decide ((n : Int) < 1) = false := by simp; omega
  have d1 : decide (16777216 < (n : Int)) = false := by simp; omega
  have d2 : decide (n < 1) = false := by simp; omega
  have d3 : decide (16777216 < n) = false := by simp; omega
  clear h hs hl h0
  go_enter Try.func35, Try.ntmps35
  go_wp2_with (go_at_call 46; refine (srcIs_any HH.out).mono ?_; rintro e w1 ⟨rfl, rfl⟩)
  go_ret2
  refine ⟨rfl, ⟨⟨none, 0, Blk.new w _ _, Win.nil⟩, HH.out.behind ((Below.refl _ w).alloc (Nat.le_refl _) _), by omega, fun h => Nat.lt_irrefl _ (HL.out _ h), fun k h => by have := HL.out k h; simp; omega, fun _ h => h.elim, HS.out, h1, h2, Nat.zero_le _, by rw [show (Buf.new s n).src = s from rfl, H0.out]; rfl⟩, (Below.refl _ w).alloc (Nat.le_refl _) _, by simp⟩

end Go.Proofs.Ytadnceiohgjdhaa
