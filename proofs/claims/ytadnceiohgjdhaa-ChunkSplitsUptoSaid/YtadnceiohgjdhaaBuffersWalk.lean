/-
  ChunkBuffers: the walk.
-/
import Derived.Test.YtadnceiohgjdhaaActedTake
import Derived.Test.YtadnceiohgjdhaaReadsWalk
import Derived.Test.YtadnceiohgjdhaaPlan2
namespace Go.Proofs.Ytadnceiohgjdhaa
open Go.RowKit
set_option linter.unusedVariables false
set_option linter.unusedSimpArgs false

/-- A slice of acts that is read. -/
def Acts (S : Nat → Prop) (w : World) (A : Option Addr) (n : Nat) (L : List (Int × Int)) : Prop :=
  L.length = n ∧ ∀ (k : Nat) (p : Int × Int), L[k]? = some p → ∃ ad, A = some ad ∧ S ad.block ∧ w.cell? (ad.add (k * 2)) = some (.int .i64 p.1) ∧ w.cell? (ad.add (k * 2 + 1)) = some (.int .i64 p.2)
theorem Acts.behind {S : Nat → Prop} {w w' : World} {A : Option Addr} {n : Nat} {L : List (Int × Int)} (h : Acts S w A n L) (hS : ∀ k, S k → k < w.heap.size) (hb : Below w.heap.size w w') : Acts S w' A n L :=
  ⟨h.1, fun k p hk => by
    obtain ⟨ad, e, hs, h0, h1⟩ := h.2 k p hk
    exact ⟨ad, e, hs, (hb.cell (by rw [addr_block]; exact hS _ hs)).trans h0, (hb.cell (by rw [addr_block]; exact hS _ hs)).trans h1⟩⟩
theorem Acts.get {S : Nat → Prop} {w : World} {A : Option Addr} {n : Nat} {L : List (Int × Int)} (h : Acts S w A n L) {k : Nat} (hk : k < n) : ∃ ad kd z, A = some ad ∧ S ad.block ∧ L[k]? = some (kd, z) ∧ w.cell? (ad.add (k * 2)) = some (.int .i64 kd) ∧ w.cell? ⟨(ad.add (k * 2)).block, (ad.add (k * 2)).off + 1, none⟩ = some (.int .i64 z) := by
  have hl := h.1
  obtain ⟨ad, e, hs, h0, h1⟩ := h.2 k L[k] (List.getElem?_eq_getElem (by omega))
  refine ⟨ad, _, _, e, hs, List.getElem?_eq_getElem (by omega), h0, ?_⟩
  rw [← addr_one, addr_add]
  exact h1

theorem eql_buf_nil : ∀ w : World, (binOp .eql 68 (.pointer none) (.pointer none)).run Try.prog w = .ok (.bool true) w := fun w => by kernel_rfl
theorem eql_buf (g : Nat) : ∀ w : World, (binOp .eql 68 (.pointer (some ⟨g, 0, none⟩)) (.pointer none)).run Try.prog w = .ok (.bool false) w := fun w => by kernel_rfl

section
variable (A B : Option Addr) (n c m d : Nat) (z : Int) (L : List Stp) (acts : List (Int × Int)) (w : World)

set_option maxHeartbeats 8000000 in
set_option maxRecDepth 100000 in
/-- a script that is too large -/
theorem chunkBuffers_large (hA : Steps (fun k => k < w.heap.size) w A n L) (hn : n ≤ 1048576) (ht : total L ≤ 1048576) (hlg : large L = true) :
    Calls Try.prog 11 #[.slice A n c, .int .i64 z, .slice B m d] w fun e w' => e = .returned (.bool true) ∧ Below w.heap.size w w' := by
  have hLn := hA.1
  have k1 := fun (S : Nat → Prop) W h => steps_any S A n c L W h (by omega)
  have k2 := fun (S : Nat → Prop) A' c' W h => new_any S A' n c' L W h (by omega)
  have k3 := fun (S : Nat → Prop) W h => large_any S A n c L W h (by omega)
  rw [hlg] at k3
  have K1 := Lib.hid k1
  have K2 := Lib.hid k2
  have K3 := Lib.hid k3
  have HA := Lib.hid hA
  have HLn := Lib.hid hLn
  have HLG := Lib.hid hlg
  have hq := eql_buf_nil
  clear k1 k2 k3 hA hLn hlg ht
  go_enter Try.func11, Try.ntmps11
  go_wp2_with fail
  refine (K1.out _ _ HA.out).mono ?_
  rintro e w1 ⟨vx, rfl, hx, hb1⟩
  obtain ⟨Ax, cx, hvx, _, _⟩ := hx.form
  rw [HLn.out] at hvx
  subst hvx
  have Hx := Lib.hid hx
  have B1 := Lib.hid hb1
  clear hx hb1
  go_wp2_with fail
  refine (K2.out _ _ _ _ Hx.out.steps).mono ?_
  rintro e w2 ⟨v, rfl, hb2, hcase⟩
  rcases hcase with ⟨_, rfl⟩ | ⟨hf, _⟩
  case inr => have := HLG.out; rw [hf] at this; cases this
  have B2 := Lib.hid (B1.out.trans (hb2.mono B1.out.size))
  clear hb2
  go_wp2_with fail
  refine (newBuffer_nil z _).mono ?_
  rintro e w3 ⟨rfl, rfl⟩
  go_wp2_with (first
    | (go_at_call 26; refine (K3.out _ _ (HA.out.behind B2.out)).mono ?_; rintro e w3 ⟨rfl, hb3⟩)
    | (go_at_call 13; refine (num_any _ _).mono ?_; rintro e w4 ⟨rfl, rfl⟩)
    | (go_at_call 14; refine (awake_any _).mono ?_; rintro e w5 ⟨rfl, hb5⟩))
  go_ret
  exact ⟨rfl, (B2.out.trans (hb3.mono B2.out.size)).trans (hb5.mono (Nat.le_trans B2.out.size hb3.size))⟩

set_option maxHeartbeats 8000000 in
set_option maxRecDepth 100000 in
/-- a size that may not be -/
theorem chunkBuffers_few (hA : Steps (fun k => k < w.heap.size) w A n L) (hn : n ≤ 1048576) (ht : total L ≤ 1048576) (hlg : large L = false) (hz : z < 1) :
    Calls Try.prog 11 #[.slice A n c, .int .i64 z, .slice B m d] w fun e w' => e = .returned (.bool true) ∧ Below w.heap.size w w' := by
  have hLn := hA.1
  have k1 := fun (S : Nat → Prop) W h => steps_any S A n c L W h (by omega)
  have k2 := fun (S : Nat → Prop) A' c' W h => new_any S A' n c' L W h (by omega)
  have k3 := fun (S : Nat → Prop) W h => large_any S A n c L W h (by omega)
  rw [hlg] at k3
  have K1 := Lib.hid k1
  have K2 := Lib.hid k2
  have K3 := Lib.hid k3
  have HA := Lib.hid hA
  have HLn := Lib.hid hLn
  have HLG := Lib.hid hlg
  have HZ := Lib.hid (show z < 1 ∨ 16777216 < z by omega)
  have d1 : decide (z < 1) = true := by simp; omega
  have d2 : True := trivial
  have hq := eql_buf_nil
  clear k1 k2 k3 hA hLn hlg ht
  go_enter Try.func11, Try.ntmps11
  go_wp2_with fail
  refine (K1.out _ _ HA.out).mono ?_
  rintro e w1 ⟨vx, rfl, hx, hb1⟩
  obtain ⟨Ax, cx, hvx, _, _⟩ := hx.form
  rw [HLn.out] at hvx
  subst hvx
  have Hx := Lib.hid hx
  have B1 := Lib.hid hb1
  clear hx hb1
  go_wp2_with fail
  refine (K2.out _ _ _ _ Hx.out.steps).mono ?_
  rintro e w2 ⟨v, rfl, hb2, hcase⟩
  rcases hcase with ⟨hf, _⟩ | ⟨_, g, rfl, hg, hsrc⟩
  case inl => have := HLG.out; rw [hf] at this; cases this
  have B2 := Lib.hid (B1.out.trans (hb2.mono B1.out.size))
  have G2 := Lib.hid hsrc
  clear hb2 hsrc
  go_wp2_with fail
  refine (newBuffer_arg z G2.out HZ.out).mono ?_
  rintro e w3 ⟨rfl, rfl⟩
  go_wp2_with (first
    | (go_at_call 26; refine (K3.out _ _ (HA.out.behind B2.out)).mono ?_; rintro e w3 ⟨rfl, hb3⟩)
    | (go_at_call 13; refine (num_any _ _).mono ?_; rintro e w4 ⟨rfl, rfl⟩)
    | (go_at_call 14; refine (awake_any _).mono ?_; rintro e w5 ⟨rfl, hb5⟩))
  go_ret
  exact ⟨rfl, (B2.out.trans (hb3.mono B2.out.size)).trans (hb5.mono (Nat.le_trans B2.out.size hb3.size))⟩
set_option maxHeartbeats 8000000 in
set_option maxRecDepth 100000 in
/-- a size that may not be -/
theorem chunkBuffers_many (hA : Steps (fun k => k < w.heap.size) w A n L) (hn : n ≤ 1048576) (ht : total L ≤ 1048576) (hlg : large L = false) (hz : 16777216 < z) :
    Calls Try.prog 11 #[.slice A n c, .int .i64 z, .slice B m d] w fun e w' => e = .returned (.bool true) ∧ Below w.heap.size w w' := by
  have hLn := hA.1
  have k1 := fun (S : Nat → Prop) W h => steps_any S A n c L W h (by omega)
  have k2 := fun (S : Nat → Prop) A' c' W h => new_any S A' n c' L W h (by omega)
  have k3 := fun (S : Nat → Prop) W h => large_any S A n c L W h (by omega)
  rw [hlg] at k3
  have K1 := Lib.hid k1
  have K2 := Lib.hid k2
  have K3 := Lib.hid k3
  have HA := Lib.hid hA
  have HLn := Lib.hid hLn
  have HLG := Lib.hid hlg
  have HZ := Lib.hid (show z < 1 ∨ 16777216 < z by omega)
  have d1 : decide (z < 1) = false := by simp; omega
  have d2 : decide (16777216 < z) = true := by simpa using hz
  have hq := eql_buf_nil
  clear k1 k2 k3 hA hLn hlg ht
  go_enter Try.func11, Try.ntmps11
  go_wp2_with fail
  refine (K1.out _ _ HA.out).mono ?_
  rintro e w1 ⟨vx, rfl, hx, hb1⟩
  obtain ⟨Ax, cx, hvx, _, _⟩ := hx.form
  rw [HLn.out] at hvx
  subst hvx
  have Hx := Lib.hid hx
  have B1 := Lib.hid hb1
  clear hx hb1
  go_wp2_with fail
  refine (K2.out _ _ _ _ Hx.out.steps).mono ?_
  rintro e w2 ⟨v, rfl, hb2, hcase⟩
  rcases hcase with ⟨hf, _⟩ | ⟨_, g, rfl, hg, hsrc⟩
  case inl => have := HLG.out; rw [hf] at this; cases this
  have B2 := Lib.hid (B1.out.trans (hb2.mono B1.out.size))
  have G2 := Lib.hid hsrc
  clear hb2 hsrc
  go_wp2_with fail
  refine (newBuffer_arg z G2.out HZ.out).mono ?_
  rintro e w3 ⟨rfl, rfl⟩
  go_wp2_with (first
    | (go_at_call 26; refine (K3.out _ _ (HA.out.behind B2.out)).mono ?_; rintro e w3 ⟨rfl, hb3⟩)
    | (go_at_call 13; refine (num_any _ _).mono ?_; rintro e w4 ⟨rfl, rfl⟩)
    | (go_at_call 14; refine (awake_any _).mono ?_; rintro e w5 ⟨rfl, hb5⟩))
  go_ret
  exact ⟨rfl, (B2.out.trans (hb3.mono B2.out.size)).trans (hb5.mono (Nat.le_trans B2.out.size hb3.size))⟩
end
end Go.Proofs.Ytadnceiohgjdhaa
