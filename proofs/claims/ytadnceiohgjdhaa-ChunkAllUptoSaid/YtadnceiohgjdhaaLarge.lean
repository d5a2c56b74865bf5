/-
  The contracts of fits and Large: is a script too large?
-/
import Derived.Test.YtadnceiohgjdhaaSteps
namespace Go.Proofs.Ytadnceiohgjdhaa
open Go.RowKit
set_option linter.unusedVariables false

/-- How many bytes a script has in all. -/
def total (L : List Stp) : Nat := (L.map fun s => s.1.length).sum
/-- A script is too large. -/
def large (L : List Stp) : Bool := decide (16777216 < total L ∨ 65536 < L.length)
theorem total_take (L : List Stp) (k : Nat) (d : List UInt8) (f : Bool) (h : L[k]? = some (d, f)) : total (L.take (k + 1)) = total (L.take k) + d.length := by
  rw [List.take_add_one, h]
  simp [total]
theorem total_take_le (L : List Stp) (k : Nat) : total (L.take k) ≤ total L := by
  have h : total L = total (L.take k) + total (L.drop k) := by
    conv => lhs; rw [← List.take_append_drop k L]
    simp only [total, List.map_append, List.sum_append]
  omega
theorem large_bytes {L : List Stp} {k : Nat} (h : 16777216 < total (L.take k)) : large L = true := by
  have := total_take_le L k
  simp only [large, decide_eq_true_eq]
  exact .inl (by omega)
theorem large_steps {L : List Stp} (h : 65536 < L.length) : large L = true := by simp only [large, decide_eq_true_eq]; exact .inr h
theorem large_no {L : List Stp} (h1 : total L ≤ 16777216) (h2 : L.length ≤ 65536) : large L = false := by simp only [large, decide_eq_false_iff_not]; omega
theorem large_not {L : List Stp} (h : large L = false) : total L ≤ 16777216 ∧ L.length ≤ 65536 := by simp only [large, decide_eq_false_iff_not] at h; omega

set_option maxHeartbeats 2000000 in
set_option maxRecDepth 100000 in
theorem fits_any (S : Nat → Prop) (A : Option Addr) (n c : Nat) (L : List Stp) (w : World) (hS : Steps S w A n L) (hn : n ≤ 140737488355328) :
    Calls Try.prog 45 #[.slice A n c] w fun e w' => e = .returned (.bool (!large L)) ∧ Below w.heap.size w w' := by
  have hl := hS.1
  subst hl
  have HS := Lib.hid hS
  clear hS
  by_cases h0 : 65536 < L.length
  · rw [large_steps h0]
    have h1 : (65536 : Int) < (L.length : Int) := by omega
    go_enter Try.func45, Try.ntmps45
    go_wp2
    go_ret
    exact ⟨rfl, Below.refl _ _⟩
  · have h1 : ¬ (65536 : Int) < (L.length : Int) := by omega
    go_enter Try.func45, Try.ntmps45
    go_wp2
    go_loopw [3, 11] (fun s i wr => ∃ (k t : Nat), Hid (total (L.take k) = t) ∧ k ≤ L.length ∧ t ≤ 16777216 ∧ i = .int .i64 k ∧ s = .int .i64 t ∧ Below w.heap.size w wr) (fun _ i _ => L.length - (intOf i).toNat)
    case atStart => exact ⟨0, 0, by simp [Hid, total], Nat.zero_le _, Nat.zero_le _, rfl, rfl, Below.refl _ _⟩
    case round =>
      obtain ⟨k, t, HT, hk, ht, rfl, rfl, hb⟩ := hrel
      by_cases hlt : k < L.length
      · obtain ⟨ad, Ak, ck, d, f, rfl, _, hdf, e0, e1, _, _, _, hd47⟩ := (HS.out.behind hb).get hlt
        have HD := Lib.hid hdf
        clear hdf
        by_cases hx : (16777216 : Int) < (t : Int) + (d.length : Int)
        · have fin := Lib.hid (large_bytes (L := L) (k := k + 1) (by rw [total_take L k d f HD.out, HT.out]; omega))
          go_wp2
          go_ret
          exact ⟨by rw [fin.out]; rfl, hb.alloc hb.size _⟩
        · go_wp2
          go_roundw
          case rel => exact ⟨k + 1, t + d.length, by show total _ = _; rw [total_take L k d f HD.out, HT.out], by omega, by omega, by go_num, by go_num, hb.alloc hb.size _⟩
          case measure => simp [intOf]; omega
      · have hkm : k = L.length := by omega
        subst hkm
        have fin := Lib.hid (large_no (L := L) (by have := HT.out; rw [List.take_length] at this; omega) (by omega))
        go_wp2
        go_ret
        exact ⟨by rw [fin.out]; rfl, hb⟩

set_option maxHeartbeats 2000000 in
set_option maxRecDepth 100000 in
theorem large_any (S : Nat → Prop) (A : Option Addr) (n c : Nat) (L : List Stp) (w : World) (hS : Steps S w A n L) (hn : n ≤ 140737488355328) :
    Calls Try.prog 26 #[.slice A n c] w fun e w' => e = .returned (.bool (large L)) ∧ Below w.heap.size w w' := by
  have hl := hS.1
  subst hl
  have HS := Lib.hid hS
  clear hS
  go_enter Try.func26, Try.ntmps26
  go_wp2
  go_loopw [3, 8] (fun s i wr => ∃ (k t : Nat), Hid (total (L.take k) = t) ∧ k ≤ L.length ∧ t ≤ 16777216 ∧ i = .int .i64 k ∧ s = .int .i64 t ∧ Below w.heap.size w wr) (fun _ i _ => L.length - (intOf i).toNat)
  case atStart => exact ⟨0, 0, by simp [Hid, total], Nat.zero_le _, Nat.zero_le _, rfl, rfl, Below.refl _ _⟩
  case round =>
    obtain ⟨k, t, HT, hk, ht, rfl, rfl, hb⟩ := hrel
    by_cases hlt : k < L.length
    · obtain ⟨ad, Ak, ck, d, f, rfl, _, hdf, e0, e1, _, _, _, hd47⟩ := (HS.out.behind hb).get hlt
      have HD := Lib.hid hdf
      clear hdf
      by_cases hx : (16777216 : Int) < (t : Int) + (d.length : Int)
      · have fin := Lib.hid (large_bytes (L := L) (k := k + 1) (by rw [total_take L k d f HD.out, HT.out]; omega))
        go_wp2
        go_ret
        exact ⟨by rw [fin.out]; rfl, hb.alloc hb.size _⟩
      · go_wp2
        go_roundw
        case rel => exact ⟨k + 1, t + d.length, by show total _ = _; rw [total_take L k d f HD.out, HT.out], by omega, by omega, by go_num, by go_num, hb.alloc hb.size _⟩
        case measure => simp [intOf]; omega
    · have hkm : k = L.length := by omega
      subst hkm
      have ht' := HT.out
      rw [List.take_length] at ht'
      have fin := Lib.hid ht'
      clear ht'
      by_cases h0 : 65536 < L.length
      · have h1 : (65536 : Int) < (L.length : Int) := by omega
        have fin2 := Lib.hid (large_steps h0)
        go_wp2
        go_ret
        exact ⟨by rw [fin2.out]; rfl, hb⟩
      · have h1 : ¬ (65536 : Int) < (L.length : Int) := by omega
        have fin2 := Lib.hid (large_no (L := L) (by have := fin.out; omega) (by omega))
        go_wp2
        go_ret
        exact ⟨by rw [fin2.out]; rfl, hb⟩

end Go.Proofs.Ytadnceiohgjdhaa
