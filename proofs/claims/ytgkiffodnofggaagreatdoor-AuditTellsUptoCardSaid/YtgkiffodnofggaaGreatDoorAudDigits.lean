/-
  The contract of the reference's digits of a number.
-/
import Derived.Test.YtgkiffodnofggaaGreatDoorTexts
import Derived.Test.YtgkiffodnofggaaGreatDoorAudPlain
namespace Go.Proofs.YtgkiffodnofggaaGreatDoor
open Go.RowKit
set_option linter.unusedVariables false
set_option linter.unusedSimpArgs false

theorem itoa_pos (n : Nat) (h : 10 ≤ n) : Lib.itoa n = Lib.itoa ((n / 10 : Nat) : Int) ++ [UInt8.ofNat (48 + n % 10)] := by
  unfold Lib.itoa
  rw [if_neg (by omega), if_neg (by omega), Int.toNat_natCast, Int.toNat_natCast]
  conv => lhs; rw [Lib.decDigits]
  rw [dif_neg (by omega)]
theorem itoa_one (n : Nat) (h : n < 10) : Lib.itoa n = [UInt8.ofNat (48 + n)] := by
  unfold Lib.itoa
  rw [if_neg (by omega), Int.toNat_natCast, Lib.decDigits, dif_pos h]
theorem itoa_neg (n : Nat) (h : 10 ≤ n) : Lib.itoa (-(n : Int)) = Lib.itoa (-((n / 10 : Nat) : Int)) ++ [UInt8.ofNat (48 + n % 10)] := by
  unfold Lib.itoa
  rw [if_pos (by omega), if_pos (by omega), Int.natAbs_neg, Int.natAbs_neg, Int.natAbs_natCast, Int.natAbs_natCast]
  conv => lhs; rw [Lib.decDigits]
  rw [dif_neg (by omega)]
  rfl
theorem itoa_neg_one (n : Nat) (h : n < 10) (h0 : 0 < n) : Lib.itoa (-(n : Int)) = [45, UInt8.ofNat (48 + n)] := by
  unfold Lib.itoa
  rw [if_pos (by omega), Int.natAbs_neg, Int.natAbs_natCast, Lib.decDigits, dif_pos h]

theorem conv_one (w : World) (v : Int) (n : Nat) (h : v = ((n % 256 : Nat) : Int)) : (convert 43 9 (.slice (some ⟨w.heap.size, 0, none⟩) 1 1)).run Tryz.prog (w.alloc (.cells #[.int .u8 v] 5)) = .ok (.string (str [UInt8.ofNat n])) (w.alloc (.cells #[.int .u8 v] 5)) := by
  have hrow := Row.new w 5 #[.int .u8 v] 1 1 rfl
  have e : (#[Value.int .u8 v]).toList = bv [UInt8.ofNat n] := by simp [bv]; omega
  rw [e] at hrow
  exact conv_row hrow 1

set_option maxHeartbeats 8000000 in
set_option maxRecDepth 100000 in
theorem rdigits_any (k : Nat) : ∀ (x : Int), x.natAbs ≤ k → -9223372036854775808 ≤ x → x ≤ 9223372036854775807 → ∀ w : World,
    Calls Tryz.prog 23 #[.int .i64 x] w fun e w' => e = .returned (.string (str (Lib.itoa x))) ∧ Below w.heap.size w w' := by
  induction k using Nat.strongRecOn with
  | _ k ih =>
    intro x hk h0 h1 w
    by_cases hn : x < 0
    · obtain ⟨n, hx⟩ : ∃ n : Nat, x = -(n : Int) := ⟨x.natAbs, by omega⟩
      have hm : x.tmod 10 = -((n % 10 : Nat) : Int) := by rw [hx, Int.neg_tmod]; rfl
      by_cases h9 : n < 10
      · have hq : x.tdiv 10 = 0 := by rw [hx, Int.neg_tdiv, show ((n : Int)).tdiv 10 = ((n / 10 : Nat) : Int) from rfl, Nat.div_eq_of_lt h9]; rfl
        rw [hx, itoa_neg_one n h9 (by omega), ← hx]
        rw [Nat.mod_eq_of_lt h9] at hm
        have hc := conv_one w (48 + (n : Int)) (48 + n) (by omega)
        generalize UInt8.ofNat (48 + n) = d at hc ⊢
        have ha : (⟨#[45]⟩ : ByteArray) ++ str [d] = str [45, d] := str_append [45] _
        have hnn : n < 10 := h9
        clear ih hk h0 h1 hx h9
        go_enter Tryz.func23, Tryz.ntmps23
        go_wp2
        go_ret
        exact ⟨rfl, (Below.refl _ w).alloc (Nat.le_refl _) _⟩
      · have hq : x.tdiv 10 = -((n / 10 : Nat) : Int) := by rw [hx, Int.neg_tdiv, show ((n : Int)).tdiv 10 = ((n / 10 : Nat) : Int) from rfl]
        rw [hx, itoa_neg n (by omega), ← hx]
        have K := Lib.hid (ih (n / 10) (by omega) (-((n / 10 : Nat) : Int)) (by omega) (by omega) (by omega))
        have hle := itoa_le (-((n / 10 : Nat) : Int)) (by omega) (by omega)
        have hyn : -((n / 10 : Nat) : Int) < 0 := by omega
        have hy1 : -922337203685477580 ≤ -((n / 10 : Nat) : Int) := by omega
        generalize -((n / 10 : Nat) : Int) = y at hq K hle hyn hy1 ⊢
        have hne : (y == 0) = false := by rw [beq_eq_false_iff_ne]; omega
        obtain ⟨m, hm2⟩ : ∃ m : Nat, n % 10 = m := ⟨_, rfl⟩
        have hm9 : m < 10 := by omega
        rw [hm2] at hm ⊢
        have hc := fun W => conv_one W (48 + (m : Int)) (48 + m) (by omega)
        generalize UInt8.ofNat (48 + m) = d at hc ⊢
        have ha : str (Lib.itoa y) ++ str [d] = str (Lib.itoa y ++ [d]) := str_append _ _
        generalize Lib.itoa y = t at K ha hle ⊢
        have hz := str_size t
        have hz1 := str_size [d]
        clear ih hk h0 h1 hx h9 hm2
        go_enter Tryz.func23, Tryz.ntmps23
        go_wp2_with fail
        refine (K.out w).mono ?_
        rintro e w2 ⟨rfl, hb⟩
        have HB := Lib.hid hb
        clear hb
        go_wp2
        go_ret
        exact ⟨rfl, HB.out.alloc HB.out.size _⟩
    · obtain ⟨n, hx⟩ : ∃ n : Nat, x = n := ⟨x.toNat, by omega⟩
      have j0 : (0 : Int) ≤ x := by omega
      by_cases h9 : n < 10
      · rw [hx, itoa_one n h9, ← hx]
        have j9 : x ≤ 9 := by omega
        have hm2 : x % 10 = x := by omega
        have hc := conv_one w (48 + x) (48 + n) (by omega)
        generalize UInt8.ofNat (48 + n) = d at hc ⊢
        have ha : (⟨#[]⟩ : ByteArray) ++ str [d] = str [d] := str_append [] _
        clear ih hk h0 h1 hn hx h9
        go_enter Tryz.func23, Tryz.ntmps23
        go_wp2
        go_ret
        exact ⟨rfl, (Below.refl _ w).alloc (Nat.le_refl _) _⟩
      · rw [hx, itoa_pos n (by omega), ← hx]
        have j9 : 9 < x := by omega
        have hq : x / 10 = ((n / 10 : Nat) : Int) := by omega
        have K := Lib.hid (ih (n / 10) (by omega) ((n / 10 : Nat) : Int) (by omega) (by omega) (by omega))
        have hle := itoa_le ((n / 10 : Nat) : Int) (by omega) (by omega)
        generalize ((n / 10 : Nat) : Int) = y at hq K hle ⊢
        have hc := fun W => conv_one W (48 + x % 10) (48 + n % 10) (by omega)
        generalize UInt8.ofNat (48 + n % 10) = d at hc ⊢
        have ha : str (Lib.itoa y) ++ str [d] = str (Lib.itoa y ++ [d]) := str_append _ _
        generalize Lib.itoa y = t at K ha hle ⊢
        have hz := str_size t
        have hz1 := str_size [d]
        have j1 : x ≤ 9223372036854775807 := h1
        clear ih hk h0 h1 hn hx h9
        go_enter Tryz.func23, Tryz.ntmps23
        go_wp2_with fail
        refine (K.out w).mono ?_
        rintro e w2 ⟨rfl, hb⟩
        have HB := Lib.hid hb
        clear hb
        go_wp2
        go_ret
        exact ⟨rfl, HB.out.alloc HB.out.size _⟩
end Go.Proofs.YtgkiffodnofggaaGreatDoor
