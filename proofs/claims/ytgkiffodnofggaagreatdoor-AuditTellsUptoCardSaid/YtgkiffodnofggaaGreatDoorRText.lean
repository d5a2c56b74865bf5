/-
  The contracts of the reference's bytesOf a rune, Bytes of runes, Text, Mend.
-/
import Derived.Test.YtgkiffodnofggaaGreatDoorTexts
import Derived.Test.YtgkiffodnofggaaGreatDoorRUtf
import Derived.Deep.QuietTactic
namespace Go.Proofs.YtgkiffodnofggaaGreatDoor
open Go.RowKit
set_option linter.unusedVariables false
set_option linter.unusedSimpArgs false

/-- Is a rune a character? -/
def okR (r : Nat) : Bool := decide (r < 55296 ∨ (57344 ≤ r ∧ r < 1114112))
theorem okR_valid (r : Nat) : Utf8.valid (r : Int) = okR r := by
  unfold okR
  rw [Bool.eq_iff_iff, decide_eq_true_iff]
  simp [Utf8.valid]
  omega
def wdR (r : Nat) : Nat := if r < 128 then 1 else if r < 2048 then 2 else if r < 65536 then 3 else 4
theorem wdR_len (r : Nat) : (encN r).length = wdR r := by
  unfold encN wdR
  repeat' split
  all_goals rfl

set_option maxHeartbeats 4000000 in
set_option maxRecDepth 100000 in
theorem rchar_any (r : Nat) (h : r < 2147483648) (w : World) : Calls Tryz.prog 98 #[.int .i32 r] w fun e w' => e = .returned (.bool (okR r)) ∧ w' = w := by
  obtain ⟨R, hR⟩ : ∃ R, okR r = R := ⟨_, rfl⟩
  rw [hR]
  have HR := Lib.hid hR
  clear hR
  have i0 : (0 : Int) ≤ (r : Int) := by omega
  go_enter Tryz.func98, Tryz.ntmps98
  go_wp2
  all_goals
    go_ret
    refine ⟨retb ?_, rfl⟩
    rw [← HR.out, okR, Bool.eq_iff_iff]
    simp
    try omega
set_option maxHeartbeats 4000000 in
set_option maxRecDepth 100000 in
theorem rwidth_any (r : Nat) (hr : okR r = true) (w : World) : Calls Tryz.prog 99 #[.int .i32 r] w fun e w' => e = .returned (.int .i64 (wdR r)) ∧ w' = w := by
  have h2 : r < 55296 ∨ (57344 ≤ r ∧ r < 1114112) := of_decide_eq_true hr
  have K := Lib.hid (fun W => rchar_any r (by omega) W)
  rw [hr] at K
  have hw : (wdR r = 1 ∧ r < 128) ∨ (wdR r = 2 ∧ 128 ≤ r ∧ r < 2048) ∨ (wdR r = 3 ∧ 2048 ≤ r ∧ r < 65536) ∨ (wdR r = 4 ∧ 65536 ≤ r) := by
    unfold wdR
    repeat' split
    all_goals omega
  obtain ⟨x, hx⟩ : ∃ x : Int, x = (r : Int) := ⟨_, rfl⟩
  rw [← hx] at K ⊢
  have HX := Lib.hid hx
  rcases hw with ⟨e, h3⟩ | ⟨e, h3, h4⟩ | ⟨e, h3, h4⟩ | ⟨e, h3⟩
  · rw [e]
    have i1 : decide (x < 128) = true := by simp; omega
    clear hx h2 h3 e hr
    go_enter Tryz.func99, Tryz.ntmps99
    go_wp2_with (go_at_call 98; refine (K.out _).mono ?_; rintro e w2 ⟨rfl, rfl⟩)
    go_ret
    exact ⟨rfl, rfl⟩
  · rw [e]
    have i1 : decide (x < 128) = false := by simp; omega
    have i2 : decide (x < 2048) = true := by simp; omega
    clear hx h2 h3 h4 e hr
    go_enter Tryz.func99, Tryz.ntmps99
    go_wp2_with (go_at_call 98; refine (K.out _).mono ?_; rintro e w2 ⟨rfl, rfl⟩)
    go_ret
    exact ⟨rfl, rfl⟩
  · rw [e]
    have i1 : decide (x < 128) = false := by simp; omega
    have i2 : decide (x < 2048) = false := by simp; omega
    have i3 : decide (x < 65536) = true := by simp; omega
    clear hx h2 h3 h4 e hr
    go_enter Tryz.func99, Tryz.ntmps99
    go_wp2_with (go_at_call 98; refine (K.out _).mono ?_; rintro e w2 ⟨rfl, rfl⟩)
    go_ret
    exact ⟨rfl, rfl⟩
  · rw [e]
    have i1 : decide (x < 128) = false := by simp; omega
    have i2 : decide (x < 2048) = false := by simp; omega
    have i3 : decide (x < 65536) = false := by simp; omega
    clear hx h2 h3 e hr
    go_enter Tryz.func99, Tryz.ntmps99
    go_wp2_with (go_at_call 98; refine (K.out _).mono ?_; rintro e w2 ⟨rfl, rfl⟩)
    go_ret
    exact ⟨rfl, rfl⟩

theorem cell8 (v : Int) (n : Nat) (h : v = ((n % 256 : Nat) : Int)) : Value.int .u8 v = .int .u8 ((UInt8.ofNat n).toNat : Int) := by rw [h, UInt8.toNat_ofNat']
theorem tdiv_nat (r k : Nat) : (r : Int).tdiv k = ((r / k : Nat) : Int) := by rw [Int.tdiv_eq_ediv_of_nonneg (by omega)]; rfl

set_option maxHeartbeats 8000000 in
set_option maxRecDepth 100000 in
theorem rbytesOf_any (r : Nat) (h : r < 2147483648) (w : World) : Calls Tryz.prog 80 #[.int .i32 r] w fun e w' => ∃ A c, e = .returned (.slice A (encU r).length c) ∧
    Row (fun k => w.heap.size ≤ k ∧ k < w'.heap.size) w' 1 A (encU r).length (bv (encU r)) ∧ Below w.heap.size w w' := by
  have K1 := Lib.hid (fun W => rchar_any r h W)
  obtain ⟨C, hC⟩ : ∃ C, (if okR r = true then r else 65533) = C := ⟨_, rfl⟩
  have hCok : okR C = true := by
    rw [← hC]
    split
    · assumption
    · rfl
  have hCr : C < 55296 ∨ (57344 ≤ C ∧ C < 1114112) := of_decide_eq_true hCok
  have he : encU r = encN C := by rw [encU_N, okR_valid, hC]
  have hlen := wdR_len C
  have K2 := Lib.hid (fun W => rwidth_any C hCok W)
  rw [he]
  have hi := hlen
  have KW : ∀ W, Calls Tryz.prog 99 #[.int .i32 C] W fun e w' => e = .returned (.int .i64 (encN C).length) ∧ w' = W := fun W => by rw [hlen]; exact K2.out W
  have KW := Lib.hid KW
  have fin : ∀ (l : List UInt8) (cs : Array Value) (W : World), l = encN C → cs.toList = bv l → Below w.heap.size w W → ∃ A c, Ending.returned (.slice (some ⟨W.heap.size, 0, none⟩) l.length l.length) = .returned (.slice A (encN C).length c) ∧
      Row (fun k => w.heap.size ≤ k ∧ k < (W.alloc (.cells cs 5)).heap.size) (W.alloc (.cells cs 5)) 1 A (encN C).length (bv (encN C)) ∧ Below w.heap.size w (W.alloc (.cells cs 5)) := by
    rintro l cs W rfl hcs hW
    refine ⟨_, _, rfl, ?_, hW.alloc hW.size _⟩
    have hrow := Row.new W 5 cs 1 (encN C).length (by rw [← Array.length_toList, hcs, bv_length]; omega)
    rw [hcs] at hrow
    exact hrow.more (fun k _ e => by subst e; simp; exact hW.size) (by decide)
  have FIN := Lib.hid fin
  have hwd : wdR C = 1 ∧ C < 128 ∨ wdR C = 2 ∧ 128 ≤ C ∧ C < 2048 ∨ wdR C = 3 ∧ 2048 ≤ C ∧ C < 65536 ∨ wdR C = 4 ∧ 65536 ≤ C ∧ C < 1114112 := by
    unfold wdR
    repeat' split
    all_goals omega
  have KK : Hid (∀ (W : World), Calls Tryz.prog 98 #[.int .i32 r] W fun e w' => e = .returned (.bool (okR r)) ∧ w' = W) := K1
  clear K1 K2 fin hlen hi he hCr
  have HOK := Lib.hid hCok
  clear hCok
  obtain ⟨x, hx⟩ : ∃ x : Int, x = (C : Int) := ⟨_, rfl⟩
  rw [← hx] at KW
  have HX := Lib.hid hx
  cases hb : okR r with
  | true =>
    rw [hb, if_pos rfl] at hC
    subst hC
    rw [hb, ← hx] at KK
    rw [← hx]
    have j0 : (0 : Int) ≤ x := by omega
    rcases hwd with ⟨e, h1⟩ | ⟨e, h1, h2⟩ | ⟨e, h1, h2⟩ | ⟨e, h1, h2⟩
    · have hl := wdR_len r
      rw [e] at hl
      rw [hl] at KW
      have hN : encN r = [UInt8.ofNat r] := by rw [encN, if_pos h1]
      clear hx hb e h hl
      go_enter Tryz.func80, Tryz.ntmps80
      go_wp2_with (first | (go_at_call 98; refine (KK.out _).mono ?_; rintro e w2 ⟨rfl, rfl⟩) | (go_at_call 99; refine (KW.out _).mono ?_; rintro e w2 ⟨rfl, rfl⟩))
      go_ret
      refine FIN.out [UInt8.ofNat r] _ w2 hN.symm ?_ (Below.refl _ _)
      simp only [bv, List.map_cons, List.map_nil]
      simp only [List.cons.injEq, Value.int.injEq, true_and, and_true, UInt8.toNat_ofNat']
      have := HX.out
      omega
    · have hl := wdR_len r
      rw [e] at hl
      rw [hl] at KW
      have hN : encN r = [UInt8.ofNat (192 + r / 64), UInt8.ofNat (128 + r % 64)] := by rw [encN, if_neg (by omega), if_pos h2]
      have q64 : x.tdiv 64 = ((r / 64 : Nat) : Int) := by rw [hx]; exact tdiv_nat r 64
      clear hx hb e h hl
      go_enter Tryz.func80, Tryz.ntmps80
      go_wp2_with (first | (go_at_call 98; refine (KK.out _).mono ?_; rintro e w2 ⟨rfl, rfl⟩) | (go_at_call 99; refine (KW.out _).mono ?_; rintro e w2 ⟨rfl, rfl⟩))
      go_ret
      refine FIN.out [UInt8.ofNat (192 + r / 64), UInt8.ofNat (128 + r % 64)] _ w2 hN.symm ?_ (Below.refl _ _)
      simp only [bv, List.map_cons, List.map_nil]
      simp only [List.cons.injEq, Value.int.injEq, true_and, and_true, UInt8.toNat_ofNat']
      have := HX.out
      omega
    · have hl := wdR_len r
      rw [e] at hl
      rw [hl] at KW
      have hN : encN r = [UInt8.ofNat (224 + r / 4096), UInt8.ofNat (128 + r / 64 % 64), UInt8.ofNat (128 + r % 64)] := by rw [encN, if_neg (by omega), if_neg (by omega), if_pos h2]
      have q64 : x.tdiv 64 = ((r / 64 : Nat) : Int) := by rw [hx]; exact tdiv_nat r 64
      have q4096 : x.tdiv 4096 = ((r / 4096 : Nat) : Int) := by rw [hx]; exact tdiv_nat r 4096
      clear hx hb e h hl
      go_enter Tryz.func80, Tryz.ntmps80
      go_wp2_with (first | (go_at_call 98; refine (KK.out _).mono ?_; rintro e w2 ⟨rfl, rfl⟩) | (go_at_call 99; refine (KW.out _).mono ?_; rintro e w2 ⟨rfl, rfl⟩))
      go_ret
      refine FIN.out [UInt8.ofNat (224 + r / 4096), UInt8.ofNat (128 + r / 64 % 64), UInt8.ofNat (128 + r % 64)] _ w2 hN.symm ?_ (Below.refl _ _)
      simp only [bv, List.map_cons, List.map_nil]
      simp only [List.cons.injEq, Value.int.injEq, true_and, and_true, UInt8.toNat_ofNat']
      have := HX.out
      omega
    · have hl := wdR_len r
      rw [e] at hl
      rw [hl] at KW
      have hN : encN r = [UInt8.ofNat (240 + r / 262144), UInt8.ofNat (128 + r / 4096 % 64), UInt8.ofNat (128 + r / 64 % 64), UInt8.ofNat (128 + r % 64)] := by rw [encN, if_neg (by omega), if_neg (by omega), if_neg (by omega)]
      have q64 : x.tdiv 64 = ((r / 64 : Nat) : Int) := by rw [hx]; exact tdiv_nat r 64
      have q4096 : x.tdiv 4096 = ((r / 4096 : Nat) : Int) := by rw [hx]; exact tdiv_nat r 4096
      have q262144 : x.tdiv 262144 = ((r / 262144 : Nat) : Int) := by rw [hx]; exact tdiv_nat r 262144
      clear hx hb e h hl
      go_enter Tryz.func80, Tryz.ntmps80
      go_wp2_with (first | (go_at_call 98; refine (KK.out _).mono ?_; rintro e w2 ⟨rfl, rfl⟩) | (go_at_call 99; refine (KW.out _).mono ?_; rintro e w2 ⟨rfl, rfl⟩))
      go_ret
      refine FIN.out [UInt8.ofNat (240 + r / 262144), UInt8.ofNat (128 + r / 4096 % 64), UInt8.ofNat (128 + r / 64 % 64), UInt8.ofNat (128 + r % 64)] _ w2 hN.symm ?_ (Below.refl _ _)
      simp only [bv, List.map_cons, List.map_nil]
      simp only [List.cons.injEq, Value.int.injEq, true_and, and_true, UInt8.toNat_ofNat']
      have := HX.out
      omega
  | false =>
    rw [hb, if_neg (by decide)] at hC
    subst hC
    rw [hb] at KK
    rw [hx] at KW
    clear hx hb hwd HX
    go_enter Tryz.func80, Tryz.ntmps80
    go_wp2_with (first | (go_at_call 98; refine (KK.out _).mono ?_; rintro e w2 ⟨rfl, rfl⟩) | (go_at_call 99; refine (KW.out _).mono ?_; rintro e w2 ⟨rfl, rfl⟩))
    go_ret
    refine FIN.out [239, 191, 189] _ w2 (by decide) ?_ (Below.refl _ _)
    rfl
end Go.Proofs.YtgkiffodnofggaaGreatDoor
