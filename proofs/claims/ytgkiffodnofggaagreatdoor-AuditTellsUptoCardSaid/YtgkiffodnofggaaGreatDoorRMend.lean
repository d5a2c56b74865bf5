/-
  The contracts of the reference's Bytes of runes, Text, Mend.
-/
import Derived.Test.YtgkiffodnofggaaGreatDoorRText
namespace Go.Proofs.YtgkiffodnofggaaGreatDoor
open Go.RowKit
set_option linter.unusedVariables false
set_option linter.unusedSimpArgs false

theorem pcOf_r_lt (c : UInt8) (r : List UInt8) : (pcOf 0 c r).r < 2147483648 := by
  unfold pcOf
  split
  · rename_i h
    simp only
    have hc : c.toNat < 256 := c.toNat_lt
    rcases uLen_shape h.1 with ⟨h1, h2⟩ | ⟨h1, h3, h2⟩ | ⟨h1, h3, h2⟩ | ⟨h1, h3, h2⟩
    · rw [uVal, uBase, h2]
      simp [uMore]
      omega
    all_goals
      rw [uVal]
      have hb := uMore_lt (uBase c) (uBase_lt c (by omega)) (r.take (uLen c - 1))
      have hl : (r.take (uLen c - 1)).length ≤ 3 := by rw [List.length_take, h2]; omega
      have : 64 ^ (r.take (uLen c - 1)).length ≤ 64 ^ 3 := Nat.pow_le_pow_right (by decide) hl
      omega
  · exact (by decide : (65533 : Nat) < 2147483648)
theorem runesOf_lt (l : List UInt8) : ∀ r ∈ runesOf l, r < 2147483648 := by
  generalize hn : l.length = n
  induction n using Nat.strongRecOn generalizing l with
  | _ n ih =>
    cases l with
    | nil => unfold runesOf; rw [pieces_nil]; simp
    | cons c r =>
      rw [runesOf_cons]
      intro x hx
      rcases List.mem_cons.1 hx with rfl | hx
      · exact pcOf_r_lt c r
      · exact ih _ (by simp at hn ⊢; omega) _ rfl x hx

theorem encL_one (r : Nat) : encL [r] = encU r := by rw [encL_cons, show encL [] = [] by unfold encL; rw [List.flatMap_nil], List.append_nil]

set_option maxHeartbeats 8000000 in
set_option maxRecDepth 100000 in
theorem rbytes_any (S : Nat → Prop) (A : Option Addr) (cp : Nat) (l : List Nat) (w : World) (hr : Row S w 1 A l.length (rv l)) (hl : ∀ r ∈ l, r < 2147483648) (hn : l.length ≤ 1073741824) (hS : ∀ k, S k → k < w.heap.size) :
    Calls Tryz.prog 55 #[.slice A l.length cp] w (Gives fun v w' => w'.ownsRow w.heap.size 5 1 v (encL l).length (bv (encL l)) ∧ Below w.heap.size w w') := by
  obtain ⟨i0', hi, hz0, hz1, hz2⟩ := info_parts u8info
  have HR := Lib.hid hr
  have HL := Lib.hid hl
  clear hr hl
  go_enter Tryz.func55, Tryz.ntmps55
  go_wp2
  go_loopw [3, 8] (fun v i wr => ∃ k : Nat, k ≤ l.length ∧ i = .int .i64 k ∧ Hid (wr.ownsRow w.heap.size 5 1 v (encL (l.take k)).length (bv (encL (l.take k)))) ∧ Hid (Below w.heap.size w wr)) (fun _ i _ => l.length - (intOf i).toNat)
  case atStart => exact ⟨0, Nat.zero_le _, rfl, World.ownsRow_nil _ _ _ _, Below.refl _ _⟩
  case round =>
    obtain ⟨k, hk, rfl, HV, HB⟩ := hrel
    obtain ⟨Av, cv, rfl, _, _⟩ := own_slice HV.out
    by_cases hlt : k < l.length
    · obtain ⟨ad, u, rfl, _, hu, e0⟩ := (HR.out.behind HB.out).at_ hlt
      obtain ⟨r, hrk⟩ : ∃ r, l[k]? = some r := ⟨_, List.getElem?_eq_getElem hlt⟩
      have hlk : (rv l)[k]? = some (.int .i32 (r : Nat)) := by rw [rv, List.getElem?_map, hrk]; rfl
      rw [hlk] at hu
      obtain rfl := Option.some.inj hu
      have htk : l.take (k + 1) = l.take k ++ [r] := by rw [List.take_add_one, hrk]; rfl
      have hel : encL (l.take (k + 1)) = encL (l.take k) ++ encU r := by rw [htk, encL_append, encL_one]
      have hrb := HL.out r (List.mem_of_getElem? hrk)
      have hle := encL_le (l.take k)
      rw [List.length_take, Nat.min_eq_left hk] at hle
      have hlu := encU_le r
      clear hrk
      have KB := Lib.hid (rbytesOf_any r hrb wr)
      have HE := Lib.hid hel
      have i0 : (0 : Int) ≤ (k : Int) := by omega
      have i1 : (k : Int) < (l.length : Int) := by omega
      have l2 := HB.out.size
      clear hlk hu htk hel hrb
      go_wp2_with fail
      refine KB.out.mono ?_
      rintro e w2 ⟨A2, c2, rfl, hr2, hb2⟩
      have HR2 := Lib.hid hr2
      have HB2 := Lib.hid (HB.out.trans (hb2.mono l2))
      have HV2 := Lib.hid (own_behind HV.out hb2)
      have l3 := hb2.size
      clear hr2 hb2 e0
      go_wp2_with (at_builtin; refine wpList_append_row _ rfl _ _ 43 rfl w.heap.size 5 i0' _ 1 1 Tryz.underlying43 hi hz0 hz1 hz2 rfl (by decide) (.slice Av (encL (l.take k)).length cv) _ (bv (encL (l.take k))) rfl HV2.out (fun j => wr.heap.size ≤ j ∧ j < w2.heap.size) A2 (encU r).length c2 (bv (encU r)) rfl HR2.out (bv_one _) (by simp only [maxLen]; omega) (by omega) (by omega) ?_; intro v3 w3 ho3 hg3 hat3; have HB3 := Lib.hid (HB2.out.grown hg3 (by omega) (fun j e => (HV2.out.lt j e).1)); have HO3 := Lib.hid ho3; clear ho3 hg3 hat3)
      go_roundw
      case rel =>
        refine ⟨k + 1, by omega, by go_num, ?_, HB3.out⟩
        show w3.ownsRow _ _ _ _ _ _
        rw [HE.out, List.length_append, bv_append]
        exact HO3.out
      case measure => simp [intOf]; omega
    · have hfin : k = l.length := by omega
      subst hfin
      go_wp2
      go_ret
      have := HV.out
      rw [List.take_length] at this
      refine ⟨_, rfl, ?_, HB.out⟩
      rw [List.take_length]
      exact this

set_option maxHeartbeats 4000000 in
set_option maxRecDepth 100000 in
theorem rtext_any (S : Nat → Prop) (A : Option Addr) (cp : Nat) (l : List Nat) (w : World) (hr : Row S w 1 A l.length (rv l)) (hl : ∀ r ∈ l, r < 2147483648) (hn : l.length ≤ 1073741824) (hS : ∀ k, S k → k < w.heap.size) :
    Calls Tryz.prog 36 #[.slice A l.length cp] w fun e w' => e = .returned (.string (str (encL l))) ∧ Below w.heap.size w w' := by
  have K := Lib.hid (rbytes_any S A cp l w hr hl hn hS)
  clear hr hl hS
  go_enter Tryz.func36, Tryz.ntmps36
  go_wp2_with fail
  refine K.out.mono ?_
  rintro e w2 ⟨v, rfl, ho, hb⟩
  obtain ⟨A2, c2, rfl, _, _⟩ := own_slice ho
  have hcv := conv_row (Row.of_own ho) c2
  have HB := Lib.hid hb
  clear ho hb
  go_wp2
  go_ret
  exact ⟨rfl, HB.out⟩

set_option maxHeartbeats 4000000 in
set_option maxRecDepth 100000 in
theorem rmend_any (l : List UInt8) (w : World) (hn : l.length ≤ 1073741824) :
    Calls Tryz.prog 26 #[.string (str l)] w fun e w' => e = .returned (.string (str (mendB l))) ∧ Below w.heap.size w w' := by
  obtain ⟨c, w2, hc, hcl, hb, hr, hs⟩ := conv_str l w
  have hrl := runesOf_length l
  have K := Lib.hid (rrunes_any _ _ l.length c l w2 hr hn hcl (fun k e => by omega))
  have HB := Lib.hid hb
  have l1 := hb.size
  clear hb hr
  go_enter Tryz.func26, Tryz.ntmps26
  go_wp2_with fail
  refine K.out.mono ?_
  rintro e w3 ⟨v, rfl, ho, hb3⟩
  obtain ⟨A3, c3, rfl, _, _⟩ := own_slice ho
  have K2 := Lib.hid (rtext_any _ A3 c3 (runesOf l) w3 ((Row.of_own ho).more (T := fun k => k < w3.heap.size) (fun k hk _ => hk) (by decide)) (runesOf_lt l) (by omega) (fun k h => h))
  have HB3 := Lib.hid (HB.out.trans (hb3.mono l1))
  have l3 := hb3.size
  clear ho hb3 hc
  go_wp2_with fail
  refine K2.out.mono ?_
  rintro e w4 ⟨rfl, hb4⟩
  go_wp2
  go_ret
  exact ⟨rfl, HB3.out.trans (hb4.mono (by omega))⟩
end Go.Proofs.YtgkiffodnofggaaGreatDoor
