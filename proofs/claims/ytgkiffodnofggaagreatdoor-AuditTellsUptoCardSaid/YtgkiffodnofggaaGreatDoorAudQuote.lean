/-
  The contract of the reference's Quote of a text.
-/
import Derived.Test.YtgkiffodnofggaaGreatDoorTexts
import Derived.Test.YtgkiffodnofggaaGreatDoorAudPlain
namespace Go.Proofs.YtgkiffodnofggaaGreatDoor
open Go.RowKit
set_option linter.unusedVariables false
set_option linter.unusedSimpArgs false

theorem escQs_snoc (l : List UInt8) (c : UInt8) : escQs (l ++ [c]) = escQs l ++ escQ c := by simp [escQs]
theorem escQ_n (c : UInt8) (h : c.toNat = 10) : escQ c = [92, 110] := by rw [escQ, if_pos h]
theorem escQ_t (c : UInt8) (h : c.toNat = 9) : escQ c = [92, 116] := by rw [escQ, if_neg (by omega), if_pos h]
theorem escQ_q (c : UInt8) (h : c.toNat = 34) : escQ c = [92, 34] := by rw [escQ, if_neg (by omega), if_neg (by omega), if_pos h]
theorem escQ_b (c : UInt8) (h : c.toNat = 92) : escQ c = [92, 92] := by rw [escQ, if_neg (by omega), if_neg (by omega), if_neg (by omega), if_pos h]
theorem escQ_e (c : UInt8) (h1 : c.toNat ≠ 10) (h2 : c.toNat ≠ 9) (h3 : c.toNat ≠ 34) (h4 : c.toNat ≠ 92) : escQ c = [c] := by rw [escQ, if_neg h1, if_neg h2, if_neg h3, if_neg h4]

set_option maxHeartbeats 8000000 in
set_option maxRecDepth 100000 in
theorem rquote_any (l : List UInt8) (w : World) (hn : l.length ≤ 1099511627776) : Calls Tryz.prog 25 #[.string (str l)] w fun e w' => e = .returned (.string (str (quoteB l))) ∧ w' = w := by
  have hz := str_size l
  go_enter Tryz.func25, Tryz.ntmps25
  go_wp2
  go_loop [3, 4] (fun o i => ∃ (k : Nat) (t : List UInt8), k ≤ l.length ∧ i = .int .i64 k ∧ o = .string (str t) ∧ Hid (t = 34 :: escQs (l.take k))) (fun _ i => l.length - (intOf i).toNat)
  case atStart => exact ⟨0, [34], Nat.zero_le _, rfl, rfl, rfl⟩
  case round =>
    obtain ⟨k, t, hk, rfl, rfl, HT⟩ := hrel
    have htl : t.length ≤ 1 + 2 * k := by
      have := escQs_le (l.take k)
      rw [HT.out, List.length_cons]
      rw [List.length_take, Nat.min_eq_left hk] at this
      omega
    have hzt := str_size t
    by_cases hlt : k < l.length
    · have i0 : (0 : Int) ≤ (k : Int) := by omega
      have i1 : (k : Int) < (l.length : Int) := by omega
      obtain ⟨c, hc⟩ : ∃ c, (str l)[k]'(by omega) = c := ⟨_, rfl⟩
      have hc2 : l[k]? = some c := by rw [← hc, str_get]; exact List.getElem?_eq_getElem hlt
      have htk : l.take (k + 1) = l.take k ++ [c] := by rw [List.take_add_one, hc2]; rfl
      have hnext : ∀ x, escQ c = x → t ++ x = 34 :: escQs (l.take (k + 1)) := fun x h => by rw [htk, escQs_snoc, ← h, HT.out]; rfl
      have HN := Lib.hid hnext
      have hsl := str_extract l k (k + 1)
      have hone : (l.drop k).take (k + 1 - k) = [c] := by
        rw [Nat.add_sub_cancel_left, List.drop_eq_getElem_cons hlt]
        rw [List.getElem?_eq_getElem hlt] at hc2
        rw [Option.some.inj hc2]; rfl
      rw [hone] at hsl
      have a1 : str t ++ (⟨#[92, 110]⟩ : ByteArray) = str (t ++ [92, 110]) := str_append _ _
      have a2 : str t ++ (⟨#[92, 116]⟩ : ByteArray) = str (t ++ [92, 116]) := str_append _ _
      have a3 : str t ++ (⟨#[92, 34]⟩ : ByteArray) = str (t ++ [92, 34]) := str_append _ _
      have a4 : str t ++ (⟨#[92, 92]⟩ : ByteArray) = str (t ++ [92, 92]) := str_append _ _
      have a5 : str t ++ str [c] = str (t ++ [c]) := str_append _ _
      have hz1 := str_size [c]
      clear hc2 htk hnext hone
      by_cases q1 : c.toNat = 10
      · have f1 : ((c.toNat : Int) == 10) = true := by rw [q1]; rfl
        have HE := Lib.hid (HN.out _ (escQ_n c q1))
        go_wp2
        go_round
        case rel => exact ⟨k + 1, _, by omega, by go_num, rfl, HE⟩
        case measure => simp [intOf]; omega
      by_cases q2 : c.toNat = 9
      · have f1 : ((c.toNat : Int) == 10) = false := by rw [beq_eq_false_iff_ne]; omega
        have f2 : ((c.toNat : Int) == 9) = true := by rw [q2]; rfl
        have HE := Lib.hid (HN.out _ (escQ_t c q2))
        go_wp2
        go_round
        case rel => exact ⟨k + 1, _, by omega, by go_num, rfl, HE⟩
        case measure => simp [intOf]; omega
      by_cases q3 : c.toNat = 34
      · have f1 : ((c.toNat : Int) == 10) = false := by rw [beq_eq_false_iff_ne]; omega
        have f2 : ((c.toNat : Int) == 9) = false := by rw [beq_eq_false_iff_ne]; omega
        have f3 : ((c.toNat : Int) == 34) = true := by rw [q3]; rfl
        have HE := Lib.hid (HN.out _ (escQ_q c q3))
        go_wp2
        go_round
        case rel => exact ⟨k + 1, _, by omega, by go_num, rfl, HE⟩
        case measure => simp [intOf]; omega
      by_cases q4 : c.toNat = 92
      · have f1 : ((c.toNat : Int) == 10) = false := by rw [beq_eq_false_iff_ne]; omega
        have f2 : ((c.toNat : Int) == 9) = false := by rw [beq_eq_false_iff_ne]; omega
        have f3 : ((c.toNat : Int) == 34) = false := by rw [beq_eq_false_iff_ne]; omega
        have f4 : ((c.toNat : Int) == 92) = true := by rw [q4]; rfl
        have HE := Lib.hid (HN.out _ (escQ_b c q4))
        go_wp2
        go_round
        case rel => exact ⟨k + 1, _, by omega, by go_num, rfl, HE⟩
        case measure => simp [intOf]; omega
      · have f1 : ((c.toNat : Int) == 10) = false := by rw [beq_eq_false_iff_ne]; omega
        have f2 : ((c.toNat : Int) == 9) = false := by rw [beq_eq_false_iff_ne]; omega
        have f3 : ((c.toNat : Int) == 34) = false := by rw [beq_eq_false_iff_ne]; omega
        have f4 : ((c.toNat : Int) == 92) = false := by rw [beq_eq_false_iff_ne]; omega
        have HE := Lib.hid (HN.out _ (escQ_e c q1 q2 q3 q4))
        go_wp2
        go_round
        case rel => exact ⟨k + 1, _, by omega, by go_num, rfl, HE⟩
        case measure => simp [intOf]; omega
    · have hkn : k = l.length := by omega
      subst hkn
      have a1 : str t ++ (⟨#[34]⟩ : ByteArray) = str (t ++ [34]) := str_append _ _
      have ht := HT.out
      rw [List.take_length] at ht
      have HQ := Lib.hid (show t ++ [34] = quoteB l by rw [ht]; rfl)
      clear ht
      go_wp2
      go_ret
      exact ⟨by rw [← HQ.out]; rfl, rfl⟩
end Go.Proofs.YtgkiffodnofggaaGreatDoor
