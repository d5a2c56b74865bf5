/-
  The contracts of the reference's Char, Width, bytesOf, Bytes, Text (of one rune).
-/
import Derived.Test.YtcogoiphpfgkdaaDoorEscape
namespace Go.Proofs.YtcogoiphpfgkdaaDoor
open Go.RowKit
set_option linter.unusedVariables false
set_option linter.unusedSimpArgs false

/-- Is a rune a character? -/
def charB (r : Nat) : Bool := decide (r ≤ 1114111 ∧ (r < 55296 ∨ 57343 < r))
def widthN (r : Nat) : Nat := if charB r = false then 3 else if r < 128 then 1 else if r < 2048 then 2 else if r < 65536 then 3 else 4

set_option maxHeartbeats 1000000 in
set_option maxRecDepth 100000 in
theorem rchar_any (r : Nat) (w : World) (hr : r ≤ 2147483647) : Calls Tryd.prog 115 #[.int .i32 r] w fun e w' => e = .returned (.bool (charB r)) ∧ w' = w := by
  obtain ⟨R, hR⟩ : ∃ R, charB r = R := ⟨_, rfl⟩
  rw [hR]
  unfold charB at hR
  have H := Lib.hid hR
  clear hR
  go_enter Tryd.func115, Tryd.ntmps115
  go_wp2
  all_goals
    go_ret
    refine ⟨retb ?_, rfl⟩
    rw [← H.out, Bool.eq_iff_iff]
    simp only [Bool.or_eq_true, Bool.and_eq_true, beq_iff_eq, decide_eq_true_eq, true_iff, Bool.false_eq_true, false_iff]
    omega

set_option maxHeartbeats 1000000 in
set_option maxRecDepth 100000 in
theorem rwidth_any (r : Nat) (w : World) (hr : r ≤ 2147483647) : Calls Tryd.prog 116 #[.int .i32 r] w fun e w' => e = .returned (.int .i64 (widthN r)) ∧ w' = w := by
  have K := Lib.hid (rchar_any r w hr)
  obtain ⟨R, hR⟩ : ∃ R, widthN r = R := ⟨_, rfl⟩
  rw [hR]
  unfold widthN at hR
  generalize charB r = b at hR K
  cases b with
  | false =>
    rw [if_pos rfl] at hR
    subst hR
    go_enter Tryd.func116, Tryd.ntmps116
    go_wp2_with (go_at_call 115; refine K.out.mono ?_; rintro e w1 ⟨rfl, rfl⟩)
    go_ret
    exact ⟨rfl, rfl⟩
  | true =>
    rw [if_neg (by decide)] at hR
    have i0 : (0 : Int) ≤ (r : Int) := by omega
    by_cases h1 : r < 128
    · have hv : R = 1 := by
        rw [← hR]
        repeat' split
        all_goals first | rfl | (exfalso; omega)
      subst hv
      have b1 : decide ((r : Int) < 128) = decide (r < 128) := by rw [decide_eq_decide]; omega
      have b2 : decide ((r : Int) < 2048) = decide (r < 2048) := by rw [decide_eq_decide]; omega
      have b3 : decide ((r : Int) < 65536) = decide (r < 65536) := by rw [decide_eq_decide]; omega
      simp only [h1,  decide_true, decide_false] at b1 b2 b3
      clear hR h1 
      go_enter Tryd.func116, Tryd.ntmps116
      go_wp2_with (go_at_call 115; refine K.out.mono ?_; rintro e w1 ⟨rfl, rfl⟩)
      go_ret
      exact ⟨rfl, rfl⟩
    by_cases h2 : r < 2048
    · have hv : R = 2 := by
        rw [← hR]
        repeat' split
        all_goals first | rfl | (exfalso; omega)
      subst hv
      have b1 : decide ((r : Int) < 128) = decide (r < 128) := by rw [decide_eq_decide]; omega
      have b2 : decide ((r : Int) < 2048) = decide (r < 2048) := by rw [decide_eq_decide]; omega
      have b3 : decide ((r : Int) < 65536) = decide (r < 65536) := by rw [decide_eq_decide]; omega
      simp only [h1, h2, decide_true, decide_false] at b1 b2 b3
      clear hR h1 h2
      go_enter Tryd.func116, Tryd.ntmps116
      go_wp2_with (go_at_call 115; refine K.out.mono ?_; rintro e w1 ⟨rfl, rfl⟩)
      go_ret
      exact ⟨rfl, rfl⟩
    by_cases h3 : r < 65536
    · have hv : R = 3 := by
        rw [← hR]
        repeat' split
        all_goals first | rfl | (exfalso; omega)
      subst hv
      have b1 : decide ((r : Int) < 128) = decide (r < 128) := by rw [decide_eq_decide]; omega
      have b2 : decide ((r : Int) < 2048) = decide (r < 2048) := by rw [decide_eq_decide]; omega
      have b3 : decide ((r : Int) < 65536) = decide (r < 65536) := by rw [decide_eq_decide]; omega
      simp only [h1, h2, h3, decide_true, decide_false] at b1 b2 b3
      clear hR h1 h2 h3
      go_enter Tryd.func116, Tryd.ntmps116
      go_wp2_with (go_at_call 115; refine K.out.mono ?_; rintro e w1 ⟨rfl, rfl⟩)
      go_ret
      exact ⟨rfl, rfl⟩
    by_cases h4 : r < 4000000000
    · have hv : R = 4 := by
        rw [← hR]
        repeat' split
        all_goals first | rfl | (exfalso; omega)
      subst hv
      have b1 : decide ((r : Int) < 128) = decide (r < 128) := by rw [decide_eq_decide]; omega
      have b2 : decide ((r : Int) < 2048) = decide (r < 2048) := by rw [decide_eq_decide]; omega
      have b3 : decide ((r : Int) < 65536) = decide (r < 65536) := by rw [decide_eq_decide]; omega
      simp only [h1, h2, h3, decide_true, decide_false] at b1 b2 b3
      clear hR h1 h2 h3 h4
      go_enter Tryd.func116, Tryd.ntmps116
      go_wp2_with (go_at_call 115; refine K.out.mono ?_; rintro e w1 ⟨rfl, rfl⟩)
      go_ret
      exact ⟨rfl, rfl⟩
    omega

theorem enc_cells (r : Int) : bv (Lib.encodeRune r) = (Lib.encodeRuneZ r).map fun x => Value.int .u8 x := by
  rw [← bv_byteCells]
  exact Lib.byteCells_encodeRune r
theorem enc_len (r : Int) : (Lib.encodeRune r).length = (Lib.encodeRuneZ r).length := by simp [Lib.encodeRune]
/-- A fresh block of a rune's bytes. -/
theorem enc_own {r : Int} {w : World} {zs : List Int} {n : Nat} (cs : Array Value) (hz : Lib.encodeRuneZ r = zs) (hc : cs = (zs.map fun x => Value.int .u8 x).toArray) (hn : zs.length = n) (h4 : n ≤ 4) :
    (w.alloc (.cells cs 5)).ownsRow w.heap.size 5 1 (.slice (some ⟨w.heap.size, 0, none⟩) n n) (Lib.encodeRune r).length (bv (Lib.encodeRune r)) := by
  subst hz
  rw [enc_len, hn, enc_cells]
  have h := World.ownsRow_lit (base := w.heap.size) (e := 5) (size := 1) w cs n (Nat.le_refl _) (by simp only [maxLen]; omega) (by rw [hc]; simpa using hn)
  rw [hc] at h ⊢
  exact h

set_option maxHeartbeats 1000000 in
set_option maxRecDepth 100000 in
theorem rbytesOf_any (r : Nat) (w : World) (hr : r ≤ 2147483647) : Calls Tryd.prog 110 #[.int .i32 r] w (Gives fun v w' => w'.ownsRow w.heap.size 5 1 v (Lib.encodeRune r).length (bv (Lib.encodeRune r)) ∧ Below w.heap.size w w') := by
  have K := Lib.hid (rchar_any r w hr)
  cases hc : charB r with
  | false =>
    rw [hc] at K
    have hw := rwidth_any 65533 w (by decide)
    have K2 := Lib.hid hw
    have he : Lib.encodeRuneZ r = [239, 191, 189] := Lib.encodeRuneZ_bad (by simp [charB] at hc; omega)
    have HE := Lib.hid he
    clear hw he hc
    go_enter Tryd.func110, Tryd.ntmps110
    go_wp2_with (first | (go_at_call 115; refine K.out.mono ?_; rintro e w1 ⟨rfl, rfl⟩) | (go_at_call 116; refine K2.out.mono ?_; rintro e w1 ⟨rfl, rfl⟩; rw [show widthN 65533 = 3 from rfl]))
    go_ret
    exact ⟨_, rfl, enc_own _ HE.out rfl rfl (by decide), (Below.refl _ _).alloc (Nat.le_refl _) _⟩
  | true =>
    rw [hc] at K
    have K2 := Lib.hid (rwidth_any r w hr)
    have hc2 : r ≤ 1114111 ∧ (r < 55296 ∨ 57343 < r) := by simpa [charB] using hc
    have i0 : (0 : Int) ≤ (r : Int) := by omega
    by_cases h1 : r < 128
    · have hw : widthN r = 1 := by
        unfold widthN
        rw [hc]
        simp only [Bool.true_eq_false, if_false]
        repeat' split
        all_goals first | rfl | (exfalso; omega)
      rw [hw] at K2
      have he : Lib.encodeRuneZ r = [(r : Int)] := Lib.encodeRuneZ_one (by omega) (by omega)
      have HE := Lib.hid he
      clear hw he hc
      go_enter Tryd.func110, Tryd.ntmps110
      go_wp2_with (first | (go_at_call 115; refine K.out.mono ?_; rintro e w1 ⟨rfl, rfl⟩) | (go_at_call 116; refine K2.out.mono ?_; rintro e w1 ⟨rfl, rfl⟩))
      go_ret
      exact ⟨_, rfl, enc_own _ HE.out rfl rfl (by decide), (Below.refl _ _).alloc (Nat.le_refl _) _⟩
    by_cases h2 : r < 2048
    · have hw : widthN r = 2 := by
        unfold widthN
        rw [hc]
        simp only [Bool.true_eq_false, if_false]
        repeat' split
        all_goals first | rfl | (exfalso; omega)
      rw [hw] at K2
      have he : Lib.encodeRuneZ r = [192 + (r : Int) / 64, 128 + (r : Int) % 64] := Lib.encodeRuneZ_two (by omega) (by omega)
      have HE := Lib.hid he
      clear hw he hc
      go_enter Tryd.func110, Tryd.ntmps110
      go_wp2_with (first | (go_at_call 115; refine K.out.mono ?_; rintro e w1 ⟨rfl, rfl⟩) | (go_at_call 116; refine K2.out.mono ?_; rintro e w1 ⟨rfl, rfl⟩))
      go_ret
      exact ⟨_, rfl, enc_own _ HE.out rfl rfl (by decide), (Below.refl _ _).alloc (Nat.le_refl _) _⟩
    by_cases h3 : r < 65536
    · have hw : widthN r = 3 := by
        unfold widthN
        rw [hc]
        simp only [Bool.true_eq_false, if_false]
        repeat' split
        all_goals first | rfl | (exfalso; omega)
      rw [hw] at K2
      have he : Lib.encodeRuneZ r = [224 + (r : Int) / 4096, 128 + (r : Int) / 64 % 64, 128 + (r : Int) % 64] := Lib.encodeRuneZ_three (by omega)
      have HE := Lib.hid he
      clear hw he hc
      go_enter Tryd.func110, Tryd.ntmps110
      go_wp2_with (first | (go_at_call 115; refine K.out.mono ?_; rintro e w1 ⟨rfl, rfl⟩) | (go_at_call 116; refine K2.out.mono ?_; rintro e w1 ⟨rfl, rfl⟩))
      go_ret
      exact ⟨_, rfl, enc_own _ HE.out rfl rfl (by decide), (Below.refl _ _).alloc (Nat.le_refl _) _⟩
    by_cases h4 : r < 2000000
    · have hw : widthN r = 4 := by
        unfold widthN
        rw [hc]
        simp only [Bool.true_eq_false, if_false]
        repeat' split
        all_goals first | rfl | (exfalso; omega)
      rw [hw] at K2
      have he : Lib.encodeRuneZ r = [240 + (r : Int) / 262144, 128 + (r : Int) / 4096 % 64, 128 + (r : Int) / 64 % 64, 128 + (r : Int) % 64] := Lib.encodeRuneZ_four (by omega) (by omega)
      have HE := Lib.hid he
      clear hw he hc
      go_enter Tryd.func110, Tryd.ntmps110
      go_wp2_with (first | (go_at_call 115; refine K.out.mono ?_; rintro e w1 ⟨rfl, rfl⟩) | (go_at_call 116; refine K2.out.mono ?_; rintro e w1 ⟨rfl, rfl⟩))
      go_ret
      exact ⟨_, rfl, enc_own _ HE.out rfl rfl (by decide), (Below.refl _ _).alloc (Nat.le_refl _) _⟩
    omega

set_option maxHeartbeats 2000000 in
set_option maxRecDepth 100000 in
/-- Of one rune. -/
theorem rBytes_any (S : Nat → Prop) (r : Nat) (A : Option Addr) (c : Nat) (w : World) (h : Row S w 1 A 1 [.int .i32 r]) (hr : r ≤ 2147483647) :
    Calls Tryd.prog 101 #[.slice A 1 c] w (Gives fun v w' => w'.ownsRow w.heap.size 5 1 v (Lib.encodeRune r).length (bv (Lib.encodeRune r)) ∧ Below w.heap.size w w') := by
  obtain ⟨j0, hj, hy0, hy1, hy2⟩ := info_parts u8info
  obtain ⟨ad, u, rfl, _, hu, e0⟩ := h.at_ (k := 0) (by omega)
  simp only [List.getElem?_cons_zero] at hu
  obtain rfl := Option.some.inj hu
  rw [show ad.add 0 = ad by simp [Addr.add]] at e0
  have K := Lib.hid (rbytesOf_any r w hr)
  have hle := encodeRune_le (r : Int)
  generalize Lib.encodeRune (r : Int) = es at K hle ⊢
  clear h hu
  go_enter Tryd.func101, Tryd.ntmps101
  go_wp2_with fail
  go_loopw [3, 8] (fun v i wr => (v = .slice none 0 0 ∧ i = .int .i64 0 ∧ wr = w) ∨ (i = .int .i64 1 ∧ Hid (wr.ownsRow w.heap.size 5 1 v es.length (bv es)) ∧ Hid (Below w.heap.size w wr))) (fun _ i _ => 1 - (intOf i).toNat)
  case atStart => exact .inl ⟨rfl, rfl, rfl⟩
  case round =>
    rcases hrel with ⟨rfl, rfl, rfl⟩ | ⟨rfl, HO, HW⟩
    · go_wp2_with fail
      refine K.out.mono ?_
      rintro e w2 ⟨v, rfl, ho, hb⟩
      obtain ⟨A1, c1, rfl, _, _⟩ := own_slice ho
      have HO := Lib.hid ho
      have HW := Lib.hid hb
      clear ho hb
      go_wp2_with (at_builtin; refine wpList_append_row _ rfl _ _ 55 rfl wr.heap.size 5 j0 _ 1 1 Tryd.underlying55 hj hy0 hy1 hy2 rfl (by decide) _ 0 [] rfl (World.ownsRow_nil _ _ _ _) (fun j => wr.heap.size ≤ j) A1 es.length c1 (bv es) rfl (Row.of_own HO.out) (bv_one es) (by simp only [maxLen]; omega) (by omega) (by have := HW.out.size; omega) ?_; intro v2 w3 ho2 hg2 hat2; have HO2 := Lib.hid ho2; have HW2 := Lib.hid (HW.out.grown hg2 HW.out.size (fun j e => by cases e)); clear ho2 hg2 hat2)
      go_roundw
      case rel =>
        refine .inr ⟨by go_num, ?_, HW2.out⟩
        have := HO2.out
        rw [Nat.zero_add, List.nil_append] at this
        exact this
      case measure => simp [intOf]
    · go_wp2
      go_ret
      exact ⟨_, rfl, HO.out, HW.out⟩
set_option maxHeartbeats 2000000 in
set_option maxRecDepth 100000 in
/-- Of one rune. -/
theorem rText_any (S : Nat → Prop) (r : Nat) (A : Option Addr) (c : Nat) (w : World) (h : Row S w 1 A 1 [.int .i32 r]) (hr : r ≤ 2147483647) :
    Calls Tryd.prog 84 #[.slice A 1 c] w fun e w' => e = .returned (.string (str (Lib.encodeRune r))) ∧ Below w.heap.size w w' := by
  have K := Lib.hid (rBytes_any S r A c w h hr)
  clear h
  generalize Lib.encodeRune (r : Int) = es at K ⊢
  go_enter Tryd.func84, Tryd.ntmps84
  go_wp2_with fail
  refine K.out.mono ?_
  rintro e w2 ⟨v, rfl, ho, hb⟩
  obtain ⟨A1, c1, rfl, _, _⟩ := own_slice ho
  have hc := conv_row (Row.of_own ho) c1
  have HB := Lib.hid hb
  clear ho hb
  go_wp2
  go_ret
  exact ⟨rfl, HB.out⟩

set_option maxHeartbeats 2000000 in
set_option maxRecDepth 100000 in
theorem rRune_any (r : Nat) (attr : Bool) (w : World) (hr : r ≤ 2147483647) :
    Calls Tryd.prog 66 #[.int .i32 r, .bool attr] w fun e w' => e = .returned (.string (str (escR attr r))) ∧ Below w.heap.size w w' := by
  have K := Lib.hid (fun W (h : Row (fun k => k = w.heap.size) W 1 (some ⟨w.heap.size, 0, none⟩) 1 [.int .i32 r]) => rText_any _ r (some ⟨w.heap.size, 0, none⟩) 1 W h hr)
  have i0 : (0 : Int) ≤ (r : Int) := by omega
  by_cases q0 : r = 38
  · subst q0
    go_enter Tryd.func66, Tryd.ntmps66
    go_wp2
    go_ret
    exact ⟨rfl, Below.refl _ _⟩
  by_cases q1 : r = 160
  · subst q1
    go_enter Tryd.func66, Tryd.ntmps66
    go_wp2
    go_ret
    exact ⟨rfl, Below.refl _ _⟩
  by_cases q2 : r = 60
  · subst q2
    go_enter Tryd.func66, Tryd.ntmps66
    go_wp2
    go_ret
    exact ⟨rfl, Below.refl _ _⟩
  by_cases q3 : r = 62
  · subst q3
    go_enter Tryd.func66, Tryd.ntmps66
    go_wp2
    go_ret
    exact ⟨rfl, Below.refl _ _⟩
  have f0 : ((r : Int) == 38) = false := by rw [beq_eq_false_iff_ne]; omega
  have f1 : ((r : Int) == 160) = false := by rw [beq_eq_false_iff_ne]; omega
  have f2 : ((r : Int) == 60) = false := by rw [beq_eq_false_iff_ne]; omega
  have f3 : ((r : Int) == 62) = false := by rw [beq_eq_false_iff_ne]; omega
  by_cases q4 : r = 34
  · subst q4
    cases attr with
    | true =>
      clear q0 q1 q2 q3 f0 f1 f2 f3
      go_enter Tryd.func66, Tryd.ntmps66
      go_wp2
      go_ret
      exact ⟨rfl, Below.refl _ _⟩
    | false =>
      clear q0 q1 q2 q3 f0 f1 f2 f3
      have K1 := Lib.hid (fun h => K.out (w.alloc (.cells #[.int .i32 34] 21)) h)
      go_enter Tryd.func66, Tryd.ntmps66
      go_wp2_with (go_at_call 84; refine (K.out _ (Row.new w 21 #[.int .i32 34] 1 1 rfl)).mono ?_; rintro e w1 ⟨rfl, hb1⟩)
      go_ret
      exact ⟨rfl, ((Below.refl _ w).alloc (Nat.le_refl _) _).trans (hb1.mono (by simp))⟩
  have f4 : ((r : Int) == 34) = false := by rw [beq_eq_false_iff_ne]; omega
  have he : escR attr r = Lib.encodeRune r := by unfold escR; rw [if_neg q0]; rw [if_neg q1]; rw [if_neg q2]; rw [if_neg q3]; rw [if_neg (fun h => q4 h.1)]
  rw [he]
  clear q0 q1 q2 q3 q4 he
  go_enter Tryd.func66, Tryd.ntmps66
  go_wp2_with (go_at_call 84; refine (K.out _ (Row.new w 21 #[.int .i32 r] 1 1 rfl)).mono ?_; rintro e w1 ⟨rfl, hb1⟩)
  go_ret
  exact ⟨rfl, ((Below.refl _ w).alloc (Nat.le_refl _) _).trans (hb1.mono (by simp))⟩
end Go.Proofs.YtcogoiphpfgkdaaDoor
