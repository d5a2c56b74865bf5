/-
  The contracts of Same, of the program and of the reference: have two scripts the same bytes, and the same end?
-/
import Derived.Test.YtadnceiohgjdhaaBytesOf
namespace Go.Proofs.Ytadnceiohgjdhaa
open Go.RowKit
set_option linter.unusedVariables false

/-- Two scripts have the same bytes, and the same end. -/
def sameB (a b : List Stp) : Bool := decide (bytesOf a = bytesOf b)
theorem sameB_no {a b : List Stp} (h : ((bytesOf a).2 == (bytesOf b).2) = false) : sameB a b = false := by
  unfold sameB
  refine decide_eq_false fun e => ?_
  rw [e] at h
  simp at h
theorem sameB_yes {a b : List Stp} (h : ((bytesOf a).2 == (bytesOf b).2) = true) : ((bytesOf a).1 == (bytesOf b).1) = sameB a b := by
  unfold sameB
  rw [Bool.eq_iff_iff]
  simp at h ⊢
  exact ⟨fun e => Prod.ext e h, fun e => by rw [e]⟩
theorem sameB_text_no {a b : List Stp} (h : ((bytesOf a).1 == (bytesOf b).1) = false) : sameB a b = false := by
  unfold sameB
  refine decide_eq_false fun e => ?_
  rw [e] at h
  simp at h
theorem sameB_text_yes {a b : List Stp} (h : ((bytesOf a).1 == (bytesOf b).1) = true) : ((bytesOf a).2 == (bytesOf b).2) = sameB a b := by
  unfold sameB
  rw [Bool.eq_iff_iff]
  simp at h ⊢
  exact ⟨fun e => Prod.ext h e, fun e => by rw [e]⟩
theorem ret_bool {a b : Bool} (h : a = b) : Ending.returned (.bool a) = .returned (.bool b) := by rw [h]

set_option maxHeartbeats 2000000 in
set_option maxRecDepth 100000 in
/-- chunk.Same -/
theorem same_any (S T : Nat → Prop) (A B : Option Addr) (n c m d : Nat) (L M : List Stp) (w : World) (hS : Steps S w A n L) (hT : Steps T w B m M)
    (hb1 : (bytesOf L).1.length ≤ 140737488355328) (hb2 : (bytesOf M).1.length ≤ 140737488355328) (hn : n ≤ 140737488355328) (hm : m ≤ 140737488355328) :
    Calls Try.prog 19 #[.slice A n c, .slice B m d] w fun e w' => e = .returned (.bool (sameB L M)) ∧ Below w.heap.size w w' := by
  have HS := Lib.hid hS
  have HT := Lib.hid hT
  clear hS hT
  obtain ⟨x, hx⟩ : ∃ x, x = (bytesOf L).1 := ⟨_, rfl⟩
  obtain ⟨y, hy⟩ : ∃ y, y = (bytesOf M).1 := ⟨_, rfl⟩
  obtain ⟨f, hf⟩ : ∃ f, f = (bytesOf L).2 := ⟨_, rfl⟩
  obtain ⟨g, hg⟩ : ∃ g, g = (bytesOf M).2 := ⟨_, rfl⟩
  have c1 := fun W h => bytes_any S A n c L W h hb1 hn
  have c2 := fun W h => bytes_any T B m d M W h hb2 hm
  rw [← hx, ← hf] at c1
  rw [← hy, ← hg] at c2
  have C1 := Lib.hid c1
  have C2 := Lib.hid c2
  clear c1 c2
  cases hfg : f == g
  · have fin : sameB L M = false := sameB_no (by rw [← hf, ← hg]; exact hfg)
    rw [fin]
    clear fin hx hy hf hg hb1 hb2
    go_enter Try.func19, Try.ntmps19
    go_wp2_with fail
    refine (C1.out _ HS.out).mono ?_
    rintro e w1 ⟨v, rfl, b1, rfl, hown1, hbl1⟩
    obtain ⟨A1, c1, rfl, _, _⟩ := own_slice hown1
    go_wp2_with fail
    refine (C2.out _ (HT.out.behind hbl1)).mono ?_
    rintro e w2 ⟨v, rfl, b2, rfl, hown2, hbl2⟩
    obtain ⟨A2, c2, rfl, _, _⟩ := own_slice hown2
    go_wp2
    go_ret
    exact ⟨rfl, hbl1.trans (hbl2.mono hbl1.size)⟩
  · have fin : (x == y) = sameB L M := by rw [hx, hy]; exact sameB_yes (by rw [← hf, ← hg]; exact hfg)
    have FIN := Lib.hid fin
    clear fin hx hy hf hg hb1 hb2
    go_enter Try.func19, Try.ntmps19
    go_wp2_with fail
    refine (C1.out _ HS.out).mono ?_
    rintro e w1 ⟨v, rfl, b1, rfl, hown1, hbl1⟩
    obtain ⟨A1, c1, rfl, _, _⟩ := own_slice hown1
    go_wp2_with fail
    refine (C2.out _ (HT.out.behind hbl1)).mono ?_
    rintro e w2 ⟨v, rfl, b2, rfl, hown2, hbl2⟩
    obtain ⟨A2, c2, rfl, _, _⟩ := own_slice hown2
    go_wp2_with fail
    refine (bytesEqual_any _ _ A1 A2 _ c1 _ c2 x y w2 (Row.of_own (own_behind hown1 hbl2)) (Row.of_own hown2)).mono ?_
    rintro e w3 ⟨rfl, rfl⟩
    go_wp2
    go_ret
    exact ⟨ret_bool FIN.out, hbl1.trans (hbl2.mono hbl1.size)⟩

set_option maxHeartbeats 2000000 in
set_option maxRecDepth 100000 in
/-- the reference's Same -/
theorem rsame_any (S T : Nat → Prop) (A B : Option Addr) (n c m d : Nat) (L M : List Stp) (w : World) (hS : Steps S w A n L) (hT : Steps T w B m M)
    (hb1 : (bytesOf L).1.length ≤ 140737488355328) (hb2 : (bytesOf M).1.length ≤ 140737488355328) (hn : n ≤ 140737488355328) (hm : m ≤ 140737488355328) :
    Calls Try.prog 20 #[.slice A n c, .slice B m d] w fun e w' => e = .returned (.bool (sameB L M)) ∧ Below w.heap.size w w' := by
  have HS := Lib.hid hS
  have HT := Lib.hid hT
  clear hS hT
  obtain ⟨x, hx⟩ : ∃ x, x = (bytesOf L).1 := ⟨_, rfl⟩
  obtain ⟨y, hy⟩ : ∃ y, y = (bytesOf M).1 := ⟨_, rfl⟩
  obtain ⟨f, hf⟩ : ∃ f, f = (bytesOf L).2 := ⟨_, rfl⟩
  obtain ⟨g, hg⟩ : ∃ g, g = (bytesOf M).2 := ⟨_, rfl⟩
  have c1 := fun W h => rbytes_any S A n c L W h hb1 hn
  have c2 := fun W h => rbytes_any T B m d M W h hb2 hm
  rw [← hx, ← hf] at c1
  rw [← hy, ← hg] at c2
  have C1 := Lib.hid c1
  have C2 := Lib.hid c2
  clear c1 c2
  cases hxy : x == y
  · have fin : sameB L M = false := sameB_text_no (by rw [← hx, ← hy]; exact hxy)
    rw [fin]
    clear fin hx hy hf hg hb1 hb2
    go_enter Try.func20, Try.ntmps20
    go_wp2_with fail
    refine (C1.out _ HS.out).mono ?_
    rintro e w1 ⟨v, rfl, b1, rfl, hown1, hbl1⟩
    obtain ⟨A1, c1, rfl, _, _⟩ := own_slice hown1
    go_wp2_with fail
    refine (C2.out _ (HT.out.behind hbl1)).mono ?_
    rintro e w2 ⟨v, rfl, b2, rfl, hown2, hbl2⟩
    obtain ⟨A2, c2, rfl, _, _⟩ := own_slice hown2
    have h1 := conv_row (Row.of_own (own_behind hown1 hbl2)) c1
    have h2 := conv_row (Row.of_own hown2) c2
    go_wp2
    go_ret
    exact ⟨rfl, hbl1.trans (hbl2.mono hbl1.size)⟩
  · have fin : (f == g) = sameB L M := by rw [hf, hg]; exact sameB_text_yes (by rw [← hx, ← hy]; exact hxy)
    have FIN := Lib.hid fin
    clear fin hx hy hf hg hb1 hb2
    go_enter Try.func20, Try.ntmps20
    go_wp2_with fail
    refine (C1.out _ HS.out).mono ?_
    rintro e w1 ⟨v, rfl, b1, rfl, hown1, hbl1⟩
    obtain ⟨A1, c1, rfl, _, _⟩ := own_slice hown1
    go_wp2_with fail
    refine (C2.out _ (HT.out.behind hbl1)).mono ?_
    rintro e w2 ⟨v, rfl, b2, rfl, hown2, hbl2⟩
    obtain ⟨A2, c2, rfl, _, _⟩ := own_slice hown2
    have h1 := conv_row (Row.of_own (own_behind hown1 hbl2)) c1
    have h2 := conv_row (Row.of_own hown2) c2
    go_wp2
    go_ret
    exact ⟨ret_bool FIN.out, hbl1.trans (hbl2.mono hbl1.size)⟩

end Go.Proofs.Ytadnceiohgjdhaa
