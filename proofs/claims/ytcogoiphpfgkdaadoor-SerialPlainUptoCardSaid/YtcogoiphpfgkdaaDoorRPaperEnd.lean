/-
  The reference's lines: blank, end.
-/
import Derived.Test.YtcogoiphpfgkdaaDoorRPaper
import Derived.Test.YtcogoiphpfgkdaaDoorPlan
import Derived.Deep.CutRange
namespace Go.Proofs.YtcogoiphpfgkdaaDoor
open Go.RowKit
set_option linter.unusedVariables false
set_option linter.unusedSimpArgs false

set_option maxHeartbeats 1000000 in
set_option maxRecDepth 100000 in
theorem rlblank_any (r : Nat) (w : World) : Calls Tryd.prog 75 #[.int .i32 r] w fun e w' => e = .returned (.bool (blankR r)) ∧ w = w' := by
  obtain ⟨R, hR⟩ : ∃ R, blankR r = R := ⟨_, rfl⟩
  rw [hR]
  unfold blankR at hR
  by_cases h9 : r = 9
  · have f0 : ((r : Int) == 9) = true := by rw [h9]; rfl
    obtain rfl : true = R := by rw [← hR, h9]; rfl
    go_enter Tryd.func75, Tryd.ntmps75
    go_wp2
    go_ret
    exact ⟨rfl, rfl⟩
  · have f0 : ((r : Int) == 9) = false := by rw [beq_eq_false_iff_ne]; omega
    by_cases h32 : r = 32
    · have f1 : ((r : Int) == 32) = true := by rw [h32]; rfl
      obtain rfl : true = R := by rw [← hR, h32]; rfl
      go_enter Tryd.func75, Tryd.ntmps75
      go_wp2
      go_ret
      exact ⟨rfl, rfl⟩
    · have f1 : ((r : Int) == 32) = false := by rw [beq_eq_false_iff_ne]; omega
      obtain rfl : false = R := by rw [← hR]; simp [h9, h32]
      go_enter Tryd.func75, Tryd.ntmps75
      go_wp2
      go_ret
      exact ⟨rfl, rfl⟩

/-- The line's runes, in the walk's own spelling. -/
theorem LinAt.line {w : World} {lo bp : Nat} {s : Ls} (h : LinAt w lo bp s) : ∃ Al cl, w.cell? ⟨bp, 1, none⟩ = some (.slice Al s.line.length cl) ∧ s.line.length ≤ cl ∧ (∀ W', Below w.heap.size w W' → ∀ n cap, n ≤ s.line.length → (convert 69 9 (.slice Al n cap)).run Tryd.prog W' = .ok (.string (str (encL (s.line.take n)))) W') ∧
    ∀ (m x : Nat), s.line[m]? = some x → ∃ g, Al = some ⟨g, 0, none⟩ ∧ w.cell? ⟨g, m, none⟩ = some (.int .i32 x) := by
  obtain ⟨h1, vl, h3, h6⟩ := h
  obtain ⟨Al, cl, rfl, hc, _⟩ := own_slice h6
  refine ⟨Al, cl, h3.cell 1, hc, fun W' hb n cap hn => conv_line (own_behind h6 hb) n cap hn, fun m x hx => ?_⟩
  rcases own_form h6 with ⟨hv, h0, _⟩ | ⟨g, cap', cur, hv, _⟩
  · have := (List.getElem?_eq_some_iff.1 hx).1
    omega
  · injection hv with hA
    subst hA
    have := h6.cells (g := g) rfl m (.int .i32 x) (by simp [rv, hx])
    rw [addr_lit, Nat.zero_add] at this
    exact ⟨g, rfl, this⟩

set_option maxHeartbeats 2000000 in
set_option maxRecDepth 100000 in
theorem rend_any {w : World} {lo bp : Nat} {s : Ls} (h : LinAt w lo bp s) (hn : s.told.length + 4 * s.line.length ≤ 1073741824) :
    Calls Tryd.prog 52 #[.pointer (some ⟨bp, 0, none⟩)] w fun e w' => e = .returned (.tuple #[]) ∧ LinAt w' lo bp s.fin ∧ Fr lo w w' := by
  have hlt := h.lt
  obtain ⟨Al, cl, x1, hcl, hcv, hcell⟩ := h.line
  obtain ⟨hlo, vl, hb, hl⟩ := h
  obtain ⟨told, line, mark⟩ := s
  simp only at hb hl hn x1 hcl hcv hcell
  have x0 := hb.cell 0
  have f0 := hb.frozen 0
  have f1 := hb.frozen 1
  simp only [List.getElem?_toArray, List.getElem?_cons_zero, List.getElem?_cons_succ] at x0
  obtain ⟨n, hln⟩ : ∃ n, line.length = n := ⟨_, rfl⟩
  obtain ⟨R, hR⟩ : ∃ R, (⟨told, line, mark⟩ : Ls).fin = R := ⟨_, rfl⟩
  rw [hR]
  have HR := Lib.hid hR
  have HB := Lib.hid hb
  have HL := Lib.hid hl
  have HCV := Lib.hid hcv
  have HCE := Lib.hid hcell
  have HLN := Lib.hid hln
  rw [hln] at x1 hn hcl
  clear hb hl hcv hcell hln hR
  go_enter Tryd.func52, Tryd.ntmps52
  go_wp2_with fail
  go_loopw [2] (fun i wr => ∃ (k : Nat), k ≤ n ∧ i = .int .i64 k ∧ wr = w ∧ Hid (trimR (line.take k) = trimR line)) (fun i _ => (intOf i).toNat)
  case atStart => exact ⟨n, Nat.le_refl _, rfl, rfl, Lib.hid (by rw [← HLN.out, List.take_length])⟩
  case round =>
    obtain ⟨k, hk, rfl, rfl, HTR⟩ := hrel
    cases k with
    | zero =>
      have ht : trimR line = [] := by rw [← HTR.out]; rfl
      have hfin : (⟨told, line, mark⟩ : Ls).fin = ⟨told, [], mark⟩ := by unfold Ls.fin; rw [if_pos ht]
      obtain rfl : R = ⟨told, [], mark⟩ := by rw [← HR.out]; exact hfin
      clear ht hfin
      go_wp2
      go_end0
      have hk : Keep (fun k => k = bp ∨ vl.ownBlock = some k) wr (wr.setCell ⟨bp, 1, none⟩ (.slice none 0 0)) := (Keep.refl (fun k => k = bp ∨ vl.ownBlock = some k) wr).setCell (p := ⟨bp, 1, none⟩) (.inl (.inl rfl)) _
      exact ⟨rfl, lin_line hlo HB.out HL.out hk (HB.out.set_ 1 _) (World.ownsRow_nil _ _ _ _)⟩
    | succ m =>
      obtain ⟨x, hx⟩ : ∃ x, line[m]? = some x := ⟨line[m]'(by have := HLN.out; omega), List.getElem?_eq_getElem _⟩
      obtain ⟨g, rfl, hgx⟩ := HCE.out m x hx
      have hgl := World.block_lt_of_cell? wr _ hgx
      have htk : line.take (m + 1) = line.take m ++ [x] := by rw [List.take_add_one, hx]; rfl
      have htr := HTR.out
      rw [htk, trimR_snoc] at htr
      have e1 : ((m + 1 : Nat) : Int) - 1 = (m : Int) := by omega
      have e2 : (m : Int) + 1 - 1 = (m : Int) := by omega
      have i1 : (0 : Int) ≤ (m : Int) := by omega
      have i2 : (m : Int) < (n : Int) := by omega
      have i3 : decide ((0 : Int) < (m : Int) + 1) = true := decide_eq_true (by omega)
      have i4 : decide ((0 : Int) < ((m + 1 : Nat) : Int)) = true := decide_eq_true (by omega)
      have K := Lib.hid (rlblank_any x wr)
      obtain ⟨b, hb⟩ : ∃ b, blankR x = b := ⟨_, rfl⟩
      rw [hb] at K htr
      have HTR2 := Lib.hid htr
      have HTK := Lib.hid htk
      clear hb htr hx
      go_wp2_with fail
      refine K.out.mono ?_
      rintro e w1 ⟨rfl, rfl⟩
      cases b with
      | true =>
        go_wp2
        go_roundw
        case rel => exact ⟨m, by omega, by go_num, trivial, Lib.hid (by have := HTR2.out; rwa [if_pos trivial] at this)⟩
        case measure => simp [intOf]
      | false =>
        have ht : line.take (m + 1) = trimR line := by
          have := HTR2.out
          rw [if_neg (by decide)] at this
          rw [HTK.out, this]
        have hcv := HCV.out wr.drew ((Below.refl _ wr).drew) (m + 1) cl (by have := HLN.out; omega)
        have hel := encL_le (line.take (m + 1))
        have htl : (line.take (m + 1)).length ≤ n := by rw [List.length_take]; have := HLN.out; omega
        have hfin : (⟨told, line, mark⟩ : Ls).fin = ⟨told ++ (encL (line.take (m + 1)) ++ [10]), [], mark⟩ := by
          unfold Ls.fin
          simp only
          rw [← ht, if_neg]
          rw [HTK.out]
          simp
        obtain ⟨y, hy⟩ : ∃ y, encL (line.take (m + 1)) = y := ⟨_, rfl⟩
        rw [hy] at hcv hel hfin
        have c1 : str y ++ (⟨#[10]⟩ : ByteArray) = str (y ++ [10]) := str_append y [10]
        obtain ⟨y1, hy1⟩ : ∃ y1, y ++ [10] = y1 := ⟨_, rfl⟩
        rw [hy1] at c1 hfin
        obtain rfl : R = ⟨told ++ y1, [], mark⟩ := by rw [← HR.out]; exact hfin
        have c2 : str told ++ str y1 = str (told ++ y1) := str_append _ _
        have z1 : (str y).size ≤ 4294967296 := by rw [str_size]; omega
        have z2 : (str told).size ≤ 4294967296 := by rw [str_size]; omega
        have z3 : (str y1).size ≤ 4294967297 := by rw [str_size, ← hy1]; simp; omega
        clear ht hfin htl hel hy hy1
        go_upto_region 4 with fail
        have j1 : (0 : Int) ≤ (m : Int) + 1 := by omega
        have j2 : (m : Int) + 1 ≤ (cl : Int) := by omega
        go_region
        clear hcv
        obtain ⟨W5, hW5⟩ : ∃ W5, (wr.setCell ⟨bp, 0, none⟩ (.string (str (told ++ y1)))).drew = W5 := ⟨_, rfl⟩
        rw [hW5]
        have hB5 : Blk W5 bp 76 #[.string (str (told ++ y1)), vl, .string (str (markB mark))] := by rw [← hW5]; exact (HB.out.set_ 0 _).drew
        have hK5 : Keep (fun k => k = bp ∨ vl.ownBlock = some k) wr W5 := by rw [← hW5]; exact ((Keep.refl (fun k => k = bp ∨ vl.ownBlock = some k) wr).setCell (p := ⟨bp, 0, none⟩) (.inl (.inl rfl)) _).drew
        have g5 := hB5.frozen 1
        have y5 := hB5.cell 1
        simp only [List.getElem?_toArray, List.getElem?_cons_zero, List.getElem?_cons_succ] at y5
        have HB5 := Lib.hid hB5
        have HK5 := Lib.hid hK5
        clear hW5 hB5 hK5
        go_wp2
        go_end0
        exact ⟨rfl, lin_line hlo HB.out HL.out (HK5.out.setCell (p := ⟨bp, 1, none⟩) (.inl (.inl rfl)) _) (HB5.out.set_ 1 _) (World.ownsRow_nil _ _ _ _)⟩
end Go.Proofs.YtcogoiphpfgkdaaDoor
