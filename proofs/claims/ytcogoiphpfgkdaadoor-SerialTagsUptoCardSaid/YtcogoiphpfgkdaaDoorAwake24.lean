/-
  The law's awake.
-/
import Derived.Test.YtcogoiphpfgkdaaDoorGreat
namespace Go.Proofs.YtcogoiphpfgkdaaDoor
open Go.RowKit
set_option linter.unusedVariables false
set_option linter.unusedSimpArgs false

def exP : List Nd := [.mk [112] [] [] [.mk [] [97, 38, 98] [] []], .mk [98, 114] [] [] []]
def exS : List Nd := [.mk [115, 99, 114, 105, 112, 116] [] [] [.mk [] [97, 60, 98] [] []]]
theorem exP_may : mayB exP = true := by decide +kernel
theorem exS_may : mayB exS = true := by decide +kernel
theorem exP_wt : wt exP ≤ 1048576 := by decide +kernel
theorem exS_wt : wt exS ≤ 1048576 := by decide +kernel
theorem exP_out : ptText (ptB [] 0 exP) = [60, 112, 62, 97, 38, 97, 109, 112, 59, 98, 60, 47, 112, 62, 60, 98, 114, 62] := by decide +kernel
theorem exS_out : ptText (ptB [] 0 exS) = [60, 115, 99, 114, 105, 112, 116, 62, 97, 60, 98, 60, 47, 115, 99, 114, 105, 112, 116, 62] := by decide +kernel
theorem Row.nil2 {S : Nat → Prop} {w : World} : Row S w 2 none ([] : List At).length (([] : List At).flatMap atCells) := Row.none_

set_option maxHeartbeats 1000000 in
set_option maxRecDepth 100000 in
theorem awake_any (w : World) (hT : Tab w) (hRT : RawTab w) : Calls Tryd.prog 11 #[] w fun e w' => e = .returned (.bool true) ∧ Below w.heap.size w w' := by
  obtain ⟨W2, hW2⟩ : ∃ W2, (w.alloc (.cells #[.string ⟨#[]⟩, .string ⟨#[97, 38, 98]⟩, .slice none 0 0, .slice none 0 0] 41)).alloc (.cells #[.string ⟨#[112]⟩, .string ⟨#[]⟩, .slice none 0 0, .slice (some ⟨w.heap.size, 0, none⟩) 1 1, .string ⟨#[98, 114]⟩, .string ⟨#[]⟩, .slice none 0 0, .slice none 0 0] 41) = W2 := ⟨_, rfl⟩
  have b2 : Below w.heap.size w W2 := by rw [← hW2]; exact ((Below.refl _ w).alloc (Nat.le_refl _) _).alloc (by simp) _
  have n2 : Ns (fun k => k < W2.heap.size) W2 (some ⟨w.heap.size + 1, 0, none⟩) 2 exP := by
    have y1 : Blk W2 w.heap.size 41 #[.string (str []), .string (str [97, 38, 98]), .slice none 0 0, .slice none 0 0] := by rw [← hW2]; exact (Blk.new w _ _).alloc _
    have y2 : Blk W2 (w.heap.size + 1) 41 #[.string (str [112]), .string (str []), .slice none 0 0, .slice (some ⟨w.heap.size, 0, none⟩) 1 1, .string (str [98, 114]), .string (str []), .slice none 0 0, .slice none 0 0] := by rw [← hW2]; exact Blk.new_at _ _ (by simp)
    exact Ns.two (ats := []) (ats' := []) (kids' := []) y2 y2.lt Row.nil2 (Ns.one (ats := []) (kids := []) y1 y1.lt Row.nil2 Ns.nil) Row.nil2 Ns.nil
  have k1 := serialize_any _ exP W2 _ 2 (hT.behind b2) (hRT.behind b2) (fun k h => h) exP_wt n2
  unfold serOut errN at k1
  rw [if_pos exP_may, if_pos exP_may, exP_out] at k1
  have K1 := Lib.hid (show Calls Tryd.prog 13 #[.slice (some ⟨w.heap.size + 1, 0, none⟩) 2 2] W2 _ from k1)
  have K2 := Lib.hid (fun (w1 : World) (h : Below w.heap.size w w1) => by
    obtain ⟨W4, hW4⟩ : ∃ W4, (w1.alloc (.cells #[.string ⟨#[]⟩, .string ⟨#[97, 60, 98]⟩, .slice none 0 0, .slice none 0 0] 41)).alloc (.cells #[.string ⟨#[115, 99, 114, 105, 112, 116]⟩, .string ⟨#[]⟩, .slice none 0 0, .slice (some ⟨w1.heap.size, 0, none⟩) 1 1] 41) = W4 := ⟨_, rfl⟩
    have b4 : Below w1.heap.size w1 W4 := by rw [← hW4]; exact ((Below.refl _ w1).alloc (Nat.le_refl _) _).alloc (by simp) _
    have b5 := h.trans (b4.mono h.size)
    have n4 : Ns (fun k => k < W4.heap.size) W4 (some ⟨w1.heap.size + 1, 0, none⟩) 1 exS := by
      have y1 : Blk W4 w1.heap.size 41 #[.string (str []), .string (str [97, 60, 98]), .slice none 0 0, .slice none 0 0] := by rw [← hW4]; exact (Blk.new w1 _ _).alloc _
      have y2 : Blk W4 (w1.heap.size + 1) 41 #[.string (str [115, 99, 114, 105, 112, 116]), .string (str []), .slice none 0 0, .slice (some ⟨w1.heap.size, 0, none⟩) 1 1] := by rw [← hW4]; exact Blk.new_at _ _ (by simp)
      exact Ns.one (ats := []) y2 y2.lt Row.nil2 (Ns.one (ats := []) (kids := []) y1 y1.lt Row.nil2 Ns.nil)
    have k2 := serialize_any _ exS W4 _ 1 (hT.behind b5) (hRT.behind b5) (fun k h => h) exS_wt n4
    unfold serOut errN at k2
    rw [if_pos exS_may, if_pos exS_may, exS_out] at k2
    rw [← hW4] at k2
    have k3 : Calls Tryd.prog 13 #[.slice (some ⟨w1.heap.size + 1, 0, none⟩) 1 1] ((w1.alloc (.cells #[.string ⟨#[]⟩, .string ⟨#[97, 60, 98]⟩, .slice none 0 0, .slice none 0 0] 41)).alloc (.cells #[.string ⟨#[115, 99, 114, 105, 112, 116]⟩, .string ⟨#[]⟩, .slice none 0 0, .slice (some ⟨w1.heap.size, 0, none⟩) 1 1] 41))
      (fun e w' => e = .returned (.tuple #[.string ⟨#[60, 115, 99, 114, 105, 112, 116, 62, 97, 60, 98, 60, 47, 115, 99, 114, 105, 112, 116, 62]⟩, .int .i64 0]) ∧ Below w.heap.size w w') :=
      k2.mono (fun e w' he => ⟨he.1, by have e2 := he.2; rw [hW4] at e2; exact b5.trans (e2.mono b5.size)⟩)
    exact k3)
  have B2 := Lib.hid b2
  clear k1 b2 n2 hT hRT
  go_enter Tryd.func11, Tryd.ntmps11
  go_wp2_with fail
  refine K1.out.mono ?_
  rintro e w1 ⟨rfl, hb1⟩
  have B1 := Lib.hid (B2.out.trans (hb1.mono B2.out.size))
  clear hb1
  go_wp2_with fail
  refine (K2.out w1 B1.out).mono ?_
  rintro e w3 ⟨rfl, hb3⟩
  go_wp2_with (go_at_call 10; refine (num_any _ _).mono ?_; rintro e w4 ⟨rfl, rfl⟩)
  go_ret
  exact ⟨rfl, hb3⟩
end Go.Proofs.YtcogoiphpfgkdaaDoor
