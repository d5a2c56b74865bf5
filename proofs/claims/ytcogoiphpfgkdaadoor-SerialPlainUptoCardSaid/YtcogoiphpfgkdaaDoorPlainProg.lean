/-
  Trees as plain text: the contract of Plain.
-/
import Derived.Test.YtcogoiphpfgkdaaDoorPaperWalk
import Derived.Test.YtcogoiphpfgkdaaDoorSerialAll
namespace Go.Proofs.YtcogoiphpfgkdaaDoor
open Go.RowKit
set_option linter.unusedVariables false
set_option linter.unusedSimpArgs false

/-- Trees as plain text. -/
def plainB (L : List Nd) : List UInt8 := (nodesL L false ⟨[], [], false⟩).fin.told
def plainOut (L : List Nd) : List UInt8 := if mayB L = true then plainB L else []
theorem plainB_le (L : List Nd) : (plainB L).length ≤ 15 * wt L := by
  have h1 := sz_nodes L false ⟨[], [], false⟩
  have h2 := sz_fin (nodesL L false ⟨[], [], false⟩)
  unfold plainB
  unfold Ls.sz at h1 h2
  simp at h1
  omega

theorem pap_string {w : World} {lo bp : Nat} {s : Ls} (h : PapAt w lo bp s) : Calls Tryd.prog 50 #[.pointer (some ⟨bp, 0, none⟩)] w fun e w' => e = .returned (.string (str s.told)) ∧ Below lo w w' := by
  obtain ⟨hlo, p, v, vl, hp, hb, hu, hnil, hl⟩ := h
  by_cases h0 : s.told = []
  · obtain rfl := hnil h0
    rw [h0]
    exact string4_none hb
  · exact string4_some hb hu h0

set_option maxHeartbeats 2000000 in
set_option maxRecDepth 100000 in
theorem plain_any (S : Nat → Prop) (L : List Nd) (w : World) (A : Option Addr) (c : Nat) (hT : Tab w) (hRT : RawTab w) (hS : ∀ k, S k → k < w.heap.size) (hw : wt L ≤ 1048576) (hN : Ns S w A L.length L) :
    Calls Tryd.prog 28 #[.slice A L.length c] w fun e w' => e = .returned (.tuple #[.string (str (plainOut L)), .int .i64 (errN (mayB L))]) ∧ Below w.heap.size w w' := by
  have KC := Lib.hid (check_any S L hw w A c hN hT hS)
  have KN := Lib.hid (fun w0 (h : Below w.heap.size w w0) => nodesL_any S w0 (hT.behind h) (hRT.behind h) (fun k hk => Nat.lt_of_lt_of_le (hS k hk) h.size) L hw)
  have HN := Lib.hid hN
  have hsz := sz_nodes L false ⟨[], [], false⟩
  have hszf := sz_fin (nodesL L false ⟨[], [], false⟩)
  have h00 : (⟨[], [], false⟩ : Ls).sz = 0 := rfl
  rw [h00] at hsz
  unfold plainOut plainB errN
  obtain ⟨m, hm⟩ : ∃ m, mayB L = m := ⟨_, rfl⟩
  rw [hm] at KC ⊢
  obtain ⟨sN, hsN⟩ : ∃ sN, nodesL L false ⟨[], [], false⟩ = sN := ⟨_, rfl⟩
  rw [hsN] at hsz hszf ⊢
  have HSN := Lib.hid hsN
  clear hT hRT hS hN hm hsN h00
  cases m with
  | false =>
    go_enter Tryd.func28, Tryd.ntmps28
    go_wp2_with fail
    refine KC.out.mono ?_
    rintro e w1 ⟨rfl, hb1⟩
    go_wp2
    go_ret2
    exact ⟨rfl, hb1⟩
  | true =>
    go_enter Tryd.func28, Tryd.ntmps28
    go_wp2_with fail
    refine KC.out.mono ?_
    rintro e w1 ⟨rfl, hb1⟩
    have B1 := Lib.hid hb1
    clear hb1
    go_wp2_with fail
    obtain ⟨W2, hW2⟩ : ∃ W2, w1.alloc (.cells #[.pointer none, .slice none 0 0, .slice none 0 0, .string ⟨#[]⟩] 71) = W2 := ⟨_, rfl⟩
    rw [hW2]
    have hb2 : Below w1.heap.size w1 W2 := by rw [← hW2]; exact (Below.refl _ w1).alloc (Nat.le_refl _) _
    have hp2 : PapAt W2 w1.heap.size w1.heap.size ⟨[], [], false⟩ := by
      rw [← hW2]
      exact ⟨Nat.le_refl _, _, _, _, .inl rfl, Blk.new w1 _ _, World.ownsRowF_nil _ _ _ _, fun _ => rfl, World.ownsRow_nil _ _ _ _⟩
    clear hW2
    have K2 := KN.out w1 B1.out false ⟨[], [], false⟩ W2 A c w1.heap.size (HN.out.behind B1.out) hp2 hb2 (by show 0 + _ ≤ _; omega)
    rw [HSN.out] at K2
    refine K2.mono ?_
    rintro e w3 ⟨rfl, hp3, hf3⟩
    have P3 := Lib.hid hp3
    have F3 := Lib.hid (hb2.trans hf3.below)
    clear hp2 hb2 hp3 hf3 K2
    have K3 := Lib.hid (end_any P3.out (by unfold Ls.sz at hsz; omega))
    go_wp2_with fail
    refine K3.out.mono ?_
    rintro e w4 ⟨rfl, hp4, hf4⟩
    have P4 := Lib.hid hp4
    have F4 := Lib.hid (F3.out.trans hf4.below)
    have K4 := Lib.hid (pap_string hp4)
    clear hp4 hf4
    go_wp2_with fail
    refine K4.out.mono ?_
    rintro e w5 ⟨rfl, hb5⟩
    go_wp2
    go_ret2
    exact ⟨rfl, B1.out.trans ((F4.out.trans hb5).mono B1.out.size)⟩
end Go.Proofs.YtcogoiphpfgkdaaDoor
