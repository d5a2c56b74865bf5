/-
  Trees as plain text: the contract of the reference's Plain.
-/
import Derived.Test.YtcogoiphpfgkdaaDoorRPaperWalk
import Derived.Test.YtcogoiphpfgkdaaDoorPlainProg
namespace Go.Proofs.YtcogoiphpfgkdaaDoor
open Go.RowKit
set_option linter.unusedVariables false
set_option linter.unusedSimpArgs false

theorem LinAt.told_cell {w : World} {lo bp : Nat} {s : Ls} (h : LinAt w lo bp s) : w.cell? ⟨bp, 0, none⟩ = some (.string (str s.told)) := by
  obtain ⟨hlo, vl, hb, hl⟩ := h
  exact hb.cell 0

set_option maxHeartbeats 2000000 in
set_option maxRecDepth 100000 in
theorem rplain_any (S : Nat → Prop) (L : List Nd) (w : World) (A : Option Addr) (c : Nat) (hS : ∀ k, S k → k < w.heap.size) (hw : wt L ≤ 1048576) (hY : mayB L = true) (hN : Ns S w A L.length L) :
    Calls Tryd.prog 29 #[.slice A L.length c] w fun e w' => e = .returned (.string (str (plainB L))) ∧ Below w.heap.size w w' := by
  have KN := Lib.hid (rnodesL_any S w hS L hw)
  have HN := Lib.hid hN
  have HY := Lib.hid hY
  have hsz := sz_nodes L false ⟨[], [], false⟩
  have h00 : (⟨[], [], false⟩ : Ls).sz = 0 := rfl
  rw [h00] at hsz
  unfold plainB
  obtain ⟨sN, hsN⟩ : ∃ sN, nodesL L false ⟨[], [], false⟩ = sN := ⟨_, rfl⟩
  rw [hsN] at hsz ⊢
  have HSN := Lib.hid hsN
  clear hS hN hsN h00 hY
  go_enter Tryd.func29, Tryd.ntmps29
  go_wp2_with fail
  obtain ⟨W2, hW2⟩ : ∃ W2, w.alloc (.cells #[.string ⟨#[]⟩, .slice none 0 0, .string ⟨#[]⟩] 76) = W2 := ⟨_, rfl⟩
  rw [hW2]
  have hb2 : Below w.heap.size w W2 := by rw [← hW2]; exact (Below.refl _ w).alloc (Nat.le_refl _) _
  have hp2 : LinAt W2 w.heap.size w.heap.size ⟨[], [], false⟩ := by
    rw [← hW2]
    exact ⟨Nat.le_refl _, _, Blk.new w _ _, World.ownsRow_nil _ _ _ _⟩
  clear hW2
  have K2 := KN.out false ⟨[], [], false⟩ W2 A c w.heap.size HY.out HN.out hp2 hb2 (by show 0 + _ ≤ _; omega)
  rw [HSN.out] at K2
  refine K2.mono ?_
  rintro e w3 ⟨rfl, hp3, hf3⟩
  have P3 := Lib.hid hp3
  have F3 := Lib.hid (hb2.trans hf3.below)
  clear hp2 hb2 hp3 hf3 K2
  have K3 := Lib.hid (rend_any P3.out (by unfold Ls.sz at hsz; omega))
  go_wp2_with fail
  refine K3.out.mono ?_
  rintro e w4 ⟨rfl, hp4, hf4⟩
  have F4 := Lib.hid (F3.out.trans hf4.below)
  have x0 := hp4.told_cell
  have hlt := hp4.lt
  clear hp4 hf4
  go_wp2
  go_ret
  exact ⟨rfl, F4.out⟩
end Go.Proofs.YtcogoiphpfgkdaaDoor
