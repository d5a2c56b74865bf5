/-
  Trees in memory: of more blocks; one tree in a new block; none.
-/
import Derived.Test.YtcogoiphpfgkdaaDoorNodes
import Derived.Test.YtcogoiphpfgkdaaDoorMay
namespace Go.Proofs.YtcogoiphpfgkdaaDoor
open Go.RowKit
set_option linter.unusedVariables false
variable {S T : Nat → Prop} {w w' : World}

theorem NodesAt.wide (hk : ∀ k, k < w.heap.size → S k → T k) (L : List Nd) : ∀ (ad : Addr) (k : Nat), T ad.block → NodesAt S w ad k L → NodesAt T w ad k L := by
  generalize hn : SizeOf.sizeOf L = n
  induction n using Nat.strongRecOn generalizing L with
  | _ n ih =>
    intro ad k hs h
    cases L with
    | nil => rw [NodesAt]; trivial
    | cons d rest =>
      obtain ⟨nm, tx, ats, kids⟩ := d
      rw [NodesAt] at h ⊢
      obtain ⟨⟨Aa, ca, Ak, ck, h0, h1, h2, h3, h4, h5⟩, h6⟩ := h
      refine ⟨⟨Aa, ca, Ak, ck, h0, h1, h2, h3, h4.more hk (by decide), fun hne => ?_⟩, ?_⟩
      · obtain ⟨ak, e, hs2, h7⟩ := h5 hne
        have hlt : ak.block < w.heap.size := by
          cases kids with
          | nil => exact absurd rfl hne
          | cons x r =>
            obtain ⟨_, _, _, _⟩ := x
            rw [NodesAt] at h7
            obtain ⟨⟨_, _, _, _, g0, _⟩, _⟩ := h7
            have := World.block_lt_of_cell? w _ g0
            rwa [addr_block] at this
        exact ⟨ak, e, hk _ hlt hs2, ih _ (by simp at hn; omega) kids rfl ak 0 (hk _ hlt hs2) h7⟩
      · exact ih _ (by simp at hn; omega) rest rfl ad (k + 1) hs h6
theorem Ns.wide {A : Option Addr} {n : Nat} {L : List Nd} (h : Ns S w A n L) (hk : ∀ k, k < w.heap.size → S k → T k) : Ns T w A n L :=
  ⟨h.1, fun hne => by
    obtain ⟨ad, e, hs, h1⟩ := h.2 hne
    have hlt : ad.block < w.heap.size := by
      cases L with
      | nil => exact absurd rfl hne
      | cons x r =>
        obtain ⟨_, _, _, _⟩ := x
        rw [NodesAt] at h1
        obtain ⟨⟨_, _, _, _, g0, _⟩, _⟩ := h1
        have := World.block_lt_of_cell? w _ g0
        rwa [addr_block] at this
    exact ⟨ad, e, hk _ hlt hs, NodesAt.wide hk L ad 0 (hk _ hlt hs) h1⟩⟩
theorem Ns.nil : Ns S w none 0 [] := ⟨rfl, fun h => absurd rfl h⟩
/-- One tree in a block. -/
theorem Ns.one {b : Nat} {nm tx : List UInt8} {ats : List At} {kids : List Nd} {Aa Ak : Option Addr} {ca ck : Nat} (hb : Blk w b 41 #[.string (str nm), .string (str tx), .slice Aa ats.length ca, .slice Ak kids.length ck]) (hs : S b)
    (hr : Row S w 2 Aa ats.length (ats.flatMap atCells)) (hk : Ns S w Ak kids.length kids) : Ns S w (some ⟨b, 0, none⟩) 1 [.mk nm tx ats kids] := by
  refine ⟨rfl, fun _ => ⟨_, rfl, hs, ?_⟩⟩
  rw [NodesAt]
  refine ⟨⟨Aa, ca, Ak, ck, ?_, ?_, ?_, ?_, hr, hk.2⟩, by rw [NodesAt]; trivial⟩
  · exact hb.cell 0
  · exact hb.cell 1
  · exact hb.cell 2
  · exact hb.cell 3
/-- Two trees in a block. -/
theorem Ns.two {b : Nat} {nm tx nm' tx' : List UInt8} {ats ats' : List At} {kids kids' : List Nd} {Aa Ak Aa' Ak' : Option Addr} {ca ck ca' ck' : Nat}
    (hb : Blk w b 41 #[.string (str nm), .string (str tx), .slice Aa ats.length ca, .slice Ak kids.length ck, .string (str nm'), .string (str tx'), .slice Aa' ats'.length ca', .slice Ak' kids'.length ck']) (hs : S b)
    (hr : Row S w 2 Aa ats.length (ats.flatMap atCells)) (hk : Ns S w Ak kids.length kids) (hr' : Row S w 2 Aa' ats'.length (ats'.flatMap atCells)) (hk' : Ns S w Ak' kids'.length kids') : Ns S w (some ⟨b, 0, none⟩) 2 [.mk nm tx ats kids, .mk nm' tx' ats' kids'] := by
  refine ⟨rfl, fun _ => ⟨_, rfl, hs, ?_⟩⟩
  rw [NodesAt, NodesAt, NodesAt]
  refine ⟨⟨Aa, ca, Ak, ck, ?_, ?_, ?_, ?_, hr, hk.2⟩, ⟨Aa', ca', Ak', ck', ?_, ?_, ?_, ?_, hr', hk'.2⟩, trivial⟩
  · exact hb.cell 0
  · exact hb.cell 1
  · exact hb.cell 2
  · exact hb.cell 3
  · exact hb.cell 4
  · exact hb.cell 5
  · exact hb.cell 6
  · exact hb.cell 7
end Go.Proofs.YtcogoiphpfgkdaaDoor
