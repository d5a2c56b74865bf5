/-
  SerialPieces: what the walk holds between the loops.
-/
import Derived.Test.YtcogoiphpfgkdaaDoorPiecesAll
import Derived.Test.YtcogoiphpfgkdaaDoorRMarkup
namespace Go.Proofs.YtcogoiphpfgkdaaDoor
open Go.RowKit
set_option linter.unusedVariables false

/-- What lies below 'lim' and stays: the cells of stop, of the result, of what is wanted; the trees; the loops' marks. -/
structure PS (w : World) (b3 b4 b5 bo : Nat) (stop : Int) (Aw : Option Addr) (cw : Nat) (A : Option Addr) (c : Nat) (L : List Nd) (Sw So : Nat → Prop) (Ds : List Nat) (lim : Nat) (W : World) : Prop where
  c3 : Blk W b3 3 #[.int .i64 stop]
  c4 : Blk W b4 4 #[.bool false]
  c5 : Blk W b5 33 #[.slice Aw (piecesOf L).length cw]
  want : Row Sw W 2 Aw (piecesOf L).length ((piecesOf L).flatMap ptCells)
  own : Blk W bo 25 #[.slice A L.length c]
  trees : Ns So W A L.length L
  defs : ∀ D ∈ Ds, W.heap[D]? = some (.deferred (some []))
  base : Below w.heap.size w W
  l3 : b3 < lim
  l4 : b4 < lim
  l5 : b5 < lim
  lo : bo < lim
  lw : ∀ k, Sw k → k < lim
  lt : ∀ k, So k → k < lim
  ld : ∀ D ∈ Ds, w.heap.size ≤ D ∧ D < lim
  le : lim ≤ W.heap.size
  lb : w.heap.size ≤ lim
section
variable {w : World} {b3 b4 b5 bo : Nat} {stop : Int} {Aw : Option Addr} {cw : Nat} {A : Option Addr} {c : Nat} {L : List Nd} {Sw So : Nat → Prop} {Ds : List Nat} {lim : Nat} {W W2 : World}
theorem PS.keep {T : Nat → Prop} (h : PS w b3 b4 b5 bo stop Aw cw A c L Sw So Ds lim W) (hk : Keep T W W2) (hTl : ∀ k, T k → lim ≤ k) : PS w b3 b4 b5 bo stop Aw cw A c L Sw So Ds lim W2 where
  c3 := h.c3.keep hk (fun t => by have := hTl _ t; have := h.l3; omega)
  c4 := h.c4.keep hk (fun t => by have := hTl _ t; have := h.l4; omega)
  c5 := h.c5.keep hk (fun t => by have := hTl _ t; have := h.l5; omega)
  want := h.want.keep hk (fun k hs t => by have := hTl _ t; have := h.lw k hs; omega)
  own := h.own.keep hk (fun t => by have := hTl _ t; have := h.lo; omega)
  trees := h.trees.keep hk (fun k hs t => by have := hTl _ t; have := h.lt k hs; omega)
  defs := fun D hD => rec_keep (h.defs D hD) hk (fun t => by have := hTl _ t; have := (h.ld D hD).2; omega)
  base := h.base.trans (hk.below (B := w.heap.size) h.base.size (fun i hi t => by have := hTl _ t; have := h.lb; omega))
  l3 := h.l3
  l4 := h.l4
  l5 := h.l5
  lo := h.lo
  lw := h.lw
  lt := h.lt
  ld := h.ld
  le := Nat.le_trans h.le hk.size
  lb := h.lb
theorem PS.behind (h : PS w b3 b4 b5 bo stop Aw cw A c L Sw So Ds lim W) (hb : Below W.heap.size W W2) : PS w b3 b4 b5 bo stop Aw cw A c L Sw So Ds lim W2 := h.keep (Keep.of_below hb (fun _ => False)) (fun _ t => t.elim)
theorem PS.up {lim' : Nat} (h : PS w b3 b4 b5 bo stop Aw cw A c L Sw So Ds lim W) (hl : lim ≤ lim') (hle : lim' ≤ W.heap.size) : PS w b3 b4 b5 bo stop Aw cw A c L Sw So Ds lim' W :=
  { h with l3 := Nat.lt_of_lt_of_le h.l3 hl, l4 := Nat.lt_of_lt_of_le h.l4 hl, l5 := Nat.lt_of_lt_of_le h.l5 hl, lo := Nat.lt_of_lt_of_le h.lo hl, lw := fun k hs => Nat.lt_of_lt_of_le (h.lw k hs) hl, lt := fun k hs => Nat.lt_of_lt_of_le (h.lt k hs) hl,
           ld := fun D hD => ⟨(h.ld D hD).1, Nat.lt_of_lt_of_le (h.ld D hD).2 hl⟩, le := hle, lb := Nat.le_trans h.lb hl }
/-- One loop more. -/
theorem PS.mark {lim' D : Nat} (h : PS w b3 b4 b5 bo stop Aw cw A c L Sw So Ds lim W) (hd : W.heap[D]? = some (.deferred (some []))) (hl : lim ≤ D) (hD : D < lim') (hle : lim' ≤ W.heap.size) : PS w b3 b4 b5 bo stop Aw cw A c L Sw So (D :: Ds) lim' W :=
  { h.up (by omega) hle with defs := fun E hE => by { rcases List.mem_cons.1 hE with rfl | hE; exact hd; exact h.defs E hE }, ld := fun E hE => by { rcases List.mem_cons.1 hE with rfl | hE; exact ⟨by have := h.lb; omega, hD⟩; exact ⟨(h.ld E hE).1, by have := (h.ld E hE).2; omega⟩ } }
/-- Piece number k, as it is wanted. -/
theorem PS.get {a0 : List PT} {p : PT} (h : PS w b3 b4 b5 bo stop Aw cw A c L Sw So Ds lim W) (hp : a0 ++ [p] <+: piecesOf L) :
    a0.length < (piecesOf L).length ∧ ∃ ad, Aw = some ad ∧ W.cell? (ad.add (a0.length * 2)) = some (.int .i64 p.d) ∧ W.cell? ⟨(ad.add (a0.length * 2)).block, (ad.add (a0.length * 2)).off + 1, none⟩ = some (.string (str p.t)) := by
  obtain ⟨r, hr⟩ := hp
  have hlt : a0.length < (piecesOf L).length := by rw [← hr]; simp
  have hg : (piecesOf L)[a0.length]? = some p := by rw [← hr, List.append_assoc, List.getElem?_append_right (Nat.le_refl _)]; simp
  obtain ⟨ad, e, _, _, h0, h1⟩ := h.want.walk ptCells_length (by decide) rfl hg
  exact ⟨hlt, ad, e, h0 _ rfl, h1 0 _ rfl⟩
end
end Go.Proofs.YtcogoiphpfgkdaaDoor
