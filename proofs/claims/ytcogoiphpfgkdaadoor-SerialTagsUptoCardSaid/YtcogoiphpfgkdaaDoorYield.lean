/-
  What is asked of a yield, as the walk of pieces uses it.
-/
import Derived.Test.YtcogoiphpfgkdaaDoorMarkup
import Derived.Test.YtcogoiphpfgkdaaDoorIn
namespace Go.Proofs.YtcogoiphpfgkdaaDoor
open Go.RowKit
set_option linter.unusedVariables false

/-- The boxes of a walk stand as they stood. -/
def Boxes (w w' : World) : Prop := w.heap.size ≤ w'.heap.size ∧ ∀ g t cs, (t = 41 ∨ t = 53 ∨ t = 83 ∨ t = 86) → Blk w g t cs → Blk w' g t cs
theorem Boxes.refl (w : World) : Boxes w w := ⟨Nat.le_refl _, fun _ _ _ _ h => h⟩
theorem Boxes.trans {a b c : World} (h : Boxes a b) (k : Boxes b c) : Boxes a c := ⟨Nat.le_trans h.1 k.1, fun g t cs ht hb => k.2 g t cs ht (h.2 g t cs ht hb)⟩
theorem Boxes.of_below {w w' : World} (h : Below w.heap.size w w') : Boxes w w' := ⟨h.size, fun g t cs _ hb => hb.below h hb.lt⟩
theorem Boxes.node {w w' : World} (h : Boxes w w') {g : Nat} {cs : Array Value} (hb : Blk w g 41 cs) : Blk w' g 41 cs := h.2 g _ cs (.inl rfl) hb
theorem Boxes.yield {w w' : World} (h : Boxes w w') {g : Nat} {cs : Array Value} (hb : Blk w g 53 cs) : Blk w' g 53 cs := h.2 g _ cs (.inr (.inl rfl)) hb
theorem Boxes.esc {w w' : World} (h : Boxes w w') {g : Nat} {cs : Array Value} (hb : Blk w g 83 cs) : Blk w' g 83 cs := h.2 g _ cs (.inr (.inr (.inl rfl))) hb
theorem Boxes.down {w w' : World} (h : Boxes w w') {g : Nat} {cs : Array Value} (hb : Blk w g 86 cs) : Blk w' g 86 cs := h.2 g _ cs (.inr (.inr (.inr rfl))) hb

/-- A yield: YC p W R: called with p in W it ends as R says; J: what has come so far; Jx: it has said 'no more'. -/
structure Yield (w0 : World) (YC : PT → World → (Ending → World → Prop) → Prop) (J Jx : List PT → World → Prop) : Prop where
  call : ∀ acc p W, J acc W → (ptText acc).length + p.t.length ≤ 8388608 → p.d ≤ 2199023255552 →
    YC p W fun e W2 => (e = .returned (.bool true) ∧ J (acc ++ [p]) W2 ∧ Boxes W W2) ∨ (e = .returned (.bool false) ∧ Jx (acc ++ [p]) W2 ∧ Boxes W W2)
  keep : ∀ acc W W2, J acc W → Below W.heap.size W W2 → J acc W2
  base : ∀ acc W, J acc W → Below w0.heap.size w0 W

def escFn : Value := .func (.func 56) #[.agg #[.bool false]] #[]
def downFn (bE bY bS : Nat) : Value := .func (.func 57) #[] #[.pointer (some ⟨bE, 0, none⟩), .pointer (some ⟨bY, 0, none⟩), .pointer (some ⟨bS, 0, none⟩)]

def DownAs (S : Nat → Prop) (w0 : World) (J Jx : List PT → World → Prop) (yv : Value) (L : List Nd) : Prop :=
  ∀ (parent : List UInt8) (d : Nat) (acc : List PT) (W : World) (A : Option Addr) (c bE bY bS : Nat), Ns S w0 A L.length L → wellB L = true → J acc W →
    Blk W bE 83 #[escFn] → Blk W bY 53 #[yv] → Blk W bS 86 #[downFn bE bY bS] →
    (ptText acc).length + (ptText (ptB parent d L)).length ≤ 8388608 → d + wt L ≤ 1099511627776 →
    Calls Tryd.prog 57 #[.string (str parent), .slice A L.length c, .int .i64 d, .pointer (some ⟨bE, 0, none⟩), .pointer (some ⟨bY, 0, none⟩), .pointer (some ⟨bS, 0, none⟩)] W fun e W' =>
      (e = .returned (.bool true) ∧ J (acc ++ ptB parent d L) W' ∧ Boxes W W') ∨ (e = .returned (.bool false) ∧ ∃ q, q <+: acc ++ ptB parent d L ∧ Jx q W')
theorem ptText_snoc (l : List PT) (p : PT) : (ptText (l ++ [p])).length = (ptText l).length + p.t.length := by simp [ptText]
theorem pre_snoc {l r R : List PT} {p : PT} (h : l ++ (p :: r) = R) : (l ++ [p]) <+: R := ⟨r, by rw [← h]; simp⟩
end Go.Proofs.YtcogoiphpfgkdaaDoor
