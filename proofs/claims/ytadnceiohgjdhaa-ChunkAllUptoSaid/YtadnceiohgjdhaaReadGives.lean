/-
  Reads of sources: what is told, opened.
-/
import Derived.Test.YtadnceiohgjdhaaROver
namespace Go.Proofs.Ytadnceiohgjdhaa
open Go.RowKit
set_option linter.unusedVariables false

theorem ReadGives.at_ {S : Nat → Prop} {g : Nat} {s s' : Src} {n : Nat} {w w' : World} {v : Value} {bs : List UInt8} {e : Int} (h : ReadGives S g s n w v w') (hr : s.read n = ((bs, e), s')) :
    ∃ A c, v = .tuple #[.slice A bs.length c, .int .i64 e] ∧ w'.ownsRow w.heap.size 5 1 (.slice A bs.length c) bs.length (bv bs) ∧ IsSrc S w' g s' ∧ Keep (fun k => k = g) w w' := by
  obtain ⟨b, h1, h2, h3, h4⟩ := h
  rw [hr] at h1 h2 h3
  obtain ⟨A, c, rfl, _, _⟩ := own_slice h2
  exact ⟨A, c, h1, h2, h3, h4⟩
theorem RReadGives.at_ {S : Nat → Prop} {g : Nat} {s s' : Src} {n : Nat} {w w' : World} {v : Value} {bs : List UInt8} {e : Int} (h : RReadGives S g s n w v w') (hr : s.read n = ((bs, e), s')) :
    ∃ A c, v = .tuple #[.slice A bs.length c, .int .i64 e] ∧ w'.ownsRow w.heap.size 5 1 (.slice A bs.length c) bs.length (bv bs) ∧ IsRSrc S w' g s' ∧ Keep (fun k => k = g) w w' := by
  obtain ⟨b, h1, h2, h3, h4⟩ := h
  rw [hr] at h1 h2 h3
  obtain ⟨A, c, rfl, _, _⟩ := own_slice h2
  exact ⟨A, c, h1, h2, h3, h4⟩
theorem IsRSrc.told {S : Nat → Prop} {w : World} {g : Nat} {s : Src} (h : IsRSrc S w g s) : w.cell? ⟨g, 3, none⟩ = some (.int .i64 s.told) := by
  obtain ⟨A, c, h1, _⟩ := h
  exact h1.cell 3
theorem IsRSrc.drewN {S : Nat → Prop} {w : World} {g : Nat} {s : Src} (h : IsRSrc S w g s) (q : Nat) : IsRSrc S (w.drewN q) g s := h
theorem IsSrc.drewN {S : Nat → Prop} {w : World} {g : Nat} {s : Src} (h : IsSrc S w g s) (q : Nat) : IsSrc S (w.drewN q) g s := h

end Go.Proofs.Ytadnceiohgjdhaa
