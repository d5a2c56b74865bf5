/-
  A 'leaving' row from the same row without 'leaving': a machine at rest is one in which all others are only leaving.
-/
import Derived.JoinedCond
import Derived.Leaving
namespace Go.Proofs.Ytadnceiohgjdhaa
open Go
set_option linter.unusedVariables false

theorem open_mono {a : Assume} {stops : Option Stop.Interp} {C : Checked} {os : Os} {f : FuncId} {r : Reach} {okInput : Program → World → Reach → Nat → FuncId → Input → Prop}
    {Pre : World → Array Value → Prop} {Post : World → Array Value → Value → World → Prop} {R R' : Machine → World → Trace → Prop} {always : Machine → Prop}
    (h : ReturnsInOpen a stops C os f r okInput Pre Post R always) (hm : ∀ m w t, R m w t → R' m w t) : ReturnsInOpen a stops C os f r okInput Pre Post R' always := by
  obtain ⟨h1, h2, h3, h4, h5⟩ := h
  refine ⟨h1, h2, h3, h4, fun w tape i hf => ?_⟩
  obtain ⟨n, v, w', x1, x2, x3, x4, ⟨j, last, e1, e2, e3⟩, x5⟩ := h5 w tape i hf
  exact ⟨n, v, w', x1, x2, x3, x4, ⟨j, last, e1, e2, hm _ _ _ e3⟩, x5⟩
theorem leaving_of_alone {P : Program} (m : Machine) (w : World) (t : Trace) (h : aloneAtReturn P m w t) : leavingAtReturn P m w t := ⟨h.2.1, onlyLeaving_of_quiet h.1, h.2.2⟩

/-- A row that says 'leaving', of the row that says 'alone'. -/
theorem holds_leaving {p : Pinned} {s : OpenSpec} {c : OpenClaim} (hl : c.leaving = true) (hwf : c.wf s = true) (h : ({ c with leaving := false } : OpenClaim).holds p s) (hst : c.start = .entering) (hsp : c.stops = []) : c.holds p s := by
  obtain ⟨_, a1, a2, a3, a4, a5, a6, a7, f, fn, a8, a9, a10, a11, a12, a13, a14, a15, a16, a17, a18, a19, a20, a21, a22, a23, a24, a25, a27, a28, a29, L, a26, hall⟩ := h
  refine ⟨hwf, a1, a2, a3, a4, a5, a6, a7, f, fn, a8, a9, a10, a11, a12, a13, a14, a15, a16, a17, a18, a19, a20, a21, a22, a23, a24, a25, a27, a28, a29, L, a26, fun os hw hq H enc inj => ?_⟩
  have k := hall os hw hq H enc inj
  have e1 : ({ c with leaving := false } : OpenClaim).atReturn p.checked.prog = aloneAtReturn p.checked.prog := rfl
  have e2 : c.atReturn p.checked.prog = leavingAtReturn p.checked.prog := by unfold OpenClaim.atReturn; rw [hl]
  unfold OpenClaim.form at k ⊢
  rw [hst, hsp] at *
  exact fun F => open_mono (k F) (fun m w t h => by rw [e2]; rw [e1] at h; exact leaving_of_alone m w t h)

end Go.Proofs.Ytadnceiohgjdhaa
