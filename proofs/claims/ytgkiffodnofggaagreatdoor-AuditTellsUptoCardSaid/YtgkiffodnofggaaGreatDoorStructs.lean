/-
  Rows of structs: the cells of a list, so many for each element.
-/
import Derived.Test.YtgkiffodnofggaaGreatDoorBase
namespace Go.Proofs.YtgkiffodnofggaaGreatDoor
open Go.RowKit
set_option linter.unusedVariables false

section
variable {α : Type} {f : α → List Value} {s : Nat}
theorem fm_length (hf : ∀ x, (f x).length = s) (L : List α) : (L.flatMap f).length = L.length * s := by
  induction L with
  | nil => simp
  | cons x L ih => rw [List.flatMap_cons, List.length_append, ih, hf, List.length_cons, Nat.succ_mul]; omega
theorem fm_get (hf : ∀ x, (f x).length = s) (L : List α) (k j : Nat) (x : α) (hk : L[k]? = some x) (hj : j < s) : (L.flatMap f)[k * s + j]? = (f x)[j]? := by
  induction L generalizing k with
  | nil => simp at hk
  | cons y L ih =>
    rw [List.flatMap_cons]
    cases k with
    | zero =>
      simp at hk
      subst hk
      rw [Nat.zero_mul, Nat.zero_add, List.getElem?_append_left (by rw [hf]; exact hj)]
    | succ k =>
      rw [List.getElem?_append_right (by rw [hf, Nat.succ_mul]; omega), hf]
      rw [show (k + 1) * s + j - s = k * s + j by rw [Nat.succ_mul]; omega]
      exact ih k (by simpa using hk)
theorem fm_one (h1 : ∀ x, ∀ u ∈ f x, u.oneCell' = true) (L : List α) : ∀ u ∈ L.flatMap f, u.oneCell' = true := by
  intro u hu
  obtain ⟨x, _, hx⟩ := List.mem_flatMap.1 hu
  exact h1 x u hx
theorem fm_snoc (L : List α) (x : α) : (L ++ [x]).flatMap f = L.flatMap f ++ f x := by simp
/-- Element k of a slice of structs: its cells. -/
theorem Row.struct {S : Nat → Prop} {w : World} {A : Option Addr} {n : Nat} {L : List α} (hf : ∀ x, (f x).length = s) (h : Row S w s A n (L.flatMap f)) (hs : 0 < s) (hl : L.length = n) {k : Nat} {x : α} (hk : L[k]? = some x) :
    ∃ ad, A = some ad ∧ S ad.block ∧ ∀ j v, (f x)[j]? = some v → w.cell? (ad.add (k * s + j)) = some v := by
  have hkn := (List.getElem?_eq_some_iff.1 hk).1
  obtain ⟨ad, e, hb, hc⟩ := h.2 (by omega)
  refine ⟨ad, e, hb, fun j v hv => hc _ v ?_⟩
  have hj : j < s := by have := (List.getElem?_eq_some_iff.1 hv).1; rw [hf] at this; exact this
  rw [fm_get hf L k j x hk hj, hv]
/-- Element k of a slice of structs, in the walk's own spelling. -/
theorem Row.walk {S : Nat → Prop} {w : World} {A : Option Addr} {n : Nat} {L : List α} (hf : ∀ x, (f x).length = s) (h : Row S w s A n (L.flatMap f)) (hs : 0 < s) (hl : L.length = n) {k : Nat} {x : α} (hk : L[k]? = some x) :
    ∃ ad, A = some ad ∧ S ad.block ∧ S (ad.add (k * s)).block ∧ (∀ v, (f x)[0]? = some v → w.cell? (ad.add (k * s)) = some v) ∧ ∀ j v, (f x)[j + 1]? = some v → w.cell? ⟨(ad.add (k * s)).block, (ad.add (k * s)).off + (j + 1), none⟩ = some v := by
  obtain ⟨ad, e, hb, hc⟩ := h.struct hf hs hl hk
  refine ⟨ad, e, hb, by rw [addr_block]; exact hb, fun v hv => hc 0 v hv, fun j v hv => ?_⟩
  have := hc (j + 1) v hv
  rw [← addr_add] at this
  have e : (ad.add (k * s)).add (j + 1) = ⟨(ad.add (k * s)).block, (ad.add (k * s)).off + (j + 1), none⟩ := by
    generalize ad.add (k * s) = p
    unfold Addr.add
    rw [if_neg (by omega)]
  rwa [e] at this
end
end Go.Proofs.YtgkiffodnofggaaGreatDoor
