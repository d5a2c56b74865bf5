/-
  Trees: as plain data, and in memory.
-/
import Derived.Test.YtcogoiphpfgkdaaDoorCommon
import Derived.Test.YtcogoiphpfgkdaaDoorStructs
namespace Go.Proofs.YtcogoiphpfgkdaaDoor
open Go.RowKit
set_option linter.unusedVariables false

structure At where
  name : List UInt8
  value : List UInt8
def atCells (a : At) : List Value := [.string (str a.name), .string (str a.value)]
theorem atCells_length (a : At) : (atCells a).length = 2 := rfl
inductive Nd where
  | mk (name text : List UInt8) (attrs : List At) (kids : List Nd)
def Nd.name : Nd → List UInt8 | .mk n _ _ _ => n
def Nd.text : Nd → List UInt8 | .mk _ t _ _ => t
def Nd.attrs : Nd → List At | .mk _ _ a _ => a
def Nd.kids : Nd → List Nd | .mk _ _ _ k => k
theorem Nd.kids_lt (d : Nd) : SizeOf.sizeOf d.kids < SizeOf.sizeOf d := by cases d; simp [Nd.kids]; omega

/-- Lists of trees, each with its kids. -/
theorem nds_ind {P : List Nd → Prop} (h : ∀ L, (∀ d ∈ L, P d.kids) → P L) (L : List Nd) : P L := by
  generalize hn : SizeOf.sizeOf L = n
  induction n using Nat.strongRecOn generalizing L with
  | _ n ih =>
    refine h L (fun d hd => ih _ ?_ d.kids rfl)
    have := List.sizeOf_lt_of_mem hd
    have := d.kids_lt
    omega

/-- The trees L lie from element k of the array at ad on; all that they lead to lies in blocks of S. -/
def NodesAt (S : Nat → Prop) (w : World) (ad : Addr) (k : Nat) (L : List Nd) : Prop :=
  match L with
  | [] => True
  | .mk nm tx ats kids :: rest =>
    (∃ (Aa : Option Addr) (ca : Nat) (Ak : Option Addr) (ck : Nat), w.cell? (ad.add (k * 4)) = some (.string (str nm)) ∧ w.cell? (ad.add (k * 4 + 1)) = some (.string (str tx)) ∧
      w.cell? (ad.add (k * 4 + 2)) = some (.slice Aa ats.length ca) ∧ w.cell? (ad.add (k * 4 + 3)) = some (.slice Ak kids.length ck) ∧ Row S w 2 Aa ats.length (ats.flatMap atCells) ∧
      (kids ≠ [] → ∃ ak, Ak = some ak ∧ S ak.block ∧ NodesAt S w ak 0 kids)) ∧ NodesAt S w ad (k + 1) rest
termination_by SizeOf.sizeOf L
decreasing_by all_goals (simp; omega)
/-- A slice of trees. -/
def Ns (S : Nat → Prop) (w : World) (A : Option Addr) (n : Nat) (L : List Nd) : Prop :=
  L.length = n ∧ (L ≠ [] → ∃ ad, A = some ad ∧ S ad.block ∧ NodesAt S w ad 0 L)

section
variable {S T : Nat → Prop} {w w' : World}
theorem cells_same (hS : ∀ p : Addr, S p.block → p.block < w.heap.size → w'.cell? p = w.cell? p) {p : Addr} {v : Value} (hs : S p.block) (h : w.cell? p = some v) : w'.cell? p = some v := by
  rw [hS p hs (World.block_lt_of_cell? w _ h)]
  exact h
theorem NodesAt.same (hk : ∀ p : Addr, S p.block → p.block < w.heap.size → w'.cell? p = w.cell? p) (L : List Nd) : ∀ (ad : Addr) (k : Nat), S ad.block → NodesAt S w ad k L → NodesAt S w' ad k L := by
  generalize hn : SizeOf.sizeOf L = n
  induction n using Nat.strongRecOn generalizing L with
  | _ n ih =>
    intro ad k hs h
    cases L with
    | nil => rw [NodesAt]; trivial
    | cons d rest =>
      obtain ⟨nm, tx, ats, kids⟩ := d
      rw [NodesAt] at h ⊢
      obtain ⟨⟨Aa, ca, Ak, ck, h0, h1, h2, h3, h4, h5⟩, h6⟩ := h
      have hb : ∀ j, S (ad.add j).block := fun j => by rw [addr_block]; exact hs
      refine ⟨⟨Aa, ca, Ak, ck, cells_same hk (hb _) h0, cells_same hk (hb _) h1, cells_same hk (hb _) h2, cells_same hk (hb _) h3, h4.same hk, fun hne => ?_⟩, ?_⟩
      · obtain ⟨ak, e, hs2, h7⟩ := h5 hne
        exact ⟨ak, e, hs2, ih _ (by simp at hn; omega) kids rfl ak 0 hs2 h7⟩
      · exact ih _ (by simp at hn; omega) rest rfl ad (k + 1) hs h6
theorem Ns.same {A : Option Addr} {n : Nat} {L : List Nd} (h : Ns S w A n L) (hk : ∀ p : Addr, S p.block → p.block < w.heap.size → w'.cell? p = w.cell? p) : Ns S w' A n L :=
  ⟨h.1, fun hne => by obtain ⟨ad, e, hs, h1⟩ := h.2 hne; exact ⟨ad, e, hs, NodesAt.same hk L ad 0 hs h1⟩⟩
theorem Ns.keep {A : Option Addr} {n : Nat} {L : List Nd} (h : Ns S w A n L) (hk : Keep T w w') (hST : ∀ k, S k → ¬ T k) : Ns S w' A n L := h.same fun p hs hl => hk.cell hl (hST _ hs)
theorem Ns.behind {A : Option Addr} {n : Nat} {L : List Nd} (h : Ns S w A n L) (hb : Below w.heap.size w w') : Ns S w' A n L := h.same fun p _ hl => hb.cell hl
theorem Ns.drewN {A : Option Addr} {n : Nat} {L : List Nd} (h : Ns S w A n L) (q : Nat) : Ns S (w.drewN q) A n L := h.same fun p _ _ => rfl
theorem NodesAt.get {ad : Addr} (L : List Nd) : ∀ (j k : Nat), NodesAt S w ad j L → ∀ d, L[k]? = some d →
    ∃ (Aa : Option Addr) (ca : Nat) (Ak : Option Addr) (ck : Nat), w.cell? (ad.add ((j + k) * 4)) = some (.string (str d.name)) ∧ w.cell? (ad.add ((j + k) * 4 + 1)) = some (.string (str d.text)) ∧
      w.cell? (ad.add ((j + k) * 4 + 2)) = some (.slice Aa d.attrs.length ca) ∧ w.cell? (ad.add ((j + k) * 4 + 3)) = some (.slice Ak d.kids.length ck) ∧ Row S w 2 Aa d.attrs.length (d.attrs.flatMap atCells) ∧ Ns S w Ak d.kids.length d.kids := by
  induction L with
  | nil => intro j k _ d hd; simp at hd
  | cons x rest ih =>
    intro j k h d hd
    obtain ⟨nm, tx, ats, kids⟩ := x
    rw [NodesAt] at h
    obtain ⟨⟨Aa, ca, Ak, ck, h0, h1, h2, h3, h4, h5⟩, h6⟩ := h
    cases k with
    | zero =>
      simp only [List.getElem?_cons_zero] at hd
      obtain rfl := Option.some.inj hd
      exact ⟨Aa, ca, Ak, ck, h0, h1, h2, h3, h4, rfl, h5⟩
    | succ k =>
      have := ih (j + 1) k h6 d (by simpa using hd)
      rw [show j + 1 + k = j + (k + 1) by omega] at this
      exact this
/-- Tree k, in the walk's own spelling. -/
theorem Ns.get {A : Option Addr} {n : Nat} {L : List Nd} (h : Ns S w A n L) {k : Nat} {d : Nd} (hd : L[k]? = some d) :
    ∃ (ad : Addr) (Aa : Option Addr) (ca : Nat) (Ak : Option Addr) (ck : Nat), A = some ad ∧ S ad.block ∧ S (ad.add (k * 4)).block ∧ w.cell? (ad.add (k * 4)) = some (.string (str d.name)) ∧
      w.cell? ⟨(ad.add (k * 4)).block, (ad.add (k * 4)).off + 1, none⟩ = some (.string (str d.text)) ∧ w.cell? ⟨(ad.add (k * 4)).block, (ad.add (k * 4)).off + 2, none⟩ = some (.slice Aa d.attrs.length ca) ∧
      w.cell? ⟨(ad.add (k * 4)).block, (ad.add (k * 4)).off + 3, none⟩ = some (.slice Ak d.kids.length ck) ∧ Row S w 2 Aa d.attrs.length (d.attrs.flatMap atCells) ∧ Ns S w Ak d.kids.length d.kids := by
  have hne : L ≠ [] := by rintro rfl; simp at hd
  obtain ⟨ad, e, hs, h1⟩ := h.2 hne
  obtain ⟨Aa, ca, Ak, ck, h0, h1, h2, h3, h4, h5⟩ := NodesAt.get L 0 k h1 d hd
  rw [Nat.zero_add] at h0 h1 h2 h3
  have sp : ∀ j, ad.add (k * 4 + (j + 1)) = ⟨(ad.add (k * 4)).block, (ad.add (k * 4)).off + (j + 1), none⟩ := fun j => by
    rw [← addr_add]
    generalize ad.add (k * 4) = p
    unfold Addr.add
    rw [if_neg (by omega)]
  rw [sp] at h1 h2 h3
  exact ⟨ad, Aa, ca, Ak, ck, e, hs, by rw [addr_block]; exact hs, h0, h1, h2, h3, h4, h5⟩
theorem Ns.more {A : Option Addr} {n : Nat} {L : List Nd} (h : Ns S w A n L) : Ns S w A n L := h
end
end Go.Proofs.YtcogoiphpfgkdaaDoor
