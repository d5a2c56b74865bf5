/-
  Trees as pieces of markup, as plain data.
  What is asked of a yield, as the walk of pieces uses it.
-/
import Derived.Test.YtcogoiphpfgkdaaDoorStart
import Derived.Test.YtcogoiphpfgkdaaDoorRaw
import Derived.Test.YtcogoiphpfgkdaaDoorIn
namespace Go.Proofs.YtcogoiphpfgkdaaDoor
open Go.RowKit
set_option linter.unusedVariables false

/-- A piece, and how many elements stand around it. -/
structure PT where
  d : Nat
  t : List UInt8
def textB (parent t : List UInt8) : List UInt8 := if parent ∈ rawNames then t else escB false t
def endTag (nm : List UInt8) : List UInt8 := [60, 47] ++ nm ++ [62]
/-- What one tree gives, of what its kids give. -/
def ptOne (parent : List UInt8) (d : Nat) (nm tx : List UInt8) (ats : List At) (kids : List PT) : List PT :=
  if nm = [] then [⟨d, textB parent tx⟩] else if nm ∈ setNames1 then [⟨d, startB nm ats⟩] else ⟨d, startB nm ats⟩ :: (kids ++ [⟨d, endTag nm⟩])
/-- The pieces of trees that stand in a parent. -/
def ptB (parent : List UInt8) (d : Nat) (L : List Nd) : List PT :=
  match L with
  | [] => []
  | .mk nm tx ats kids :: rest => ptOne parent d nm tx ats (ptB nm (d + 1) kids) ++ ptB parent d rest
termination_by SizeOf.sizeOf L
decreasing_by all_goals (simp; omega)
theorem ptB_nil (parent : List UInt8) (d : Nat) : ptB parent d [] = [] := by rw [ptB]
theorem ptB_cons (parent : List UInt8) (d : Nat) (x : Nd) (rest : List Nd) : ptB parent d (x :: rest) = ptOne parent d x.name x.text x.attrs (ptB x.name (d + 1) x.kids) ++ ptB parent d rest := by
  obtain ⟨nm, tx, ats, kids⟩ := x
  rw [ptB]
  rfl
/-- The bytes of pieces. -/
def ptText (l : List PT) : List UInt8 := l.flatMap PT.t
theorem ptText_append (a b : List PT) : ptText (a ++ b) = ptText a ++ ptText b := by simp [ptText]
theorem ptText_cons (a : PT) (b : List PT) : ptText (a :: b) = a.t ++ ptText b := by simp [ptText]
theorem textB_le (parent t : List UInt8) : (textB parent t).length ≤ 6 * t.length := by
  unfold textB
  split
  · omega
  · exact escB_le false t
theorem ptB_le (L : List Nd) : ∀ (parent : List UInt8) (d : Nat), (ptB parent d L).length ≤ 2 * wt L ∧ (ptText (ptB parent d L)).length ≤ 6 * wt L := by
  induction L using nds_ind with
  | _ L IH =>
  induction L with
  | nil => intro parent d; rw [ptB_nil]; simp [ptText]
  | cons x rest ih2 =>
    intro parent d
    have h2 := ih2 (fun y hy => IH y (List.mem_cons_of_mem _ hy)) parent d
    have h1 := IH x (List.mem_cons_self ..) x.name (d + 1)
    have hs := startB_le x.name x.attrs
    have ht := textB_le parent x.text
    rw [ptB_cons, wt_cons, List.length_append, ptText_append, List.length_append]
    generalize ptB x.name (d + 1) x.kids = ks at h1
    unfold ptOne
    split
    · simp [ptText] at *
      omega
    · split
      · simp [ptText] at *
        omega
      · simp [ptText, endTag] at *
        omega
theorem ptB_mem {L : List Nd} {parent : List UInt8} {d : Nat} {p : PT} (h : p ∈ ptB parent d L) : p.t.length ≤ 6 * wt L := by
  refine Nat.le_trans ?_ (ptB_le L parent d).2
  generalize ptB parent d L = l at h
  induction l with
  | nil => simp at h
  | cons a l ih =>
    rw [ptText_cons, List.length_append]
    rcases List.mem_cons.1 h with rfl | h
    · omega
    · have := ih h
      omega
/-- How deep it goes. -/
theorem ptB_deep (L : List Nd) : ∀ (parent : List UInt8) (d : Nat), ∀ p ∈ ptB parent d L, p.d ≤ d + wt L := by
  induction L using nds_ind with
  | _ L IH =>
  induction L with
  | nil => intro parent d p h; rw [ptB_nil] at h; simp at h
  | cons x rest ih2 =>
    intro parent d p h
    rw [ptB_cons, List.mem_append] at h
    rw [wt_cons]
    rcases h with h | h
    · have h1 := IH x (List.mem_cons_self ..) x.name (d + 1)
      generalize ptB x.name (d + 1) x.kids = ks at h1 h
      unfold ptOne at h
      split at h
      · simp at h; subst h; simp
      · split at h
        · simp at h; subst h; simp
        · simp only [List.mem_cons, List.mem_append, List.not_mem_nil, or_false] at h
          rcases h with rfl | h | rfl
          · simp
          · have := h1 p h; omega
          · simp
    · have := ih2 (fun y hy => IH y (List.mem_cons_of_mem _ hy)) parent d p h
      omega
/-- All trees have valid bytes where the writer escapes them. -/
def wellB (L : List Nd) : Bool :=
  match L with
  | [] => true
  | .mk nm tx ats kids :: rest => validB tx && ats.all (fun a => validB a.value) && wellB kids && wellB rest
termination_by SizeOf.sizeOf L
decreasing_by all_goals (simp; omega)
theorem wellB_nil : wellB [] = true := by rw [wellB]
theorem wellB_cons (x : Nd) (rest : List Nd) : wellB (x :: rest) = (validB x.text && x.attrs.all (fun a => validB a.value) && wellB x.kids && wellB rest) := by
  obtain ⟨nm, tx, ats, kids⟩ := x
  rw [wellB]
  rfl
theorem attrsFrom_valid (l : List At) : ∀ seen, attrsFrom seen l = true → l.all (fun a => validB a.value) = true := by
  induction l with
  | nil => intro seen h; rfl
  | cons a l ih =>
    intro seen h
    rw [attrsFrom] at h
    simp only [Bool.and_eq_true] at h
    rw [List.all_cons, Bool.and_eq_true]
    exact ⟨h.1.1.2, ih _ h.2⟩
theorem may_well (L : List Nd) : mayB L = true → wellB L = true := by
  induction L using nds_ind with
  | _ L IH =>
  induction L with
  | nil => intro h; rw [wellB_nil]
  | cons x rest ih2 =>
    intro h
    rw [mayB_cons, Bool.and_eq_true] at h
    have h2 := ih2 (fun y hy => IH y (List.mem_cons_of_mem _ hy)) h.2
    have h1 := IH x (List.mem_cons_self ..)
    have ho := h.1
    rw [wellB_cons, h2, Bool.and_true]
    unfold mayOne mayF at ho
    split at ho
    · simp only [Bool.and_eq_true, List.isEmpty_iff] at ho
      obtain ⟨⟨⟨_, hv⟩, ha⟩, hk⟩ := ho
      rw [hv, ha, hk, wellB_nil]
      rfl
    · simp only [Bool.and_eq_true] at ho
      obtain ⟨⟨⟨ht, _, ha⟩, _⟩, hk⟩ := ho
      rw [h1 hk, attrsFrom_valid _ _ ha]
      rw [List.isEmpty_iff] at ht
      rw [ht, validB]
      rfl
end Go.Proofs.YtcogoiphpfgkdaaDoor
namespace Go.Proofs.YtcogoiphpfgkdaaDoor
open Go.RowKit
set_option linter.unusedVariables false

/-- The boxes of a walk stand as they stood. -/
def Boxes (w w' : World) : Prop := w.heap.size ≤ w'.heap.size ∧ ∀ g t cs, (t = 41 ∨ t = 53 ∨ t = 83 ∨ t = 86) → Blk w g t cs → Blk w' g t cs
theorem Boxes.refl (w : World) : Boxes w w := ⟨Nat.le_refl _, fun _ _ _ _ h => h⟩
theorem Boxes.trans {a b c : World} (h : Boxes a b) (k : Boxes b c) : Boxes a c := ⟨Nat.le_trans h.1 k.1, fun g t cs ht hb => k.2 g t cs ht (h.2 g t cs ht hb)⟩
theorem Boxes.of_below {w w' : World} (h : Below w.heap.size w w') : Boxes w w' := ⟨h.size, fun g t cs _ hb => hb.below h hb.lt⟩
theorem Boxes.node {w w' : World} (h : Boxes w w') {g : Nat} {cs : Array Value} (hb : Blk w g 41 cs) : Blk w' g 41 cs := h.2 g _ cs (.inl rfl) hb
theorem Boxes.yield {w w' : World} (h : Boxes w w') {g : Nat} {cs : Array Value} (hb : Blk w g 53 cs) : Blk w' g 53 cs := h.2 g _ cs (.inr (.inl rfl)) hb
theorem Boxes.esc {w w' : World} (h : Boxes w w') {g : Nat} {cs : Array Value} (hb : Blk w g 83 cs) : Blk w' g 83 cs := h.2 g _ cs (.inr (.inr (.inl rfl))) hb
theorem Boxes.down {w w' : World} (h : Boxes w w') {g : Nat} {cs : Array Value} (hb : Blk w g 86 cs) : Blk w' g 86 cs := h.2 g _ cs (.inr (.inr (.inr rfl))) hb

/-- A yield: YC p W R: called with p in W it ends as R says; J: what has come so far; Jx: it has said 'no more'. -/
structure Yield (w0 : World) (YC : PT → World → (Ending → World → Prop) → Prop) (J Jx : List PT → World → Prop) : Prop where
  call : ∀ acc p W, J acc W → (ptText acc).length + p.t.length ≤ 8388608 → p.d ≤ 2199023255552 →
    YC p W fun e W2 => (e = .returned (.bool true) ∧ J (acc ++ [p]) W2 ∧ Boxes W W2) ∨ (e = .returned (.bool false) ∧ Jx (acc ++ [p]) W2 ∧ Boxes W W2)
  keep : ∀ acc W W2, J acc W → Below W.heap.size W W2 → J acc W2
  base : ∀ acc W, J acc W → Below w0.heap.size w0 W

def escFn : Value := .func (.func 56) #[.agg #[.bool false]] #[]
def downFn (bE bY bS : Nat) : Value := .func (.func 57) #[] #[.pointer (some ⟨bE, 0, none⟩), .pointer (some ⟨bY, 0, none⟩), .pointer (some ⟨bS, 0, none⟩)]

def DownAs (S : Nat → Prop) (w0 : World) (J Jx : List PT → World → Prop) (yv : Value) (L : List Nd) : Prop :=
  ∀ (parent : List UInt8) (d : Nat) (acc : List PT) (W : World) (A : Option Addr) (c bE bY bS : Nat), Ns S w0 A L.length L → wellB L = true → J acc W →
    Blk W bE 83 #[escFn] → Blk W bY 53 #[yv] → Blk W bS 86 #[downFn bE bY bS] →
    (ptText acc).length + (ptText (ptB parent d L)).length ≤ 8388608 → d + wt L ≤ 1099511627776 →
    Calls Tryd.prog 57 #[.string (str parent), .slice A L.length c, .int .i64 d, .pointer (some ⟨bE, 0, none⟩), .pointer (some ⟨bY, 0, none⟩), .pointer (some ⟨bS, 0, none⟩)] W fun e W' =>
      (e = .returned (.bool true) ∧ J (acc ++ ptB parent d L) W' ∧ Boxes W W') ∨ (e = .returned (.bool false) ∧ ∃ q, q <+: acc ++ ptB parent d L ∧ Jx q W')
theorem ptText_snoc (l : List PT) (p : PT) : (ptText (l ++ [p])).length = (ptText l).length + p.t.length := by simp [ptText]
theorem pre_snoc {l r R : List PT} {p : PT} (h : l ++ (p :: r) = R) : (l ++ [p]) <+: R := ⟨r, by rw [← h]; simp⟩
end Go.Proofs.YtcogoiphpfgkdaaDoor
