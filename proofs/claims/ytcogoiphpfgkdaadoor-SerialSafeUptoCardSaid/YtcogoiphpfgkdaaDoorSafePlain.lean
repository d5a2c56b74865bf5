/-
  Trees without raw parents and with plain names: their markup has as many bytes 60 as it has tags, and no U+00A0.
-/
import Derived.Test.YtcogoiphpfgkdaaDoorRns
import Derived.Test.YtcogoiphpfgkdaaDoorMarkupYield
namespace Go.Proofs.YtcogoiphpfgkdaaDoor
open Go Go.Lib
set_option linter.unusedVariables false

/-- Texts that may stand behind any others. -/
def pB (l : List UInt8) : Prop := l.head?.map (·.toNat) ≠ some 160 ∧ qB l = true
theorem pB_append {a b : List UInt8} (ha : pB a) (hb : pB b) : pB (a ++ b) := by
  refine ⟨?_, qB_append a b ha.2 hb.2 (.inr hb.1)⟩
  cases a with
  | nil => exact hb.1
  | cons c a => exact ha.1
theorem pB_flatMap {α : Type} {f : α → List UInt8} {L : List α} (h : ∀ x ∈ L, pB (f x) ∧ n60 (f x) = 0) : pB (L.flatMap f) ∧ n60 (L.flatMap f) = 0 := by
  induction L with
  | nil => exact ⟨⟨by simp, rfl⟩, rfl⟩
  | cons x L ih =>
    obtain ⟨h1, h2⟩ := h x (by simp)
    obtain ⟨h3, h4⟩ := ih fun y hy => h y (by simp [hy])
    rw [List.flatMap_cons, n60_append, h2, h4]
    exact ⟨pB_append h1 h3, rfl⟩
theorem byteN (x : Nat) (h : x < 256) : (x.toUInt8).toNat = x := by
  simp
  omega
theorem enc_clean (r : Nat) (h1 : r ≠ 160) (h2 : r ≠ 60) : pB (encodeRune (r : Int)) ∧ n60 (encodeRune (r : Int)) = 0 := by
  have key : ∀ l : List Int, (∀ x ∈ l, 0 ≤ x ∧ x < 256 ∧ x ≠ 60) → (∀ x, l.head? = some x → x ≠ 160) → (∀ x y s t, l = s ++ x :: y :: t → x ≠ 194 ∨ y ≠ 160) → pB (l.map fun x => x.toNat.toUInt8) ∧ n60 (l.map fun x => x.toNat.toUInt8) = 0 := by
    intro l
    induction l with
    | nil => intro _ _ _; exact ⟨⟨by simp, rfl⟩, rfl⟩
    | cons x l ih =>
      intro g1 g2 g3
      obtain ⟨a1, a2, a3⟩ := g1 x (by simp)
      have hx : (x.toNat.toUInt8).toNat = x.toNat := byteN _ (by omega)
      have q : qB (List.map (fun x => x.toNat.toUInt8) l) = true ∧ n60 (List.map (fun x => x.toNat.toUInt8) l) = 0 := by
        have gs : ∀ x ∈ l, 0 ≤ x ∧ x < 256 ∧ x ≠ 60 := fun y hy => g1 y (by simp [hy])
        clear ih g2
        induction l generalizing x with
        | nil => exact ⟨rfl, rfl⟩
        | cons y l ih2 =>
          obtain ⟨b1, b2, b3⟩ := gs y (by simp)
          have hy : (y.toNat.toUInt8).toNat = y.toNat := byteN _ (by omega)
          obtain ⟨c1, c2⟩ := ih2 y (fun z hz => gs z hz) (fun u v s t e => g3 u v (x :: s) t (by rw [e]; rfl)) b1 b2 b3 hy (fun z hz => gs z (by simp [hz]))
          refine ⟨?_, ?_⟩
          · cases l with
            | nil => rfl
            | cons z l =>
              obtain ⟨d1, d2, d3⟩ := gs z (by simp)
              have hz : (z.toNat.toUInt8).toNat = z.toNat := byteN _ (by omega)
              have := g3 y z [x] l rfl
              simp only [List.map_cons, qB, hy, hz] at c1 ⊢
              rw [c1]
              simp
              omega
          · simp only [List.map_cons, n60_cons, c2, hy]
            rw [if_neg (by omega)]
      refine ⟨⟨?_, ?_⟩, ?_⟩
      · have := g2 x rfl
        simp only [List.map_cons, List.head?_cons, Option.map_some, hx]
        intro e
        injection e with e
        omega
      · cases l with
        | nil => rfl
        | cons y l =>
          obtain ⟨b1, b2, b3⟩ := g1 y (by simp)
          have hy : (y.toNat.toUInt8).toNat = y.toNat := byteN _ (by omega)
          have := g3 x y [] l rfl
          simp only [List.map_cons, qB, hx, hy] at q ⊢
          rw [q.1]
          simp
          omega
      · simp only [List.map_cons, n60_cons, q.2, hx]
        rw [if_neg (by omega)]
  unfold encodeRune
  refine key _ ?_ ?_ ?_
  · unfold encodeRuneZ
    intro x hx
    repeat' split at hx
    all_goals (simp at hx; omega)
  · unfold encodeRuneZ
    intro x hx
    repeat' split at hx
    all_goals (simp at hx; omega)
  · unfold encodeRuneZ
    intro x y s t e
    repeat' split at e
    all_goals (have hl := congrArg List.length e; rcases s with _ | ⟨s0, _ | ⟨s1, _ | ⟨s2, s⟩⟩⟩ <;> simp only [List.length_cons, List.length_nil, List.length_append, List.nil_append, List.cons_append, List.cons.injEq] at e hl <;> omega)
theorem escR_clean (attr : Bool) (r : Nat) : pB (escR attr r) ∧ n60 (escR attr r) = 0 := by
  unfold escR
  split
  · exact ⟨⟨by decide, by decide⟩, by decide⟩
  split
  · exact ⟨⟨by decide, by decide⟩, by decide⟩
  split
  · exact ⟨⟨by decide, by decide⟩, by decide⟩
  split
  · exact ⟨⟨by decide, by decide⟩, by decide⟩
  split
  · exact ⟨⟨by decide, by decide⟩, by decide⟩
  · rename_i h1 h2 _ _
    exact enc_clean r (by assumption) (by assumption)
theorem escB_clean (attr : Bool) (l : List UInt8) : pB (escB attr l) ∧ n60 (escB attr l) = 0 := pB_flatMap fun r _ => escR_clean attr r

/-- A name that may stand in a tag. -/
def okName (l : List UInt8) : Prop := qB l = true ∧ n60 l = 0
theorem tag_qB (x : UInt8) (nm : List UInt8) (h : okName nm) (hx : x.toNat ≠ 194) : qB ([x] ++ nm) = true := qB_append [x] nm rfl h.1 (.inl (by simpa using hx))
theorem attr_clean (a : At) (h : okName a.name) : pB (attrText a) ∧ n60 (attrText a) = 0 := by
  obtain ⟨h1, h2⟩ := escB_clean true a.value
  refine ⟨⟨?_, ?_⟩, ?_⟩
  · simp [attrText]
  · unfold attrText
    refine qB_append _ _ (qB_append _ _ (qB_append _ _ (tag_qB 32 _ h (by decide)) (by decide) (.inr (by decide))) h1.2 (.inr h1.1)) (by decide) (.inr (by decide))
  · unfold attrText
    simp only [n60_append, h2, h.2]
    decide
theorem start_clean (nm : List UInt8) (ats : List At) (h : okName nm) (ha : ∀ a ∈ ats, okName a.name) : pB (startB nm ats) ∧ n60 (startB nm ats) = 1 ∧ (startB nm ats).head?.map (·.toNat) = some 60 := by
  obtain ⟨h1, h2⟩ := pB_flatMap (f := attrText) (L := ats) fun a h => attr_clean a (ha a h)
  refine ⟨⟨by simp [startB], ?_⟩, ?_, by simp [startB]⟩
  · unfold startB
    exact qB_append _ _ (qB_append _ _ (tag_qB 60 _ h (by decide)) h1.2 (.inr h1.1)) (by decide) (.inr (by decide))
  · unfold startB
    simp only [n60_append, h2, h.2]
    decide
theorem end_clean (nm : List UInt8) (h : okName nm) : pB (endTag nm) ∧ n60 (endTag nm) = 1 ∧ (endTag nm).head?.map (·.toNat) = some 60 := by
  refine ⟨⟨by simp [endTag], ?_⟩, ?_, by simp [endTag]⟩
  · unfold endTag
    exact qB_append _ _ (qB_append [60, 47] nm (by decide) h.1 (.inl (by decide))) (by decide) (.inr (by decide))
  · unfold endTag
    simp only [n60_append, h.2]
    decide

/-- All names of a node, one behind the other. -/
def nameText (nm : List UInt8) (ats : List At) : List UInt8 := nm ++ ats.flatMap At.name
/-- Are all names plain? -/
def namesB (L : List Nd) : Bool :=
  match L with
  | [] => true
  | d :: rest => (qB (nameText d.name d.attrs) && n60 (nameText d.name d.attrs) == 0) && namesB d.kids && namesB rest
termination_by SizeOf.sizeOf L
decreasing_by
  · have := d.kids_lt
    simp
    omega
  · simp
    omega
theorem namesB_nil : namesB [] = true := by rw [namesB]
theorem namesB_cons (d : Nd) (rest : List Nd) : namesB (d :: rest) = ((qB (nameText d.name d.attrs) && n60 (nameText d.name d.attrs) == 0) && namesB d.kids && namesB rest) := by rw [namesB]
/-- Is none a raw parent? -/
def rawFree (L : List Nd) : Bool :=
  match L with
  | [] => true
  | d :: rest => !(decide (d.name ∈ rawNames)) && rawFree d.kids && rawFree rest
termination_by SizeOf.sizeOf L
decreasing_by
  · have := d.kids_lt
    simp
    omega
  · simp
    omega
theorem rawFree_nil : rawFree [] = true := by rw [rawFree]
theorem rawFree_cons (d : Nd) (rest : List Nd) : rawFree (d :: rest) = (!(decide (d.name ∈ rawNames)) && rawFree d.kids && rawFree rest) := by rw [rawFree]
theorem ok_names {nm : List UInt8} {ats : List At} (h1 : qB (nameText nm ats) = true) (h2 : n60 (nameText nm ats) = 0) : okName nm ∧ ∀ a ∈ ats, okName a.name := by
  unfold nameText at h1 h2
  rw [n60_append] at h2
  refine ⟨⟨qB_left _ _ h1, by omega⟩, ?_⟩
  have g1 := qB_right _ _ h1
  have g2 : n60 (ats.flatMap At.name) = 0 := by omega
  clear h1 h2
  induction ats with
  | nil => intro a h; cases h
  | cons x ats ih =>
    rw [List.flatMap_cons] at g1 g2
    rw [n60_append] at g2
    intro a ha
    rcases List.mem_cons.1 ha with rfl | ha
    · exact ⟨qB_left _ _ g1, by omega⟩
    · exact ih (qB_right _ _ g1) (by omega) a ha

/-- Is a piece a tag? -/
def tagB (p : PT) : Bool := p.t.head?.map (·.toNat) == some 60
theorem pt_clean (L : List Nd) : ∀ (parent : List UInt8) (d : Nat), parent ∉ rawNames → namesB L = true → rawFree L = true → ∀ p ∈ ptB parent d L, pB p.t ∧ n60 p.t = if tagB p = true then 1 else 0 := by
  induction L using nds_ind with
  | _ L IH =>
  induction L with
  | nil => intro parent d _ _ _ p hp; rw [ptB_nil] at hp; cases hp
  | cons x rest ih =>
    intro parent d hpar hn hr p hp
    rw [namesB_cons] at hn
    rw [rawFree_cons] at hr
    simp only [Bool.and_eq_true, beq_iff_eq] at hn hr
    obtain ⟨⟨⟨hn1, hn2⟩, hn3⟩, hn4⟩ := hn
    obtain ⟨⟨hr1, hr2⟩, hr3⟩ := hr
    have hr1 : x.name ∉ rawNames := by simpa using hr1
    obtain ⟨ho1, ho2⟩ := ok_names hn1 hn2
    rw [ptB_cons] at hp
    rcases List.mem_append.1 hp with hp | hp
    · have ks := IH x (by simp) x.name (d + 1) hr1 hn3 hr2
      obtain ⟨s1, s2, s3⟩ := start_clean x.name x.attrs ho1 ho2
      obtain ⟨e1, e2, e3⟩ := end_clean x.name ho1
      unfold ptOne at hp
      split at hp
      · rw [List.mem_singleton] at hp
        subst hp
        obtain ⟨t1, t2⟩ := escB_clean false x.text
        unfold textB
        rw [if_neg hpar]
        refine ⟨t1, ?_⟩
        rw [t2, if_neg]
        unfold tagB
        intro h
        have h := eq_of_beq h
        cases hc : escB false x.text with
        | nil => rw [hc] at h; simp at h
        | cons c r =>
          simp only [hc, List.head?_cons, Option.map_some, Option.some.injEq] at h
          rw [hc, n60_cons, if_pos h] at t2
          omega
      · have hs : ∀ q : PT, q = ⟨d, startB x.name x.attrs⟩ → pB q.t ∧ n60 q.t = if tagB q = true then 1 else 0 := by
          rintro q rfl
          refine ⟨s1, ?_⟩
          rw [if_pos (by unfold tagB; rw [s3]; rfl)]
          exact s2
        split at hp
        · rw [List.mem_singleton] at hp
          exact hs p hp
        · rcases List.mem_cons.1 hp with hp | hp
          · exact hs p hp
          · rcases List.mem_append.1 hp with hp | hp
            · exact ks p hp
            · rw [List.mem_singleton] at hp
              subst hp
              refine ⟨e1, ?_⟩
              rw [if_pos (by unfold tagB; rw [e3]; rfl)]
              exact e2
    · exact ih (fun y hy => IH y (by simp [hy])) parent d hpar hn4 hr3 p hp
/-- THE PLAIN LAW. -/
theorem text_clean (R : List PT) (h : ∀ p ∈ R, pB p.t ∧ n60 p.t = if tagB p = true then 1 else 0) : pB (ptText R) ∧ n60 (ptText R) = R.countP tagB := by
  induction R with
  | nil => exact ⟨⟨by simp [ptText], rfl⟩, rfl⟩
  | cons p R ih =>
    obtain ⟨h1, h2⟩ := h p (by simp)
    obtain ⟨h3, h4⟩ := ih fun q hq => h q (by simp [hq])
    rw [ptText_cons, n60_append, h2, h4, List.countP_cons]
    exact ⟨pB_append h1 h3, by omega⟩
end Go.Proofs.YtcogoiphpfgkdaaDoor
