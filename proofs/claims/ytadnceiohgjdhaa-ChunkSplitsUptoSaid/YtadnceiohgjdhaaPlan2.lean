/-
  A law for regions that draw their order and hold a call behind which what is read is another: first what goes into that call, then the call, then a plan for the rest.
-/
import Derived.Test.YtadnceiohgjdhaaPlan
namespace Go.Proofs.Ytadnceiohgjdhaa
open Go
set_option linter.unusedVariables false

section
variable {P : Program} {ops : Array Oper} {Q : Exit → Act → World → Prop} {md : Region.Mode} {S : World → Prop} {b : Nat}

/-- Whatever order is picked from here on; S holds till operation b. -/
def wpAnyB (P : Program) (md : Region.Mode) (ops : Array Oper) (Q : Exit → Act → World → Prop) (S : World → Prop) (b : Nat) : Nat → Array Bool → Act → World → Prop
  | 0, listed, a, w => Region.ready md ops listed = [] ∧ Q .normal a w
  | fuel + 1, listed, a, w =>
    (Region.ready md ops listed = [] → Q .normal a w) ∧
    ∀ i ∈ Region.ready md ops listed, wpOp P ops Q i (fun a' w' => (i ≠ b → S w' ∧ wpAnyB P md ops Q S b fuel (listed.setIfInBounds i true) a' w') ∧ (i = b → wpAny P md ops Q fuel (listed.setIfInBounds i true) a' w')) a w

theorem wpAny_of_B : ∀ (fuel : Nat) (listed : Array Bool) (a : Act) (w : World), wpAnyB P md ops Q S b fuel listed a w → wpAny P md ops Q fuel listed a w
  | 0, _, _, _, h => h
  | fuel + 1, _, _, _, h => ⟨h.1, fun i hi => wpOp_mono (fun a' w' h' => by
      by_cases hb : i = b
      · exact h'.2 hb
      · exact wpAny_of_B fuel _ a' w' (h'.1 hb).2) (h.2 i hi)⟩

theorem wpAnyB_first {i : Nat} {oi : Oper} {v : Value} (hi : ops[i]? = some oi) (hib : i ≠ b) (hsel : ∀ (j : Nat) (o : Oper) cs b, ops[j]? = some o → o.op ≠ .select cs b)
    (hQ : ∀ c a w, Q (.panic c) (a.put oi.dst v) w → Q (.panic c) a w) (hlate : Region.waitsFor md ops b i = true) :
    ∀ (fuel : Nat) (listed : Array Bool) (a : Act) (w : World),
      (∀ j oj, ops[j]? = some oj → j ≠ i → listed.getD j true = false → (∀ e ∈ oj.after, Region.binds md e = true → e.on ≠ i) → oi.apart ops oj = true) →
      i ∈ Region.ready md ops listed → YieldsIf P ops S oi v a → S w →
      wpAnyB P md ops Q S b fuel (listed.setIfInBounds i true) (a.put oi.dst v) w → wpAnyB P md ops Q S b (fuel + 1) listed a w := by
  intro fuel
  induction fuel with
  | zero =>
    intro listed a w _ hr hy hS H
    refine ⟨fun h => (by rw [h] at hr; cases hr), fun j hj => ?_⟩
    by_cases hji : j = i
    · subst hji; exact hy.wpOp hi hS ⟨fun _ => ⟨hS, H⟩, fun h => absurd h hib⟩
    · have := ready_mono hj hji
      rw [H.1] at this
      cases this
  | succ fuel ih =>
    intro listed a w hfree hr hy hS H
    refine ⟨fun h => (by rw [h] at hr; cases hr), fun j hj => ?_⟩
    by_cases hji : j = i
    · subst hji; exact hy.wpOp hi hS ⟨fun _ => ⟨hS, H⟩, fun h => absurd h hib⟩
    · have h1 := H.2 j (ready_mono hj hji)
      obtain ⟨hjun, oj, hoj, hall⟩ := mem_ready.1 hj
      have hnot : ∀ e ∈ oj.after, Region.binds md e = true → e.on ≠ i := fun e he hb heq => by
        have h1 := hall e he hb
        have h0 := (mem_ready.1 hr).1
        rw [heq] at h1
        rcases Nat.lt_or_ge i listed.size with h' | h'
        · simp [h'] at h0 h1; rw [h0] at h1; cases h1
        · simp [Array.getElem?_eq_none h'] at h1
      have hjb : j ≠ b := by
        rintro rfl
        obtain ⟨o', ho', e, he, hb, hon⟩ := Region.waitsFor_spec hlate
        have : o' = oj := Option.some.inj (ho'.symm.trans hoj)
        subst this
        exact absurd hon (hnot e he hb)
      have h2 := wpOp_putIf hoj (hfree j oj hoj hji hjun hnot) (fun cs b => hsel i oi cs b hi) (fun cs b => hsel j oj cs b hoj) hQ hy h1
      have hfree' : ∀ k ok, ops[k]? = some ok → k ≠ i → (listed.setIfInBounds j true).getD k true = false →
          (∀ e ∈ ok.after, Region.binds md e = true → e.on ≠ i) → oi.apart ops ok = true := fun k ok hk hki hun hno => by
        refine hfree k ok hk hki ?_ hno
        by_cases hjk : j = k
        · subst hjk; exact hjun
        · rw [getD_set_ne true hjk] at hun; exact hun
      refine wpOp_mono (fun a' w' h3 => ⟨fun _ => ⟨(h3.2.1 hjb).1, ih (listed.setIfInBounds j true) a' w' hfree' (ready_mono hr (Ne.symm hji)) h3.1 (h3.2.1 hjb).1 ?_⟩, fun h => absurd h hjb⟩) h2
      rw [Array.setIfInBounds_comm _ _ hji]
      exact (h3.2.1 hjb).2

/-- First the operations of a list, then operation b, then what N says. -/
def wpStage (P : Program) (ops : Array Oper) (Q : Exit → Act → World → Prop) (S : World → Prop) (b : Nat) (N : Act → World → Prop) : List Nat → Act → World → Prop
  | [], a, w => wpOp P ops Q b N a w
  | i :: r, a, w => S w ∧ ∃ o v, ops[i]? = some o ∧ YieldsIf P ops S o v a ∧ (∀ c a w, Q (.panic c) (a.put o.dst v) w → Q (.panic c) a w) ∧ wpStage P ops Q S b N r (a.put o.dst v) w
def stageB (md : Region.Mode) (ops : Array Oper) (b : Nat) : List Nat → Array Bool → Bool
  | [], listed => Region.ready md ops listed == [b]
  | i :: r, listed => (Region.ready md ops listed).contains i && Region.free md ops listed i && Region.waitsFor md ops b i && (i != b) && stageB md ops b r (listed.setIfInBounds i true)
def stageListed : List Nat → Array Bool → Array Bool
  | [], listed => listed
  | i :: r, listed => stageListed r (listed.setIfInBounds i true)

theorem wpAnyB_stage (hsel : Region.noSelect ops = true) (rest : Nat) :
    ∀ (plan : List Nat) (listed : Array Bool) (a : Act) (w : World), stageB md ops b plan listed = true →
      wpStage P ops Q S b (wpAny P md ops Q rest ((stageListed plan listed).setIfInBounds b true)) plan a w → wpAnyB P md ops Q S b (plan.length + (rest + 1)) listed a w
  | [], listed, a, w, hB, h => by
    have h1 : Region.ready md ops listed = [b] := by simpa [stageB] using hB
    rw [List.length_nil, Nat.zero_add]
    refine ⟨fun h0 => (by rw [h1] at h0; cases h0), fun j hj => ?_⟩
    rw [h1] at hj
    obtain rfl : j = b := by simpa using hj
    exact wpOp_mono (fun a' w' h' => ⟨fun h => absurd rfl h, fun _ => h'⟩) h
  | i :: r, listed, a, w, hB, h => by
    obtain ⟨hS, o, v, ho, hy, hQ, hr⟩ := h
    simp only [stageB, Bool.and_eq_true, bne_iff_ne] at hB
    obtain ⟨⟨⟨⟨h1, h2⟩, h3⟩, h5⟩, h4⟩ := hB
    rw [List.length_cons, Nat.add_right_comm]
    exact wpAnyB_first ho h5 (Region.noSelect_spec hsel) hQ h3 _ listed a w (Region.free_spec ho h2) (by simpa using h1) hy hS (wpAnyB_stage hsel rest r _ _ _ h4 hr)

/-- THE LAW. -/
theorem wp_region_stage {id : Nat} {a : Act} {w : World} (S : World → Prop) (b n0 : Nat) (plan1 : List Nat) (plan2 : List (Nat × Bool)) (hm : P.follows .mixedOrders = true)
    (hB : (Region.noSelect ops && (plan1.length + (plan2.length + 1) == ops.size) && stageB .any ops b plan1 (Array.replicate ops.size false) && planB .any ops n0 plan2 ((stageListed plan1 (Array.replicate ops.size false)).setIfInBounds b true)) = true)
    (hS : S w.drew) (h : S w.drew → wpStage P ops Q S b (fun a' w' => ∃ S2 : World → Prop, S2 w' ∧ (S2 w' → wpPlan P ops Q S2 n0 plan2 a' w')) plan1 a w.drew) : (Code.region id ops true).wp P Q a w := by
  simp only [Bool.and_eq_true, beq_iff_eq] at hB
  obtain ⟨⟨⟨h1, h2⟩, h3⟩, h4⟩ := hB
  refine wp_region_any hm ?_
  rw [← h2]
  refine wpAny_of_B (S := S) (b := b) _ _ _ _ (wpAnyB_stage (md := .any) h1 plan2.length plan1 _ a w.drew (by rw [h2]; exact h3) ?_)
  have key : ∀ (plan : List Nat) (a : Act) (w : World), wpStage P ops Q S b (fun a' w' => ∃ S2 : World → Prop, S2 w' ∧ (S2 w' → wpPlan P ops Q S2 n0 plan2 a' w')) plan a w →
      wpStage P ops Q S b (wpAny P .any ops Q plan2.length ((stageListed plan1 (Array.replicate (plan1.length + (plan2.length + 1)) false)).setIfInBounds b true)) plan a w := by
    intro plan
    induction plan with
    | nil =>
      intro a w h
      refine wpOp_mono (fun a' w' h' => ?_) h
      obtain ⟨S2, hs, hp⟩ := h'
      rw [h2]
      exact wpAny_of_T _ _ _ _ (wpAnyT_plan (md := .any) h1 plan2 _ a' w' h4 (hp hs))
    | cons i r ih =>
      rintro a w ⟨hS, o, v, ho, hy, hQ, hr⟩
      exact ⟨hS, o, v, ho, hy, hQ, ih _ _ hr⟩
  exact key plan1 a w.drew (h hS)

theorem stage_take {N : Act → World → Prop} {i : Nat} {r : List Nat} {a : Act} {w : World} {o : Oper} {v : Value} (ho : ops[i]? = some o) (hS : S w) (hw : Region.wanted o (yielded ops a.tmps) = true) (hQ : ∀ c a w, Q (.panic c) (a.put o.dst v) w → Q (.panic c) a w)
    (hy : ∀ w, S w → (execOp a.eval o).run P w = .ok (.value v) w) (h : wpStage P ops Q S b N r (a.put o.dst v) w) : wpStage P ops Q S b N (i :: r) a w :=
  ⟨hS, o, v, ho, .inl ⟨hw, hy⟩, hQ, h⟩
theorem stage_op {N : Act → World → Prop} {a : Act} {w : World} {o : Oper} (ho : ops[b]? = some o)
    (h : ∀ K' : Act → World → Prop, Shut (∀ a w, N a w → K' a w) → if Region.wanted o (yielded ops a.tmps) = true then Oper.wp P o a w K' Q else K' (a.put o.dst undef) w) : wpStage P ops Q S b N [] a w :=
  wpOp_step ho fun K' hK => h K' hK
end
end Go.Proofs.Ytadnceiohgjdhaa
