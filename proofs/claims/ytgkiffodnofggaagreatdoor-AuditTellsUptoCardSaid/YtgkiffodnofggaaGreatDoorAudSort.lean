/-
  The sorts of names and of reasons, in this seat's words for memory.
-/
import Derived.Test.YtgkiffodnofggaaGreatDoorAudOrder
import Derived.Test.YtgkiffodnofggaaGreatDoorSortF
import Derived.Test.YtgkiffodnofggaaGreatDoorSortM
import Derived.Sort.OwnSorted
namespace Go.Proofs.YtgkiffodnofggaaGreatDoor
open Go.RowKit Go.Sort Go.Proofs
set_option linter.unusedVariables false
set_option linter.unusedSimpArgs false

section
variable {α : Type} [Inhabited α] {enc : α → Value}
theorem holdsG {w : World} {g : Nat} {cur : Array Value} {e : TypeId} {ss : List α} (hb : Blk w g e cur) (ht : cur.toList.take ss.length = ss.map enc) : Holds enc w g 0 ss.toArray := by
  intro j hj
  have hj' : j < ss.length := by simpa using hj
  refine ⟨?_, hb.frozen _⟩
  have h1 : (cur.toList.take ss.length)[j]? = (ss.map enc)[j]? := by rw [ht]
  rw [List.getElem?_take_of_lt hj'] at h1
  rw [hb.cell, Nat.zero_add, ← Array.getElem?_toList, h1]
  simp [hj']
theorem heapG {w : World} {g n : Nat} {os : Array Obj} {cur : Array Value} {e : TypeId} (d : Array α) (hb : Blk w g e cur) : Blk (grow (putRow enc (Sort.ahead w n) g 0 d) os) g e (putCells enc 0 d cur) := by
  have hg := hb.lt
  unfold Blk at hb ⊢
  rw [heap_grow_old _ _ (by simpa using hg)]
  simp [putRow, mapBlock, Sort.ahead, Array.getElem?_modify, hb, onCells]
theorem keepG {w : World} {g n : Nat} {os : Array Obj} (d : Array α) : Keep (fun k => k = g) w (grow (putRow enc (Sort.ahead w n) g 0 d) os) := by
  refine ⟨rfl, rfl, rfl, by simp, fun k hk hne => ?_⟩
  rw [heap_grow_old _ _ (by simpa using hk)]
  have : g ≠ k := fun e => hne e.symm
  simp [putRow, mapBlock, Sort.ahead, Array.getElem?_modify, this]
theorem takeG (cur : Array Value) (ts : List α) (h : ts.length ≤ cur.size) : (putCells enc 0 ts.toArray cur).toList.take ts.length = ts.map enc := by
  apply List.ext_getElem?
  intro j
  by_cases hj : j < ts.length
  · rw [List.getElem?_take_of_lt hj, Array.getElem?_toList]
    simp [putCells, hj, show j < cur.size by omega]
  · rw [List.getElem?_take_eq_none (by omega), List.getElem?_eq_none (by simp; omega)]
theorem ownG {w : World} {base g cap n : Nat} {e : TypeId} {os : Array Obj} {cur : Array Value} {l : Nat} {ts : List α} (hl : ts.length = l) (hbase : base ≤ g) (hb : Blk w g e cur) (h1 : l ≤ cap) (h2 : cap ≤ maxLen) (h3 : cur.size = cap * 1) :
    (grow (putRow enc (Sort.ahead w n) g 0 ts.toArray) os).ownsRow base e 1 (.slice (some ⟨g, 0, none⟩) l cap) l (ts.map enc) :=
  ⟨by simp [hl], .inr ⟨g, cap, _, rfl, hbase, heapG _ hb, h1, h2, by simp [putCells, h3], by rw [Nat.mul_one, ← hl]; exact takeG cur ts (by omega)⟩⟩
end

/-- A name that is not too long. -/
abbrev Nm := {l : List UInt8 // l.length ≤ maxLen}
instance : Inhabited Nm := ⟨⟨[], Nat.zero_le _⟩⟩
def encNm (x : Nm) : Value := .string (str x.1)

theorem Tot.swo {α : Type} {lt : α → α → Bool} (h : Tot lt) : SWO lt where
  irrefl x := by
    cases e : lt x x with
    | false => rfl
    | true => have := h.asym _ _ e; rw [e] at this; cases this
  trans := h.trans
  ntrans x y z h1 h2 := h.not_trans z y x h2 h1

set_option maxRecDepth 100000 in
theorem sortN_any (ks : List (List UInt8)) (hks : ks.length ≤ 1048576) (l : List (List UInt8)) (hl : ∀ x ∈ l, x.length ≤ maxLen) (hll : l.length ≤ 1048576) (W : World) (base g cap B n c : Nat)
    (hK : KM kName W B n ks) (hB : B ≠ g) (hc : Blk W c 33 #[.map (some B)]) (hcg : c ≠ g) (hrow : W.ownsRow base 9 1 (.slice (some ⟨g, 0, none⟩) l.length cap) l.length (txv l)) :
    Calls Tryz.prog 13 #[.slice (some ⟨g, 0, none⟩) l.length cap, .func (.func 14) #[] #[.pointer (some ⟨c, 0, none⟩)]] W fun e w' => e = .returned (.tuple #[]) ∧
      w'.ownsRow base 9 1 (.slice (some ⟨g, 0, none⟩) l.length cap) l.length (txv (srt (ltN ks) l)) ∧ Keep (fun k => k = g) W w' := by
  obtain ⟨d, hd⟩ : ∃ d : List Nm, d.map (·.1) = l := ⟨l.pmap Subtype.mk hl, by simp [List.map_pmap]⟩
  have hdl : d.toArray.size = l.length := by rw [← hd]; simp
  rcases own_form hrow with ⟨hv, _, _⟩ | ⟨g', cap', cur, hv, hbase, _, hb, h1, h2, h3, h4⟩
  · cases hv
  · injection hv with e1 _ e2
    injection e1 with e1
    injection e1 with e1
    subst e1 e2
    have hsv : txv l = d.map encNm := by rw [← hd]; simp [txv, encNm]
    have hH : Holds encNm W g 0 d.toArray := holdsG hb (by rw [hsv, Nat.mul_one] at h4; rw [show d.length = l.length by rw [← hd]; simp]; exact h4)
    have eg : ∀ args w, (callFunc 14 args).run Tryz.prog w = .ok (.enter 14 args) w := enters_of Tryz.func14 (by kernel_rfl) rfl
    have hT : Tot (ltOf fun x y : Nm => cmpN ks x.1 y.1) :=
      ⟨fun x y h => (ltN_tot ks).asym x.1 y.1 h, fun x y z h1 h2 => (ltN_tot ks).trans x.1 y.1 z.1 h1 h2, fun x y h1 h2 => Subtype.ext ((ltN_tot ks).total x.1 y.1 h1 h2)⟩
    have hcmp : CmpLays1 Tryz.prog 14 #[.pointer (some ⟨c, 0, none⟩)] encNm (fun x y : Nm => cmpN ks x.1 y.1) g 0 d.toArray.size W := by
      intro m os dk hs x y
      have hk : Keep (fun k => k = g) W (sortWorld encNm W g 0 m dk os) := keepG dk
      refine (cmp_any ks x.1 y.1 x.2 y.2 (sortWorld encNm W g 0 m dk os) B n c (hK.keep hk hB) ((hc.keep hk hcg).cell 0) hks).mono ?_
      rintro e w' ⟨rfl, rfl⟩
      exact ⟨rfl, 0, #[], by rw [grow_empty]; rfl⟩
    have K := Tryz.slices_SortFunc_total encNm (fun _ => rfl) (fun x y : Nm => cmpN ks x.1 y.1) hT.swo 14 #[.pointer (some ⟨c, 0, none⟩)] g 0 cap d.toArray W eg hcmp hH hb.lt (by rw [hdl]; omega) hT.total
    rw [hdl] at K
    refine K.mono ?_
    rintro e w' ⟨rfl, q, os, rfl⟩
    have hm : ((d.toArray.toList.mergeSort fun x y => !(ltOf fun x y : Nm => cmpN ks x.1 y.1) y x)).map (·.1) = srt (ltN ks) l := by
      rw [← srt_merge (ltN_tot ks) l, ← hd, List.map_mergeSort (s := fun x y => !ltN ks y x)]
      intro a _ b _
      rfl
    obtain ⟨ts, hts⟩ : ∃ ts, (d.toArray.toList.mergeSort fun x y => !(ltOf fun x y : Nm => cmpN ks x.1 y.1) y x) = ts := ⟨_, rfl⟩
    rw [hts] at hm ⊢
    have hsv2 : txv (srt (ltN ks) l) = ts.map encNm := by rw [← hm]; simp [txv, encNm]
    rw [hsv2]
    exact ⟨rfl, ownG (by rw [← srt_length (ltN ks) l, ← hm, List.length_map]) hbase hb h1 h2 h3, keepG _⟩

/-- The order of reasons. -/
def ltW (x y : Int) : Bool := decide (x < y)
theorem ltW_tot : Tot ltW := by
  refine ⟨fun x y h => ?_, fun x y z h1 h2 => ?_, fun x y h1 h2 => ?_⟩ <;> simp only [ltW, decide_eq_true_eq, decide_eq_false_iff_not] at * <;> omega

set_option maxRecDepth 100000 in
theorem sortW_any (l : List Int) (hll : l.length ≤ 1048576) (W : World) (base g cap : Nat) (hrow : W.ownsRow base 36 1 (.slice (some ⟨g, 0, none⟩) l.length cap) l.length (iv l)) :
    Calls Tryz.prog 27 #[.slice (some ⟨g, 0, none⟩) l.length cap] W fun e w' => e = .returned (.tuple #[]) ∧
      w'.ownsRow base 36 1 (.slice (some ⟨g, 0, none⟩) l.length cap) l.length (iv (srt ltW l)) ∧ Keep (fun k => k = g) W w' := by
  rcases own_form hrow with ⟨hv, _, _⟩ | ⟨g', cap', cur, hv, hbase, _, hb, h1, h2, h3, h4⟩
  · cases hv
  · injection hv with e1 _ e2
    injection e1 with e1
    injection e1 with e1
    subst e1 e2
    rw [Nat.mul_one] at h4
    refine (Tryz.slices_Sort_why g 0 cap l W (holdsG hb h4) hb.lt (by omega)).mono ?_
    rintro e w' ⟨rfl, q, os, rfl⟩
    have hm : (l.mergeSort fun x y => decide (x ≤ y)) = srt ltW l := by
      rw [← srt_merge ltW_tot l]
      congr 1
      funext x y
      unfold ltW
      by_cases h : x ≤ y
      · rw [decide_eq_true h, decide_eq_false (by omega)]; rfl
      · rw [decide_eq_false h, decide_eq_true (by omega)]; rfl
    rw [hm]
    exact ⟨rfl, ownG (srt_length ltW l) hbase hb h1 h2 h3, keepG _⟩
end Go.Proofs.YtgkiffodnofggaaGreatDoor
