/-
  Slices of bytes of the call's own that lie anywhere in their arrays: read, cut, appended to.
-/
import Derived.Test.YtadnceiohgjdhaaBase
import Derived.Deep.AppendSrc
import Derived.Deep.Upon
namespace Go.Proofs.Ytadnceiohgjdhaa
open Go.RowKit
set_option linter.unusedVariables false

/-- The slice (A, n, c) holds the bytes bs; its array lies in a block of S, and so does its spare. -/
structure Win (S : Nat → Prop) (w : World) (A : Option Addr) (n c : Nat) (bs : List UInt8) : Prop where
  row : Row S w 1 A n (bv bs)
  le : n ≤ c
  max : c ≤ maxLen
  room : 0 < c → ∃ g off cur, A = some ⟨g, off, none⟩ ∧ S g ∧ Blk w g 5 cur ∧ off + c ≤ cur.size

section
variable {S T : Nat → Prop} {w w' a : World} {A : Option Addr} {n c : Nat} {bs : List UInt8}
theorem Win.nil : Win S w none 0 0 [] := ⟨Row.none_, Nat.le_refl _, Nat.zero_le _, fun h => absurd h (by omega)⟩
theorem Win.length (h : Win S w A n c bs) : bs.length = n := by have := h.row.1; rw [bv_length] at this; omega
theorem Win.keep (h : Win S w A n c bs) (hk : Keep T w w') (hS : ∀ k, S k → ¬ T k) : Win S w' A n c bs :=
  ⟨h.row.keep hk hS, h.le, h.max, fun h0 => by
    obtain ⟨g, off, cur, e, hs, hb, hl⟩ := h.room h0
    exact ⟨g, off, cur, e, hs, hb.keep hk (hS _ hs), hl⟩⟩
theorem Win.behind (h : Win S w A n c bs) (hb : Below w.heap.size w w') : Win S w' A n c bs := h.keep (Keep.of_below hb (fun _ => False)) (fun _ _ => id)
theorem Win.drewN (h : Win S w A n c bs) (k : Nat) : Win S (w.drewN k) A n c bs := ⟨h.row, h.le, h.max, h.room⟩
theorem Win.more (h : Win S w A n c bs) (hS : ∀ k, k < w.heap.size → S k → T k) : Win T w A n c bs :=
  ⟨h.row.more hS (by omega), h.le, h.max, fun h0 => by
    obtain ⟨g, off, cur, e, hs, hb, hl⟩ := h.room h0
    exact ⟨g, off, cur, e, hS _ hb.lt hs, hb, hl⟩⟩
theorem Win.of_own {lo : Nat} (h : w.ownsRow lo 5 1 (.slice A n c) n (bv bs)) : Win (fun k => lo ≤ k ∧ k < w.heap.size) w A n c bs := by
  have hr := (Row.of_own h)
  rcases own_form h with ⟨e, h0, h1⟩ | ⟨g, cap, cur, e, hlo, hg, hb, hnc, hm, hs, _⟩
  · injection e with e1 e2 e3
    subst e1 e2 e3
    obtain rfl : bs = [] := by cases bs with | nil => rfl | cons x r => simp [bv] at h1
    exact Win.nil
  · injection e with e1 e2 e3
    subst e1 e3
    exact ⟨hr.more (fun k h1 h2 => ⟨h2, h1⟩) (by omega), hnc, hm, fun _ => ⟨g, 0, cur, rfl, ⟨hlo, hg⟩, hb, by omega⟩⟩
/-- 's[k:]'. -/
theorem Win.cut (h : Win S w A n c bs) {k : Nat} (hk : k ≤ n) : Win S w (if c = k then A else A.map (·.add k)) (n - k) (c - k) (bs.drop k) := by
  have hr := h.row.cut hk h.le
  rw [Nat.mul_one, ← bv_drop] at hr
  have hle := h.le
  refine ⟨hr, by omega, by have := h.max; omega, fun h0 => ?_⟩
  obtain ⟨g, off, cur, rfl, hs, hb, hl⟩ := h.room (by omega)
  rw [if_neg (by omega)]
  exact ⟨g, off + k, cur, by simp [addr_lit], hs, hb, by omega⟩

theorem Keep.setCells {g : Nat} (hg : S g ∨ a.heap.size ≤ g) : ∀ (vs : List Value) (o : Nat) (w : World), Keep S a w → Keep S a (w.setCells g o vs)
  | [], _, _, h => h
  | v :: r, o, w, h => Keep.setCells hg r (o + 1) _ (h.setCell (p := ⟨g, o, none⟩) hg v)
theorem Blk.setCells {g : Nat} {t : TypeId} : ∀ (vs : List Value) (o : Nat) (w : World) (cur : Array Value), Blk w g t cur → ∃ cur', Blk (w.setCells g o vs) g t cur' ∧ cur'.size = cur.size
  | [], _, _, cur, h => ⟨cur, h, rfl⟩
  | v :: r, o, w, cur, h => by
    obtain ⟨cur', h1, h2⟩ := Blk.setCells r (o + 1) _ _ (h.set_ o v)
    exact ⟨cur', h1, by simpa using h2⟩

end

section
variable {P : Program} (w : World) {S T : Nat → Prop}
theorem first_none (size : Nat) (A : Option Addr) (c : Nat) : (Builtin.firstCells size 0 (.slice A 0 c)).run P w = .ok (bv []).toArray w := by
  cases A with
  | none => exact run_firstCells_none w size 0 0 c
  | some a => exact run_firstCells_some w size 0 a 0 c [] (by simp) (by simp)
theorem run_append_win (t ty e : TypeId) (i : TypeInfo) (he : e = 5) (ht : P.underlying t = some (.slice e)) (hi : P.info? e = some i) (hz : i.zero = some (.int .u8 0)) (hsize : i.size = 1) (hby : i.bytes = 1)
    {A : Option Addr} {n c : Nat} {bs : List UInt8} (h : Win S w A n c bs) {A2 : Option Addr} {m : Nat} (c2 : Nat) {xs : List UInt8} (hr : Row T w 1 A2 m (bv xs)) (hn : n + m ≤ 140737488355328) :
    ∃ A' c' w', (Builtin.append_ #[t, t] ty #[.slice A n c, .slice A2 m c2]).run P w = .ok (.slice A' (n + m) c') w' ∧ Win (fun k => S k ∨ k = w.heap.size) w' A' (n + m) c' (bs ++ xs) ∧ Keep S w w' ∧ w'.heap.size ≤ w.heap.size + 1 := by
  subst he
  have hxl : xs.length = m := by have := hr.1; rw [bv_length] at this; omega
  have hbl := h.length
  have hle := h.le
  have hmx := h.max
  have hsrc : _root_.Go.Src P i.size t (.slice A2 m c2) m (bv xs) w := by
    rcases Nat.eq_zero_or_pos m with h0 | h0
    · subst h0
      obtain rfl : xs = [] := List.eq_nil_of_length_eq_zero hxl
      exact ⟨.inl ⟨_, ht⟩, fun _ => rfl, first_none w i.size A2 c2, first_none w.drew i.size A2 c2, by simp [bv], by simp [bv]⟩
    · obtain ⟨ad, rfl, _, hc⟩ := hr.2 h0
      exact _root_.Go.Src.ofSlice w ht ad m c2 (bv xs) (by rw [hsize, bv_length]; omega) hc (bv_one xs)
  rcases Nat.eq_zero_or_pos m with h0 | h0
  · subst h0
    obtain rfl : xs = [] := List.eq_nil_of_length_eq_zero hxl
    exact ⟨A, c, w, run_append_nothing w t t ty _ i ht hi A n c hle _ hsrc, by simpa using h.more (fun k _ hs => .inl hs), Keep.refl _ _, by omega⟩
  · by_cases hroom : n + m ≤ c
    · obtain ⟨g, off, cur, rfl, hs, hb, hl⟩ := h.room (by omega)
      have hin : ∀ j, j < (bv xs).length → (w.cell? ⟨g, off + n * i.size + j, none⟩).isSome = true := by
        intro j hj
        rw [bv_length] at hj
        rw [hb.cell, hsize, Array.getElem?_eq_getElem (by omega)]
        rfl
      have hrun := run_append_room_src (P := P) w t t ty _ i ht hi g off n c _ m (bv xs) hsrc hroom hin (fun j _ => hb.frozen _)
      rw [hsize, Nat.mul_one] at hrun
      simp only [hsize, Nat.mul_one] at hin
      obtain ⟨cur', hb', hs'⟩ := Blk.setCells (bv xs) (off + n) w cur hb
      have hsz : (w.setCells g (off + n) (bv xs)).heap.size = w.heap.size := by
        have : ∀ (vs : List Value) (o : Nat) (w : World), (w.setCells g o vs).heap.size = w.heap.size := by
          intro vs
          induction vs with
          | nil => intro o w; rfl
          | cons v r ih => intro o w; rw [World.setCells, ih]; simp [World.setCell]
        exact this _ _ _
      refine ⟨_, c, _, hrun, ⟨⟨by rw [bv_length, List.length_append]; omega, fun _ => ⟨_, rfl, .inl hs, fun j u hu => ?_⟩⟩, hroom, hmx, fun _ => ⟨g, off, cur', rfl, .inl hs, hb', by omega⟩⟩, Keep.setCells (.inl hs) _ _ _ (Keep.refl _ _), by omega⟩
      rw [addr_lit]
      by_cases hj : j < n
      · rw [World.cell?_setCells_out g _ _ _ _ (fun _ _ => .inl (by simp; omega))]
        have hu' : (bv bs)[j]? = some u := by
          simp only [bv, List.map_append] at hu ⊢
          rwa [List.getElem?_append_left (by simp; omega)] at hu
        obtain ⟨ad, e, _, hc⟩ := h.row.2 (by omega)
        injection e with e
        subst e
        have := hc j u hu'
        rwa [addr_lit] at this
      · have hu' : (bv xs)[j - n]? = some u := by
          simp only [bv, List.map_append] at hu ⊢
          rw [List.getElem?_append_right (by simp; omega)] at hu
          simpa [hbl] using hu
        have hjl : j - n < (bv xs).length := (List.getElem?_eq_some_iff.1 hu').1
        have := World.cell?_setCells_in g (bv xs) (off + n) w hin (j - n) hjl
        rw [show off + n + (j - n) = off + j by omega] at this
        rw [this, ← List.getElem?_eq_getElem hjl]
        exact hu'
    · have hold : (Builtin.firstCells i.size n (.slice A n c)).run P w.drew = .ok (bv bs).toArray w.drew := by
        rcases Nat.eq_zero_or_pos n with h1 | h1
        · subst h1
          obtain rfl : bs = [] := List.eq_nil_of_length_eq_zero hbl
          exact first_none w.drew i.size A c
        · obtain ⟨ad, rfl, _, hc⟩ := h.row.2 h1
          exact run_firstCells_some w.drew i.size n ad n c (bv bs) (by rw [hsize, bv_length]; omega) (by simpa using hc)
      have hrun := run_append_grow_src (P := P) w t t ty _ i (.int .u8 0) ht hi hz A n c (bv bs) hold _ m (bv xs) hsrc (by omega) (by omega) (by rw [hby]; exact growslice_fits (by omega) (by omega))
      have hge := grownCap_ge w (n + m) c 5
      have hcm := grownCap_le_maxLen w (n + m) c 5 (by simp only [maxLen]; omega)
      have hz1 : (Value.int IntKind.u8 0).cells.size = 1 := rfl
      refine ⟨_, _, _, hrun, ⟨⟨by rw [bv_length, List.length_append]; omega, fun _ => ⟨_, rfl, .inr rfl, fun j u hu => ?_⟩⟩, hge, hcm, fun _ => ⟨_, 0, _, rfl, .inr rfl, Blk.new w.drew _ _, ?_⟩⟩, ((Keep.refl _ _).drew).alloc _, by simp⟩
      · rw [addr_lit, Nat.zero_add]
        have hb := (Blk.new w.drew 5 (((bv bs ++ bv xs).toArray ++ Builtin.zeroCells (Value.int IntKind.u8 0).cells (grownCap w (n + m) c 5 - (n + m))))).cell j
        refine Eq.trans hb ?_
        have hjl : j < (bv bs ++ bv xs).length := by
          have := (List.getElem?_eq_some_iff.1 hu).1
          simpa [bv] using this
        rw [Array.getElem?_append_left (by simpa using hjl)]
        simpa [bv] using hu
      · simp only [Array.size_append, List.size_toArray, List.length_append, bv_length, size_zeroCells, hz1]
        omega

theorem wpList_append_win {ops : Array Oper} {rest : List Oper} {o : Oper} {a : Act} {Q : Exit → Act → World → Prop} (hgd : o.guard = none) (s x : Operand) (t : TypeId)
    (ho : o.op = .call { callee := .builtin .append, args := #[s, x], argTypes := #[t, t] })
    (e : TypeId) (i : TypeInfo) (he : e = 5) (ht : P.underlying t = some (.slice e)) (hi : P.info? e = some i) (hz : i.zero = some (.int .u8 0)) (hsize : i.size = 1) (hby : i.bytes = 1)
    {A : Option Addr} {n c : Nat} {bs : List UInt8} (hs : a.eval s = .slice A n c) (hw : Win S w A n c bs) {A2 : Option Addr} {m : Nat} {c2 : Nat} {xs : List UInt8} (hx : a.eval x = .slice A2 m c2) (hr : Row T w 1 A2 m (bv xs)) (hn : n + m ≤ 140737488355328)
    (h : ∀ A' c' w', Win (fun k => S k ∨ k = w.heap.size) w' A' (n + m) c' (bs ++ xs) → Keep S w w' → w'.heap.size ≤ w.heap.size + 1 → wpList P ops Q rest (a.put o.dst (.slice A' (n + m) c')) w') : wpList P ops Q (o :: rest) a w := by
  refine wpList_plain hgd fun K hK => ?_
  obtain ⟨A', c', w', hrun, h2, h3, h4⟩ := run_append_win (P := P) w t o.type e i he ht hi hz hsize hby hw c2 hr hn
  unfold Oper.wp execOp
  simp only [ho, resolve, invoke, builtin, Sem.run_bind, Sem.run_pure, Result.andThen_ok, List.map_toArray, List.map_cons, List.map_nil, hs, hx, hrun]
  exact hK _ _ (h A' c' w' h2 h3 h4)
end

end Go.Proofs.Ytadnceiohgjdhaa
