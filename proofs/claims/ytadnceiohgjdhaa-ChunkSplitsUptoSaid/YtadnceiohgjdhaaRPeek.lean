/-
  The reference's buffers: Peek, Take.
-/
import Derived.Test.YtadnceiohgjdhaaRTake
namespace Go.Proofs.Ytadnceiohgjdhaa
open Go.RowKit
set_option linter.unusedVariables false
set_option linter.unusedSimpArgs false

/-- What a call on a buffer of the reference gives. -/
def RBufGives (H S : Nat → Prop) (b g : Nat) (r : (List UInt8 × Int) × Buf) (w : World) (v : Value) (w' : World) : Prop :=
  ∃ A c, v = .tuple #[.slice A r.1.1.length c, .int .i64 r.1.2] ∧ w'.ownsRow w.heap.size 5 1 (.slice A r.1.1.length c) r.1.1.length (bv r.1.1) ∧
  (∃ H', (∀ k, H' k → H k ∨ w.heap.size ≤ k) ∧ (∀ k, (Value.slice A r.1.1.length c).ownBlock = some k → ¬ H' k) ∧ IsRBuf H' S w' b g r.2) ∧ Keep (fun k => k = b ∨ k = g ∨ H k) w w'
theorem RBufGives.mk3 {H H2 S : Nat → Prop} {b g n c : Nat} {A : Option Addr} {y : Buf} {l : List UInt8} {e : Int} {w w3 : World} (hl : l.length = n) (ho : w3.ownsRow w.heap.size 5 1 (.slice A n c) n (bv l)) (hsub : ∀ k, H2 k → H k ∨ w.heap.size ≤ k)
    (hdis : ∀ k, (Value.slice A n c).ownBlock = some k → ¬ H2 k) (hb : IsRBuf H2 S w3 b g y) (hk : Keep (fun k => k = b ∨ k = g ∨ H k) w w3) : RBufGives H S b g ((l, e), y) w (.tuple #[.slice A n c, .int .i64 e]) w3 := by
  subst hl
  exact ⟨A, c, rfl, ho, ⟨H2, hsub, hdis, hb⟩, hk⟩
/-- .. where the bytes are new. -/
theorem RBufGives.new {H H2 S : Nat → Prop} {b g n c : Nat} {A : Option Addr} {y : Buf} {l : List UInt8} {e : Int} {w w2 w3 : World} (hl : l.length = n) (ho : w3.ownsRow w2.heap.size 5 1 (.slice A n c) n (bv l)) (hsub : ∀ k, H2 k → H k ∨ w.heap.size ≤ k)
    (hb : IsRBuf H2 S w2 b g y) (hk : Keep (fun k => k = b ∨ k = g ∨ H k) w w2) (hbw : Below w2.heap.size w2 w3) : RBufGives H S b g ((l, e), y) w (.tuple #[.slice A n c, .int .i64 e]) w3 :=
  RBufGives.mk3 hl (own_less ho hk.size) hsub (fun k h1 h2 => by have := (ho.lt k h1).1; have := (hb.held k h2).1; omega) (hb.behind hbw) (hk.then_below hbw)

/-- A loop of the reference's that fills: what holds at its head. -/
structure RLoop (H S : Nat → Prop) (w : World) (b g : Nat) (x : Buf) (wr : World) (y : Buf) (H' : Nat → Prop) : Prop where
  buf : IsRBuf H' S wr b g y
  size : y.size = x.size
  L : y.src.L = x.src.L
  sub : ∀ k, H' k → H k ∨ w.heap.size ≤ k
  keep : Keep (fun k => k = b ∨ k = g ∨ H k) w wr
def rMeas (g : Nat) (x : Buf) (em e : Value) (wr : World) : Nat := (total x.src.L - cellNum wr ⟨g, 3, none⟩) * 101 + (100 - (intOf em).toNat) + (if intOf e = 0 then 1 else 0)
section
variable {H S H' : Nat → Prop} {w wr : World} {b g em : Nat} {x y : Buf}
theorem RLoop.start (h : IsRBuf H S w b g x) : RLoop H S w b g x w x H :=
  ⟨h, rfl, rfl, fun k hk => .inl hk, Keep.refl _ w⟩
theorem RLoop.meas (h : RLoop H S w b g x wr y H') (e : Int) : rMeas g x (.int .i64 em) (.int .i64 e) wr = y.meas em + if e = 0 then 1 else 0 := by
  unfold rMeas
  rw [cellNum_of h.buf.src.told, ← h.L]
  rfl
theorem RLoop.drewN (h : RLoop H S w b g x wr y H') (q : Nat) : RLoop H S w b g x (wr.drewN q) y H' := by
  obtain ⟨A, c, h1, h2⟩ := h.buf.blk
  exact ⟨⟨⟨A, c, h1, h2.drewN q⟩, h.buf.src, h.buf.ne, h.buf.nS, h.buf.Sl, h.buf.held, h.buf.ok⟩, h.size, h.L, h.sub, h.keep.drewN q⟩
theorem RLoop.turn {H2 : Nat → Prop} {w3 : World} {z : Buf} (h : RLoop H S w b g x wr y H') (hk : Keep (fun k => k = b ∨ k = g ∨ H' k) wr w3) (hsub : ∀ k, H2 k → H' k ∨ wr.heap.size ≤ k) (hz : IsRBuf H2 S w3 b g z) (h1 : z.size = y.size) (h2 : z.src.L = y.src.L) : RLoop H S w b g x w3 z H2 :=
  ⟨hz, h1.trans h.size, h2.trans h.L, fun k hk' => by
    have := h.keep.size
    rcases hsub k hk' with h3 | h3
    · exact h.sub k h3
    · omega, h.keep.trans_ hk (fun i hi e => by
    rcases e with e | e | e
    · exact .inl e
    · exact .inr (.inl e)
    · rcases h.sub i e with h3 | h3
      · exact .inr (.inr h3)
      · omega)⟩
theorem RLoop.next (h : RLoop H S w b g x wr y H') {v : Value} {w2 : World} (hem : em < 100) (hf : RFillGives H' S b g y em wr v w2) :
    ∃ H2, v = .tuple #[.int .i64 ((y.fill em).1.2 : Int), .int .i64 (if (y.fill em).1.1 = 22 then 0 else (y.fill em).1.1)] ∧ RLoop H S w b g x w2 (y.fill em).2 H2 ∧ (∀ k, H2 k → H' k ∨ wr.heap.size ≤ k) ∧ Keep (fun k => k = b ∨ k = g ∨ H' k) wr w2 := by
  obtain ⟨rfl, hk2, H2, hsub, hb2⟩ := hf
  have hFF := Buf.fill_facts h.buf.ok em hem
  exact ⟨H2, rfl, h.turn hk2 hsub hb2 hFF.2.1 hFF.2.2.2.1, hsub, hk2⟩
end
theorem Buf.fill_stuck {x : Buf} {em : Nat} (h : (x.fill em).1.1 = 22) : (x.fill em).1.2 = em + 1 ∧ em + 1 = 100 ∧ (x.fill em).2.held = x.held ∧ (x.fill em).2.src.told = x.src.told := by
  obtain ⟨bs, er, s', hr⟩ : ∃ bs er s', x.src.read (x.size - x.held.length) = ((bs, er), s') := ⟨_, _, _, rfl⟩
  have hT := Src.read_told (s := x.src) (x.size - x.held.length)
  have hg := Src.read_range (s := x.src) (x.size - x.held.length)
  rw [hr] at hT hg
  simp only at hT hg
  by_cases he : er = 0
  · subst he
    by_cases hb : 0 < bs.length
    · rw [Buf.fill_some hr em hb] at h
      simp at h
    · obtain rfl : bs = [] := List.eq_nil_of_length_eq_zero (by omega)
      rw [Buf.fill_none hr em] at h ⊢
      refine ⟨rfl, ?_, rfl, by simpa using hT⟩
      simp only at h
      by_cases h1 : em + 1 = 100
      · exact h1
      · rw [if_neg h1] at h
        cases h
  · rw [Buf.fill_err hr em he] at h
    simp only at h
    omega
theorem Buf.fill_less {x : Buf} {em : Nat} (h0 : (x.fill em).1.1 ≠ 0) (h : (x.fill em).1.1 ≠ 22) : (x.fill em).1.2 = em ∧ (x.fill em).2 = x := by
  obtain ⟨bs, er, s', hr⟩ : ∃ bs er s', x.src.read (x.size - x.held.length) = ((bs, er), s') := ⟨_, _, _, rfl⟩
  by_cases he : er = 0
  · subst he
    by_cases hb : 0 < bs.length
    · rw [Buf.fill_some hr em hb] at h0
      simp at h0
    · obtain rfl : bs = [] := List.eq_nil_of_length_eq_zero (by omega)
      rw [Buf.fill_none hr em] at h h0
      simp only at h h0
      by_cases h1 : em + 1 = 100
      · rw [if_pos h1] at h
        exact absurd rfl h
      · rw [if_neg h1] at h0
        exact absurd rfl h0
  · rw [Buf.fill_err hr em he]
    exact ⟨rfl, rfl⟩

/-- How far such a loop is: F: what is still to come, E: what an error gives, P: what holds then. -/
def RSt {α : Type} (F : Buf → Nat → α) (E : Int → Buf → α) (P : Buf → Prop) (R : α) (y : Buf) (em : Nat) (e : Int) : Prop :=
  (e = 0 ∧ em < 100 ∧ F y em = R) ∨ (P y ∧ e = 0 ∧ em = 100 ∧ E 22 y = R) ∨ (P y ∧ e ≠ 0 ∧ em ≤ 100 ∧ E e y = R)
theorem RSt.next {α : Type} {F : Buf → Nat → α} {E : Int → Buf → α} {P : Buf → Prop} {R : α} {y : Buf} {em : Nat} (hy : y.ok) (hem : em < 100) (hF : F y em = R) (hP : (y.fill em).1.1 ≠ 0 → P (y.fill em).2)
    (hgo : (y.fill em).1.1 = 0 → F y em = F (y.fill em).2 (y.fill em).1.2) (herr : (y.fill em).1.1 ≠ 0 → F y em = E (y.fill em).1.1 (y.fill em).2) :
    RSt F E P R (y.fill em).2 (y.fill em).1.2 (if (y.fill em).1.1 = 22 then 0 else (y.fill em).1.1) ∧
    (y.fill em).2.meas (y.fill em).1.2 + (if (if (y.fill em).1.1 = 22 then 0 else (y.fill em).1.1) = (0 : Int) then 1 else 0) < y.meas em + 1 := by
  have hFF := Buf.fill_facts hy em hem
  by_cases h0 : (y.fill em).1.1 = 0
  · have h5 := hFF.2.2.2.2.1.resolve_left (by simpa using h0)
    rw [if_neg (by rw [h0]; decide)]
    refine ⟨.inl ⟨h0, h5.1, (hgo h0).symm.trans hF⟩, ?_⟩
    rw [if_pos h0]
    omega
  · by_cases h22 : (y.fill em).1.1 = 22
    · obtain ⟨a1, a2, a3, a4⟩ := Buf.fill_stuck h22
      rw [if_pos h22]
      refine ⟨.inr (.inl ⟨hP h0, rfl, by omega, ?_⟩), ?_⟩
      · have := herr h0
        rw [h22] at this
        exact this.symm.trans hF
      · simp only [Buf.meas, a1, a4, hFF.2.2.2.1]
        simp
        omega
    · obtain ⟨a1, a2⟩ := Buf.fill_less h0 h22
      rw [if_neg h22]
      refine ⟨.inr (.inr ⟨hP h0, h0, by omega, (herr h0).symm.trans hF⟩), ?_⟩
      rw [a1, a2, if_neg h0]
      omega

section
variable {H S : Nat → Prop} {w : World} {b g : Nat} {x : Buf}

set_option maxHeartbeats 8000000 in
set_option maxRecDepth 100000 in
theorem rbufPeek_any (n : Nat) (h : IsRBuf H S w b g x) (hn : n ≤ x.size) :
    Calls Try.prog 56 #[.pointer (some ⟨b, 0, none⟩), .int .i64 n] w (Gives (RBufGives H S b g (x.peek n) w)) := by
  obtain ⟨i0', hi, hz0, hz1, hz2⟩ := info_parts u8info
  have HH := Lib.hid h
  have h16 := h.ok.2.2.1
  obtain ⟨R, hR⟩ : ∃ R, x.pulled n 0 = R := ⟨_, rfl⟩
  have HR := Lib.hid hR
  obtain ⟨M, hM⟩ : ∃ M, rMeas g x = M := ⟨_, rfl⟩
  have HM := Lib.hid hM
  clear h hR hM
  go_enter Try.func56, Try.ntmps56
  go_wp2
  go_loopw [6, 7] (fun em e wr => ∃ (y : Buf) (k : Nat) (z : Int) (H' : Nat → Prop), em = .int .i64 k ∧ e = .int .i64 z ∧ Hid (RLoop H S w b g x wr y H') ∧ Hid (RSt (fun y em => y.pulled n em) (fun e y => (e, y)) (fun y => y.held.length < n) R y k z)) (fun em e wr => M em e wr)
  case atStart => exact ⟨x, 0, 0, H, rfl, rfl, RLoop.start HH.out, .inl ⟨rfl, by omega, HR.out⟩⟩
  case round =>
    obtain ⟨y, em, e, H', rfl, rfl, HL, HST⟩ := hrel
    obtain ⟨A1, c1, hb1, hw1⟩ := HL.out.buf.blk
    have y2 : wr.cell? ⟨b, 2, none⟩ = some (.slice A1 y.held.length c1) := hb1.cell 2
    have hhs := HL.out.buf.ok.2.2.2.1
    have lb := hb1.lt
    have hsz := HL.out.size
    have HSZ := Lib.hid hsz
    have h16y := HL.out.buf.ok.2.2.1
    have hle1 := hw1.le
    have HW1 := Lib.hid hw1
    have hm := HL.out.meas (em := em) e
    rw [HM.out] at hm
    have HME := Lib.hid hm
    clear hb1 hw1 hsz hm
    by_cases hlt : y.held.length < n
    · rcases HST.out with ⟨rfl, hem, hF⟩ | ⟨_, rfl, rfl, hE⟩ | ⟨_, he, hem, hE⟩
      · have hrst := RSt.next (P := fun y => y.held.length < n) (E := fun e y => (e, y)) (F := fun y em => y.pulled n em) HL.out.buf.ok hem hF (fun h => by simp only [Buf.fill_held em h]; exact hlt) (fun h => Buf.pulled_go HL.out.buf.ok hem (by omega) h) (fun h => Buf.pulled_err (by omega) h)
        have HN := Lib.hid hrst
        clear hrst hF
        have room : y.held.length < y.size := by rw [HSZ.out]; omega
        go_wp2_with fail
        refine (rbufFill_any em HL.out.buf room hem).mono ?_
        rintro e w2 ⟨v, rfl, hf⟩
        obtain ⟨H2, rfl, hl2, _, _⟩ := HL.out.next hem hf
        generalize (if (y.fill em).1.1 = 22 then (0 : Int) else (y.fill em).1.1) = e1 at HN ⊢
        generalize (y.fill em).1.2 = em1 at HN ⊢
        generalize (y.fill em).2 = z at HN hl2 ⊢
        have HL2 := Lib.hid hl2
        clear hf hl2
        go_wp2_with fail
        go_roundw
        case rel => exact ⟨z, em1, e1, H2, rfl, rfl, HL2.out, HN.out.1⟩
        case measure =>
          have h2 := HL2.out.meas (em := em1) e1
          rw [HM.out] at h2
          rw [HME.out, h2]
          exact HN.out.2
      · have HE := Lib.hid hE
        clear hE
        go_wp2_with fail
        refine (rbufFill_full HL.out.buf).mono ?_
        rintro e w2 ⟨rfl, rfl⟩
        go_wp2_with fail
        go_roundw
        case rel => exact ⟨y, 100, 22, H', by go_num, rfl, HL.out, .inr (.inr ⟨hlt, by decide, by omega, HE.out⟩)⟩
        case measure =>
          have h2 := HL.out.meas (em := 100) 22
          rw [HM.out] at h2
          have h3 := HME.out
          simp at h2 h3 ⊢
          omega
      · have qe : (e == 0) = false := by simpa using he
        have HE := Lib.hid hE
        clear hE
        have d1 : decide (n ≤ y.held.length) = false := by simp; omega
        go_wp2_with (at_builtin; refine wpList_append_copy wr rfl _ _ 26 rfl 5 i0' _ 1 1 Try.underlying26 hi hz0 hz1 hz2 rfl (by decide) rfl H' A1 y.held.length c1 (bv y.held) rfl HW1.out.row (bv_one _) (by simp only [maxLen]; omega) (by omega) ?_; intro A3 c3 w3 ho3 hb3 _ _; have O3 := Lib.hid ho3; have B3 := Lib.hid hb3; clear ho3 hb3)
        go_ret2
        refine ⟨_, rfl, ?_⟩
        rw [show x.peek n = ((y.held, e), y) by simp [Buf.peek, HR.out, ← HE.out, he]]
        exact RBufGives.new rfl O3.out HL.out.sub HL.out.buf HL.out.keep B3.out
    · have hP : (0, y) = R ∧ e = 0 := by
        rcases HST.out with ⟨h0, hem, hF⟩ | ⟨h, _⟩ | ⟨h, _⟩
        · have hF' : y.pulled n em = R := hF
          rw [Buf.pulled_done (by omega)] at hF'
          exact ⟨hF', h0⟩
        · exact absurd h hlt
        · exact absurd h hlt
      obtain ⟨hP, rfl⟩ := hP
      have HP2 := Lib.hid hP
      have i0 : (0 : Int) ≤ (n : Int) := by omega
      have i1 : (n : Int) ≤ (c1 : Int) := by omega
      have d1 : decide (n ≤ y.held.length) = true := by simp; omega
      have hup := HW1.out.row.upto (k := n) (by omega)
      rw [Nat.mul_one, ← bv_take] at hup
      have HU := Lib.hid hup
      clear hP hup
      go_wp2_with (at_builtin; refine wpList_append_copy wr rfl _ _ 26 rfl 5 i0' _ 1 1 Try.underlying26 hi hz0 hz1 hz2 rfl (by decide) rfl H' A1 n c1 (bv (y.held.take n)) rfl HU.out (bv_one _) (by simp only [maxLen]; omega) (by omega) ?_; intro A3 c3 w3 ho3 hb3 _ _; have O3 := Lib.hid ho3; have B3 := Lib.hid hb3; clear ho3 hb3)
      go_ret2
      refine ⟨_, rfl, ?_⟩
      rw [show x.peek n = ((y.held.take n, 0), y) by simp [Buf.peek, HR.out, ← HP2.out]]
      exact RBufGives.new (by simp; omega) O3.out HL.out.sub HL.out.buf HL.out.keep B3.out
end

end Go.Proofs.Ytadnceiohgjdhaa
