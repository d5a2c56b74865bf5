/-
  The contract of a buffer's Peek.
-/
import Derived.Test.YtadnceiohgjdhaaPull
namespace Go.Proofs.Ytadnceiohgjdhaa
open Go.RowKit
set_option linter.unusedVariables false
set_option linter.unusedSimpArgs false

def Buf.peek (x : Buf) (n : Nat) : (List UInt8 × Int) × Buf :=
  ((if (x.pulled n 0).1 = 0 then (x.pulled n 0).2.held.take n else (x.pulled n 0).2.held, (x.pulled n 0).1), (x.pulled n 0).2)
/-- What a call on a buffer gives: bytes, an error, the buffer behind it. -/
def BufGives (H S : Nat → Prop) (b g : Nat) (r : (List UInt8 × Int) × Buf) (w : World) (v : Value) (w' : World) : Prop :=
  ∃ A c, v = .tuple #[.slice A r.1.1.length c, .int .i64 r.1.2] ∧ w'.ownsRow w.heap.size 5 1 (.slice A r.1.1.length c) r.1.1.length (bv r.1.1) ∧
  (∃ H', (∀ k, H' k → H k ∨ w.heap.size ≤ k) ∧ (∀ k, (Value.slice A r.1.1.length c).ownBlock = some k → ¬ H' k) ∧ IsBuf H' S w' b g r.2) ∧ Keep (fun k => k = b ∨ k = g ∨ H k) w w'
theorem BufGives.mk {H H2 S : Nat → Prop} {b g : Nat} {y : Buf} {l : List UInt8} {e : Int} {w w2 w3 : World} {v : Value} (hb : IsBuf H2 S w2 b g y) (hsub : ∀ k, H2 k → H k ∨ w.heap.size ≤ k) (hk : Keep (fun k => k = b ∨ k = g ∨ H k) w w2)
    (hbw : Below w2.heap.size w2 w3) (ho : w3.ownsRow w2.heap.size 5 1 v l.length (bv l)) : BufGives H S b g ((l, e), y) w (.tuple #[v, .int .i64 e]) w3 := by
  obtain ⟨A, c, rfl, _, _⟩ := own_slice ho
  refine ⟨A, c, rfl, own_less ho hk.size, ⟨H2, hsub, fun k h1 h2 => ?_, hb.behind hbw⟩, hk.then_below hbw⟩
  have := (ho.lt k h1).1
  have := (hb.held k h2).1
  omega
theorem IsSrc.told {S : Nat → Prop} {w : World} {g : Nat} {s : Src} (h : IsSrc S w g s) : w.cell? ⟨g, 3, none⟩ = some (.int .i64 s.told) := by
  obtain ⟨A, c, h1, _⟩ := h
  exact h1.cell 3

section
variable {H S : Nat → Prop} {w : World} {b g : Nat} {x : Buf}

set_option maxHeartbeats 8000000 in
set_option maxRecDepth 100000 in
theorem bufPeek_any (n : Nat) (h : IsBuf H S w b g x) (hn : n ≤ x.size) :
    Calls Try.prog 39 #[.pointer (some ⟨b, 0, none⟩), .int .i64 n] w (Gives (BufGives H S b g (x.peek n) w)) := by
  have HH := Lib.hid h
  obtain ⟨A, c, hb, hw⟩ := h.blk
  have h16 := h.ok.2.2.1
  have x1 : w.cell? ⟨b, 1, none⟩ = some (.int .i64 x.size) := hb.cell 1
  have lb := hb.lt
  have lg := h.src.lt
  obtain ⟨R, hR⟩ : ∃ R, x.pulled n 0 = R := ⟨_, rfl⟩
  have HR := Lib.hid hR
  have d1 : decide (x.size < n) = false := by simp; omega
  have d2 : decide ((n : Int) < 0) = false := by simp
  clear h hb hw hR
  go_enter Try.func39, Try.ntmps39
  go_wp2_with (go_at_call 53; refine (bufIs_any HH.out).mono ?_; rintro e w1 ⟨rfl, rfl⟩)
  go_loopw [] (fun wr => ∃ (y : Buf) (em : Nat) (H' : Nat → Prop), Hid (IsBuf H' S wr b g y) ∧ Hid (Blk wr w.heap.size 3 #[.int .i64 em]) ∧ em < 100 ∧ Hid (y.pulled n em = R) ∧ y.size = x.size ∧ Hid (y.src.L = x.src.L) ∧ Hid (∀ k, H' k → H k ∨ w.heap.size < k) ∧ Hid (Keep (fun k => k = b ∨ k = g ∨ H k) w wr))
    (fun wr => (total x.src.L - cellNum wr ⟨g, 3, none⟩) * 101 + (100 - cellNum wr ⟨w.heap.size, 0, none⟩))
  case atStart => exact ⟨x, 0, H, HH.out.behind ((Below.refl _ w).alloc (Nat.le_refl _) _), Blk.new w _ _, by omega, HR.out, rfl, rfl, fun k hk => .inl hk, (Keep.refl _ w).alloc _⟩
  case round =>
    obtain ⟨y, em, H', HB, HE, hem, HP, hsz, HL, HS', HK⟩ := hrel
    obtain ⟨A1, c1, hb1, hw1⟩ := HB.out.blk
    have y2 : wr.cell? ⟨b, 2, none⟩ = some (.slice A1 y.held.length c1) := hb1.cell 2
    have hle1 := hw1.le
    have hmx1 := hw1.max
    have hhs := HB.out.ok.2.2.2.1
    have HW1 := Lib.hid hw1
    clear hb1 hw1
    by_cases hlt : y.held.length < n
    · have hne : ¬ n ≤ y.held.length := by omega
      have hFF := Buf.fill_facts HB.out.ok em hem
      have hsw := HE.out.lt
      go_wp2_with fail
      refine (bufFill_any w.heap.size em HB.out (by omega) HE.out (by omega) ⟨by omega, by omega, fun h => by rcases HS'.out _ h with h | h; (have := (HH.out.held _ h).1; omega); omega, fun h => by have := HH.out.Sl _ h; omega⟩).mono ?_
      rintro e w2 ⟨v, rfl, rfl, he2, hk2, H2, hsub, hb2⟩
      have hgo := Buf.pulled_go (need := n) HB.out.ok hem hne
      have her := Buf.pulled_err (need := n) (em := em) hne
      rw [HP.out] at hgo her
      have hmeas : (total x.src.L - cellNum wr ⟨g, 3, none⟩) * 101 + (100 - cellNum wr ⟨w.heap.size, 0, none⟩) = y.meas em := by
        rw [cellNum_of HB.out.src.told, cellNum_of (HE.out.cell 0), ← HL.out]
        rfl
      obtain ⟨e1, he1⟩ : ∃ e1, (y.fill em).1.1 = e1 := ⟨_, rfl⟩
      obtain ⟨em1, hem1⟩ : ∃ em1, (y.fill em).1.2 = em1 := ⟨_, rfl⟩
      obtain ⟨y1, hy1⟩ : ∃ y1, (y.fill em).2 = y1 := ⟨_, rfl⟩
      rw [he1, hem1, hy1] at hFF hgo
      rw [he1, hy1] at her
      rw [he1]
      rw [hem1] at he2
      rw [hy1] at hb2
      have HB2 := Lib.hid hb2
      have HE2 := Lib.hid he2
      have HSub := Lib.hid (show ∀ k, H2 k → H k ∨ w.heap.size < k from fun k hk => by
        rcases hsub k hk with h | h
        · exact HS'.out k h
        · omega)
      have HK2 := Lib.hid (HK.out.trans_ hk2 (fun i hi h => by
        rcases h with h | h | h | h
        · exact .inl h
        · exact .inr (.inl h)
        · rcases HS'.out i h with h | h
          · exact .inr (.inr h)
          · omega
        · omega))
      have hl2 := hk2.size
      obtain ⟨hok1, hs1, _, hL1, hor, _⟩ := hFF
      have HL1 := Lib.hid hL1
      have HGO := Lib.hid hgo
      have HER := Lib.hid her
      have HM := Lib.hid hmeas
      have HOR := Lib.hid hor
      clear hb2 he2 hsub hk2 HB HE HP HS' HK y2 HW1 hgo her hmeas hL1 hor he1 hem1 hy1 hok1
      by_cases he0 : e1 = 0
      · subst he0
        go_wp2_with fail
        go_roundw
        case rel =>
          have hh := HOR.out.resolve_left (by simp)
          exact ⟨y1, em1, H2, HB2.out, HE2.out, hh.1, (HGO.out (by trivial)).symm, hs1.trans hsz, HL1.out.trans HL.out, HSub.out, HK2.out⟩
        case measure =>
          have hh := HOR.out.resolve_left (by simp)
          rw [HM.out, cellNum_of HB2.out.src.told, cellNum_of (HE2.out.cell 0), ← HL.out, ← HL1.out]
          exact hh.2
      · have qe : (e1 == 0) = false := by simpa using he0
        obtain ⟨A2, c2, hb3, hw3⟩ := HB2.out.blk
        have y2 : w2.cell? ⟨b, 2, none⟩ = some (.slice A2 y1.held.length c2) := hb3.cell 2
        have HW3 := Lib.hid hw3
        have hh1 := HB2.out.ok.2.2.2.1
        clear hb3 hw3
        go_wp2_with fail
        refine (clone_any H2 A2 y1.held.length c2 y1.held w2 HW3.out.row (by omega)).mono ?_
        rintro e w3 ⟨v, rfl, ho, hb3⟩
        have O3 := Lib.hid ho
        have B3 := Lib.hid hb3
        clear ho hb3
        go_wp2_with fail
        go_ret2
        refine ⟨_, rfl, ?_⟩
        rw [show x.peek n = ((y1.held, e1), y1) by simp [Buf.peek, HR.out, HER.out he0, he0]]
        exact BufGives.mk HB2.out (fun k hk => (HSub.out k hk).imp id Nat.le_of_lt) HK2.out B3.out O3.out
    · have hP := HP.out
      rw [Buf.pulled_done (by omega)] at hP
      have HP2 := Lib.hid hP
      have i0 : (0 : Int) ≤ (n : Int) := by omega
      have i1 : (n : Int) ≤ (c1 : Int) := by omega
      clear hP
      go_wp2_with fail
      refine (clone_any H' A1 n c1 (y.held.take n) wr (by have := HW1.out.row.upto (k := n) (by omega); rw [Nat.mul_one, ← bv_take] at this; exact this) (by omega)).mono ?_
      rintro e w3 ⟨v, rfl, ho, hb3⟩
      have O3 := Lib.hid ho
      have B3 := Lib.hid hb3
      clear ho hb3
      go_wp2_with fail
      go_ret2
      refine ⟨_, rfl, ?_⟩
      rw [show x.peek n = ((y.held.take n, 0), y) by simp [Buf.peek, HR.out, ← HP2.out]]
      refine BufGives.mk HB.out (fun k hk => (HS'.out k hk).imp id Nat.le_of_lt) HK.out B3.out ?_
      have e : (y.held.take n).length = n := by simp; omega
      rw [e]
      exact O3.out
end

end Go.Proofs.Ytadnceiohgjdhaa
