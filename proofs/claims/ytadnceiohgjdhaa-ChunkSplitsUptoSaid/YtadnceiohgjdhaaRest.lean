/-
  The contracts of a buffer's Rest and of NewBuffer.
-/
import Derived.Test.YtadnceiohgjdhaaUntil
namespace Go.Proofs.Ytadnceiohgjdhaa
open Go.RowKit
set_option linter.unusedVariables false
set_option linter.unusedSimpArgs false

theorem Buf.emptied_ok {x : Buf} (h : x.ok) : x.emptied.ok := Buf.drop_ok h (Nat.le_refl _)
theorem Buf.emptied_meas (x : Buf) (em : Nat) : x.emptied.meas em = x.meas em := rfl
theorem Buf.emptied_held (x : Buf) : x.emptied.held = [] := List.drop_length
theorem Buf.rest_end {acc : List UInt8} {x : Buf} {em : Nat} (he : (x.emptied.fill em).1.1 = 21) : Buf.rest acc x em = ((acc ++ x.held, 0), (x.emptied.fill em).2) := by
  rw [Buf.rest, if_pos he]
theorem Buf.rest_err {acc : List UInt8} {x : Buf} {em : Nat} (h1 : (x.emptied.fill em).1.1 ≠ 21) (he : (x.emptied.fill em).1.1 ≠ 0) : Buf.rest acc x em = ((acc ++ x.held, (x.emptied.fill em).1.1), (x.emptied.fill em).2) := by
  rw [Buf.rest, if_neg h1, if_pos he]
theorem Buf.rest_go {acc : List UInt8} {x : Buf} {em : Nat} (hx : x.ok) (hem : em < 100) (he : (x.emptied.fill em).1.1 = 0) : Buf.rest acc x em = Buf.rest (acc ++ x.held) (x.emptied.fill em).2 (x.emptied.fill em).1.2 := by
  rw [Buf.rest, if_neg (by rw [he]; decide), if_neg (by simpa using he), dif_pos]
  have := ((Buf.fill_facts (Buf.emptied_ok hx) em hem).2.2.2.2.1.resolve_left (by simpa using he)).2
  exact this
theorem BufGives.mk3 {H H2 S : Nat → Prop} {b g n c : Nat} {A : Option Addr} {y : Buf} {l : List UInt8} {e : Int} {w w3 : World} (hl : l.length = n) (ho : w3.ownsRow w.heap.size 5 1 (.slice A n c) n (bv l)) (hsub : ∀ k, H2 k → H k ∨ w.heap.size ≤ k)
    (hdis : ∀ k, (Value.slice A n c).ownBlock = some k → ¬ H2 k) (hb : IsBuf H2 S w3 b g y) (hk : Keep (fun k => k = b ∨ k = g ∨ H k) w w3) : BufGives H S b g ((l, e), y) w (.tuple #[.slice A n c, .int .i64 e]) w3 := by
  subst hl
  exact ⟨A, c, rfl, ho, ⟨H2, hsub, hdis, hb⟩, hk⟩
theorem Buf.held_told {x : Buf} (h : x.ok) : x.taken + x.held.length ≤ 1073741824 := by
  have := Src.told_le h.1
  have := h.2.2.2.2
  omega

section
variable {H S : Nat → Prop} {w : World} {b g : Nat} {x : Buf}

set_option maxHeartbeats 8000000 in
set_option maxRecDepth 100000 in
theorem bufRest_any (h : IsBuf H S w b g x) :
    Calls Try.prog 41 #[.pointer (some ⟨b, 0, none⟩)] w (Gives (BufGives H S b g (x.rest [] 0) w)) := by
  obtain ⟨i0', hi, hz0, hz1, hz2⟩ := info_parts u8info
  have HH := Lib.hid h
  obtain ⟨A, c0, hb, hw⟩ := h.blk
  have h16 := h.ok.2.2.1
  have lb := hb.lt
  have lg := h.src.lt
  obtain ⟨R, hR⟩ : ∃ R, x.rest [] 0 = R := ⟨_, rfl⟩
  have HR := Lib.hid hR
  obtain ⟨M, hM⟩ : ∃ M, bufMeas w g x = M := ⟨_, rfl⟩
  have HM := Lib.hid hM
  clear h hb hw hR hM
  go_enter Try.func41, Try.ntmps41
  go_wp2_with (go_at_call 53; refine (bufIs_any HH.out).mono ?_; rintro e w1 ⟨rfl, rfl⟩)
  go_loopw [4] (fun v wr => ∃ (y : Buf) (em : Nat) (H' : Nat → Prop) (acc : List UInt8), Hid (BufLoop H S w b g x wr y em H') ∧ Hid (y.rest acc em = R) ∧ Hid (wr.ownsRow w.heap.size 5 1 v acc.length (bv acc)) ∧ acc.length ≤ y.taken ∧ Hid (∀ k, v.ownBlock = some k → ¬ H' k) ∧ Hid (∀ k, v.ownBlock = some k → w.heap.size < k)) (fun _ wr => M wr)
  case atStart => exact ⟨x, 0, H, [], BufLoop.start HH.out, HR.out, World.ownsRow_nil _ _ _ _, Nat.zero_le _, by intro k e; simp [Value.ownBlock] at e, by intro k e; simp [Value.ownBlock] at e⟩
  case round =>
    obtain ⟨y, em, H', acc, HL, HP, HO, hacc, HD, HG⟩ := hrel
    obtain ⟨A1, c1, hb1, hw1⟩ := HL.out.buf.blk
    have y2 : wr.cell? ⟨b, 2, none⟩ = some (.slice A1 y.held.length c1) := hb1.cell 2
    have hsw := HL.out.emp.lt
    have htold := Buf.held_told HL.out.buf.ok
    obtain ⟨Av, cv, rfl, _, _⟩ := own_slice HO.out
    clear hb1 hw1
    go_wp2_with fail
    refine (bufTake0_any y.held.length HL.out.buf (Nat.le_refl _)).mono ?_
    rintro e w2 ⟨v, rfl, h2⟩
    obtain ⟨A2, c2, rfl, _, _, ho2, hb2, hk2⟩ := h2.at_
    rw [List.take_length] at ho2
    have HO2 := Lib.hid ho2
    have HB2 := Lib.hid (show IsBuf H' S w2 b g y.emptied from hb2)
    have HK2 := Lib.hid hk2
    have HV2 := Lib.hid (own_keep HO.out hk2 (fun k e1 e2 => by have := HG.out k e1; omega))
    have hs2 := hk2.size
    clear h2 ho2 hb2 hk2 y2
    go_wp2_with (at_builtin; refine wpList_append_row _ rfl _ _ 26 rfl w.heap.size 5 i0' (.int .u8 0) 1 1 Try.underlying26 hi hz0 hz1 hz2 rfl (by decide) _ acc.length (bv acc) rfl HV2.out (fun k => wr.heap.size ≤ k) A2 y.held.length c2 (bv y.held) rfl (Row.of_own HO2.out) (bv_one _) (by simp only [maxLen]; omega) (by omega) (by omega) ?_; intro v3 w3 ho3 hg3 hat3; obtain ⟨A3, c3, rfl, _, _⟩ := own_slice ho3; have HO3 := Lib.hid ho3; have HG3 := Lib.hid hg3; have HAT := Lib.hid hat3; clear ho3 hg3 hat3)
    have hap := HL.out.apart HH.out
    have HKT := Lib.hid ((Keep.refl (fun k => (Value.slice Av acc.length cv).ownBlock = some k) w2).grown HG3.out (fun k e => .inl e))
    have hs3 := HKT.out.size
    have HB3 := Lib.hid (HB2.out.keep HKT.out (fun e => by have := HG.out _ e; omega) (fun e => by have := HG.out _ e; omega) (fun k h1 h2 => by have := HG.out _ h2; have := HH.out.Sl k h1; omega) (fun k h1 h2 => HD.out k h2 h1))
    have HL3 := Lib.hid (HL.out.turn (T := fun k => k = b ∨ (Value.slice Av acc.length cv).ownBlock = some k) ((HK2.out.mono (fun _ _ e => .inl e)).trans (HKT.out.mono (fun _ _ e => .inr e))) (fun k e => e.elim .inl (fun e => .inr (HG.out k e))) hap.1 HB3.out rfl rfl)
    refine (bufFill_any w.heap.size em HL3.out.buf (by rw [Buf.emptied_held]; have := HL3.out.buf.ok.2.1; simp; omega) HL3.out.emp (by have := HL.out.lt; omega) (HL3.out.apart HH.out)).mono ?_
    rintro e w4 ⟨v, rfl, hf⟩
    have hk4 := hf.2.2.1
    obtain ⟨H2, rfl, hb4, hsub4, hk5, _, hs4, hnext, hsub5⟩ := HL3.out.next HH.out hf
    have hblk : ∀ k, (Value.slice A3 (acc.length + y.held.length) c3).ownBlock = some k → w.heap.size < k ∧ k < w3.heap.size ∧ ¬ H' k := by
      intro k e
      have hl := HO3.out.lt k e
      refine ⟨?_, hl.2, ?_⟩
      · rcases HAT.out with h1 | h1
        · exact HG.out k (h1 ▸ e)
        · rw [h1] at e
          injection e with e
          omega
      · rcases HAT.out with h1 | h1
        · exact HD.out k (h1 ▸ e)
        · rw [h1] at e
          injection e with e
          subst e
          intro h2
          have := (HB2.out.held _ h2).1
          omega
    have HO4 := Lib.hid (own_keep HO3.out hk4 (fun k e h => by
      obtain ⟨h1, h2, h3⟩ := hblk k e
      rcases h with h | h | h | h
      · omega
      · omega
      · exact h3 h
      · omega))
    have HD4 := Lib.hid (show ∀ k, (Value.slice A3 (acc.length + y.held.length) c3).ownBlock = some k → ¬ H2 k from fun k e h => by
      obtain ⟨h1, h2, h3⟩ := hblk k e
      rcases hsub5 k h with h | h
      · exact h3 h
      · omega)
    have HG4 := Lib.hid (show ∀ k, (Value.slice A3 (acc.length + y.held.length) c3).ownBlock = some k → w.heap.size < k from fun k e => (hblk k e).1)
    have hgo := Buf.rest_go (acc := acc) HL.out.buf.ok HL.out.lt
    have her := Buf.rest_err (acc := acc) (x := y) (em := em)
    have hend := Buf.rest_end (acc := acc) (x := y) (em := em)
    have hheld := Buf.fill_held (x := y.emptied) em
    have hff := (Buf.fill_facts (Buf.emptied_ok HL.out.buf.ok) em HL.out.lt).2.2.1
    rw [HP.out] at hgo her hend
    have hm := HL.out.meas
    obtain ⟨e1, he1⟩ : ∃ e1, (y.emptied.fill em).1.1 = e1 := ⟨_, rfl⟩
    obtain ⟨em1, hem1⟩ : ∃ em1, (y.emptied.fill em).1.2 = em1 := ⟨_, rfl⟩
    obtain ⟨z, hz⟩ : ∃ z, (y.emptied.fill em).2 = z := ⟨_, rfl⟩
    rw [he1, hem1, hz] at hnext hgo
    rw [he1, hz] at her hend hheld
    rw [hz] at hb4 hff
    rw [he1]
    have HB4 := Lib.hid hb4
    have HS4 := Lib.hid hsub4
    have HK4 := Lib.hid hk5
    have HNX := Lib.hid hnext
    have HGO := Lib.hid hgo
    have HER := Lib.hid her
    have HEND := Lib.hid hend
    have HHE := Lib.hid hheld
    have HME := Lib.hid hm
    have HFF := Lib.hid hff
    clear hb4 hsub4 hk4 hk5 hnext hgo her hend hheld hm hf he1 hem1 hz hsub5 hblk hff hap
    have HO5 := Lib.hid (show w4.ownsRow w.heap.size 5 1 (.slice A3 (acc.length + y.held.length) c3) (acc ++ y.held).length (bv (acc ++ y.held)) by have := HO4.out; rw [bv_append, List.length_append]; exact this)
    by_cases he0 : e1 = 0
    · subst he0
      have hnx := HNX.out rfl
      have HL4 := Lib.hid hnx.1
      have HM4 := Lib.hid hnx.2
      clear hnx
      go_wp2_with fail
      go_roundw
      case rel => exact ⟨z, em1, H2, acc ++ y.held, HL4.out, (HGO.out (by trivial)).symm, HO5.out, (by have := HFF.out; rw [this]; simp [Buf.emptied, Buf.drop]; omega), HD4.out, HG4.out⟩
      case measure => rw [← HM.out, HL4.out.meas, HME.out, ← Buf.emptied_meas]; exact HM4.out
    · have qe : (e1 == 0) = false := by simpa using he0
      by_cases he21 : e1 = 21
      · subst he21
        have HF := Lib.hid (HEND.out rfl)
        go_wp2_with fail
        go_ret2
        refine ⟨_, rfl, ?_⟩
        rw [HR.out, HF.out]
        exact BufGives.mk3 (by simp) (by rw [bv_append]; exact HO4.out) (fun k hk => (HS4.out k hk).imp id Nat.le_of_lt) HD4.out HB4.out HK4.out
      · have q21 : (e1 == 21) = false := by simpa using he21
        have HF := Lib.hid (HER.out he21 he0)
        have hz0 : z.held = [] := (HHE.out he0).trans (Buf.emptied_held y)
        have HZ := Lib.hid hz0
        have hzl : z.held.length = 0 := by rw [hz0]; rfl
        have HZL := Lib.hid hzl
        obtain ⟨A4, c4, hb5, hw5⟩ := HB4.out.blk
        rw [hzl] at hb5
        have y2 : w4.cell? ⟨b, 2, none⟩ = some (.slice A4 0 c4) := hb5.cell 2
        clear hb5 hw5 hz0 hzl
        go_wp2_with fail
        refine (bufTake0_any 0 HB4.out (Nat.zero_le _)).mono ?_
        rintro e w5 ⟨v, rfl, h5⟩
        obtain ⟨A5, c5, rfl, _, _, ho5, hb5, hk5⟩ := h5.at_
        have HR5 := Lib.hid (Row.of_own ho5)
        have HB5 := Lib.hid (show IsBuf H2 S w5 b g z from hb5)
        have HK5 := Lib.hid (HK4.out.trans_ hk5 (fun i _ e => .inl e))
        have HV5 := Lib.hid (own_keep HO5.out hk5 (fun k e1 e2 => by have := HG4.out k e1; omega))
        have hs5 := hk5.size
        clear h5 ho5 hb5 hk5 y2
        go_wp2_with (at_builtin; refine wpList_append_row _ rfl _ _ 26 rfl w.heap.size 5 i0' (.int .u8 0) 1 1 Try.underlying26 hi hz0 hz1 hz2 rfl (by decide) _ (acc ++ y.held).length (bv (acc ++ y.held)) rfl HV5.out (fun k => w4.heap.size ≤ k) A5 0 c5 [] rfl HR5.out (by simp) (by simp only [maxLen, List.length_append]; omega) (by simp only [List.length_append]; omega) (by omega) ?_; intro v6 w6 ho6 hg6 hat6; obtain ⟨A6, c6, rfl, _, _⟩ := own_slice ho6; have HO6 := Lib.hid ho6; have HG6 := Lib.hid hg6; have HAT6 := Lib.hid hat6; clear ho6 hg6 hat6)
        go_ret2
        refine ⟨_, rfl, ?_⟩
        rw [HR.out, HF.out]
        have HKT6 := (Keep.refl (fun k => (Value.slice A3 (acc.length + y.held.length) c3).ownBlock = some k) w5).grown HG6.out (fun k e => .inl e)
        refine BufGives.mk3 (n := acc.length + y.held.length) (by simp) (by have := HO6.out; rw [List.append_nil, Nat.add_zero, List.length_append] at this; exact this) (fun k hk => (HS4.out k hk).imp id Nat.le_of_lt) (fun k e h => ?_) ?_ ?_
        · have hat6 := HAT6.out
          rw [Nat.add_zero, List.length_append] at hat6
          rcases hat6 with h1 | h1
          · exact HD4.out k (h1 ▸ e) h
          · have := (HB5.out.held k h).1
            rw [h1] at e
            injection e with e
            omega
        · exact HB5.out.keep HKT6 (fun e => by have := HG4.out _ e; omega) (fun e => by have := HG4.out _ e; omega) (fun k h1 h2 => by have := HG4.out _ h2; have := HH.out.Sl k h1; omega) (fun k h1 h2 => HD4.out k h2 h1)
        · exact HK5.out.trans_ HKT6 (fun i hi e => by have := HG4.out i e; omega)
end

end Go.Proofs.Ytadnceiohgjdhaa
