/-
  The reference's buffers: Rest.
-/
import Derived.Test.YtadnceiohgjdhaaRUntil
namespace Go.Proofs.Ytadnceiohgjdhaa
open Go.RowKit
set_option linter.unusedVariables false
set_option linter.unusedSimpArgs false

section
variable {H S : Nat → Prop} {w : World} {b g : Nat} {x : Buf}

set_option maxHeartbeats 8000000 in
set_option maxRecDepth 100000 in
theorem rbufRest_any (h : IsRBuf H S w b g x) :
    Calls Try.prog 59 #[.pointer (some ⟨b, 0, none⟩)] w (Gives (RBufGives H S b g (x.rest [] 0) w)) := by
  obtain ⟨i0', hi, hz0, hz1, hz2⟩ := info_parts u8info
  have HH := Lib.hid h
  obtain ⟨A, c0, hb, hw⟩ := h.blk
  have lb := hb.lt
  have lg := h.src.lt
  obtain ⟨R, hR⟩ : ∃ R, x.rest [] 0 = R := ⟨_, rfl⟩
  have HR := Lib.hid hR
  obtain ⟨M, hM⟩ : ∃ M, rMeas g x = M := ⟨_, rfl⟩
  have HM := Lib.hid hM
  clear h hb hw hR hM
  go_enter Try.func59, Try.ntmps59
  go_wp2
  go_loopw [4, 5] (fun v em wr => ∃ (y : Buf) (k : Nat) (H' : Nat → Prop) (acc : List UInt8), em = .int .i64 k ∧ Hid (RLoop H S w b g x wr y H') ∧ ((k < 100 ∧ Hid (y.rest acc k = R)) ∨ (k = 100 ∧ y.held.length = 0 ∧ Hid (((acc, 22), y) = R))) ∧ Hid (wr.ownsRow w.heap.size 5 1 v acc.length (bv acc)) ∧ acc.length ≤ y.taken ∧ Hid (∀ k, v.ownBlock = some k → ¬ H' k)) (fun _ em wr => M em (.int .i64 0) wr)
  case atStart => exact ⟨x, 0, H, [], rfl, RLoop.start HH.out, .inl ⟨by omega, HR.out⟩, World.ownsRow_nil _ _ _ _, Nat.zero_le _, by intro k e; simp [Value.ownBlock] at e⟩
  case round =>
    obtain ⟨y, em, H', acc, rfl, HL, hst, HO, hacc, HD⟩ := hrel
    obtain ⟨A1, c1, hb1, hw1⟩ := HL.out.buf.blk
    have y2 : wr.cell? ⟨b, 2, none⟩ = some (.slice A1 y.held.length c1) := hb1.cell 2
    have htold := Buf.held_told HL.out.buf.ok
    obtain ⟨Av, cv, rfl, _, _⟩ := own_slice HO.out
    have HST := Lib.hid hst
    clear hb1 hw1 hst
    go_wp2_with fail
    refine (rbufTake0_any y.held.length HL.out.buf (Nat.le_refl _)).mono ?_
    rintro e w2 ⟨v, rfl, A2, c2, rfl, ho2, hk2, H2, hsub2, hdis2, hb2⟩
    rw [List.take_length] at ho2
    have hlw := HL.out.keep.size
    have HO2 := Lib.hid ho2
    have hk2' : Keep (fun k => k = b ∨ k = g ∨ H' k) wr w2 := hk2.mono (fun _ _ e => .inl e)
    have HL2 := Lib.hid (HL.out.turn (z := y.emptied) hk2' (fun k h => .inr (hsub2 k h)) hb2 rfl rfl)
    have HV2 := Lib.hid (own_keep HO.out hk2 (fun k e1 e2 => by have := (HO.out.lt k e1).1; omega))
    have HDV := Lib.hid (show ∀ k, (Value.slice Av acc.length cv).ownBlock = some k → ¬ H2 k from fun k e h => by have := (HO.out.lt k e).2; have := hsub2 k h; omega)
    have hs2 := hk2.size
    clear ho2 hb2 hk2 hk2' y2
    go_wp2_with (at_builtin; refine wpList_append_row _ rfl _ _ 26 rfl w.heap.size 5 i0' (.int .u8 0) 1 1 Try.underlying26 hi hz0 hz1 hz2 rfl (by decide) _ acc.length (bv acc) rfl HV2.out (fun k => wr.heap.size ≤ k) A2 y.held.length c2 (bv y.held) rfl (Row.of_own HO2.out) (bv_one _) (by simp only [maxLen]; omega) (by omega) (by omega) ?_; intro v3 w3 ho3 hg3 hat3; obtain ⟨A3, c3, rfl, _, _⟩ := own_slice ho3; have HO3 := Lib.hid ho3; have HG3 := Lib.hid hg3; have HAT := Lib.hid hat3; clear ho3 hg3 hat3)
    have HKT := Lib.hid ((Keep.refl (fun k => (Value.slice Av acc.length cv).ownBlock = some k) w2).grown HG3.out (fun k e => .inl e))
    have hs3 := HKT.out.size
    have hHV : ∀ k, (Value.slice Av acc.length cv).ownBlock = some k → w.heap.size ≤ k := fun k e => (HV2.out.lt k e).1
    have HB3 := Lib.hid (HL2.out.buf.keep HKT.out (fun e => by have := hHV _ e; omega) (fun e => by have := hHV _ e; omega) (fun k h1 h2 => by have := hHV _ h2; have := HH.out.Sl k h1; omega) (fun k h1 h2 => HDV.out k h2 h1))
    have HL3 := Lib.hid (show RLoop H S w b g x w3 y.emptied H2 from ⟨HB3.out, HL2.out.size, HL2.out.L, HL2.out.sub, HL2.out.keep.trans_ HKT.out (fun i hi e => by have := hHV i e; omega)⟩)
    have hblk : ∀ k, (Value.slice A3 (acc.length + y.held.length) c3).ownBlock = some k → w.heap.size ≤ k ∧ k < w3.heap.size ∧ ¬ H2 k := by
      intro k e
      have hl := HO3.out.lt k e
      refine ⟨hl.1, hl.2, ?_⟩
      rcases HAT.out with h1 | h1
      · exact HDV.out k (h1 ▸ e)
      · rw [h1] at e
        injection e with e
        subst e
        intro h2
        have := (HL2.out.buf.held _ h2).1
        omega
    have HBK := Lib.hid hblk
    clear hblk hHV
    rcases HST.out with ⟨hem, HP⟩ | ⟨rfl, hy0, HE⟩
    · have hgo := Buf.rest_go (acc := acc) HL.out.buf.ok hem
      have her := Buf.rest_err (acc := acc) (x := y) (em := em)
      have hend := Buf.rest_end (acc := acc) (x := y) (em := em)
      have hheld := Buf.fill_held (x := y.emptied) em
      have hff := Buf.fill_facts (Buf.emptied_ok HL.out.buf.ok) em hem
      have hstk := Buf.fill_stuck (x := y.emptied) (em := em)
      have hmz : ∀ z : Buf, z.src.L = y.src.L → ∀ k, z.meas k = (total y.src.L - z.src.told) * 101 + (100 - k) := fun z hz k => by unfold Buf.meas; rw [hz]
      rw [HP.out] at hgo her hend
      have hrg : (y.emptied.fill em).1.1 = 0 ∨ (y.emptied.fill em).1.1 = 20 ∨ (y.emptied.fill em).1.1 = 21 ∨ (y.emptied.fill em).1.1 = 22 := by
        have h1 := Src.read_range (s := y.emptied.src) (y.emptied.size - y.emptied.held.length)
        unfold Buf.fill
        split
        · simp only; omega
        · split
          · exact .inl rfl
          · simp only
            split <;> simp
      refine (rbufFill_any em HL3.out.buf (by rw [Buf.emptied_held]; have := HL3.out.buf.ok.2.1; simp; omega) hem).mono ?_
      rintro e w4 ⟨v, rfl, hf⟩
      obtain ⟨H4, rfl, hl4, hsub4, hk4⟩ := HL3.out.next hem hf
      have HO4 := Lib.hid (own_keep HO3.out hk4 (fun k e h => by
        obtain ⟨h1, h2, h3⟩ := HBK.out k e
        rcases h with h | h | h
        · omega
        · omega
        · exact h3 h))
      have HD4 := Lib.hid (show ∀ k, (Value.slice A3 (acc.length + y.held.length) c3).ownBlock = some k → ¬ H4 k from fun k e h => by
        obtain ⟨h1, h2, h3⟩ := HBK.out k e
        rcases hsub4 k h with h | h
        · exact h3 h
        · omega)
      have HO5 := Lib.hid (show w4.ownsRow w.heap.size 5 1 (.slice A3 (acc.length + y.held.length) c3) (acc ++ y.held).length (bv (acc ++ y.held)) by have := HO4.out; rw [bv_append, List.length_append]; exact this)
      have hmy := HL.out.meas (em := em) 0
      have hm4 := fun k : Nat => hl4.meas (em := k) 0
      rw [HM.out] at hmy hm4
      generalize (y.emptied.fill em).1.1 = e1 at hrg hgo her hend hheld hff hstk ⊢
      generalize (y.emptied.fill em).1.2 = em1 at hgo hff hstk ⊢
      generalize (y.emptied.fill em).2 = z at hgo her hend hheld hff hstk hl4 hm4 ⊢
      have HGO := Lib.hid hgo
      have HER := Lib.hid her
      have HEND := Lib.hid hend
      have HHE := Lib.hid hheld
      have HFF := Lib.hid hff
      have HSK := Lib.hid hstk
      have HMY := Lib.hid hmy
      have HM4 := Lib.hid hm4
      have HMZ := Lib.hid hmz
      have HL4 := Lib.hid hl4
      have htk : (acc ++ y.held).length ≤ z.taken := by rw [HFF.out.2.2.1]; simp [Buf.emptied, Buf.drop]; omega
      clear hgo her hend hheld hff hstk hmy hm4 hmz hl4 hf hk4 hsub4
      rcases hrg with rfl | rfl | rfl | rfl
      · rw [if_neg (by decide)]
        go_wp2_with fail
        go_roundw
        case rel =>
          have h5 := HFF.out.2.2.2.2.1.resolve_left (by simp)
          exact ⟨z, em1, H4, acc ++ y.held, rfl, HL4.out, .inl ⟨h5.1, (HGO.out (by trivial)).symm⟩, HO5.out, htk, HD4.out⟩
        case measure =>
          have h5 := HFF.out.2.2.2.2.1.resolve_left (by simp)
          rw [HMY.out, HM4.out]
          have := h5.2
          rw [Buf.emptied_meas] at this
          omega
      · rw [if_neg (by decide)]
        go_wp2_with fail
        go_ret2
        refine ⟨_, rfl, ?_⟩
        rw [HR.out, HER.out (by decide) (by decide)]
        exact RBufGives.mk3 (by simp) (by rw [bv_append]; exact HO4.out) HL4.out.sub HD4.out HL4.out.buf HL4.out.keep
      · rw [if_neg (by decide)]
        go_wp2_with fail
        go_ret2
        refine ⟨_, rfl, ?_⟩
        rw [HR.out, HEND.out (by trivial)]
        exact RBufGives.mk3 (by simp) (by rw [bv_append]; exact HO4.out) HL4.out.sub HD4.out HL4.out.buf HL4.out.keep
      · rw [if_pos rfl]
        go_wp2_with fail
        go_roundw
        case rel =>
          obtain ⟨a1, a2, a3, a4⟩ := HSK.out (by trivial)
          exact ⟨z, em1, H4, acc ++ y.held, rfl, HL4.out, .inr ⟨by omega, by rw [a3, Buf.emptied_held]; rfl, (HER.out (by decide) (by decide)).symm⟩, HO5.out, htk, HD4.out⟩
        case measure =>
          obtain ⟨a1, a2, a3, a4⟩ := HSK.out (by trivial)
          rw [HMY.out, HM4.out, HMZ.out z HFF.out.2.2.2.1, HMZ.out y rfl, a4, a1]
          simp only [Buf.emptied, Buf.drop]
          omega
    · have HY0 := Lib.hid hy0
      clear hy0
      refine (rbufFill_full HL3.out.buf).mono ?_
      rintro e w4 ⟨rfl, rfl⟩
      go_wp2_with fail
      go_ret2
      refine ⟨_, rfl, ?_⟩
      rw [HR.out, ← HE.out]
      have hy0 := HY0.out
      have hy : y.emptied = y := by unfold Buf.emptied; rw [hy0]; rfl
      have hb5 := HL3.out.buf
      rw [hy] at hb5
      refine RBufGives.mk3 (by omega) ?_ HL3.out.sub (fun k e => (HBK.out k e).2.2) hb5 HL3.out.keep
      have h1 := HO3.out
      have h2 : y.held = [] := List.eq_nil_of_length_eq_zero hy0
      rw [h2] at h1 ⊢
      simpa [bv] using h1
end

end Go.Proofs.Ytadnceiohgjdhaa
