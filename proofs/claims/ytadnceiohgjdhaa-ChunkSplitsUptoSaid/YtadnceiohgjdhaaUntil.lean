/-
  The contracts of a buffer's Until.
-/
import Derived.Test.YtadnceiohgjdhaaTake
import Derived.Deep.QuietTactic
import Derived.BigQuiet
namespace Go.Proofs.Ytadnceiohgjdhaa
open Go.RowKit
set_option linter.unusedVariables false
set_option linter.unusedSimpArgs false

theorem Buf.untl_found {c : UInt8} {x : Buf} {em : Nat} (h : c ∈ x.held) : x.untl c em = ((x.held.take (x.held.idxOf c + 1), 0), x.drop (x.held.idxOf c + 1)) := by
  rw [Buf.untl, if_pos h]
theorem Buf.untl_full {c : UInt8} {x : Buf} {em : Nat} (h : ¬ c ∈ x.held) (hl : x.held.length = x.size) : x.untl c em = (([], 23), x) := by
  rw [Buf.untl, if_neg h, if_pos hl]
theorem Buf.untl_err {c : UInt8} {x : Buf} {em : Nat} (h : ¬ c ∈ x.held) (hl : ¬ x.held.length = x.size) (he : (x.fill em).1.1 ≠ 0) : x.untl c em = (((x.fill em).2.held, (x.fill em).1.1), (x.fill em).2.drop (x.fill em).2.held.length) := by
  rw [Buf.untl, if_neg h, if_neg hl, if_pos he]
theorem Buf.untl_go {c : UInt8} {x : Buf} {em : Nat} (hx : x.ok) (hem : em < 100) (h : ¬ c ∈ x.held) (hl : ¬ x.held.length = x.size) (he : (x.fill em).1.1 = 0) : x.untl c em = (x.fill em).2.untl c (x.fill em).1.2 := by
  rw [Buf.untl, if_neg h, if_neg hl, if_neg (by simpa using he), dif_pos]
  exact ((Buf.fill_facts hx em hem).2.2.2.2.1.resolve_left (by simpa using he)).2

/-- A loop that fills: what holds at its head. -/
structure BufLoop (H S : Nat → Prop) (w : World) (b g : Nat) (x : Buf) (wr : World) (y : Buf) (em : Nat) (H' : Nat → Prop) : Prop where
  buf : IsBuf H' S wr b g y
  emp : Blk wr w.heap.size 3 #[.int .i64 em]
  lt : em < 100
  size : y.size = x.size
  L : y.src.L = x.src.L
  sub : ∀ k, H' k → H k ∨ w.heap.size < k
  keep : Keep (fun k => k = b ∨ k = g ∨ H k) w wr
/-- The measure of such a loop. -/
def bufMeas (w : World) (g : Nat) (x : Buf) (wr : World) : Nat := (total x.src.L - cellNum wr ⟨g, 3, none⟩) * 101 + (100 - cellNum wr ⟨w.heap.size, 0, none⟩)
section
variable {H S H' : Nat → Prop} {w wr : World} {b g em : Nat} {x y : Buf}
theorem BufLoop.start (h : IsBuf H S w b g x) : BufLoop H S w b g x (w.alloc (.cells #[.int .i64 0] 3)) x 0 H :=
  ⟨h.behind ((Below.refl _ w).alloc (Nat.le_refl _) _), Blk.new w _ _, by omega, rfl, rfl, fun k hk => .inl hk, (Keep.refl _ w).alloc _⟩
theorem BufLoop.meas (h : BufLoop H S w b g x wr y em H') : bufMeas w g x wr = y.meas em := by
  unfold bufMeas
  rw [cellNum_of h.buf.src.told, cellNum_of (h.emp.cell 0), ← h.L]
  rfl
theorem BufLoop.apart (h : BufLoop H S w b g x wr y em H') (h0 : IsBuf H S w b g x) : w.heap.size ≠ b ∧ w.heap.size ≠ g ∧ ¬ H' w.heap.size ∧ ¬ S w.heap.size := by
  obtain ⟨_, _, hb, _⟩ := h0.blk
  have lb := hb.lt
  have lg := h0.src.lt
  refine ⟨by omega, by omega, fun h1 => ?_, fun h1 => by have := h0.Sl _ h1; omega⟩
  rcases h.sub _ h1 with h2 | h2
  · have := (h0.held _ h2).1; omega
  · omega
theorem BufLoop.drewN (h : BufLoop H S w b g x wr y em H') (q : Nat) : BufLoop H S w b g x (wr.drewN q) y em H' := by
  obtain ⟨A, c, h1, h2⟩ := h.buf.blk
  exact ⟨⟨⟨A, c, h1, h2.drewN q⟩, h.buf.src, h.buf.ne, h.buf.nS, h.buf.Sl, h.buf.held, h.buf.ok⟩, h.emp, h.lt, h.size, h.L, h.sub, h.keep.drewN q⟩
theorem BufLoop.turn {T : Nat → Prop} {w3 : World} {z : Buf} (h : BufLoop H S w b g x wr y em H') (hk : Keep T wr w3) (hT : ∀ k, T k → k = b ∨ w.heap.size < k) (hwb : w.heap.size ≠ b) (hz : IsBuf H' S w3 b g z) (h1 : z.size = y.size) (h2 : z.src.L = y.src.L) : BufLoop H S w b g x w3 z em H' :=
  ⟨hz, h.emp.keep hk (fun e => by rcases hT _ e with e | e; exact hwb e; omega), h.lt, h1.trans h.size, h2.trans h.L, h.sub, h.keep.trans_ hk (fun i hi e => by
    rcases hT i e with e | e
    · exact .inl e
    · omega)⟩
theorem BufLoop.next (h : BufLoop H S w b g x wr y em H') (h0 : IsBuf H S w b g x) {v : Value} {w2 : World} (hf : FillGives H' S b g w.heap.size y em wr v w2) :
    ∃ H2, v = .int .i64 (y.fill em).1.1 ∧ IsBuf H2 S w2 b g (y.fill em).2 ∧ (∀ k, H2 k → H k ∨ w.heap.size < k) ∧ Keep (fun k => k = b ∨ k = g ∨ H k) w w2 ∧ Blk w2 w.heap.size 3 #[.int .i64 ((y.fill em).1.2 : Int)] ∧ wr.heap.size ≤ w2.heap.size ∧
      ((y.fill em).1.1 = 0 → BufLoop H S w b g x w2 (y.fill em).2 (y.fill em).1.2 H2 ∧ (y.fill em).2.meas (y.fill em).1.2 < y.meas em) ∧ (∀ k, H2 k → H' k ∨ wr.heap.size ≤ k) := by
  obtain ⟨rfl, he2, hk2, H2, hsub, hb2⟩ := hf
  have hsw := h.emp.lt
  have hFF := Buf.fill_facts h.buf.ok em h.lt
  have hsub2 : ∀ k, H2 k → H k ∨ w.heap.size < k := fun k hk => by
    rcases hsub k hk with h1 | h1
    · exact h.sub k h1
    · omega
  have hk3 : Keep (fun k => k = b ∨ k = g ∨ H k) w w2 := h.keep.trans_ hk2 (fun i hi h1 => by
    rcases h1 with h1 | h1 | h1 | h1
    · exact .inl h1
    · exact .inr (.inl h1)
    · rcases h.sub i h1 with h2 | h2
      · exact .inr (.inr h2)
      · omega
    · omega)
  refine ⟨H2, rfl, hb2, hsub2, hk3, he2, hk2.size, fun he => ?_, hsub⟩
  have h5 := hFF.2.2.2.2.1.resolve_left (by simpa using he)
  exact ⟨⟨hb2, he2, h5.1, hFF.2.1.trans h.size, hFF.2.2.2.1.trans h.L, hsub2, hk3⟩, h5.2⟩
end

section
variable {H S : Nat → Prop} {w : World} {b g : Nat} {x : Buf}

set_option maxHeartbeats 8000000 in
set_option maxRecDepth 100000 in
theorem bufUntil_any (c : UInt8) (h : IsBuf H S w b g x) :
    Calls Try.prog 40 #[.pointer (some ⟨b, 0, none⟩), .int .u8 c.toNat] w (Gives (BufGives H S b g (x.untl c 0) w)) := by
  have HH := Lib.hid h
  obtain ⟨A, c0, hb, hw⟩ := h.blk
  have h16 := h.ok.2.2.1
  have lb := hb.lt
  have lg := h.src.lt
  obtain ⟨R, hR⟩ : ∃ R, x.untl c 0 = R := ⟨_, rfl⟩
  have HR := Lib.hid hR
  obtain ⟨M, hM⟩ : ∃ M, bufMeas w g x = M := ⟨_, rfl⟩
  have HM := Lib.hid hM
  clear h hb hw hR hM
  go_enter Try.func40, Try.ntmps40
  go_wp2
  go_step3
  go_wp2_with (go_at_call 53; refine (bufIs_any HH.out).mono ?_; rintro e w1 ⟨rfl, rfl⟩)
  go_step3
  go_wp2
  go_loopw [] (fun wr => ∃ (y : Buf) (em : Nat) (H' : Nat → Prop), Hid (BufLoop H S w b g x wr y em H') ∧ Hid (y.untl c em = R)) (fun wr => M wr)
  case atStart => exact ⟨x, 0, H, BufLoop.start HH.out, HR.out⟩
  case round =>
    obtain ⟨y, em, H', HL, HP⟩ := hrel
    obtain ⟨A1, c1, hb1, hw1⟩ := HL.out.buf.blk
    have y1 : wr.cell? ⟨b, 1, none⟩ = some (.int .i64 y.size) := hb1.cell 1
    have y2 : wr.cell? ⟨b, 2, none⟩ = some (.slice A1 y.held.length c1) := hb1.cell 2
    have hhs := HL.out.buf.ok.2.2.2.1
    have h16y := HL.out.buf.ok.2.2.1
    have hsw := HL.out.emp.lt
    have HW1 := Lib.hid hw1
    have k1 := indexByte_any H' A1 y.held.length c1 y.held c wr hw1.row
    clear hb1 hw1
    by_cases hm : c ∈ y.held
    · rw [if_pos hm] at k1
      have K1 := Lib.hid k1
      clear k1
      obtain ⟨i, hi⟩ : ∃ i, y.held.idxOf c = i := ⟨_, rfl⟩
      have hil : i < y.held.length := by rw [← hi]; exact List.idxOf_lt_length_iff.2 hm
      rw [hi] at K1
      have hfound := Buf.untl_found (em := em) hm
      rw [hi, HP.out] at hfound
      have HF := Lib.hid hfound
      have i0 : (0 : Int) ≤ (i : Int) := by omega
      clear hm hi hfound
      go_wp2_with fail
      refine K1.out.mono ?_
      rintro e w2 ⟨rfl, rfl⟩
      go_wp2_with fail
      refine (bufTake0_any (i + 1) HL.out.buf hil).mono ?_
      rintro e w2 ⟨v, rfl, h2⟩
      obtain ⟨A2, c2, rfl, _, _, ho2, hb2, hk2⟩ := h2.at_
      have HO2 := Lib.hid ho2
      have HB2 := Lib.hid hb2
      have HK2 := Lib.hid (HL.out.keep.trans_ hk2 (fun i _ e => .inl e))
      clear h2 ho2 hb2 hk2
      go_wp2_with fail
      rw [Exit.noGoto_ret]
      go_ret2
      refine ⟨_, rfl, ?_⟩
      rw [HR.out, HF.out]
      refine BufGives.mk2 (lo := wr.heap.size) (by omega) (fun k hk => (HL.out.buf.held k hk).1) HB2.out (fun k hk => (HL.out.sub k hk).imp id Nat.le_of_lt) HK2.out ?_
      have e : (y.held.take (i + 1)).length = i + 1 := by simp; omega
      rw [e]
      exact HO2.out
    · rw [if_neg hm] at k1
      have K1 := Lib.hid k1
      have HN := Lib.hid hm
      clear k1 hm
      by_cases hfl : y.held.length = y.size
      · have q : ((y.held.length : Int) == (y.size : Int)) = true := by rw [beq_iff_eq]; omega
        have hfull := Buf.untl_full (em := em) HN.out hfl
        rw [HP.out] at hfull
        have HF := Lib.hid hfull
        clear hfull hfl
        go_wp2_with fail
        refine K1.out.mono ?_
        rintro e w2 ⟨rfl, rfl⟩
        go_wp2_with fail
        go_quiet (fail)
        go_wp2_with fail
        rw [Exit.noGoto_ret]
        go_ret2
        refine ⟨_, rfl, ?_⟩
        rw [HR.out, HF.out]
        exact BufGives.mk2 (lo := wr.heap.size) (by omega) (fun k hk => (HL.out.buf.held k hk).1) (HL.out.drewN _).buf (fun k hk => (HL.out.sub k hk).imp id Nat.le_of_lt) (HL.out.drewN _).keep (World.ownsRow_nil _ _ _ _)
      · have q : ((y.held.length : Int) == (y.size : Int)) = false := by rw [beq_eq_false_iff_ne]; omega
        go_wp2_with fail
        refine K1.out.mono ?_
        rintro e w2 ⟨rfl, rfl⟩
        go_wp2_with fail
        go_quiet (fail)
        go_wp2_with fail
        refine (bufFill_any w.heap.size em (HL.out.drewN _).buf (by omega) (HL.out.drewN _).emp (by have := HL.out.lt; omega) (HL.out.apart HH.out)).mono ?_
        rintro e w2 ⟨v, rfl, hf⟩
        obtain ⟨H2, rfl, hb2, hsub2, hk2, _, hs2, hnext, _⟩ := (HL.out.drewN _).next HH.out hf
        have hgo := Buf.untl_go (c := c) HL.out.buf.ok HL.out.lt HN.out hfl
        have her := Buf.untl_err (em := em) HN.out hfl
        rw [HP.out] at hgo her
        have hm := HL.out.meas
        obtain ⟨e1, he1⟩ : ∃ e1, (y.fill em).1.1 = e1 := ⟨_, rfl⟩
        obtain ⟨em1, hem1⟩ : ∃ em1, (y.fill em).1.2 = em1 := ⟨_, rfl⟩
        obtain ⟨z, hz⟩ : ∃ z, (y.fill em).2 = z := ⟨_, rfl⟩
        rw [he1, hem1, hz] at hnext hgo
        rw [he1, hz] at her
        rw [hz] at hb2
        rw [he1]
        have HB2 := Lib.hid hb2
        have HS2 := Lib.hid hsub2
        have HK2 := Lib.hid hk2
        have HNX := Lib.hid hnext
        have HGO := Lib.hid hgo
        have HER := Lib.hid her
        have HME := Lib.hid hm
        clear hb2 hsub2 hk2 hnext hgo her hm hf he1 hem1 hz hfl q y1 y2
        by_cases he0 : e1 = 0
        · subst he0
          have hnx := HNX.out rfl
          have HL2 := Lib.hid hnx.1
          have HM2 := Lib.hid hnx.2
          clear hnx
          go_wp2_with fail
          go_roundw
          case rel => exact ⟨z, em1, H2, HL2.out, (HGO.out (by trivial)).symm⟩
          case measure => rw [← HM.out, HL2.out.meas, HME.out]; exact HM2.out
        · have qe : (e1 == 0) = false := by simpa using he0
          have HF := Lib.hid (HER.out he0)
          obtain ⟨A2, c2, hb3, hw3⟩ := HB2.out.blk
          have y2 : w2.cell? ⟨b, 2, none⟩ = some (.slice A2 z.held.length c2) := hb3.cell 2
          clear hb3 hw3
          go_wp2_with fail
          refine (bufTake0_any z.held.length HB2.out (Nat.le_refl _)).mono ?_
          rintro e w3 ⟨v, rfl, h3⟩
          obtain ⟨A3, c3, rfl, _, _, ho3, hb3, hk3⟩ := h3.at_
          have HO3 := Lib.hid ho3
          have HB3 := Lib.hid hb3
          have HK3 := Lib.hid (HK2.out.trans_ hk3 (fun i _ e => .inl e))
          clear h3 ho3 hb3 hk3
          go_wp2_with fail
          rw [Exit.noGoto_ret]
          go_ret2
          refine ⟨_, rfl, ?_⟩
          rw [HR.out, HF.out]
          refine BufGives.mk2 (lo := w2.heap.size) (by have h1 : wr.heap.size ≤ w2.heap.size := hs2; omega) (fun k hk => (HB2.out.held k hk).1) HB3.out (fun k hk => (HS2.out k hk).imp id Nat.le_of_lt) HK3.out ?_
          have := HO3.out
          rw [List.take_length] at this
          exact this
end

end Go.Proofs.Ytadnceiohgjdhaa
