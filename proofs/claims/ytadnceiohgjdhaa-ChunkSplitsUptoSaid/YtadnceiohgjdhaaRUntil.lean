/-
  The reference's buffers: Take, Until, Rest.
-/
import Derived.Test.YtadnceiohgjdhaaRPeek
namespace Go.Proofs.Ytadnceiohgjdhaa
open Go.RowKit
set_option linter.unusedVariables false
set_option linter.unusedSimpArgs false

section
variable {H S : Nat → Prop} {w : World} {b g : Nat} {x : Buf}

set_option maxHeartbeats 4000000 in
set_option maxRecDepth 100000 in
theorem rbufTake_any (n : Nat) (h : IsRBuf H S w b g x) (hn : n ≤ x.size) :
    Calls Try.prog 57 #[.pointer (some ⟨b, 0, none⟩), .int .i64 n] w (Gives (RBufGives H S b g (x.takeB n) w)) := by
  obtain ⟨l, e0, y, hp⟩ : ∃ l e0 y, x.peek n = ((l, e0), y) := ⟨_, _, _, rfl⟩
  have hpt := Buf.peek_take (x := x) n
  rw [hp] at hpt
  simp only at hpt
  have hT : x.takeB n = ((l, e0), y.drop l.length) := by simp [Buf.takeB, hp]
  have hle : l.length ≤ y.held.length := by
    have := congrArg List.length hpt
    rw [List.length_take] at this
    omega
  have HP := Lib.hid hp
  have HH := Lib.hid h
  have HT := Lib.hid hT
  clear h hp hT hpt
  go_enter Try.func57, Try.ntmps57
  go_wp2_with fail
  refine (rbufPeek_any n HH.out hn).mono ?_
  rintro e w1 ⟨v, rfl, h1⟩
  rw [HP.out] at h1
  obtain ⟨A1, c1, rfl, ho, ⟨H1, hsub, hdis, hb1⟩, hk1⟩ := h1
  simp only at ho hb1 hdis
  have HB1 := Lib.hid hb1
  have HK1 := Lib.hid hk1
  have HO1 := Lib.hid ho
  have HS1 := Lib.hid hsub
  have l1 := hk1.size
  obtain ⟨_, _, hbb, _⟩ := HH.out.blk
  have lb := hbb.lt
  clear hb1 hk1 ho hsub hbb
  dsimp only
  go_wp2_with fail
  refine (rbufTake0_any l.length HB1.out hle).mono ?_
  rintro e w2 ⟨v, rfl, A2, c2, rfl, ho2, hk2, H2, hsub2, hdis2, hb2⟩
  have HO2 := Lib.hid (own_keep HO1.out hk2 (fun k e1 e2 => by have := (HO1.out.lt k e1).1; omega))
  have HB2 := Lib.hid hb2
  have HK2 := Lib.hid (HK1.out.trans_ hk2 (fun i _ e => .inl e))
  clear ho2 hb2 hk2
  go_wp2_with fail
  go_ret2
  refine ⟨_, rfl, ?_⟩
  rw [HT.out]
  refine RBufGives.mk3 rfl HO2.out (fun k hk => .inr (Nat.le_trans l1 (hsub2 k hk))) (fun k h1 h2 => ?_) HB2.out HK2.out
  have := (HO1.out.lt k h1).2
  have := hsub2 k h2
  omega

set_option maxHeartbeats 8000000 in
set_option maxRecDepth 100000 in
theorem rbufUntil_any (c : UInt8) (h : IsRBuf H S w b g x) :
    Calls Try.prog 58 #[.pointer (some ⟨b, 0, none⟩), .int .u8 c.toNat] w (Gives (RBufGives H S b g (x.untl c 0) w)) := by
  have HH := Lib.hid h
  obtain ⟨R, hR⟩ : ∃ R, x.untl c 0 = R := ⟨_, rfl⟩
  have HR := Lib.hid hR
  obtain ⟨M, hM⟩ : ∃ M, rMeas g x = M := ⟨_, rfl⟩
  have HM := Lib.hid hM
  clear h hR hM
  go_enter Try.func58, Try.ntmps58
  go_wp2
  go_loopw [6, 7, 8] (fun em e at_ wr => ∃ (y : Buf) (k : Nat) (z : Int) (p : Nat) (H' : Nat → Prop), em = .int .i64 k ∧ e = .int .i64 z ∧ at_ = .int .i64 p ∧ p ≤ y.held.length ∧ Hid (¬ c ∈ y.held.take p) ∧ Hid (RLoop H S w b g x wr y H') ∧
    Hid (RSt (fun y em => y.untl c em) (fun e y => ((y.held, e), y.drop y.held.length)) (fun y => ¬ c ∈ y.held ∧ y.held.length ≠ y.size) R y k z)) (fun em e _ wr => M em e wr)
  case atStart => exact ⟨x, 0, 0, 0, H, rfl, rfl, rfl, Nat.zero_le _, (show ¬ c ∈ x.held.take 0 by simp), RLoop.start HH.out, .inl ⟨rfl, by omega, HR.out⟩⟩
  case round =>
    obtain ⟨y, em, e, p, H', rfl, rfl, rfl, hp, HC, HL, HST⟩ := hrel
    obtain ⟨A1, c1, hb1, hw1⟩ := HL.out.buf.blk
    have y1 : wr.cell? ⟨b, 1, none⟩ = some (.int .i64 y.size) := hb1.cell 1
    have y2 : wr.cell? ⟨b, 2, none⟩ = some (.slice A1 y.held.length c1) := hb1.cell 2
    have hhs := HL.out.buf.ok.2.2.2.1
    have lb := hb1.lt
    have h16y := HL.out.buf.ok.2.2.1
    have hle1 := hw1.le
    have HW1 := Lib.hid hw1
    have hm := HL.out.meas (em := em) e
    rw [HM.out] at hm
    have HME := Lib.hid hm
    obtain ⟨wo, hwo⟩ : ∃ wo : World, wo = wr := ⟨_, rfl⟩
    subst hwo
    clear hb1 hw1 hm
    go_wp2_with fail
    go_loop [8] (fun at_ => ∃ p : Nat, p ≤ y.held.length ∧ at_ = .int .i64 p ∧ Hid (¬ c ∈ y.held.take p)) (fun at_ => y.held.length - (intOf at_).toNat)
    case atStart => exact ⟨p, hp, rfl, HC.out⟩
    case round =>
      clear hp HC
      obtain ⟨p, hp, rfl, HC⟩ := hrel
      by_cases hlt : p < y.held.length
      · obtain ⟨ad, u, rfl, _, hu, e1⟩ := HW1.out.row.at_ hlt
        rw [bv_get _ _ hlt] at hu
        obtain rfl := Option.some.inj hu
        have hsn : y.held.take (p + 1) = y.held.take p ++ [y.held[p]] := by rw [List.take_succ_eq_append_getElem hlt]
        have HSN := Lib.hid hsn
        have i0 : (0 : Int) ≤ (p : Int) + 1 - 1 := by omega
        have i1 : (p : Int) + 1 - 1 < (y.held.length : Int) := by omega
        clear hu hsn
        have hpre := HC.out
        by_cases hcp : y.held[p] = c
        · have q : ((y.held[p].toNat : Int) == (c.toNat : Int)) = true := by rw [hcp]; simp
          have hmem : c ∈ y.held := hcp ▸ List.getElem_mem hlt
          have hidx : y.held.idxOf c = p := by
            have h1 : y.held = y.held.take p ++ y.held.drop p := (List.take_append_drop _ _).symm
            rw [h1, List.idxOf_append, if_neg hpre, List.drop_eq_getElem_cons hlt, hcp, List.idxOf_cons_self, List.length_take]
            omega
          have hF := Buf.untl_found (em := em) hmem
          rw [hidx] at hF
          have hR2 : R = ((y.held.take (p + 1), 0), y.drop (p + 1)) := by
            rcases HST.out with ⟨_, _, h1⟩ | ⟨h1, _⟩ | ⟨h1, _⟩
            · rw [← hF]; exact h1.symm
            · exact absurd hmem h1.1
            · exact absurd hmem h1.1
          have HR2 := Lib.hid hR2
          clear hcp hmem hidx hF hR2 hpre
          go_wp2_with fail
          refine (rbufTake0_any (p + 1) HL.out.buf hlt).mono ?_
          rintro e w2 ⟨v, rfl, A2, c2, rfl, ho2, hk2, H2, hsub2, hdis2, hb2⟩
          have HO2 := Lib.hid ho2
          have HB2 := Lib.hid hb2
          have HK2 := Lib.hid (HL.out.keep.trans_ hk2 (fun i _ e => .inl e))
          have l1 := HL.out.keep.size
          clear ho2 hb2 hk2
          go_wp2_with fail
          go_ret2
          refine ⟨_, rfl, ?_⟩
          rw [HR.out, HR2.out]
          exact RBufGives.mk3 (by simp; omega) (own_less HO2.out l1) (fun k hk => .inr (Nat.le_trans l1 (hsub2 k hk))) hdis2 HB2.out HK2.out
        · have q : ((y.held[p].toNat : Int) == (c.toNat : Int)) = false := by
            rw [beq_eq_false_iff_ne]
            intro e
            exact hcp (UInt8.toNat_inj.1 (by omega))
          have hpost : ¬ c ∈ y.held.take (p + 1) := by
            rw [HSN.out, List.mem_append]
            rintro (h | h)
            · exact hpre h
            · simp at h
              exact hcp h.symm
          have HPO := Lib.hid hpost
          clear hcp hpre hpost
          go_wp2_with fail
          go_round
          case rel => exact ⟨p + 1, by omega, by go_num, HPO.out⟩
          case measure => simp [intOf]; omega
      · have hpl : p = y.held.length := by omega
        subst hpl
        have hno := HC.out
        rw [List.take_length] at hno
        have HNO := Lib.hid hno
        clear hno hlt
        by_cases hfl : y.held.length = y.size
        · have q : ((y.held.length : Int) == (y.size : Int)) = true := by rw [beq_iff_eq]; omega
          have hF := Buf.untl_full (em := em) HNO.out hfl
          have hR2 : R = (([], 23), y) := by
            rcases HST.out with ⟨_, _, h1⟩ | ⟨h1, _⟩ | ⟨h1, _⟩
            · rw [← hF]; exact h1.symm
            · exact absurd hfl h1.2
            · exact absurd hfl h1.2
          have HR2 := Lib.hid hR2
          clear hF hR2 hfl
          go_wp2_with fail
          go_quiet (fail)
          go_wp2_with fail
          go_ret2
          refine ⟨_, rfl, ?_⟩
          rw [HR.out, HR2.out]
          exact RBufGives.mk3 rfl (World.ownsRow_nil _ _ _ _) HL.out.sub (by intro k e; simp [Value.ownBlock] at e) (HL.out.drewN _).buf (HL.out.drewN _).keep
        · have q : ((y.held.length : Int) == (y.size : Int)) = false := by rw [beq_eq_false_iff_ne]; omega
          have room : y.held.length < y.size := by omega
          rcases HST.out with ⟨rfl, hem, hF⟩ | ⟨_, rfl, rfl, hE⟩ | ⟨_, he, hem, hE⟩
          · have hrst := RSt.next (P := fun y => ¬ c ∈ y.held ∧ y.held.length ≠ y.size) (E := fun e y => ((y.held, e), y.drop y.held.length)) (F := fun y em => y.untl c em) HL.out.buf.ok hem hF (fun h => by rw [Buf.fill_held em h, (Buf.fill_facts HL.out.buf.ok em hem).2.1]; exact ⟨HNO.out, hfl⟩) (fun h => Buf.untl_go HL.out.buf.ok hem HNO.out hfl h) (fun h => Buf.untl_err HNO.out hfl h)
            have hlen : y.held <+: (y.fill em).2.held := by
              unfold Buf.fill
              split
              · exact List.prefix_refl _
              · split
                · exact List.prefix_append _ _
                · exact List.prefix_refl _
            have HN := Lib.hid hrst
            have HPX := Lib.hid hlen
            clear hrst hF hlen hfl
            go_wp2_with fail
            go_quiet (fail)
            go_wp2_with fail
            refine (rbufFill_any em (HL.out.drewN _).buf room hem).mono ?_
            rintro e w2 ⟨v, rfl, hf⟩
            obtain ⟨H2, rfl, hl2, _, _⟩ := (HL.out.drewN _).next hem hf
            generalize (if (y.fill em).1.1 = 22 then (0 : Int) else (y.fill em).1.1) = e1 at HN ⊢
            generalize (y.fill em).1.2 = em1 at HN ⊢
            generalize (y.fill em).2 = z at HN hl2 HPX ⊢
            have HL2 := Lib.hid hl2
            clear hf hl2
            go_wp2_with fail
            go_roundw
            case rel =>
              refine ⟨z, em1, e1, y.held.length, H2, rfl, rfl, rfl, HPX.out.length_le, ?_, HL2.out, HN.out.1⟩
              rw [← List.prefix_iff_eq_take.1 HPX.out]
              exact HNO.out
            case measure =>
              have h2 := HL2.out.meas (em := em1) e1
              rw [HM.out] at h2
              rw [HME.out, h2]
              exact HN.out.2
          · have HE := Lib.hid hE
            clear hE
            go_wp2_with fail
            go_quiet (fail)
            go_wp2_with fail
            refine (rbufFill_full (HL.out.drewN _).buf).mono ?_
            rintro e w2 ⟨rfl, rfl⟩
            go_wp2_with fail
            go_roundw
            case rel => exact ⟨y, 100, 22, y.held.length, H', by go_num, rfl, rfl, Nat.le_refl _, by rw [List.take_length]; exact HNO.out, (HL.out.drewN _), .inr (.inr ⟨⟨HNO.out, hfl⟩, by decide, by omega, HE.out⟩)⟩
            case measure =>
              have h2 := fun q => (HL.out.drewN q).meas (em := 100) 22
              rw [HM.out] at h2
              have h3 := HME.out
              simp at h2 h3 ⊢
              rw [h3, h2]
              omega
          · have qe : (e != 0) = true := by simpa using he
            have HE := Lib.hid hE
            clear hE
            go_wp2_with fail
            go_quiet (fail)
            go_wp2_with fail
            refine (rbufTake0_any y.held.length (HL.out.drewN _).buf (Nat.le_refl _)).mono ?_
            rintro e w2 ⟨v, rfl, A2, c2, rfl, ho2, hk2, H2, hsub2, hdis2, hb2⟩
            rw [List.take_length] at ho2
            have HO2 := Lib.hid ho2
            have HB2 := Lib.hid hb2
            have HK2 := Lib.hid ((HL.out.drewN _).keep.trans_ hk2 (fun i _ e => .inl e))
            have l1 := HL.out.keep.size
            clear ho2 hb2 hk2
            go_wp2_with fail
            go_ret2
            refine ⟨_, rfl, ?_⟩
            rw [HR.out, ← HE.out]
            exact RBufGives.mk3 rfl (own_less HO2.out l1) (fun k hk => .inr (Nat.le_trans l1 (hsub2 k hk))) hdis2 HB2.out HK2.out
end

end Go.Proofs.Ytadnceiohgjdhaa
