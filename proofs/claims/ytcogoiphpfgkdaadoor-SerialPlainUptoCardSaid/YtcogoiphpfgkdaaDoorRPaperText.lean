/-
  The reference's lines: text.
-/
import Derived.Test.YtcogoiphpfgkdaaDoorRPaperEnd
import Derived.Test.YtcogoiphpfgkdaaDoorPaperText
import Derived.Test.YtcogoiphpfgkdaaDoorRIn
namespace Go.Proofs.YtcogoiphpfgkdaaDoor
open Go.RowKit
set_option linter.unusedVariables false
set_option linter.unusedSimpArgs false

set_option maxHeartbeats 4000000 in
set_option maxRecDepth 100000 in
theorem rtextL_any {w : World} {lo bp : Nat} {s : Ls} (h : LinAt w lo bp s) (l : List UInt8) (kept : Bool) (hn : s.sz + 15 * l.length ≤ 67108864) :
    Calls Tryd.prog 72 #[.pointer (some ⟨bp, 0, none⟩), .string (str l), .bool kept] w fun e w' => e = .returned (.tuple #[]) ∧ LinAt w' lo bp (s.text kept (rns l)) ∧ Fr lo w w' := by
  have hlt := h.lt
  have hsz := str_size l
  obtain ⟨R, hR⟩ : ∃ R, s.text kept (rns l) = R := ⟨_, rfl⟩
  rw [hR]
  have HP := Lib.hid h
  have HR := Lib.hid hR
  clear h hR
  go_enter Tryd.func72, Tryd.ntmps72
  go_wp2_with fail
  obtain ⟨W3, hW3⟩ : ∃ W3, w.iter (str l) 0 = W3 := ⟨_, rfl⟩
  rw [hW3]
  have hit0 : W3.heap[w.heap.size]? = some (.stringIter (str l) 0) := by rw [← hW3]; simpa using World.iter_heap w (str l) 0
  have hb3 : Below w.heap.size w W3 := by rw [← hW3]; exact (Below.refl _ w).alloc (Nat.le_refl _) _
  have IT0 := Lib.hid hit0
  have V3 := Lib.hid (Fr.of_below (lo := lo) hb3 (by omega))
  have P3 := Lib.hid (HP.out.behind hb3)
  clear hW3 hit0 hb3
  go_loopw [] (fun wr => ∃ (pos : Nat) (s1 : Ls), pos ≤ l.length ∧ Hid (s1.sz + 15 * (l.length - pos) ≤ 67108864) ∧ Hid (wr.heap[w.heap.size]? = some (.stringIter (str l) pos)) ∧ Hid (LinAt wr lo bp s1) ∧ Hid (s1.text kept (rns (l.drop pos)) = R) ∧ Hid (Fr lo w wr)) (fun wr => l.length - wr.iterPos w.heap.size)
  case atStart => exact ⟨0, s, Nat.zero_le _, Lib.hid (by omega), IT0, P3, Lib.hid (by rw [List.drop_zero]; exact HR.out), V3⟩
  case round =>
    obtain ⟨pos, s1, hpl, HM, HI, HPr, HK, HV⟩ := hrel
    have hm := HM.out
    by_cases hpt : pos < l.length
    · obtain ⟨z, u, hdec, hu1, hu2, hrn⟩ := rns_step l pos hpt
      have hnx : ∀ ty, (Instr.next (.pointer (some ⟨w.heap.size, 0, none⟩)) true ty).run Tryd.prog wr = .ok (.tuple #[.bool true, .int .i64 pos, .int .i32 z]) (wr.iterAt w.heap.size (str l) (pos + u)) := fun ty => by
        have := Lib.run_next_any_at (P := Tryd.prog) wr w.heap.size (str l) pos ty HI.out (by rw [hsz]; omega)
        rw [hdec] at this
        exact this
      have hit2 := Lib.iterAt_heap wr w.heap.size (str l) pos (pos + u) HI.out
      have hki : Keep (fun k => k = w.heap.size) wr (wr.iterAt w.heap.size (str l) (pos + u)) := ⟨rfl, rfl, rfl, by rw [Lib.iterAt_size]; exact Nat.le_refl _, fun k _ hk => Lib.iterAt_other wr _ k _ _ hk⟩
      have hp4 : LinAt (wr.iterAt w.heap.size (str l) (pos + u)) lo bp s1 := HPr.out.keep hki (fun k e => .inr ⟨.stringIter (str l) pos, by have e : k = w.heap.size := e; subst e; exact HI.out, fun cs t fz e => by cases e⟩)
      have hb4 : Below w.heap.size w (wr.iterAt w.heap.size (str l) (pos + u)) → True := fun _ => trivial
      have hv4 : ∀ w5, Fr lo (wr.iterAt w.heap.size (str l) (pos + u)) w5 → Fr lo w w5 ∧ w5.heap[w.heap.size]? = some (.stringIter (str l) (pos + u)) := fun w5 h5 => by
        have hi5 := h5.obj _ _ hit2 (fun cs t fz e => by cases e)
        refine ⟨⟨HV.out.below.trans ((hki.below (B := lo) (by have := HV.out.size; omega) (fun i hi e => by have : i = w.heap.size := e; omega)).trans h5.below), Nat.le_trans HV.out.size (Nat.le_trans hki.size h5.size), fun k o h1 h2 => ?_⟩, hi5⟩
        have h3 := HV.out.obj k o h1 h2
        have hk : k < w.heap.size := lt_of_heap h1
        exact h5.obj k o ((hki.block k (lt_of_heap h3) (by omega)).trans h3) h2
      have HMS := Lib.hid (show wr.iterPos w.heap.size = pos by simp [World.iterPos, HI.out])
      have hk2 := HK.out
      rw [hrn, text_cons] at hk2
      have hsp := sz_step kept s1 z
      obtain ⟨W4, hW4⟩ : ∃ W4, wr.iterAt w.heap.size (str l) (pos + u) = W4 := ⟨_, rfl⟩
      rw [hW4] at hnx hit2 hp4 hv4
      have hend : ∀ (s2 : Ls) (w5 : World), s1.step kept z = s2 → LinAt w5 lo bp s2 → Fr lo W4 w5 → (∃ (pos : Nat) (s1 : Ls), pos ≤ l.length ∧ Hid (s1.sz + 15 * (l.length - pos) ≤ 67108864) ∧ Hid (w5.heap[w.heap.size]? = some (.stringIter (str l) pos)) ∧ Hid (LinAt w5 lo bp s1) ∧ Hid (s1.text kept (rns (l.drop pos)) = R) ∧ Hid (Fr lo w w5)) ∧ l.length - w5.iterPos w.heap.size < l.length - pos := fun s2 w5 e h5 f5 => by
        obtain ⟨g1, g2⟩ := hv4 w5 f5
        subst e
        refine ⟨⟨pos + u, _, hu2, Lib.hid (by omega), g2, h5, hk2, g1⟩, ?_⟩
        have : w5.iterPos w.heap.size = pos + u := by simp [World.iterPos, g2]
        omega
      have HEND := Lib.hid hend
      have HP4 := Lib.hid hp4
      have KE := Lib.hid (rend_any hp4 (by unfold Ls.sz at hm; omega))
      have KP := Lib.hid (fun r => rput_any hp4 r (by unfold Ls.sz at hm; omega))
      have hll : s1.line.length ≤ 67108864 := by unfold Ls.sz at hm; omega
      clear hW4 hit2 hp4 hv4 hdec hrn hki hb4 hk2 hend hsp
      cases kept with
      | true =>
        by_cases q0 : z = 10
        · have f0 : ((z : Int) == 10) = true := by rw [q0]; rfl
          go_wp2_with fail
          refine KE.out.mono ?_
          rintro e w5 ⟨rfl, h5, f5⟩
          have hq := HEND.out _ w5 (by subst q0; rfl) h5 f5
          have HQ := Lib.hid hq
          clear hq h5 f5
          go_wp2
          go_roundw
          case rel => exact HQ.out.1
          case measure => rw [HMS.out]; exact HQ.out.2
        · have f0 : ((z : Int) == 10) = false := by rw [beq_eq_false_iff_ne]; omega
          go_wp2_with fail
          refine (KP.out z).mono ?_
          rintro e w5 ⟨rfl, h5, f5⟩
          have hq := HEND.out _ w5 (by unfold Ls.step; rw [if_neg (by simp [q0]), if_pos (by simp)]) h5 f5
          have HQ := Lib.hid hq
          clear hq h5 f5
          go_wp2
          go_roundw
          case rel => exact HQ.out.1
          case measure => rw [HMS.out]; exact HQ.out.2
      | false =>
        have KB := Lib.hid (rBlank_any (z : Int) W4)
        rw [show decide ((z : Int) = 9 ∨ (z : Int) = 10 ∨ (z : Int) = 12 ∨ (z : Int) = 32) = whiteR z by
          unfold whiteR
          rw [Bool.eq_iff_iff]
          simp
          omega] at KB
        by_cases q0 : whiteR z = true
        case neg =>
          rw [show whiteR z = false by simpa using q0] at KB
          go_wp2_with fail
          refine KB.out.mono ?_
          rintro e w4 ⟨rfl, rfl⟩
          go_wp2_with fail
          refine (KP.out z).mono ?_
          rintro e w5 ⟨rfl, h5, f5⟩
          have hq := HEND.out _ w5 (by unfold Ls.step; rw [if_neg (by simp), if_pos (by simp [q0])]) h5 f5
          have HQ := Lib.hid hq
          clear hq h5 f5
          go_wp2
          go_roundw
          case rel => exact HQ.out.1
          case measure => rw [HMS.out]; exact HQ.out.2
        case pos =>
          rw [q0] at KB
          have hst : s1.step false z = if solid s1.line = true then s1.put 32 else s1 := by
            unfold Ls.step
            rw [if_neg (by simp), if_neg (by simp [q0])]
          have HST := Lib.hid hst
          obtain ⟨Al, cl, x1, _, _, hlast⟩ := HP4.out.line
          have hblt := HP4.out.lt.2
          go_wp2_with fail
          refine KB.out.mono ?_
          rintro e w4 ⟨rfl, rfl⟩
          cases hgl : s1.line.getLast? with
          | none =>
            have hl0 : s1.line = [] := List.getLast?_eq_none_iff.1 hgl
            have hs0 : solid s1.line = false := by unfold solid; rw [hgl]
            have hq := HEND.out s1 W4 (by rw [HST.out, hs0]; rfl) HP4.out (Fr.refl _ _)
            have HQ := Lib.hid hq
            rw [hl0] at x1
            clear hq hlast hst hgl hs0 hl0
            go_wp2
            go_roundw
            case rel => exact HQ.out.1
            case measure => rw [HMS.out]; exact HQ.out.2
          | some x =>
            obtain ⟨m, hm1⟩ : ∃ m, s1.line.length = m + 1 := ⟨s1.line.length - 1, by cases hc : s1.line with | nil => rw [hc] at hgl; simp at hgl | cons a r => simp⟩
            have hx : s1.line[m]? = some x := by rw [List.getLast?_eq_getElem?, hm1] at hgl; simpa using hgl
            obtain ⟨g, rfl, hgx⟩ := hlast m x hx
            have hgl2 := World.block_lt_of_cell? W4 _ hgx
            have hso : solid s1.line = !blankR x := by unfold solid; rw [hgl]
            rw [hm1] at x1 hll
            have e1 : ((m + 1 : Nat) : Int) - 1 = (m : Int) := by omega
            have e2 : (m : Int) + 1 - 1 = (m : Int) := by omega
            have i1 : (0 : Int) ≤ (m : Int) := by omega
            have i2 : (m : Int) < (m : Int) + 1 := by omega
            have i3 : decide ((0 : Int) < (m : Int) + 1) = true := decide_eq_true (by omega)
            have KL := Lib.hid (rlblank_any x W4)
            obtain ⟨b, hb⟩ : ∃ b, blankR x = b := ⟨_, rfl⟩
            rw [hb] at KL hso
            clear hlast hst hgl hx hb
            go_wp2_with fail
            refine KL.out.mono ?_
            rintro e w4 ⟨rfl, rfl⟩
            cases b with
            | true =>
              have hq := HEND.out s1 W4 (by rw [HST.out, hso]; rfl) HP4.out (Fr.refl _ _)
              have HQ := Lib.hid hq
              clear hq hso
              go_wp2
              go_roundw
              case rel => exact HQ.out.1
              case measure => rw [HMS.out]; exact HQ.out.2
            | false =>
              have HS1 := Lib.hid (show s1.step false z = s1.put 32 by rw [HST.out, if_pos (by rw [hso]; rfl)])
              clear hso HST
              go_wp2_with fail
              refine (KP.out 32).mono ?_
              rintro e w5 ⟨rfl, h5, f5⟩
              have hq := HEND.out _ w5 HS1.out h5 f5
              have HQ := Lib.hid hq
              clear hq h5 f5
              go_wp2
              go_roundw
              case rel => exact HQ.out.1
              case measure => rw [HMS.out]; exact HQ.out.2
    · have hnx : ∀ ty, (Instr.next (.pointer (some ⟨w.heap.size, 0, none⟩)) true ty).run Tryd.prog wr = .ok (.tuple #[.bool false]) wr := fun ty => Lib.run_next_end_at (P := Tryd.prog) wr w.heap.size (str l) pos ty HI.out (by rw [hsz]; omega)
      obtain rfl : s1 = R := by
        have := HK.out
        rw [List.drop_eq_nil_of_le (by omega), rns_nil] at this
        exact this
      go_wp2
      go_end0
      exact ⟨rfl, HPr.out, HV.out⟩
end Go.Proofs.YtcogoiphpfgkdaaDoor
