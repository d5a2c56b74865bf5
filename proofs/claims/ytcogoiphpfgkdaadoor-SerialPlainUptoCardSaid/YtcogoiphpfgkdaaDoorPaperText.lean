/-
  The program's paper: text.
-/
import Derived.Test.YtcogoiphpfgkdaaDoorPaperEnd
import Derived.Test.YtcogoiphpfgkdaaDoorRns
import Derived.BigQuiet
namespace Go.Proofs.YtcogoiphpfgkdaaDoor
open Go.RowKit
set_option linter.unusedVariables false
set_option linter.unusedSimpArgs false

/-- How much is written, at most. -/
def Ls.sz (s : Ls) : Nat := s.told.length + 5 * s.line.length
theorem sz_put (s : Ls) (r : Nat) : (s.put r).sz ≤ s.sz + 15 := by
  unfold Ls.put Ls.sz
  split
  · cases s.mark <;> simp [markR] <;> omega
  · simp
    omega
theorem sz_fin (s : Ls) : s.fin.sz ≤ s.sz := by
  unfold Ls.fin Ls.sz
  have h1 := encL_le (trimR s.line)
  have h2 := trimR_le s.line
  by_cases h : trimR s.line = []
  · rw [if_pos h]
    simp
  · rw [if_neg h]
    have h3 := List.length_pos_iff.2 h
    simp
    omega
theorem sz_step (kept : Bool) (s : Ls) (r : Nat) : (s.step kept r).sz ≤ s.sz + 15 := by
  have h1 := sz_put s r
  have h2 := sz_fin s
  have h3 := sz_put s 32
  unfold Ls.step
  split
  · omega
  · split
    · omega
    · split <;> omega
theorem text_cons (kept : Bool) (s : Ls) (r : Nat) (rs : List Nat) : s.text kept (r :: rs) = (s.step kept r).text kept rs := rfl
theorem rns_step (l : List UInt8) (pos : Nat) (h : pos < l.length) : ∃ z u, Utf8.decode (str l) pos = (z, u) ∧ 1 ≤ u ∧ pos + u ≤ l.length ∧ rns (l.drop pos) = z :: rns (l.drop (pos + u)) := by
  cases hcr : l.drop pos with
  | nil => have := congrArg List.length hcr; rw [List.length_drop] at this; simp at this; omega
  | cons c r =>
    obtain ⟨h1, h2, _, _⟩ := dec_facts c r
    have hl : l.length - pos = r.length + 1 := by have := congrArg List.length hcr; rw [List.length_drop] at this; simpa using this
    refine ⟨(Lib.decodeL (c :: r)).1, (Lib.decodeL (c :: r)).2, ?_, h1, by omega, ?_⟩
    · have := Lib.decodeL_drop (str l) pos
      rw [show (str l).data.toList = l by simp [str], hcr] at this
      rw [← this]
    · rw [rns_cons, ← hcr, List.drop_drop]

/-- The line's last rune, in the walk's own spelling. -/
theorem PapAt.line {w : World} {lo bp : Nat} {s : Ls} (h : PapAt w lo bp s) : ∃ Al cl, w.cell? ⟨bp, 2, none⟩ = some (.slice Al s.line.length cl) ∧ ∀ m x, s.line.length = m + 1 → s.line[m]? = some x → ∃ g, Al = some ⟨g, 0, none⟩ ∧ w.cell? ⟨g, m, none⟩ = some (.int .i32 x) := by
  obtain ⟨h1, p, v, vl, h2, h3, h4, h5, h6⟩ := h
  obtain ⟨Al, cl, rfl, _, _⟩ := own_slice h6
  refine ⟨Al, cl, h3.cell 2, fun m x hm hx => ?_⟩
  rcases own_form h6 with ⟨hv, h0, _⟩ | ⟨g, cap', cur, hv, _⟩
  · omega
  · injection hv with hA
    subst hA
    have := h6.cells (g := g) rfl m (.int .i32 x) (by simp [rv, hx])
    rw [addr_lit, Nat.zero_add] at this
    exact ⟨g, rfl, this⟩

set_option maxHeartbeats 4000000 in
set_option maxRecDepth 100000 in
theorem text_any {w : World} {lo bp : Nat} {s : Ls} (h : PapAt w lo bp s) (l : List UInt8) (kept : Bool) (hn : s.sz + 15 * l.length ≤ 67108864) :
    Calls Tryd.prog 68 #[.pointer (some ⟨bp, 0, none⟩), .string (str l), .bool kept] w fun e w' => e = .returned (.tuple #[]) ∧ PapAt w' lo bp (s.text kept (rns l)) ∧ Fr lo w w' := by
  have hlt := h.lt
  have hsz := str_size l
  obtain ⟨R, hR⟩ : ∃ R, s.text kept (rns l) = R := ⟨_, rfl⟩
  rw [hR]
  have HP := Lib.hid h
  have HR := Lib.hid hR
  clear h hR
  go_enter Tryd.func68, Tryd.ntmps68
  go_wp2_with fail
  obtain ⟨W3, hW3⟩ : ∃ W3, w.iter (str l) 0 = W3 := ⟨_, rfl⟩
  rw [hW3]
  have hit0 : W3.heap[w.heap.size]? = some (.stringIter (str l) 0) := by rw [← hW3]; simpa using World.iter_heap w (str l) 0
  have hb3 : Below w.heap.size w W3 := by rw [← hW3]; exact (Below.refl _ w).alloc (Nat.le_refl _) _
  have IT0 := Lib.hid hit0
  have V3 := Lib.hid (Fr.of_below (lo := lo) hb3 (by omega))
  have P3 := Lib.hid (HP.out.behind hb3)
  clear hW3 hit0 hb3
  go_loopw [] (fun wr => ∃ (pos : Nat) (s1 : Ls), pos ≤ l.length ∧ Hid (s1.sz + 15 * (l.length - pos) ≤ 67108864) ∧ Hid (wr.heap[w.heap.size]? = some (.stringIter (str l) pos)) ∧ Hid (PapAt wr lo bp s1) ∧ Hid (s1.text kept (rns (l.drop pos)) = R) ∧ Hid (Fr lo w wr)) (fun wr => l.length - wr.iterPos w.heap.size)
  case atStart => exact ⟨0, s, Nat.zero_le _, Lib.hid (by omega), IT0, P3, Lib.hid (by rw [List.drop_zero]; exact HR.out), V3⟩
  case round =>
    obtain ⟨pos, s1, hpl, HM, HI, HPr, HK, HV⟩ := hrel
    have hm := HM.out
    by_cases hpt : pos < l.length
    · obtain ⟨z, u, hdec, hu1, hu2, hrn⟩ := rns_step l pos hpt
      have hnx : ∀ ty, (Instr.next (.pointer (some ⟨w.heap.size, 0, none⟩)) true ty).run Tryd.prog wr = .ok (.tuple #[.bool true, .int .i64 pos, .int .i32 z]) (wr.iterAt w.heap.size (str l) (pos + u)) := fun ty => by
        have := Lib.run_next_any_at (P := Tryd.prog) wr w.heap.size (str l) pos ty HI.out (by rw [hsz]; omega)
        rw [hdec] at this
        exact this
      have hit2 := Lib.iterAt_heap wr w.heap.size (str l) pos (pos + u) HI.out
      have hki : Keep (fun k => k = w.heap.size) wr (wr.iterAt w.heap.size (str l) (pos + u)) := ⟨rfl, rfl, rfl, by rw [Lib.iterAt_size]; exact Nat.le_refl _, fun k _ hk => Lib.iterAt_other wr _ k _ _ hk⟩
      have hp4 : PapAt (wr.iterAt w.heap.size (str l) (pos + u)) lo bp s1 := HPr.out.keep hki (fun k e => .inr ⟨.stringIter (str l) pos, by have e : k = w.heap.size := e; subst e; exact HI.out, fun cs t fz e => by cases e⟩)
      have hb4 : Below w.heap.size w (wr.iterAt w.heap.size (str l) (pos + u)) → True := fun _ => trivial
      have hv4 : ∀ w5, Fr lo (wr.iterAt w.heap.size (str l) (pos + u)) w5 → Fr lo w w5 ∧ w5.heap[w.heap.size]? = some (.stringIter (str l) (pos + u)) := fun w5 h5 => by
        have hi5 := h5.obj _ _ hit2 (fun cs t fz e => by cases e)
        refine ⟨⟨HV.out.below.trans ((hki.below (B := lo) (by have := HV.out.size; omega) (fun i hi e => by have : i = w.heap.size := e; omega)).trans h5.below), Nat.le_trans HV.out.size (Nat.le_trans hki.size h5.size), fun k o h1 h2 => ?_⟩, hi5⟩
        have h3 := HV.out.obj k o h1 h2
        have hk : k < w.heap.size := lt_of_heap h1
        exact h5.obj k o ((hki.block k (lt_of_heap h3) (by omega)).trans h3) h2
      have HMS := Lib.hid (show wr.iterPos w.heap.size = pos by simp [World.iterPos, HI.out])
      have hk2 := HK.out
      rw [hrn, text_cons] at hk2
      have hsp := sz_step kept s1 z
      obtain ⟨W4, hW4⟩ : ∃ W4, wr.iterAt w.heap.size (str l) (pos + u) = W4 := ⟨_, rfl⟩
      rw [hW4] at hnx hit2 hp4 hv4
      have hend : ∀ (s2 : Ls) (w5 : World), s1.step kept z = s2 → PapAt w5 lo bp s2 → Fr lo W4 w5 → (∃ (pos : Nat) (s1 : Ls), pos ≤ l.length ∧ Hid (s1.sz + 15 * (l.length - pos) ≤ 67108864) ∧ Hid (w5.heap[w.heap.size]? = some (.stringIter (str l) pos)) ∧ Hid (PapAt w5 lo bp s1) ∧ Hid (s1.text kept (rns (l.drop pos)) = R) ∧ Hid (Fr lo w w5)) ∧ l.length - w5.iterPos w.heap.size < l.length - pos := fun s2 w5 e h5 f5 => by
        obtain ⟨g1, g2⟩ := hv4 w5 f5
        subst e
        refine ⟨⟨pos + u, _, hu2, Lib.hid (by omega), g2, h5, hk2, g1⟩, ?_⟩
        have : w5.iterPos w.heap.size = pos + u := by simp [World.iterPos, g2]
        omega
      have HEND := Lib.hid hend
      have HP4 := Lib.hid hp4
      have KE := Lib.hid (end_any hp4 (by unfold Ls.sz at hm; omega))
      have KP := Lib.hid (fun r => put_any hp4 r (by unfold Ls.sz at hm; omega))
      have hll : s1.line.length ≤ 67108864 := by unfold Ls.sz at hm; omega
      clear hW4 hit2 hp4 hv4 hdec hrn hki hb4 hk2 hend hsp
      cases kept with
      | true =>
        by_cases q0 : z = 10
        · have f0 : ((z : Int) == 10) = true := by rw [q0]; rfl
          go_wp2_with fail
          refine KE.out.mono ?_
          rintro e w5 ⟨rfl, h5, f5⟩
          have hq := HEND.out _ w5 (by subst q0; rfl) h5 f5
          have HQ := Lib.hid hq
          clear hq h5 f5
          go_wp2
          go_roundw
          case rel => exact HQ.out.1
          case measure => rw [HMS.out]; exact HQ.out.2
        · have f0 : ((z : Int) == 10) = false := by rw [beq_eq_false_iff_ne]; omega
          go_wp2_with fail
          refine (KP.out z).mono ?_
          rintro e w5 ⟨rfl, h5, f5⟩
          have hq := HEND.out _ w5 (by unfold Ls.step; rw [if_neg (by simp [q0]), if_pos (by simp)]) h5 f5
          have HQ := Lib.hid hq
          clear hq h5 f5
          go_wp2
          go_roundw
          case rel => exact HQ.out.1
          case measure => rw [HMS.out]; exact HQ.out.2
      | false =>
        by_cases q0 : whiteR z = true
        case neg =>
          obtain ⟨n1, n2, n3, n4⟩ : z ≠ 9 ∧ z ≠ 10 ∧ z ≠ 12 ∧ z ≠ 32 := by
            unfold whiteR at q0
            simp at q0
            exact ⟨q0.1.1.1, q0.1.1.2, q0.1.2, q0.2⟩
          have f1 : ((z : Int) != 9) = true := by simp; omega
          have f2 : ((z : Int) != 10) = true := by simp; omega
          have f3 : ((z : Int) != 12) = true := by simp; omega
          have f4 : ((z : Int) != 32) = true := by simp; omega
          go_wp2_with fail
          refine (KP.out z).mono ?_
          rintro e w5 ⟨rfl, h5, f5⟩
          have hq := HEND.out _ w5 (by unfold Ls.step; rw [if_neg (by simp), if_pos (by simp [q0])]) h5 f5
          have HQ := Lib.hid hq
          clear hq h5 f5
          go_wp2
          go_roundw
          case rel => exact HQ.out.1
          case measure => rw [HMS.out]; exact HQ.out.2
        case pos =>
          have hz : z = 9 ∨ z = 10 ∨ z = 12 ∨ z = 32 := by
            unfold whiteR at q0
            simp at q0
            omega
          have hst : s1.step false z = if solid s1.line = true then s1.put 32 else s1 := by
            unfold Ls.step
            rw [if_neg (by simp), if_neg (by simp [q0])]
          have HST := Lib.hid hst
          obtain ⟨Al, cl, x2, hlast⟩ := HP4.out.line
          have hblt := HP4.out.lt.2
          have HHZ := Lib.hid hz
          have HPQ := Lib.hid (fun q => And.intro (HP4.out.behind (below_drewN (Below.refl _ W4) q)) (Fr.of_below (lo := lo) (below_drewN (Below.refl _ W4) q) (by omega)))
          have KPQ := Lib.hid (fun q => put_any (HPQ.out q).1 32 (by omega))
          cases hgl : s1.line.getLast? with
          | none =>
            have hl0 : s1.line = [] := List.getLast?_eq_none_iff.1 hgl
            have hs0 : solid s1.line = false := by unfold solid; rw [hgl]
            have hq := fun q => HEND.out s1 (W4.drewN q) (by rw [HST.out, hs0]; rfl) (HPQ.out q).1 (HPQ.out q).2
            have HQ := Lib.hid hq
            rw [hl0] at x2
            clear hq hlast hst hgl hs0 hl0 hz
            rcases HHZ.out with rfl | rfl | rfl | rfl
            all_goals
              go_wp2
              go_quiet (fail)
              go_wp2
              go_roundw
              case rel => exact (HQ.out _).1
              case measure => rw [HMS.out]; exact (HQ.out _).2
          | some x =>
            obtain ⟨m, hm1⟩ : ∃ m, s1.line.length = m + 1 := ⟨s1.line.length - 1, by cases hc : s1.line with | nil => rw [hc] at hgl; simp at hgl | cons a r => simp⟩
            have hx : s1.line[m]? = some x := by rw [List.getLast?_eq_getElem?, hm1] at hgl; simpa using hgl
            obtain ⟨g, rfl, hgx⟩ := hlast m x hm1 hx
            have hgl2 := World.block_lt_of_cell? W4 _ hgx
            have hso : solid s1.line = !blankR x := by unfold solid; rw [hgl]
            rw [hm1] at x2 hll
            have e1 : ((m + 1 : Nat) : Int) - 1 = (m : Int) := by omega
            have e2 : (m : Int) + 1 - 1 = (m : Int) := by omega
            have i1 : (0 : Int) ≤ (m : Int) := by omega
            have i2 : (m : Int) < (m : Int) + 1 := by omega
            have i3 : decide ((0 : Int) < (m : Int) + 1) = true := decide_eq_true (by omega)
            clear hlast hst hgl hx hz
            by_cases y1 : x = 32
            · subst y1
              have hq := fun q => HEND.out s1 (W4.drewN q) (by rw [HST.out, hso]; rfl) (HPQ.out q).1 (HPQ.out q).2
              have HQ := Lib.hid hq
              clear hq hso
              rcases HHZ.out with rfl | rfl | rfl | rfl
              all_goals
                go_wp2
                go_quiet (fail)
                go_wp2
                go_roundw
                case rel => exact (HQ.out _).1
                case measure => rw [HMS.out]; exact (HQ.out _).2
            · by_cases y2 : x = 9
              · subst y2
                have hq := fun q => HEND.out s1 (W4.drewN q) (by rw [HST.out, hso]; rfl) (HPQ.out q).1 (HPQ.out q).2
                have HQ := Lib.hid hq
                clear hq hso
                rcases HHZ.out with rfl | rfl | rfl | rfl
                all_goals
                  go_wp2
                  go_quiet (fail)
                  go_wp2
                  go_roundw
                  case rel => exact (HQ.out _).1
                  case measure => rw [HMS.out]; exact (HQ.out _).2
              · have hs1 : solid s1.line = true := by rw [hso]; unfold blankR; simp [y1, y2]
                have HS1 := Lib.hid (show s1.step false z = s1.put 32 by rw [HST.out, if_pos hs1])
                have j1 : ((x : Int) != 32) = true := by simp; omega
                have j2 : ((x : Int) != 9) = true := by simp; omega
                clear hso hs1 HST
                rcases HHZ.out with rfl | rfl | rfl | rfl
                all_goals
                  go_wp2
                  go_quiet (fail)
                  go_wp2_with fail
                  refine (KPQ.out _).mono ?_
                  rintro e w5 ⟨rfl, h5, f5⟩
                  have hq := HEND.out _ w5 HS1.out h5 ((HPQ.out _).2.trans f5)
                  have HQ := Lib.hid hq
                  clear hq h5 f5
                  go_wp2
                  go_roundw
                  case rel => exact HQ.out.1
                  case measure => rw [HMS.out]; exact HQ.out.2
    · have hnx : ∀ ty, (Instr.next (.pointer (some ⟨w.heap.size, 0, none⟩)) true ty).run Tryd.prog wr = .ok (.tuple #[.bool false]) wr := fun ty => Lib.run_next_end_at (P := Tryd.prog) wr w.heap.size (str l) pos ty HI.out (by rw [hsz]; omega)
      obtain rfl : s1 = R := by
        have := HK.out
        rw [List.drop_eq_nil_of_le (by omega), rns_nil] at this
        exact this
      go_wp2
      go_end0
      exact ⟨rfl, HPr.out, HV.out⟩
end Go.Proofs.YtcogoiphpfgkdaaDoor
