/-
  The program's paper: end.
-/
import Derived.Test.YtcogoiphpfgkdaaDoorPaper
import Derived.Test.YtcogoiphpfgkdaaDoorTrim
import Derived.Test.YtcogoiphpfgkdaaDoorMarkupYield
namespace Go.Proofs.YtcogoiphpfgkdaaDoor
open Go.RowKit
set_option linter.unusedVariables false
set_option linter.unusedSimpArgs false

set_option maxRecDepth 100000 in
/-- 'string(line[:n])'. -/
theorem conv_line {w : World} {lo : Nat} {Al : Option Addr} {cl : Nat} {line : List Nat} (hl : w.ownsRow lo 21 1 (.slice Al line.length cl) line.length (rv line)) (n cap : Nat) (hn : n ≤ line.length) :
    (convert 69 9 (.slice Al n cap)).run Tryd.prog w = .ok (.string (str (encL (line.take n)))) w := by
  rcases own_form hl with ⟨hv, h0, _⟩ | ⟨g, cap', cur, hv, _⟩
  · injection hv with hA
    subst hA
    have hn0 : n = 0 := by omega
    subst hn0
    exact run_convert_runes_nil w _ _ _ 0 cap Tryd.underlying69 Tryd.underlying21 Tryd.underlying9
  · injection hv with hA
    subst hA
    have hc := hl.cells (g := g) rfl
    have h := run_convert_runes (P := Tryd.prog) w 69 9 21 ⟨g, 0, none⟩ n cap (line.map fun (r : Nat) => (r : Int)) (by simpa using hn) Tryd.underlying69 Tryd.underlying21 Tryd.underlying9 (fun j hj => ?_)
    · rw [h, ← List.map_take, runesBytes_eq]
    · have hj' : j < line.length := by simpa using hj
      have := hc j (.int .i32 (line[j] : Nat)) (by simp [rv, hj'])
      rw [this]
      simp [hj']
theorem trimRight_any (l : List UInt8) (w : World) (hl : l.length ≤ 1099511627776) :
    Calls Tryd.prog 71 #[.string (str l), .string ⟨#[32, 9]⟩] w fun e w' => e = .returned (.string (str (Lib.trimRightS l [32, 9]))) ∧ Below w.heap.size w w' :=
  Any.strings_TrimRight_laid Tryd.lays162 (by kernel_rfl) (str l) ⟨#[32, 9]⟩ w (by rw [str_size]; omega) (by decide) (by intro j b hb; match j, hb with | 0, hb => (obtain rfl := Option.some.inj hb; decide) | 1, hb => (obtain rfl := Option.some.inj hb; decide) | j + 2, hb => (simp at hb))

theorem trimR_le (l : List Nat) : (trimR l).length ≤ l.length := by
  unfold trimR
  have := (List.dropWhile_sublist blankR (l := l.reverse)).length_le
  simpa using this

set_option maxHeartbeats 2000000 in
set_option maxRecDepth 100000 in
theorem end_any {w : World} {lo bp : Nat} {s : Ls} (h : PapAt w lo bp s) (hn : s.told.length + 4 * s.line.length ≤ 1073741824) :
    Calls Tryd.prog 49 #[.pointer (some ⟨bp, 0, none⟩)] w fun e w' => e = .returned (.tuple #[]) ∧ PapAt w' lo bp s.fin ∧ Fr lo w w' := by
  have hlt := h.lt
  obtain ⟨hlo, p, v, vl, hp, hb, hu, hnil, hl⟩ := h
  obtain ⟨told, line, mark⟩ := s
  simp only at hb hu hnil hl hn
  obtain ⟨Al, cl, rfl, _, _⟩ := own_slice hl
  have x2 := hb.cell 2
  simp only [List.getElem?_toArray, List.getElem?_cons_zero, List.getElem?_cons_succ] at x2
  have hcv := conv_line hl line.length cl (Nat.le_refl _)
  rw [List.take_length] at hcv
  have hel := encL_le line
  have htl := trimR_le line
  have hel2 := encL_le (trimR line)
  have K := Lib.hid (trimRight_any (encL line) w (by omega))
  rw [trim_law] at K
  obtain ⟨n, hln⟩ : ∃ n, line.length = n := ⟨_, rfl⟩
  obtain ⟨le, hle⟩ : ∃ x, encL line = x := ⟨_, rfl⟩
  obtain ⟨y, hy⟩ : ∃ x, encL (trimR line) = x := ⟨_, rfl⟩
  rw [hln] at x2
  rw [hln, hle] at hcv
  rw [hle, hy] at K
  rw [hy] at hel2
  have hfin : (⟨told, line, mark⟩ : Ls).fin = ⟨if y = [] then told else told ++ (y ++ [10]), [], mark⟩ := by
    unfold Ls.fin
    simp only [← encL_nil (l := trimR line), hy]
  rw [hfin]
  have HB := Lib.hid hb
  have HU := Lib.hid hu
  have HP := Lib.hid hp
  have HNIL := Lib.hid hnil
  have hyl : y.length ≤ 4 * n := by omega
  rw [hln] at hn
  clear hb hu hp hnil hl hfin hy hle hel htl hel2 hln
  by_cases hy0 : y = []
  · subst hy0
    rw [if_pos rfl]
    go_enter Tryd.func49, Tryd.ntmps49
    go_wp2_with fail
    refine K.out.mono ?_
    rintro e w1 ⟨rfl, hb1⟩
    have hB1 := HB.out.below hb1 HB.out.lt
    have g2 := hB1.frozen 2
    have y2 := hB1.cell 2
    simp only [List.getElem?_toArray, List.getElem?_cons_zero, List.getElem?_cons_succ] at y2
    have HB1 := Lib.hid hB1
    have V1 := Lib.hid hb1
    clear hB1 hb1
    go_wp2
    go_end0
    have hk : Keep (fun k => k = bp) w (w1.setCell ⟨bp, 2, none⟩ (.slice none 0 0)) := (Keep.of_below V1.out (fun k => k = bp)).setCell (p := ⟨bp, 2, none⟩) (.inl rfl) _
    refine ⟨rfl, ⟨hlo, p, v, .slice none 0 0, HP.out, HB1.out.set_ 2 _, ownF_keep HU.out hk (fun k e e2 => ?_), HNIL.out, World.ownsRow_nil _ _ _ _⟩, Fr.of_keep hk (Nat.le_trans hlo (Nat.le_of_lt hlt.2)) (fun k e => ?_)⟩
    · subst e2
      exact ownF_not HU.out HB.out (fun cs fz e => by cases e) e
    · subst e
      exact ⟨hlo, fun o ho => ⟨_, _, _, Option.some.inj (ho.symm.trans HB.out), .inl rfl⟩⟩
  · rw [if_neg hy0]
    have q0 : (y == []) = false := by simpa using hy0
    have e1 : str y ++ (⟨#[10]⟩ : ByteArray) = str (y ++ [10]) := str_append y [10]
    have z1 : (str y).size ≤ 4294967296 := by rw [str_size]; omega
    obtain ⟨y1, hy1⟩ : ∃ y1, y ++ [10] = y1 := ⟨_, rfl⟩
    rw [hy1] at e1 ⊢
    have hy1l : y1.length ≤ 4 * n + 1 := by rw [← hy1]; simp; omega
    have hy1n : y1 ≠ [] := by rw [← hy1]; simp
    go_enter Tryd.func49, Tryd.ntmps49
    go_wp2_with fail
    refine K.out.mono ?_
    rintro e w1 ⟨rfl, hb1⟩
    have hB1 := HB.out.below hb1 HB.out.lt
    have hu1 := ownF_keep HU.out (Keep.of_below hb1 (fun _ => False)) (fun _ _ h => h)
    have K2 := Lib.hid (writeString4_any hlo HP.out hB1 hu1 y1 (by omega))
    have HB1 := Lib.hid hB1
    have HU1 := Lib.hid hu1
    have V1 := Lib.hid hb1
    clear hB1 hb1 hu1
    go_wp2_with fail
    refine K2.out.mono ?_
    rintro e w2 ⟨rfl, v2, hB2, hu2, hk2⟩
    have g2 := hB2.frozen 2
    have y2 := hB2.cell 2
    simp only [List.getElem?_toArray, List.getElem?_cons_zero, List.getElem?_cons_succ] at y2
    have HB2 := Lib.hid hB2
    have HU2 := Lib.hid hu2
    have HK2 := Lib.hid hk2
    clear hB2 hu2 hk2
    go_wp2
    go_end0
    have hk : Keep (fun k => k = bp ∨ v.ownBlock = some k) w (w2.setCell ⟨bp, 2, none⟩ (.slice none 0 0)) := ((Keep.of_below V1.out (fun k => k = bp ∨ v.ownBlock = some k)).trans_ HK2.out (fun i _ h => h)).setCell (p := ⟨bp, 2, none⟩) (.inl (.inl rfl)) _
    refine ⟨rfl, ⟨hlo, _, v2, .slice none 0 0, .inr rfl, HB2.out.set_ 2 _, ownF_keep HU2.out ((Keep.refl (fun k => k = bp) w2).setCell (p := ⟨bp, 2, none⟩) (.inl rfl) _) (fun k e e2 => ?_), fun h => ?_, World.ownsRow_nil _ _ _ _⟩, Fr.of_keep hk (Nat.le_trans hlo (Nat.le_of_lt hlt.2)) (fun k e => ?_)⟩
    · subst e2
      exact ownF_not HU2.out HB2.out (fun cs fz e => by cases e) e
    · exact absurd h (by simp [hy1n])
    · rcases e with rfl | e
      · exact ⟨hlo, fun o ho => ⟨_, _, _, Option.some.inj (ho.symm.trans HB.out), .inl rfl⟩⟩
      · rcases HU.out.2 with ⟨rfl, _⟩ | ⟨g, cap, cur, fz, rfl, h1, hg, _⟩
        · simp [Value.ownBlock] at e
        · obtain rfl : g = k := by simpa [Value.ownBlock] using e
          exact ⟨h1, fun o ho => ⟨_, _, _, Option.some.inj (ho.symm.trans hg), .inr (.inr (.inl rfl))⟩⟩
end Go.Proofs.YtcogoiphpfgkdaaDoor
