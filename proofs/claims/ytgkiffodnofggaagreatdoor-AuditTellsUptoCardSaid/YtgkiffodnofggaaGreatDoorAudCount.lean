/-
  The contracts of Count of findings, the program's and the reference's.
-/
import Derived.Test.YtgkiffodnofggaaGreatDoorAudFind
namespace Go.Proofs.YtgkiffodnofggaaGreatDoor
open Go.RowKit
set_option linter.unusedVariables false
set_option linter.unusedSimpArgs false

/-- How often each of the ten reasons comes. -/
def cnW (ws : List Int) : List Int := (List.range 10).map fun (i : Nat) => (ws.count (i : Int) : Int)
theorem cnW_length (ws : List Int) : (cnW ws).length = 10 := by simp [cnW]
theorem cnW_get (ws : List Int) (n : Nat) (h : n < 10) : (cnW ws)[n]? = some (ws.count (n : Int) : Int) := by simp [cnW, h]
theorem cnW_in (ws : List Int) (n : Nat) (h : n < 10) : cnW (ws ++ [(n : Int)]) = (cnW ws).set n ((ws.count (n : Int) : Int) + 1) := by
  apply List.ext_getElem?
  intro i
  by_cases hi : i < 10
  · rw [cnW_get _ i hi, List.getElem?_set, List.count_append, List.count_singleton]
    by_cases e : n = i
    · subst e
      simp [cnW_length, h]
    · rw [if_neg e, cnW_get _ i hi]
      have : ((n : Int) == (i : Int)) = false := by rw [beq_eq_false_iff_ne]; omega
      simp [this]
  · rw [List.getElem?_eq_none (by rw [cnW_length]; omega), List.getElem?_eq_none (by rw [List.length_set, cnW_length]; omega)]
theorem cnW_out (ws : List Int) (y : Int) (h : y < 0 ∨ 10 ≤ y) : cnW (ws ++ [y]) = cnW ws := by
  apply List.ext_getElem?
  intro i
  by_cases hi : i < 10
  · rw [cnW_get _ i hi, cnW_get _ i hi, List.count_append, List.count_singleton]
    have : (y == (i : Int)) = false := by rw [beq_eq_false_iff_ne]; omega
    simp [this]
  · rw [List.getElem?_eq_none (by rw [cnW_length]; omega), List.getElem?_eq_none (by rw [cnW_length]; omega)]
theorem ten {l : List Int} (h : l.length = 10) : ∃ a b c d e f g i j k, l = [a, b, c, d, e, f, g, i, j, k] := by
  match l, h with
  | [a, b, c, d, e, f, g, i, j, k], _ => exact ⟨_, _, _, _, _, _, _, _, _, _, rfl⟩

theorem set10 {w : World} {g : Nat} {t : TypeId} {z0 z1 z2 z3 z4 z5 z6 z7 z8 z9 : Value} (h : Blk w g t #[z0, z1, z2, z3, z4, z5, z6, z7, z8, z9]) (a0 a1 a2 a3 a4 a5 a6 a7 a8 a9 : Value) :
    ∃ WF, ((((((((((w.setCell ⟨g, 0, none⟩ a0).setCell ⟨g, 1, none⟩ a1).setCell ⟨g, 2, none⟩ a2).setCell ⟨g, 3, none⟩ a3).setCell ⟨g, 4, none⟩ a4).setCell ⟨g, 5, none⟩ a5).setCell ⟨g, 6, none⟩ a6).setCell ⟨g, 7, none⟩ a7).setCell ⟨g, 8, none⟩ a8).setCell ⟨g, 9, none⟩ a9) = WF ∧
      Blk WF g t #[a0, a1, a2, a3, a4, a5, a6, a7, a8, a9] ∧ Keep (fun k => k = g) w WF :=
  by
    refine ⟨_, rfl, ?_, ((((((((((Keep.refl (fun k => k = g) w).setCell (p := ⟨g, 0, none⟩) (.inl rfl) _).setCell (p := ⟨g, 1, none⟩) (.inl rfl) _).setCell (p := ⟨g, 2, none⟩) (.inl rfl) _).setCell (p := ⟨g, 3, none⟩) (.inl rfl) _).setCell (p := ⟨g, 4, none⟩) (.inl rfl) _).setCell (p := ⟨g, 5, none⟩) (.inl rfl) _).setCell (p := ⟨g, 6, none⟩) (.inl rfl) _).setCell (p := ⟨g, 7, none⟩) (.inl rfl) _).setCell (p := ⟨g, 8, none⟩) (.inl rfl) _).setCell (p := ⟨g, 9, none⟩) (.inl rfl) _⟩
    have := (((((((((h.set_ 0 a0).set_ 1 a1).set_ 2 a2).set_ 3 a3).set_ 4 a4).set_ 5 a5).set_ 6 a6).set_ 7 a7).set_ 8 a8).set_ 9 a9
    simpa only [List.setIfInBounds_toArray, List.set_cons_zero, List.set_cons_succ] using this

set_option maxHeartbeats 8000000 in
set_option maxRecDepth 100000 in
theorem tcount_any (S : Nat → Prop) (A : Option Addr) (cp : Nat) (L : List Fd) (w : World) (hr : Row S w 5 A L.length (L.flatMap fdCells)) (hS : ∀ k, S k → k < w.heap.size) (hn : L.length ≤ 1048576) :
    Calls Tryz.prog 6 #[.slice A L.length cp] w fun e w' => e = .returned (.agg (iv (cnW (L.map Fd.why))).toArray) ∧ Below w.heap.size w w' := by
  have HR := Lib.hid hr
  have HS := Lib.hid hS
  clear hr hS
  go_enter Tryz.func6, Tryz.ntmps6
  go_wp2_with fail
  obtain ⟨W0, hW0⟩ : ∃ W0, w.alloc (.cells #[.int .i64 0, .int .i64 0, .int .i64 0, .int .i64 0, .int .i64 0, .int .i64 0, .int .i64 0, .int .i64 0, .int .i64 0, .int .i64 0] 26) = W0 := ⟨_, rfl⟩
  obtain ⟨W1, hW1⟩ : ∃ W1, W0.alloc (.cells #[.int .i64 0, .int .i64 0, .int .i64 0, .int .i64 0, .int .i64 0, .int .i64 0, .int .i64 0, .int .i64 0, .int .i64 0, .int .i64 0] 26) = W1 := ⟨_, rfl⟩
  rw [hW0, hW1]
  have hZ0 : Blk W0 w.heap.size 26 #[.int .i64 0, .int .i64 0, .int .i64 0, .int .i64 0, .int .i64 0, .int .i64 0, .int .i64 0, .int .i64 0, .int .i64 0, .int .i64 0] := by rw [← hW0]; exact Blk.new _ _ _
  have hS0 : W0.heap.size = w.heap.size + 1 := by rw [← hW0, World.size_alloc]
  have hb0 : Below w.heap.size w W0 := by rw [← hW0]; exact (Below.refl _ w).alloc (Nat.le_refl _) _
  have hZ1 : Blk W1 w.heap.size 26 #[.int .i64 0, .int .i64 0, .int .i64 0, .int .i64 0, .int .i64 0, .int .i64 0, .int .i64 0, .int .i64 0, .int .i64 0, .int .i64 0] := by rw [← hW1]; exact hZ0.alloc _
  have hC1 : Blk W1 (w.heap.size + 1) 26 (iv (cnW ((L.take 0).map Fd.why))).toArray := by rw [← hW1]; exact Blk.new_at _ _ hS0
  have hb1 : Below w.heap.size w W1 := by rw [← hW1]; exact hb0.alloc (by omega) _
  have Z1 := Lib.hid hZ1
  have C1 := Lib.hid hC1
  have B1 := Lib.hid hb1
  clear hW0 hW1 hZ0 hS0 hb0 hZ1 hC1 hb1
  go_loopw [8] (fun x wr => ∃ k : Nat, k ≤ L.length ∧ x = .int .i64 (k : Int) ∧ Hid (Blk wr (w.heap.size + 1) 26 (iv (cnW ((L.take k).map Fd.why))).toArray) ∧ Hid (Blk wr w.heap.size 26 #[.int .i64 0, .int .i64 0, .int .i64 0, .int .i64 0, .int .i64 0, .int .i64 0, .int .i64 0, .int .i64 0, .int .i64 0, .int .i64 0]) ∧ Hid (Below w.heap.size w wr)) (fun x _ => L.length - (intOf x).toNat)
  case atStart => exact ⟨0, Nat.zero_le _, rfl, C1, Z1, B1⟩
  case round =>
    obtain ⟨k, hk, rfl, HC, HZ, HB⟩ := hrel
    by_cases hlt : k < L.length
    · obtain ⟨f, hf⟩ : ∃ f, L[k]? = some f := ⟨_, List.getElem?_eq_getElem hlt⟩
      obtain ⟨ad, rfl, hsa, hsa2, c0, cj⟩ := (HR.out.below HB.out HS.out).walk fdCells_length (by decide) rfl hf
      have x0 := c0 _ rfl
      have x1 := cj 0 _ rfl
      have x2 := cj 1 _ rfl
      have x3 := cj 2 _ rfl
      have x4 := cj 3 _ rfl
      have htk : (L.take (k + 1)).map Fd.why = (L.take k).map Fd.why ++ [f.why] := by rw [List.take_add_one, hf]; simp
      have HT := Lib.hid htk
      have i0 : (0 : Int) ≤ (k : Int) := by omega
      have i1 : (k : Int) < (L.length : Int) := by omega
      have hsz := HB.out.size
      have hcl := HC.out.lt
      have hwl : ((L.take k).map Fd.why).length ≤ 1048576 := by simp; omega
      obtain ⟨ws, hws⟩ : ∃ ws, (L.take k).map Fd.why = ws := ⟨_, rfl⟩
      rw [hws] at HC HT hwl
      clear c0 cj hf htk hws
      by_cases hy : 0 ≤ f.why ∧ f.why < 10
      · obtain ⟨n, hn2⟩ : ∃ n : Nat, f.why = n := ⟨f.why.toNat, by omega⟩
        have hn9 : n < 10 := by omega
        have hct := count_le_length ws (n : Int)
        have hnx := cnW_in ws n hn9
        rw [hn2] at HT
        rw [← HT.out] at hnx
        have HN := Lib.hid hnx
        have g1 := HC.out.cell n
        have e1 : (iv (cnW ws)).toArray[n]? = some (.int .i64 (ws.count (n : Int) : Int)) := by rw [List.getElem?_toArray, iv, List.getElem?_map, cnW_get ws n hn9]; rfl
        rw [e1] at g1
        have g2 := HC.out.frozen n
        obtain ⟨c, hc⟩ : ∃ c : Int, ((ws.count (n : Int) : Nat) : Int) = c := ⟨_, rfl⟩
        have hc0 : 0 ≤ c := by omega
        have hc1 : c ≤ 1048576 := by omega
        rw [hc] at g1
        have HCC := Lib.hid hc
        have y0 : (0 : Int) ≤ (n : Int) := by omega
        have y1 : (n : Int) < 10 := by omega
        have HN2 := Lib.hid hn2
        rw [hn2] at x3
        clear hnx e1 hc hct hn2 hy
        go_wp2
        go_roundw
        case rel =>
          refine ⟨k + 1, by omega, by go_num, ?_, ?_, ?_⟩
          · have h := (HC.out.set_ n (.int .i64 (c + 1))).alloc (.cells #[.int .i64 f.byte, .int .i64 f.line, .int .i64 f.col, .int .i64 (n : Int), .string (str f.name)] 38)
            rw [HN.out, HCC.out]
            have e : (iv ((cnW ws).set n (c + 1))).toArray = (iv (cnW ws)).toArray.setIfInBounds n (.int .i64 (c + 1)) := by simp [iv]
            rw [e]
            exact h
          · exact Lib.hid ((HZ.out.far (p := ⟨w.heap.size + 1, n, none⟩) (by simp) _).alloc _)
          · exact Lib.hid ((HB.out.setCell (p := ⟨w.heap.size + 1, n, none⟩) (by simp) _).alloc (by simp [World.setCell]; omega) _)
        case measure => simp [intOf]; omega
      · have hnx := cnW_out ws f.why (by omega)
        rw [← HT.out] at hnx
        have HN := Lib.hid hnx
        clear hnx
        by_cases hy0 : f.why < 0
        · clear hy
          go_wp2
          go_roundw
          case rel => exact ⟨k + 1, by omega, by go_num, by rw [HN.out]; exact HC.out.alloc _, HZ.out.alloc _, HB.out.alloc hsz _⟩
          case measure => simp [intOf]; omega
        · have hy1 : 10 ≤ f.why := by omega
          have hy2 : 0 ≤ f.why := by omega
          clear hy hy0
          go_wp2
          go_roundw
          case rel => exact ⟨k + 1, by omega, by go_num, by rw [HN.out]; exact HC.out.alloc _, HZ.out.alloc _, HB.out.alloc hsz _⟩
          case measure => simp [intOf]; omega
    · have hkl : k = L.length := by omega
      subst hkl
      have hc := HC.out
      rw [List.take_length] at hc
      obtain ⟨cs, hcs⟩ : ∃ cs, cnW (L.map Fd.why) = cs := ⟨_, rfl⟩
      have hl := cnW_length (L.map Fd.why)
      rw [hcs] at hc hl
      obtain ⟨a0, a1, a2, a3, a4, a5, a6, a7, a8, a9, rfl⟩ := ten hl
      simp only [iv, List.map_cons, List.map_nil] at hc
      have HCS := Lib.hid hcs
      have c0 := hc.cell 0
      have c1 := hc.cell 1
      have c2 := hc.cell 2
      have c3 := hc.cell 3
      have c4 := hc.cell 4
      have c5 := hc.cell 5
      have c6 := hc.cell 6
      have c7 := hc.cell 7
      have c8 := hc.cell 8
      have c9 := hc.cell 9
      simp only [List.getElem?_toArray, List.getElem?_cons_succ, List.getElem?_cons_zero] at c0 c1 c2 c3 c4 c5 c6 c7 c8 c9
      have z0 := HZ.out.cell 0
      have z1 := HZ.out.cell 1
      have z2 := HZ.out.cell 2
      have z3 := HZ.out.cell 3
      have z4 := HZ.out.cell 4
      have z5 := HZ.out.cell 5
      have z6 := HZ.out.cell 6
      have z7 := HZ.out.cell 7
      have z8 := HZ.out.cell 8
      have z9 := HZ.out.cell 9
      simp only [List.getElem?_toArray, List.getElem?_cons_succ, List.getElem?_cons_zero] at z0 z1 z2 z3 z4 z5 z6 z7 z8 z9
      have f0 := HZ.out.frozen 0
      have f1 := HZ.out.frozen 1
      have f2 := HZ.out.frozen 2
      have f3 := HZ.out.frozen 3
      have f4 := HZ.out.frozen 4
      have f5 := HZ.out.frozen 5
      have f6 := HZ.out.frozen 6
      have f7 := HZ.out.frozen 7
      have f8 := HZ.out.frozen 8
      have f9 := HZ.out.frozen 9
      clear hc hl hcs HC
      go_wp2
      obtain ⟨WF, hWF, hbF, hkF⟩ := set10 HZ.out (.int .i64 a0) (.int .i64 a1) (.int .i64 a2) (.int .i64 a3) (.int .i64 a4) (.int .i64 a5) (.int .i64 a6) (.int .i64 a7) (.int .i64 a8) (.int .i64 a9)
      rw [hWF]
      clear hWF c0 c1 c2 c3 c4 c5 c6 c7 c8 c9 z0 z1 z2 z3 z4 z5 z6 z7 z8 z9 f0 f1 f2 f3 f4 f5 f6 f7 f8 f9
      have y0 := hbF.cell 0
      have y1 := hbF.cell 1
      have y2 := hbF.cell 2
      have y3 := hbF.cell 3
      have y4 := hbF.cell 4
      have y5 := hbF.cell 5
      have y6 := hbF.cell 6
      have y7 := hbF.cell 7
      have y8 := hbF.cell 8
      have y9 := hbF.cell 9
      simp only [List.getElem?_toArray, List.getElem?_cons_succ, List.getElem?_cons_zero] at y0 y1 y2 y3 y4 y5 y6 y7 y8 y9
      refine bodyPost_ret (v := .agg #[.int .i64 a0, .int .i64 a1, .int .i64 a2, .int .i64 a3, .int .i64 a4, .int .i64 a5, .int .i64 a6, .int .i64 a7, .int .i64 a8, .int .i64 a9]) (by simp [results, Tryz.results6, go_sem, y0, y1, y2, y3, y4, y5, y6, y7, y8, y9]) rfl ⟨by rw [HCS.out]; rfl, HB.out.trans (hkF.below (B := w.heap.size) HB.out.size (fun i hi e => by omega))⟩
set_option maxHeartbeats 8000000 in
set_option maxRecDepth 100000 in
theorem rcount_any (S : Nat → Prop) (A : Option Addr) (cp : Nat) (L : List Fd) (w : World) (hr : Row S w 5 A L.length (L.flatMap fdCells)) (hS : ∀ k, S k → k < w.heap.size) (hn : L.length ≤ 1048576) :
    Calls Tryz.prog 7 #[.slice A L.length cp] w fun e w' => e = .returned (.agg (iv (cnW (L.map Fd.why))).toArray) ∧ Below w.heap.size w w' := by
  have HR := Lib.hid hr
  have HS := Lib.hid hS
  clear hr hS
  go_enter Tryz.func7, Tryz.ntmps7
  go_wp2_with fail
  obtain ⟨W0, hW0⟩ : ∃ W0, w.alloc (.cells #[.int .i64 0, .int .i64 0, .int .i64 0, .int .i64 0, .int .i64 0, .int .i64 0, .int .i64 0, .int .i64 0, .int .i64 0, .int .i64 0] 26) = W0 := ⟨_, rfl⟩
  obtain ⟨W1, hW1⟩ : ∃ W1, W0.alloc (.cells #[.int .i64 0, .int .i64 0, .int .i64 0, .int .i64 0, .int .i64 0, .int .i64 0, .int .i64 0, .int .i64 0, .int .i64 0, .int .i64 0] 26) = W1 := ⟨_, rfl⟩
  rw [hW0, hW1]
  have hZ0 : Blk W0 w.heap.size 26 #[.int .i64 0, .int .i64 0, .int .i64 0, .int .i64 0, .int .i64 0, .int .i64 0, .int .i64 0, .int .i64 0, .int .i64 0, .int .i64 0] := by rw [← hW0]; exact Blk.new _ _ _
  have hS0 : W0.heap.size = w.heap.size + 1 := by rw [← hW0, World.size_alloc]
  have hb0 : Below w.heap.size w W0 := by rw [← hW0]; exact (Below.refl _ w).alloc (Nat.le_refl _) _
  have hZ1 : Blk W1 w.heap.size 26 #[.int .i64 0, .int .i64 0, .int .i64 0, .int .i64 0, .int .i64 0, .int .i64 0, .int .i64 0, .int .i64 0, .int .i64 0, .int .i64 0] := by rw [← hW1]; exact hZ0.alloc _
  have hC1 : Blk W1 (w.heap.size + 1) 26 (iv (cnW ((L.take 0).map Fd.why))).toArray := by rw [← hW1]; exact Blk.new_at _ _ hS0
  have hb1 : Below w.heap.size w W1 := by rw [← hW1]; exact hb0.alloc (by omega) _
  have Z1 := Lib.hid hZ1
  have C1 := Lib.hid hC1
  have B1 := Lib.hid hb1
  clear hW0 hW1 hZ0 hS0 hb0 hZ1 hC1 hb1
  go_loopw [8] (fun x wr => ∃ k : Nat, k ≤ L.length ∧ x = .int .i64 (k : Int) ∧ Hid (Blk wr (w.heap.size + 1) 26 (iv (cnW ((L.take k).map Fd.why))).toArray) ∧ Hid (Blk wr w.heap.size 26 #[.int .i64 0, .int .i64 0, .int .i64 0, .int .i64 0, .int .i64 0, .int .i64 0, .int .i64 0, .int .i64 0, .int .i64 0, .int .i64 0]) ∧ Hid (Below w.heap.size w wr)) (fun x _ => L.length - (intOf x).toNat)
  case atStart => exact ⟨0, Nat.zero_le _, rfl, C1, Z1, B1⟩
  case round =>
    obtain ⟨k, hk, rfl, HC, HZ, HB⟩ := hrel
    by_cases hlt : k < L.length
    · obtain ⟨f, hf⟩ : ∃ f, L[k]? = some f := ⟨_, List.getElem?_eq_getElem hlt⟩
      obtain ⟨ad, rfl, hsa, hsa2, c0, cj⟩ := (HR.out.below HB.out HS.out).walk fdCells_length (by decide) rfl hf
      have x0 := c0 _ rfl
      have x1 := cj 0 _ rfl
      have x2 := cj 1 _ rfl
      have x3 := cj 2 _ rfl
      have x4 := cj 3 _ rfl
      have htk : (L.take (k + 1)).map Fd.why = (L.take k).map Fd.why ++ [f.why] := by rw [List.take_add_one, hf]; simp
      have HT := Lib.hid htk
      have i0 : (0 : Int) ≤ (k : Int) := by omega
      have i1 : (k : Int) < (L.length : Int) := by omega
      have hsz := HB.out.size
      have hcl := HC.out.lt
      have hwl : ((L.take k).map Fd.why).length ≤ 1048576 := by simp; omega
      obtain ⟨ws, hws⟩ : ∃ ws, (L.take k).map Fd.why = ws := ⟨_, rfl⟩
      rw [hws] at HC HT hwl
      clear c0 cj hf htk hws
      by_cases hy : 0 ≤ f.why ∧ f.why < 10
      · obtain ⟨n, hn2⟩ : ∃ n : Nat, f.why = n := ⟨f.why.toNat, by omega⟩
        have hn9 : n < 10 := by omega
        have hct := count_le_length ws (n : Int)
        have hnx := cnW_in ws n hn9
        rw [hn2] at HT
        rw [← HT.out] at hnx
        have HN := Lib.hid hnx
        have g1 := HC.out.cell n
        have e1 : (iv (cnW ws)).toArray[n]? = some (.int .i64 (ws.count (n : Int) : Int)) := by rw [List.getElem?_toArray, iv, List.getElem?_map, cnW_get ws n hn9]; rfl
        rw [e1] at g1
        have g2 := HC.out.frozen n
        obtain ⟨c, hc⟩ : ∃ c : Int, ((ws.count (n : Int) : Nat) : Int) = c := ⟨_, rfl⟩
        have hc0 : 0 ≤ c := by omega
        have hc1 : c ≤ 1048576 := by omega
        rw [hc] at g1
        have HCC := Lib.hid hc
        have y0 : (0 : Int) ≤ (n : Int) := by omega
        have y1 : (n : Int) < 10 := by omega
        have HN2 := Lib.hid hn2
        rw [hn2] at x3
        clear hnx e1 hc hct hn2 hy
        go_wp2
        go_roundw
        case rel =>
          refine ⟨k + 1, by omega, by go_num, ?_, ?_, ?_⟩
          · have h := (HC.out.set_ n (.int .i64 (c + 1))).alloc (.cells #[.int .i64 f.byte, .int .i64 f.line, .int .i64 f.col, .int .i64 (n : Int), .string (str f.name)] 38)
            rw [HN.out, HCC.out]
            have e : (iv ((cnW ws).set n (c + 1))).toArray = (iv (cnW ws)).toArray.setIfInBounds n (.int .i64 (c + 1)) := by simp [iv]
            rw [e]
            exact h
          · exact Lib.hid ((HZ.out.far (p := ⟨w.heap.size + 1, n, none⟩) (by simp) _).alloc _)
          · exact Lib.hid ((HB.out.setCell (p := ⟨w.heap.size + 1, n, none⟩) (by simp) _).alloc (by simp [World.setCell]; omega) _)
        case measure => simp [intOf]; omega
      · have hnx := cnW_out ws f.why (by omega)
        rw [← HT.out] at hnx
        have HN := Lib.hid hnx
        clear hnx
        by_cases hy0 : f.why < 0
        · clear hy
          go_wp2
          go_roundw
          case rel => exact ⟨k + 1, by omega, by go_num, by rw [HN.out]; exact HC.out.alloc _, HZ.out.alloc _, HB.out.alloc hsz _⟩
          case measure => simp [intOf]; omega
        · have hy1 : 10 ≤ f.why := by omega
          have hy2 : 0 ≤ f.why := by omega
          clear hy hy0
          go_wp2
          go_roundw
          case rel => exact ⟨k + 1, by omega, by go_num, by rw [HN.out]; exact HC.out.alloc _, HZ.out.alloc _, HB.out.alloc hsz _⟩
          case measure => simp [intOf]; omega
    · have hkl : k = L.length := by omega
      subst hkl
      have hc := HC.out
      rw [List.take_length] at hc
      obtain ⟨cs, hcs⟩ : ∃ cs, cnW (L.map Fd.why) = cs := ⟨_, rfl⟩
      have hl := cnW_length (L.map Fd.why)
      rw [hcs] at hc hl
      obtain ⟨a0, a1, a2, a3, a4, a5, a6, a7, a8, a9, rfl⟩ := ten hl
      simp only [iv, List.map_cons, List.map_nil] at hc
      have HCS := Lib.hid hcs
      have c0 := hc.cell 0
      have c1 := hc.cell 1
      have c2 := hc.cell 2
      have c3 := hc.cell 3
      have c4 := hc.cell 4
      have c5 := hc.cell 5
      have c6 := hc.cell 6
      have c7 := hc.cell 7
      have c8 := hc.cell 8
      have c9 := hc.cell 9
      simp only [List.getElem?_toArray, List.getElem?_cons_succ, List.getElem?_cons_zero] at c0 c1 c2 c3 c4 c5 c6 c7 c8 c9
      have z0 := HZ.out.cell 0
      have z1 := HZ.out.cell 1
      have z2 := HZ.out.cell 2
      have z3 := HZ.out.cell 3
      have z4 := HZ.out.cell 4
      have z5 := HZ.out.cell 5
      have z6 := HZ.out.cell 6
      have z7 := HZ.out.cell 7
      have z8 := HZ.out.cell 8
      have z9 := HZ.out.cell 9
      simp only [List.getElem?_toArray, List.getElem?_cons_succ, List.getElem?_cons_zero] at z0 z1 z2 z3 z4 z5 z6 z7 z8 z9
      have f0 := HZ.out.frozen 0
      have f1 := HZ.out.frozen 1
      have f2 := HZ.out.frozen 2
      have f3 := HZ.out.frozen 3
      have f4 := HZ.out.frozen 4
      have f5 := HZ.out.frozen 5
      have f6 := HZ.out.frozen 6
      have f7 := HZ.out.frozen 7
      have f8 := HZ.out.frozen 8
      have f9 := HZ.out.frozen 9
      clear hc hl hcs HC
      go_wp2
      obtain ⟨WF, hWF, hbF, hkF⟩ := set10 HZ.out (.int .i64 a0) (.int .i64 a1) (.int .i64 a2) (.int .i64 a3) (.int .i64 a4) (.int .i64 a5) (.int .i64 a6) (.int .i64 a7) (.int .i64 a8) (.int .i64 a9)
      rw [hWF]
      clear hWF c0 c1 c2 c3 c4 c5 c6 c7 c8 c9 z0 z1 z2 z3 z4 z5 z6 z7 z8 z9 f0 f1 f2 f3 f4 f5 f6 f7 f8 f9
      have y0 := hbF.cell 0
      have y1 := hbF.cell 1
      have y2 := hbF.cell 2
      have y3 := hbF.cell 3
      have y4 := hbF.cell 4
      have y5 := hbF.cell 5
      have y6 := hbF.cell 6
      have y7 := hbF.cell 7
      have y8 := hbF.cell 8
      have y9 := hbF.cell 9
      simp only [List.getElem?_toArray, List.getElem?_cons_succ, List.getElem?_cons_zero] at y0 y1 y2 y3 y4 y5 y6 y7 y8 y9
      refine bodyPost_ret (v := .agg #[.int .i64 a0, .int .i64 a1, .int .i64 a2, .int .i64 a3, .int .i64 a4, .int .i64 a5, .int .i64 a6, .int .i64 a7, .int .i64 a8, .int .i64 a9]) (by simp [results, Tryz.results7, go_sem, y0, y1, y2, y3, y4, y5, y6, y7, y8, y9]) rfl ⟨by rw [HCS.out]; rfl, HB.out.trans (hkF.below (B := w.heap.size) HB.out.size (fun i hi e => by omega))⟩
end Go.Proofs.YtgkiffodnofggaaGreatDoor
