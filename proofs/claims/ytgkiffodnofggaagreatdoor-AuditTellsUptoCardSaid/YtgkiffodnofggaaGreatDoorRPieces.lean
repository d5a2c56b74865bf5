/-
  The contract of the reference's Pieces of bytes.
-/
import Derived.Test.YtgkiffodnofggaaGreatDoorRUtf
import Derived.Test.YtgkiffodnofggaaGreatDoorPiecesPlain
import Derived.Test.YtgkiffodnofggaaGreatDoorStructs
namespace Go.Proofs.YtgkiffodnofggaaGreatDoor
open Go.RowKit
set_option linter.unusedVariables false
set_option linter.unusedSimpArgs false

theorem piece_info : (Tryz.prog.info? 107).map (fun i => (i.zero, i.size, i.bytes)) = some (some (.agg #[.int .i32 0, .int .i64 0, .int .i64 0, .bool false]), 4, 32) := by kernel_rfl
/-- A piece's cells. -/
def pcCells (p : Pc) : List Value := [.int .i32 p.r, .int .i64 p.at_, .int .i64 p.size, .bool p.right]
theorem pcCells_length (p : Pc) : (pcCells p).length = 4 := rfl
theorem pcCells_one (p : Pc) : ∀ u ∈ pcCells p, u.oneCell' = true := by simp [pcCells, Value.oneCell']

set_option maxHeartbeats 16000000 in
set_option maxRecDepth 100000 in
theorem rpieces_any (S : Nat → Prop) (A : Option Addr) (n cp : Nat) (l : List UInt8) (w : World) (hr : Row S w 1 A n (bv l)) (hn : n ≤ 1073741824) (hnc : n ≤ cp) (hS : ∀ k, S k → k < w.heap.size) :
    Calls Tryz.prog 56 #[.slice A n cp] w (Gives fun v w' => w'.ownsRow w.heap.size 107 4 v (pieces 0 l).length ((pieces 0 l).flatMap pcCells) ∧ Below w.heap.size w w') := by
  obtain ⟨i0', hi, hz0, hz1, hz2⟩ := info_parts piece_info
  have hl : l.length = n := by have := hr.1; rw [bv_length] at this; omega
  have hpl := pieces_length l 0
  have HR := Lib.hid hr
  obtain ⟨R, hR⟩ : ∃ R, pieces 0 l = R := ⟨_, rfl⟩
  rw [hR] at hpl ⊢
  have HV := Lib.hid hR
  have HS := Lib.hid hS
  clear hr hR hS
  go_enter Tryz.func56, Tryz.ntmps56
  go_wp2
  go_loopw [3, 4] (fun v i wr => ∃ (k : Nat) (P : List Pc), k ≤ n ∧ i = .int .i64 k ∧ Hid (wr.ownsRow w.heap.size 107 4 v P.length (P.flatMap pcCells)) ∧ Hid (Below w.heap.size w wr) ∧ Hid (P ++ pieces k (l.drop k) = R)) (fun _ i _ => n - (intOf i).toNat)
  case atStart => exact ⟨0, [], Nat.zero_le _, rfl, World.ownsRow_nil _ _ _ _, Below.refl _ _, HV.out⟩
  case round =>
    obtain ⟨k, P, hk, rfl, HO, HB, HK⟩ := hrel
    obtain ⟨Av, cv, rfl, _, _⟩ := own_slice HO.out
    have hPl : P.length ≤ R.length := by have := congrArg List.length HK.out; rw [List.length_append] at this; omega
    by_cases hlt : k < n
    · obtain ⟨c, r, hcr⟩ : ∃ c r, l.drop k = c :: r := by
        cases h : l.drop k with
        | nil => have := congrArg List.length h; simp at this; omega
        | cons c r => exact ⟨c, r, rfl⟩
      obtain ⟨A', hA'⟩ : ∃ A', Option.map (fun x => x.add k) A = A' := ⟨_, rfl⟩
      have hrw := HR.out.below HB.out HS.out
      have hrow := hrw.cut hk hnc
      rw [Nat.mul_one, if_neg (by omega), hA', ← bv_drop, hcr] at hrow
      have HW := Lib.hid hrow
      have HRW := Lib.hid hrw
      have hlr : r.length + 1 + k = n := by have := congrArg List.length hcr; simp at this; omega
      have hv := HK.out
      rw [hcr, pieces_cons] at hv
      have hps := pcOf_size k c r
      have HCR := Lib.hid hcr
      have HVV := Lib.hid hv
      have i0 : (0 : Int) ≤ (k : Int) := by omega
      have i1 : (k : Int) < (n : Int) := by omega
      have i2 : (k : Int) ≤ (cp : Int) := by omega
      have hlb := HB.out.size
      clear hrow hcr hv hrw
      go_wp2_with fail
      refine (rgood_any S A' (n - k) (cp - k) c r _ HW.out (by omega)).mono ?_
      rintro e w1 ⟨rfl, q, rfl⟩
      obtain ⟨wd, hwd⟩ : ∃ wd, wr.drewN q = wd := ⟨_, rfl⟩
      rw [hwd]
      have hszd : wd.heap.size = wr.heap.size := by rw [← hwd]; rfl
      have O1 := Lib.hid (show wd.ownsRow w.heap.size 107 4 (.slice Av P.length cv) P.length (P.flatMap pcCells) by rw [← hwd]; exact own_drewN HO.out q)
      have B1 := Lib.hid (show Below w.heap.size w wd by rw [← hwd]; exact below_drewN HB.out q)
      have R1 := Lib.hid (show Row S wd 1 A n (bv l) by rw [← hwd]; exact HRW.out.drewN q)
      have hlb2 : w.heap.size ≤ wd.heap.size := by omega
      clear hwd hszd HO HB HRW HW
      by_cases hg : uLen c ≠ 0 ∧ uGood c r = uLen c
      · have hp : pcOf k c r = ⟨uVal c r, k, uLen c, true⟩ := by rw [pcOf, if_pos hg]
        rw [show decide (uLen c ≠ 0 ∧ uGood c r = uLen c) = true by simpa using hg, hg.2]
        obtain ⟨ad, u, rfl, hsa, hu, e1⟩ := R1.out.at_ hlt
        have hab : ad.block < wd.heap.size := by have := HS.out _ hsa; omega
        have hab2 : (ad.add k).block < wd.heap.size := by rw [addr_block]; exact hab
        rw [bv_get _ _ (by omega)] at hu
        obtain rfl := Option.some.inj hu
        have hck : l[k]'(by omega) = c := by
          have := congrArg List.head? HCR.out
          rw [List.head?_drop] at this
          simpa [List.getElem?_eq_getElem (show k < l.length by omega)] using this
        rw [hck] at e1
        have cl : c.toNat < 256 := c.toNat_lt
        rw [hp] at HVV hps
        simp only at HVV hps
        obtain ⟨N, hN⟩ : ∃ N, uLen c = N := ⟨_, rfl⟩
        have hN4 : 1 ≤ N ∧ N ≤ 4 := by rcases uLen_cases c with h | h | h <;> omega
        have hval : uVal c r = uMore (uBase c) (r.take (N - 1)) := by rw [uVal, hN]
        rw [hval] at HVV
        have hbl : uBase c < 32 ∨ N = 1 := by
          by_cases h2 : 2 ≤ uLen c
          · exact .inl (uBase_lt c h2)
          · exact .inr (by omega)
        have hub : uBase c = if N = 2 then c.toNat % 32 else if N = 3 then c.toNat % 16 else if N = 4 then c.toNat % 8 else c.toNat := by rw [uBase, hN]
        rw [hN] at HVV hps ⊢
        clear hu hck hg hval hN hp
        obtain ⟨N0, N4⟩ := hN4
        rcases (show N = 1 ∨ N = 2 ∨ N = 3 ∨ N = 4 by omega) with rfl | rfl | rfl | rfl
        · have hb0 : uBase c = c.toNat := by rw [hub]; rfl
          have HB0 := Lib.hid hb0
          have HBL := Lib.hid hbl
          clear hub hbl hb0
          go_wp2_with fail
          go_loop [8, 9] (fun rv i => ∃ j z : Nat, 1 ≤ j ∧ j ≤ 1 ∧ i = .int .i64 j ∧ rv = .int .i32 z ∧ Hid (uMore (uBase c) (r.take (j - 1)) = z)) (fun _ i => 1 - (intOf i).toNat)
          case atStart => exact ⟨1, c.toNat, Nat.le_refl _, by omega, rfl, by first | rfl | (simp; done) | go_num, HB0.out⟩
          case round =>
            obtain ⟨j, z, j1, j2, rfl, rfl, HZ⟩ := hrel
            by_cases hj : j < 1
            · omega
            · have hj1 : j = 1 := by omega
              subst hj1
              have h1 := HVV.out
              rw [HZ.out] at h1
              have HVZ := Lib.hid h1
              clear h1
              go_wp2_with (at_builtin; refine wpList_append_row _ rfl _ _ 104 rfl w.heap.size 107 i0' _ 4 32 Tryz.underlying104 hi hz0 hz1 hz2 rfl (by decide) _ P.length (P.flatMap pcCells) rfl ((O1.out.alloc _).alloc _) (fun j => j = wd.heap.size + 1) (some ⟨wd.heap.size + 1, 0, none⟩) 1 1 [.int .i32 z, .int .i64 k, .int .i64 1, .bool true] rfl (by have h := Row.new (wd.alloc (.cells #[.int .i32 z, .int .i64 k, .int .i64 1, .bool true] 107)) 107 #[.int .i32 z, .int .i64 k, .int .i64 1, .bool true] 4 1 rfl; rw [World.size_alloc] at h; exact h) (by simp [Value.oneCell']) (by simp only [maxLen]; omega) (by omega) (by simp; omega) ?_; intro v2 w2 ho2 hg2 hat2; obtain ⟨A2, c2, rfl, _, _⟩ := own_slice ho2; have x2 : w2.cell? ⟨wd.heap.size, 2, none⟩ = some (.int .i64 1) := hg2.cell (cell_alloc_keep (cell_alloc_at wd #[.int .i32 z, .int .i64 k, .int .i64 1, .bool true] _ 2 _ rfl) _) (own_block_lt O1.out); have HB2 := Lib.hid (((B1.out.alloc B1.out.size (.cells #[.int .i32 z, .int .i64 k, .int .i64 1, .bool true] 107)).alloc (by simp; omega) (.cells #[.int .i32 z, .int .i64 k, .int .i64 1, .bool true] 107)).grown hg2 (by simp; omega) (fun j e => (O1.out.lt j e).1)); have HO2 := Lib.hid ho2; clear ho2 hg2 hat2)
              go_roundw
              case rel =>
                refine ⟨k + 1, P ++ [⟨z, k, 1, true⟩], by omega, by go_num, ?_, HB2.out, ?_⟩
                · show w2.ownsRow _ _ _ _ _ _
                  rw [List.length_append, fm_snoc]
                  exact HO2.out
                · show _ = R
                  have h1 := HVZ.out
                  rw [← List.drop_drop, HCR.out, List.append_assoc, List.singleton_append]
                  simpa using h1
              case measure => simp [intOf]; omega
        · have hb0 : uBase c = c.toNat % 32 := by rw [hub]; rfl
          have HB0 := Lib.hid hb0
          have HBL := Lib.hid hbl
          clear hub hbl hb0
          go_wp2_with fail
          go_loop [8, 9] (fun rv i => ∃ j z : Nat, 1 ≤ j ∧ j ≤ 2 ∧ i = .int .i64 j ∧ rv = .int .i32 z ∧ Hid (uMore (uBase c) (r.take (j - 1)) = z)) (fun _ i => 2 - (intOf i).toNat)
          case atStart => exact ⟨1, c.toNat % 32, Nat.le_refl _, by omega, rfl, by first | rfl | (simp; done) | go_num, HB0.out⟩
          case round =>
            obtain ⟨j, z, j1, j2, rfl, rfl, HZ⟩ := hrel
            by_cases hj : j < 2
            · obtain ⟨ad', u, ea, _, hu, e2⟩ := R1.out.at_ (k := k + j) (by omega)
              injection ea with ea
              subst ea
              rw [bv_get _ _ (by omega)] at hu
              obtain rfl := Option.some.inj hu
              have hjr : j - 1 < r.length := by omega
              have hd : l[k + j]'(by omega) = r[j - 1] := by
                have h1 : (l.drop k)[j]? = (c :: r)[j]? := by rw [HCR.out]
                rw [List.getElem?_drop, List.getElem?_eq_getElem (show k + j < l.length by omega)] at h1
                obtain ⟨i, rfl⟩ : ∃ i, j = i + 1 := ⟨j - 1, by omega⟩
                simp only [List.getElem?_cons_succ, Nat.add_sub_cancel] at h1 hjr ⊢
                rw [List.getElem?_eq_getElem hjr] at h1
                exact Option.some.inj h1
              have htk : r.take j = r.take (j - 1) ++ [r[j - 1]] := by
                obtain ⟨i, rfl⟩ : ∃ i, j = i + 1 := ⟨j - 1, by omega⟩
                rw [List.take_succ_eq_append_getElem (by omega)]
                rfl
              have hst : uMore (uBase c) (r.take j) = z * 64 + (r[j - 1]).toNat % 64 := by rw [htk, uMore_snoc, HZ.out]
              have hzb : z < 32 * 64 ^ (j - 1) := by
                have h1 := uMore_lt (uBase c) (by have := HBL.out; omega) (r.take (j - 1))
                rw [HZ.out, List.length_take, Nat.min_eq_left (by omega)] at h1
                exact h1
              have hzc : z < 131073 := by
                have : 64 ^ (j - 1) ≤ 64 ^ 2 := Nat.pow_le_pow_right (by omega) (by omega)
                omega
              rw [hd] at e2
              generalize r[j - 1] = d at e2 hst
              have dl : d.toNat < 256 := d.toNat_lt
              have hab3 : (ad.add (k + j)).block < wd.heap.size := by rw [addr_block]; exact hab
              have i3 : (0 : Int) ≤ (k : Int) + (j : Int) := by omega
              have i4 : (k : Int) + (j : Int) < (n : Int) := by omega
              have HST := Lib.hid hst
              clear hst htk hd hu hzb
              go_wp2
              go_round
              case rel => exact ⟨j + 1, z * 64 + d.toNat % 64, by omega, by omega, by go_num, by go_num, HST.out⟩
              case measure => simp [intOf]; omega
            · have hj1 : j = 2 := by omega
              subst hj1
              have h1 := HVV.out
              rw [HZ.out] at h1
              have HVZ := Lib.hid h1
              clear h1
              go_wp2_with (at_builtin; refine wpList_append_row _ rfl _ _ 104 rfl w.heap.size 107 i0' _ 4 32 Tryz.underlying104 hi hz0 hz1 hz2 rfl (by decide) _ P.length (P.flatMap pcCells) rfl ((O1.out.alloc _).alloc _) (fun j => j = wd.heap.size + 1) (some ⟨wd.heap.size + 1, 0, none⟩) 1 1 [.int .i32 z, .int .i64 k, .int .i64 2, .bool true] rfl (by have h := Row.new (wd.alloc (.cells #[.int .i32 z, .int .i64 k, .int .i64 2, .bool true] 107)) 107 #[.int .i32 z, .int .i64 k, .int .i64 2, .bool true] 4 1 rfl; rw [World.size_alloc] at h; exact h) (by simp [Value.oneCell']) (by simp only [maxLen]; omega) (by omega) (by simp; omega) ?_; intro v2 w2 ho2 hg2 hat2; obtain ⟨A2, c2, rfl, _, _⟩ := own_slice ho2; have x2 : w2.cell? ⟨wd.heap.size, 2, none⟩ = some (.int .i64 2) := hg2.cell (cell_alloc_keep (cell_alloc_at wd #[.int .i32 z, .int .i64 k, .int .i64 2, .bool true] _ 2 _ rfl) _) (own_block_lt O1.out); have HB2 := Lib.hid (((B1.out.alloc B1.out.size (.cells #[.int .i32 z, .int .i64 k, .int .i64 2, .bool true] 107)).alloc (by simp; omega) (.cells #[.int .i32 z, .int .i64 k, .int .i64 2, .bool true] 107)).grown hg2 (by simp; omega) (fun j e => (O1.out.lt j e).1)); have HO2 := Lib.hid ho2; clear ho2 hg2 hat2)
              go_roundw
              case rel =>
                refine ⟨k + 2, P ++ [⟨z, k, 2, true⟩], by omega, by go_num, ?_, HB2.out, ?_⟩
                · show w2.ownsRow _ _ _ _ _ _
                  rw [List.length_append, fm_snoc]
                  exact HO2.out
                · show _ = R
                  have h1 := HVZ.out
                  rw [← List.drop_drop, HCR.out, List.append_assoc, List.singleton_append]
                  simpa using h1
              case measure => simp [intOf]; omega
        · have hb0 : uBase c = c.toNat % 16 := by rw [hub]; rfl
          have HB0 := Lib.hid hb0
          have HBL := Lib.hid hbl
          clear hub hbl hb0
          go_wp2_with fail
          go_loop [8, 9] (fun rv i => ∃ j z : Nat, 1 ≤ j ∧ j ≤ 3 ∧ i = .int .i64 j ∧ rv = .int .i32 z ∧ Hid (uMore (uBase c) (r.take (j - 1)) = z)) (fun _ i => 3 - (intOf i).toNat)
          case atStart => exact ⟨1, c.toNat % 16, Nat.le_refl _, by omega, rfl, by first | rfl | (simp; done) | go_num, HB0.out⟩
          case round =>
            obtain ⟨j, z, j1, j2, rfl, rfl, HZ⟩ := hrel
            by_cases hj : j < 3
            · obtain ⟨ad', u, ea, _, hu, e2⟩ := R1.out.at_ (k := k + j) (by omega)
              injection ea with ea
              subst ea
              rw [bv_get _ _ (by omega)] at hu
              obtain rfl := Option.some.inj hu
              have hjr : j - 1 < r.length := by omega
              have hd : l[k + j]'(by omega) = r[j - 1] := by
                have h1 : (l.drop k)[j]? = (c :: r)[j]? := by rw [HCR.out]
                rw [List.getElem?_drop, List.getElem?_eq_getElem (show k + j < l.length by omega)] at h1
                obtain ⟨i, rfl⟩ : ∃ i, j = i + 1 := ⟨j - 1, by omega⟩
                simp only [List.getElem?_cons_succ, Nat.add_sub_cancel] at h1 hjr ⊢
                rw [List.getElem?_eq_getElem hjr] at h1
                exact Option.some.inj h1
              have htk : r.take j = r.take (j - 1) ++ [r[j - 1]] := by
                obtain ⟨i, rfl⟩ : ∃ i, j = i + 1 := ⟨j - 1, by omega⟩
                rw [List.take_succ_eq_append_getElem (by omega)]
                rfl
              have hst : uMore (uBase c) (r.take j) = z * 64 + (r[j - 1]).toNat % 64 := by rw [htk, uMore_snoc, HZ.out]
              have hzb : z < 32 * 64 ^ (j - 1) := by
                have h1 := uMore_lt (uBase c) (by have := HBL.out; omega) (r.take (j - 1))
                rw [HZ.out, List.length_take, Nat.min_eq_left (by omega)] at h1
                exact h1
              have hzc : z < 131073 := by
                have : 64 ^ (j - 1) ≤ 64 ^ 2 := Nat.pow_le_pow_right (by omega) (by omega)
                omega
              rw [hd] at e2
              generalize r[j - 1] = d at e2 hst
              have dl : d.toNat < 256 := d.toNat_lt
              have hab3 : (ad.add (k + j)).block < wd.heap.size := by rw [addr_block]; exact hab
              have i3 : (0 : Int) ≤ (k : Int) + (j : Int) := by omega
              have i4 : (k : Int) + (j : Int) < (n : Int) := by omega
              have HST := Lib.hid hst
              clear hst htk hd hu hzb
              go_wp2
              go_round
              case rel => exact ⟨j + 1, z * 64 + d.toNat % 64, by omega, by omega, by go_num, by go_num, HST.out⟩
              case measure => simp [intOf]; omega
            · have hj1 : j = 3 := by omega
              subst hj1
              have h1 := HVV.out
              rw [HZ.out] at h1
              have HVZ := Lib.hid h1
              clear h1
              go_wp2_with (at_builtin; refine wpList_append_row _ rfl _ _ 104 rfl w.heap.size 107 i0' _ 4 32 Tryz.underlying104 hi hz0 hz1 hz2 rfl (by decide) _ P.length (P.flatMap pcCells) rfl ((O1.out.alloc _).alloc _) (fun j => j = wd.heap.size + 1) (some ⟨wd.heap.size + 1, 0, none⟩) 1 1 [.int .i32 z, .int .i64 k, .int .i64 3, .bool true] rfl (by have h := Row.new (wd.alloc (.cells #[.int .i32 z, .int .i64 k, .int .i64 3, .bool true] 107)) 107 #[.int .i32 z, .int .i64 k, .int .i64 3, .bool true] 4 1 rfl; rw [World.size_alloc] at h; exact h) (by simp [Value.oneCell']) (by simp only [maxLen]; omega) (by omega) (by simp; omega) ?_; intro v2 w2 ho2 hg2 hat2; obtain ⟨A2, c2, rfl, _, _⟩ := own_slice ho2; have x2 : w2.cell? ⟨wd.heap.size, 2, none⟩ = some (.int .i64 3) := hg2.cell (cell_alloc_keep (cell_alloc_at wd #[.int .i32 z, .int .i64 k, .int .i64 3, .bool true] _ 2 _ rfl) _) (own_block_lt O1.out); have HB2 := Lib.hid (((B1.out.alloc B1.out.size (.cells #[.int .i32 z, .int .i64 k, .int .i64 3, .bool true] 107)).alloc (by simp; omega) (.cells #[.int .i32 z, .int .i64 k, .int .i64 3, .bool true] 107)).grown hg2 (by simp; omega) (fun j e => (O1.out.lt j e).1)); have HO2 := Lib.hid ho2; clear ho2 hg2 hat2)
              go_roundw
              case rel =>
                refine ⟨k + 3, P ++ [⟨z, k, 3, true⟩], by omega, by go_num, ?_, HB2.out, ?_⟩
                · show w2.ownsRow _ _ _ _ _ _
                  rw [List.length_append, fm_snoc]
                  exact HO2.out
                · show _ = R
                  have h1 := HVZ.out
                  rw [← List.drop_drop, HCR.out, List.append_assoc, List.singleton_append]
                  simpa using h1
              case measure => simp [intOf]; omega
        · have hb0 : uBase c = c.toNat % 8 := by rw [hub]; rfl
          have HB0 := Lib.hid hb0
          have HBL := Lib.hid hbl
          clear hub hbl hb0
          go_wp2_with fail
          go_loop [8, 9] (fun rv i => ∃ j z : Nat, 1 ≤ j ∧ j ≤ 4 ∧ i = .int .i64 j ∧ rv = .int .i32 z ∧ Hid (uMore (uBase c) (r.take (j - 1)) = z)) (fun _ i => 4 - (intOf i).toNat)
          case atStart => exact ⟨1, c.toNat % 8, Nat.le_refl _, by omega, rfl, by first | rfl | (simp; done) | go_num, HB0.out⟩
          case round =>
            obtain ⟨j, z, j1, j2, rfl, rfl, HZ⟩ := hrel
            by_cases hj : j < 4
            · obtain ⟨ad', u, ea, _, hu, e2⟩ := R1.out.at_ (k := k + j) (by omega)
              injection ea with ea
              subst ea
              rw [bv_get _ _ (by omega)] at hu
              obtain rfl := Option.some.inj hu
              have hjr : j - 1 < r.length := by omega
              have hd : l[k + j]'(by omega) = r[j - 1] := by
                have h1 : (l.drop k)[j]? = (c :: r)[j]? := by rw [HCR.out]
                rw [List.getElem?_drop, List.getElem?_eq_getElem (show k + j < l.length by omega)] at h1
                obtain ⟨i, rfl⟩ : ∃ i, j = i + 1 := ⟨j - 1, by omega⟩
                simp only [List.getElem?_cons_succ, Nat.add_sub_cancel] at h1 hjr ⊢
                rw [List.getElem?_eq_getElem hjr] at h1
                exact Option.some.inj h1
              have htk : r.take j = r.take (j - 1) ++ [r[j - 1]] := by
                obtain ⟨i, rfl⟩ : ∃ i, j = i + 1 := ⟨j - 1, by omega⟩
                rw [List.take_succ_eq_append_getElem (by omega)]
                rfl
              have hst : uMore (uBase c) (r.take j) = z * 64 + (r[j - 1]).toNat % 64 := by rw [htk, uMore_snoc, HZ.out]
              have hzb : z < 32 * 64 ^ (j - 1) := by
                have h1 := uMore_lt (uBase c) (by have := HBL.out; omega) (r.take (j - 1))
                rw [HZ.out, List.length_take, Nat.min_eq_left (by omega)] at h1
                exact h1
              have hzc : z < 131073 := by
                have : 64 ^ (j - 1) ≤ 64 ^ 2 := Nat.pow_le_pow_right (by omega) (by omega)
                omega
              rw [hd] at e2
              generalize r[j - 1] = d at e2 hst
              have dl : d.toNat < 256 := d.toNat_lt
              have hab3 : (ad.add (k + j)).block < wd.heap.size := by rw [addr_block]; exact hab
              have i3 : (0 : Int) ≤ (k : Int) + (j : Int) := by omega
              have i4 : (k : Int) + (j : Int) < (n : Int) := by omega
              have HST := Lib.hid hst
              clear hst htk hd hu hzb
              go_wp2
              go_round
              case rel => exact ⟨j + 1, z * 64 + d.toNat % 64, by omega, by omega, by go_num, by go_num, HST.out⟩
              case measure => simp [intOf]; omega
            · have hj1 : j = 4 := by omega
              subst hj1
              have h1 := HVV.out
              rw [HZ.out] at h1
              have HVZ := Lib.hid h1
              clear h1
              go_wp2_with (at_builtin; refine wpList_append_row _ rfl _ _ 104 rfl w.heap.size 107 i0' _ 4 32 Tryz.underlying104 hi hz0 hz1 hz2 rfl (by decide) _ P.length (P.flatMap pcCells) rfl ((O1.out.alloc _).alloc _) (fun j => j = wd.heap.size + 1) (some ⟨wd.heap.size + 1, 0, none⟩) 1 1 [.int .i32 z, .int .i64 k, .int .i64 4, .bool true] rfl (by have h := Row.new (wd.alloc (.cells #[.int .i32 z, .int .i64 k, .int .i64 4, .bool true] 107)) 107 #[.int .i32 z, .int .i64 k, .int .i64 4, .bool true] 4 1 rfl; rw [World.size_alloc] at h; exact h) (by simp [Value.oneCell']) (by simp only [maxLen]; omega) (by omega) (by simp; omega) ?_; intro v2 w2 ho2 hg2 hat2; obtain ⟨A2, c2, rfl, _, _⟩ := own_slice ho2; have x2 : w2.cell? ⟨wd.heap.size, 2, none⟩ = some (.int .i64 4) := hg2.cell (cell_alloc_keep (cell_alloc_at wd #[.int .i32 z, .int .i64 k, .int .i64 4, .bool true] _ 2 _ rfl) _) (own_block_lt O1.out); have HB2 := Lib.hid (((B1.out.alloc B1.out.size (.cells #[.int .i32 z, .int .i64 k, .int .i64 4, .bool true] 107)).alloc (by simp; omega) (.cells #[.int .i32 z, .int .i64 k, .int .i64 4, .bool true] 107)).grown hg2 (by simp; omega) (fun j e => (O1.out.lt j e).1)); have HO2 := Lib.hid ho2; clear ho2 hg2 hat2)
              go_roundw
              case rel =>
                refine ⟨k + 4, P ++ [⟨z, k, 4, true⟩], by omega, by go_num, ?_, HB2.out, ?_⟩
                · show w2.ownsRow _ _ _ _ _ _
                  rw [List.length_append, fm_snoc]
                  exact HO2.out
                · show _ = R
                  have h1 := HVZ.out
                  rw [← List.drop_drop, HCR.out, List.append_assoc, List.singleton_append]
                  simpa using h1
              case measure => simp [intOf]; omega
      · have hp : pcOf k c r = ⟨65533, k, if uGood c r = 0 then 1 else uGood c r, false⟩ := by rw [pcOf, if_neg hg]
        rw [show decide (uLen c ≠ 0 ∧ uGood c r = uLen c) = false by simpa using hg]
        rw [hp] at HVV hps
        simp only at HVV hps
        obtain ⟨G, hG⟩ : ∃ G, uGood c r = G := ⟨_, rfl⟩
        rw [hG] at HVV hps ⊢
        by_cases hG0 : G = 0
        · subst hG0
          rw [if_pos rfl] at HVV hps
          clear hg hp hG
          go_wp2_with (at_builtin; refine wpList_append_row _ rfl _ _ 104 rfl w.heap.size 107 i0' _ 4 32 Tryz.underlying104 hi hz0 hz1 hz2 rfl (by decide) _ P.length (P.flatMap pcCells) rfl ((O1.out.alloc _).alloc _) (fun j => j = wd.heap.size + 1) (some ⟨wd.heap.size + 1, 0, none⟩) 1 1 [.int .i32 65533, .int .i64 k, .int .i64 1, .bool false] rfl (by have h := Row.new (wd.alloc (.cells #[.int .i32 65533, .int .i64 k, .int .i64 1, .bool false] 107)) 107 #[.int .i32 65533, .int .i64 k, .int .i64 1, .bool false] 4 1 rfl; rw [World.size_alloc] at h; exact h) (by simp [Value.oneCell']) (by simp only [maxLen]; omega) (by omega) (by simp; omega) ?_; intro v2 w2 ho2 hg2 hat2; obtain ⟨A2, c2, rfl, _, _⟩ := own_slice ho2; have x2 : w2.cell? ⟨wd.heap.size, 2, none⟩ = some (.int .i64 1) := hg2.cell (cell_alloc_keep (cell_alloc_at wd #[.int .i32 65533, .int .i64 k, .int .i64 1, .bool false] _ 2 _ rfl) _) (own_block_lt O1.out); have HB2 := Lib.hid (((B1.out.alloc B1.out.size (.cells #[.int .i32 65533, .int .i64 k, .int .i64 1, .bool false] 107)).alloc (by simp; omega) (.cells #[.int .i32 65533, .int .i64 k, .int .i64 1, .bool false] 107)).grown hg2 (by simp; omega) (fun j e => (O1.out.lt j e).1)); have HO2 := Lib.hid ho2; clear ho2 hg2 hat2)
          go_roundw
          case rel =>
            refine ⟨k + 1, P ++ [⟨65533, k, 1, false⟩], by omega, by go_num, ?_, HB2.out, ?_⟩
            · show w2.ownsRow _ _ _ _ _ _
              rw [List.length_append, fm_snoc]
              exact HO2.out
            · show _ = R
              have h1 := HVV.out
              rw [← List.drop_drop, HCR.out, List.append_assoc, List.singleton_append]
              simpa using h1
          case measure => simp [intOf]; omega
        · rw [if_neg hG0] at HVV hps
          have q0 : ((G : Int) == 0) = false := by rw [beq_eq_false_iff_ne]; omega
          clear hg hp hG hG0
          go_wp2_with (at_builtin; refine wpList_append_row _ rfl _ _ 104 rfl w.heap.size 107 i0' _ 4 32 Tryz.underlying104 hi hz0 hz1 hz2 rfl (by decide) _ P.length (P.flatMap pcCells) rfl ((O1.out.alloc _).alloc _) (fun j => j = wd.heap.size + 1) (some ⟨wd.heap.size + 1, 0, none⟩) 1 1 [.int .i32 65533, .int .i64 k, .int .i64 G, .bool false] rfl (by have h := Row.new (wd.alloc (.cells #[.int .i32 65533, .int .i64 k, .int .i64 G, .bool false] 107)) 107 #[.int .i32 65533, .int .i64 k, .int .i64 G, .bool false] 4 1 rfl; rw [World.size_alloc] at h; exact h) (by simp [Value.oneCell']) (by simp only [maxLen]; omega) (by omega) (by simp; omega) ?_; intro v2 w2 ho2 hg2 hat2; obtain ⟨A2, c2, rfl, _, _⟩ := own_slice ho2; have x2 : w2.cell? ⟨wd.heap.size, 2, none⟩ = some (.int .i64 G) := hg2.cell (cell_alloc_keep (cell_alloc_at wd #[.int .i32 65533, .int .i64 k, .int .i64 G, .bool false] _ 2 _ rfl) _) (own_block_lt O1.out); have HB2 := Lib.hid (((B1.out.alloc B1.out.size (.cells #[.int .i32 65533, .int .i64 k, .int .i64 G, .bool false] 107)).alloc (by simp; omega) (.cells #[.int .i32 65533, .int .i64 k, .int .i64 G, .bool false] 107)).grown hg2 (by simp; omega) (fun j e => (O1.out.lt j e).1)); have HO2 := Lib.hid ho2; clear ho2 hg2 hat2)
          go_roundw
          case rel =>
            refine ⟨k + G, P ++ [⟨65533, k, G, false⟩], by omega, by go_num, ?_, HB2.out, ?_⟩
            · show w2.ownsRow _ _ _ _ _ _
              rw [List.length_append, fm_snoc]
              exact HO2.out
            · show _ = R
              have h1 := HVV.out
              rw [← List.drop_drop, HCR.out, List.append_assoc, List.singleton_append]
              obtain ⟨j, rfl⟩ : ∃ j, G = j + 1 := ⟨G - 1, by omega⟩
              simpa using h1
          case measure => simp [intOf]; omega
    · have hfin : P = R := by
        have := HK.out
        rw [List.drop_eq_nil_of_le (by omega), pieces_nil, List.append_nil] at this
        exact this
      subst hfin
      go_wp2
      go_ret
      exact ⟨_, rfl, HO.out, HB.out⟩
end Go.Proofs.YtgkiffodnofggaaGreatDoor
