/-
  The contract of a replacer's work on a text.
-/
import Derived.Test.YtgkiffodnofggaaGreatDoorRepPlain
import Derived.Test.YtgkiffodnofggaaGreatDoorShelf
import Derived.Deep.CutRange
import Derived.Deep.QuietTactic
import Derived.BigQuiet
import Derived.Laws.CopyRow
import Derived.RegionTactic
import Derived.BigRegion
import Derived.Test.YtgkiffodnofggaaGreatDoorPlan
namespace Go.Proofs.YtgkiffodnofggaaGreatDoor
open Go.RowKit
set_option linter.unusedVariables false
set_option linter.unusedSimpArgs false

theorem bsr_cell {W : World} {b : Nat} {v : Value} {C : Array Value} {lo : Nat} (hb : Blk W b 155 C) (hR : RepAt W lo b v reps C) (c : UInt8) :
    (c ∉ marks ∧ W.cell? ⟨b, c.toNat, none⟩ = some (.slice none 0 0)) ∨
    (c ∈ marks ∧ ∃ g cp, W.cell? ⟨b, c.toNat, none⟩ = some (.slice (some ⟨g, 0, none⟩) 2 cp) ∧ 2 ≤ cp ∧ g ≠ b ∧ v.ownBlock ≠ some g ∧ Row (fun k => k = g) W 1 (some ⟨g, 0, none⟩) 2 (bv (escQ c))) := by
  by_cases h : c ∈ marks
  · obtain ⟨g, cp, h1, h2, h3, h4, h5, _⟩ := hR.there _ (marks_reps c h)
    simp only [esc_len c h] at h1 h4 h5
    exact .inr ⟨h, g, cp, (hb.cell _).trans h1, h4, h2, h3, h5⟩
  · refine .inl ⟨h, (hb.cell _).trans (hR.bare c fun p hp e => h (e ▸ reps_marks p hp))⟩

theorem take_set_one {α : Type} (l : List α) (J : Nat) (v : α) (h : J < l.length) : (l.set J v).take (J + 1) = l.take J ++ [v] := by
  rw [List.take_add_one, List.take_set_of_le (Nat.le_refl _), List.getElem?_set_self h]
  rfl
theorem take_splice {α : Type} (l cs : List α) (J n : Nat) (h : J ≤ l.length) (hn : cs.length = n) : (l.take J ++ cs ++ l.drop (J + n)).take (J + n) = l.take J ++ cs := by
  have e : (l.take J ++ cs).length = J + n := by rw [List.length_append, List.length_take, Nat.min_eq_left h, hn]
  rw [← e, List.take_left]
theorem escQs_append (a b : List UInt8) : escQs (a ++ b) = escQs a ++ escQs b := by simp [escQs]
theorem escQs_take_le (l : List UInt8) (k : Nat) : (escQs (l.take k)).length ≤ (escQs l).length := by
  conv => rhs; rw [← List.take_append_drop k l, escQs_append, List.length_append]
  omega

set_option maxHeartbeats 8000000 in
set_option maxRecDepth 100000 in
theorem brep_any (lo b : Nat) (l : List UInt8) (w : World) (h : Bsr w lo b) (hn : l.length ≤ 1073741824) :
    Calls Tryz.prog 157 #[.pointer (some ⟨b, 0, none⟩), .string (str l)] w fun e w' => e = .returned (.string (str (escQs l))) ∧ Below w.heap.size w w' := by
  obtain ⟨C, A, cp, hb, hR, ho⟩ := h
  have hz := str_size l
  have x256 : w.cell? ⟨b, 256, none⟩ = some (.slice A 4 cp) := (hb.cell 256).trans hR.last_
  have hlen := escQs_len l
  have hle := spN_le l
  have hnone := escQs_none l
  have hall := sumN_all l
  obtain ⟨T, hT⟩ : ∃ T, spN l = T := ⟨_, rfl⟩
  rw [hT] at hlen hle hnone hall
  obtain ⟨B, hB⟩ : ∃ B, (T != 0) = B := ⟨_, rfl⟩
  have HT := Lib.hid hT
  have HB := Lib.hid hB
  have HC := Lib.hid (fun c => bsr_cell hb hR c)
  have HOW := Lib.hid (Row.of_own ho)
  have HLEN := Lib.hid hlen
  have HNONE := Lib.hid hnone
  have HALL := Lib.hid hall
  have hbl := hb.lt
  clear hb hR ho hT hB hlen hnone hall
  obtain ⟨N, hN⟩ : ∃ N, l.length + T = N := ⟨_, rfl⟩
  have HN := Lib.hid hN
  obtain ⟨bq, hbq⟩ : ∃ bq, decide ((32 : Int) ≤ (l.length : Int)) = bq := ⟨_, rfl⟩
  go_enter Tryz.func157, Tryz.ntmps157
  go_upto_if 26 with fail
  go_cut [5, 6] from 16 (fun ns an wc => ns = .int .i64 (N : Int) ∧ an = .bool B ∧ ∃ q, wc = w.drewN q)
  case first =>
    cases bq with
    | true =>
      go_wp2_with fail
      go_loopw [5, 6, 32] (fun ns an i wr => ∃ k t : Nat, k ≤ 4 ∧ i = .int .i64 (k : Int) ∧ ns = .int .i64 ((l.length + t : Nat) : Int) ∧ an = .bool (t != 0) ∧ Hid (t = sumN l k) ∧ ∃ q, wr = w.drewN q) (fun _ _ i _ => 4 - (intOf i).toNat)
      case atStart => exact ⟨0, 0, by omega, rfl, rfl, rfl, (sumN_zero l).symm, 0, rfl⟩
      case round =>
        obtain ⟨k, t, hk, rfl, rfl, rfl, HS, dq, rfl⟩ := hrel
        have hsl : t ≤ 4 * l.length := by rw [HS.out]; exact sumN_le l k
        by_cases hk4 : k < 4
        · obtain ⟨c, hc⟩ : ∃ c, marks[k]? = some c := ⟨_, List.getElem?_eq_getElem hk4⟩
          have hcm : c ∈ marks := List.mem_of_getElem? hc
          obtain ⟨ad, u, rfl, _, hu, e0⟩ := HOW.out.at_ hk4
          rw [List.getElem?_map, hc] at hu
          obtain rfl := Option.some.inj hu
          obtain ⟨g, cq, hcell, hcq, hgb, _, _⟩ := ((HC.out c).resolve_left fun h => h.1 hcm).2
          have hnx := sumN_next l k c hc
          have K := Lib.hid (Tryz.strings_Count_one (str l) c)
          rw [show Lib.countByte (str l).data.toList c = l.count c by simp [Lib.countByte, str]] at K
          have hcl := List.count_le_length (a := c) (l := l)
          obtain ⟨m, hm⟩ : ∃ m, l.count c = m := ⟨_, rfl⟩
          rw [hm] at K hnx hcl
          rw [← HS.out] at hnx
          have HNX := Lib.hid hnx
          have i0 : (0 : Int) ≤ (k : Int) := by omega
          have i1 : (k : Int) < 4 := by omega
          replace e0 : (w.drewN dq).cell? (ad.add k) = some (.string ⟨#[c]⟩) := e0
          have hcell0 := hcell
          replace hcell : (w.drewN dq).cell? ⟨b, c.toNat, none⟩ = some (.slice (some ⟨g, 0, none⟩) 2 cq) := hcell
          have hcn : c.toNat < 256 := c.toNat_lt
          have i2 : (0 : Int) ≤ (c.toNat : Int) := by omega
          have i3 : (c.toNat : Int) < 256 := by omega
          obtain ⟨s1, hs1⟩ : ∃ s1, (⟨#[c]⟩ : ByteArray) = s1 := ⟨_, rfl⟩
          have hs2 : s1.size = 1 := by rw [← hs1]; rfl
          have hs3 : s1[0]'(by omega) = c := by subst hs1; rfl
          rw [hs1] at e0 K
          clear hu hc hcm hm hnx hs1
          by_cases hm0 : m = 0
          · have q0 : ((m : Int) == 0) = true := by rw [hm0]; rfl
            go_wp2_with (go_at_call 159; refine (K.out _).mono ?_; rintro e w2 ⟨rfl, rfl⟩)
            go_roundw
            case rel => exact ⟨k + 1, t, by omega, by go_num, by go_num, rfl, Lib.hid (by have := HNX.out; omega), dq, rfl⟩
            case measure => simp [intOf]; omega
          · have q0 : ((m : Int) == 0) = false := by rw [beq_eq_false_iff_ne]; omega
            have q1 : (t + m != 0) = true := by simp; omega
            go_wp2_with (go_at_call 159; refine (K.out _).mono ?_; rintro e w2 ⟨rfl, rfl⟩)
            go_quiet (fail)
            go_wp2
            go_roundw
            case rel => exact ⟨k + 1, t + m, by omega, by go_num, by go_num, by rw [q1], Lib.hid (by have := HNX.out; omega), _, rfl⟩
            case measure => simp [intOf]; omega
        · have hk4' : k = 4 := by omega
          subst hk4'
          have ht : t = T := by rw [HS.out]; exact HALL.out
          subst ht
          go_wp2
          go_meet
          case rel => exact ⟨by rw [HN.out], by rw [HB.out], dq, rfl⟩
    | false =>
      go_wp2_with fail
      go_loopw [5, 6, 10] (fun ns an i wr => ∃ k t : Nat, k ≤ l.length ∧ i = .int .i64 (k : Int) ∧ ns = .int .i64 ((l.length + t : Nat) : Int) ∧ an = .bool (t != 0) ∧ Hid (t = spN (l.take k)) ∧ ∃ q, wr = w.drewN q) (fun _ _ i _ => l.length - (intOf i).toNat)
      case atStart => exact ⟨0, 0, by omega, rfl, rfl, rfl, rfl, 0, rfl⟩
      case round =>
        obtain ⟨k, t, hk, rfl, rfl, rfl, HS, dq, rfl⟩ := hrel
        have hsl : t ≤ l.length := by rw [HS.out]; have := spN_le (l.take k); rw [List.length_take] at this; omega
        by_cases hlt : k < l.length
        · have i0 : (0 : Int) ≤ (k : Int) := by omega
          have i1 : (k : Int) < (l.length : Int) := by omega
          obtain ⟨c, hc⟩ : ∃ c, (str l)[k]'(by omega) = c := ⟨_, rfl⟩
          have hc2 : l[k]? = some c := by rw [← hc, str_get]; exact List.getElem?_eq_getElem hlt
          have htk : l.take (k + 1) = l.take k ++ [c] := by rw [List.take_add_one, hc2]; rfl
          have hcn : c.toNat < 256 := c.toNat_lt
          have i2 : (0 : Int) ≤ (c.toNat : Int) := by omega
          have i3 : (c.toNat : Int) < 256 := by omega
          have hnx := spN_snoc (l.take k) c
          rw [← htk, ← HS.out] at hnx
          rcases HC.out c with ⟨h1, h2⟩ | ⟨h1, g, cq, h2, _⟩
          · rw [if_neg h1] at hnx
            have HNX := Lib.hid hnx
            replace h2 : (w.drewN dq).cell? ⟨b, c.toNat, none⟩ = some (.slice none 0 0) := h2
            clear hc2 htk hnx h1
            go_wp2
            go_roundw
            case rel => exact ⟨k + 1, t, by omega, by go_num, by go_num, rfl, Lib.hid (by have := HNX.out; omega), _, rfl⟩
            case measure => simp [intOf]; omega
          · rw [if_pos h1] at hnx
            have HNX := Lib.hid hnx
            replace h2 : (w.drewN dq).cell? ⟨b, c.toNat, none⟩ = some (.slice (some ⟨g, 0, none⟩) 2 cq) := h2
            have q1 : (t + 1 != 0) = true := by simp
            clear hc2 htk hnx h1
            go_wp2
            go_roundw
            case rel => exact ⟨k + 1, t + 1, by omega, by go_num, by go_num, by rw [q1], Lib.hid (by have := HNX.out; omega), _, rfl⟩
            case measure => simp [intOf]; omega
        · have hk' : k = l.length := by omega
          subst hk'
          have ht : t = T := by rw [HS.out, List.take_length]; exact HT.out
          subst ht
          go_wp2
          go_meet
          case rel => exact ⟨by rw [HN.out], by rw [HB.out], dq, rfl⟩
  case rest =>
    obtain ⟨rfl, rfl, dq, rfl⟩ := hcut
    obtain ⟨W1, hW1⟩ : ∃ W1, w.drewN dq = W1 := ⟨_, rfl⟩
    rw [hW1]
    have hb1 : Below w.heap.size w W1 := by rw [← hW1]; exact below_drewN (Below.refl _ w) dq
    have hs1 : W1.heap.size = w.heap.size := by rw [← hW1]; rfl
    have B1 := Lib.hid hb1
    clear hW1 hb1 x256
    cases B with
    | false =>
      have hT0 : T = 0 := by have := HB.out; simpa using this
      have HE := Lib.hid (HNONE.out hT0)
      go_wp2
      go_ret
      exact ⟨by rw [HE.out]; rfl, B1.out⟩
    | true =>
      obtain ⟨i0, hi, hz0, hz1, hz2⟩ := info_parts u8info
      have hN0 : (0 : Int) ≤ (N : Int) := by omega
      have hN1 : N ≤ 2147483648 := by omega
      obtain ⟨C0, hC0, hC1, hmk⟩ := run_make_any (P := Tryz.prog) 43 5 i0 _ Tryz.underlying43 hi hz0 (N : Int) (N : Int) hN0 (Int.le_refl _) (by rw [hz2]; omega) (by omega)
      rw [hz1, Int.toNat_natCast, Nat.mul_one] at hC1
      rw [Int.toNat_natCast] at hmk
      have HC0 := Lib.hid hC1
      clear hC0 hC1 hi hz0 hz1 hz2 hN
      go_wp2_with fail
      obtain ⟨W2, hW2⟩ : ∃ W2, W1.alloc (.cells C0 5) = W2 := ⟨_, rfl⟩
      rw [hW2]
      have b2 : Blk W2 W1.heap.size 5 C0 := by rw [← hW2]; exact Blk.new _ _ _
      have B2 := Lib.hid (show Below w.heap.size w W2 by rw [← hW2]; exact B1.out.alloc (by omega) _)
      have hs2 : W2.heap.size = w.heap.size + 1 := by rw [← hW2]; simp [hs1]
      have D2 := Lib.hid b2
      clear hW2 b2 hmk
      go_loopw [13, 14] (fun jv iv wr => ∃ (k J : Nat) (cur : Array Value), k ≤ l.length ∧ iv = .int .i64 (k : Int) ∧ jv = .int .i64 (J : Int) ∧ Hid (J = (escQs (l.take k)).length) ∧ Hid (Blk wr w.heap.size 5 cur) ∧ cur.size = N ∧ Hid (cur.toList.take J = bv (escQs (l.take k))) ∧ Hid (Keep (fun k => k = w.heap.size) W2 wr)) (fun _ iv _ => l.length - (intOf iv).toNat)
      case atStart => exact ⟨0, 0, C0, Nat.zero_le _, rfl, rfl, rfl, (by rw [← hs1]; exact D2.out), HC0.out, rfl, Keep.refl _ _⟩
      case round =>
        obtain ⟨k, J, cur, hk, rfl, rfl, HJ, HD, hcur, HP, HK⟩ := hrel
        have hJN := escQs_take_le l (k + 1)
        rw [HLEN.out, HN.out] at hJN
        by_cases hlt : k < l.length
        · have i0 : (0 : Int) ≤ (k : Int) := by omega
          have i1 : (k : Int) < (l.length : Int) := by omega
          obtain ⟨c, hc⟩ : ∃ c, (str l)[k]'(by omega) = c := ⟨_, rfl⟩
          have hc2 : l[k]? = some c := by rw [← hc, str_get]; exact List.getElem?_eq_getElem hlt
          have htk : l.take (k + 1) = l.take k ++ [c] := by rw [List.take_add_one, hc2]; rfl
          have hcn : c.toNat < 256 := c.toNat_lt
          have hesc := escQs_snoc (l.take k) c
          rw [← htk] at hesc
          have hel := congrArg List.length hesc
          rw [List.length_append, ← HJ.out] at hel
          rw [hel] at hJN
          have hcell : ∀ j, wr.cell? ⟨b, j, none⟩ = w.cell? ⟨b, j, none⟩ := fun j => (HK.out.cell (p := ⟨b, j, none⟩) (by simp only; omega) (by simp only; omega)).trans (B2.out.cell (p := ⟨b, j, none⟩) hbl)
          have i2 : (0 : Int) ≤ (c.toNat : Int) := by omega
          have i3 : (c.toNat : Int) < 256 := by omega
          have HEL := Lib.hid hel
          have HES := Lib.hid hesc
          clear hc2 htk hel hesc
          rcases HC.out c with ⟨h1, h2⟩ | ⟨h1, g, cq, h2, hcq, hgb, hgv, hrow⟩
          · rw [← hcell] at h2
            rw [esc_not c h1] at HEL HES hJN
            have hJ1 : J < N := by simp at hJN; omega
            have j0 : (0 : Int) ≤ (J : Int) := by omega
            have j1 : (J : Int) < (N : Int) := by omega
            obtain ⟨u, hu⟩ : ∃ u, wr.cell? ⟨w.heap.size, J, none⟩ = some u := ⟨_, (HD.out.cell J).trans (Array.getElem?_eq_getElem (by omega))⟩
            have fz := HD.out.frozen J
            clear hcell
            go_wp2
            go_roundw
            case rel =>
              refine ⟨k + 1, J + 1, _, by omega, by go_num, by go_num, HEL.out.symm, HD.out.set_ J _, by simpa using hcur, ?_, HK.out.setCell (p := ⟨w.heap.size, J, none⟩) (.inl rfl) _⟩
              rw [HES.out, bv_append, ← HP.out, Array.toList_setIfInBounds]
              exact take_set_one _ _ _ (by simpa using (by omega : J < cur.size))
            case measure => simp [intOf]; omega
          · rw [← hcell] at h2
            have he2 := esc_len c h1
            rw [he2] at HEL hJN
            have hgl : g < w.heap.size := by
              obtain ⟨ad, u, ea, _, _, e⟩ := hrow.at_ (k := 0) (by decide)
              injection ea with ea
              subst ea
              have := World.block_lt_of_cell? w _ e
              rwa [addr_block] at this
            have hrow2 := (hrow.below B2.out (fun k (e : k = g) => by omega)).keep HK.out (fun k (e : k = g) (e2 : k = w.heap.size) => by omega)
            have hsrc : ∀ (W : World), (∀ a, W.cell? a = wr.cell? a) → ∀ j v, (bv (escQ c))[j]? = some v → W.cell? ((⟨g, 0, none⟩ : Addr).add j) = some v := fun W hW j v hv => by
              obtain ⟨ad, e, _, hcl⟩ := hrow2.2 (by decide)
              injection e with e
              subst e
              rw [hW]
              exact hcl j v hv
            have hlb : (bv (escQ c)).length = 2 := by rw [bv_length, he2]
            have j0 : (0 : Int) ≤ (J : Int) := by omega
            have j1 : (J : Int) ≤ (N : Int) := by omega
            have hJc : ¬ N = J := by omega
            have hcp := fun ty => run_copy_row (P := Tryz.prog) wr.drew 43 43 ty 5 w.heap.size J (N - J) (N - J) ⟨g, 0, none⟩ 2 cq cur 5 (bv (escQ c)) Tryz.underlying43 (by kernel_rfl) HD.out (by rw [hlb]; show 2 = min 2 (N - J); omega) (hsrc wr.drew (fun a => rfl)) (by omega) (bv_one _)
            rw [hlb] at hcp
            have HLB := Lib.hid hlb
            clear hcell hsrc hrow hrow2 hlb he2
            go_wp2
            refine wp_region_plan (S := fun w' => w'.cell? ⟨b, c.toNat, none⟩ = some (.slice (some ⟨g, 0, none⟩) 2 cq)) 13
              [(0, true), (1, true), (2, true), (3, true), (4, true), (5, true), (6, true), (7, true), (8, true), (9, true), (10, false), (11, true), (12, true)] (by kernel_rfl) (by kernel_rfl) ?_ (fun hHeld => ?_)
            · exact h2
            iterate 10 (refine plan_take (v := ?_) rfl (by assumption) rfl (fun _ _ _ h => h) ?_ ?_; rotate_left; · (intro w hSw; (try dsimp only at hSw); go_simp; try with_reducible rfl); all_goals (simp only [Act.put, List.setIfInBounds_toArray, List.set_cons_zero, List.set_cons_succ]))
            refine plan_op rfl (by decide) (fun K hK => ?_)
            go_simp
            obtain ⟨cs2, hcs2⟩ : ∃ cs2, (List.take J cur.toList ++ (bv (escQ c) ++ List.drop (J + 2) cur.toList)).toArray = cs2 := ⟨_, rfl⟩
            rw [hcs2]
            have hd2 : Blk (wr.drew.setRow w.heap.size cs2) w.heap.size 5 cs2 := setRow_heap wr.drew w.heap.size cur cs2 _ _ HD.out
            have hk2 : Keep (fun k => k = w.heap.size) wr (wr.drew.setRow w.heap.size cs2) := ⟨rfl, rfl, rfl, by rw [setRow_size]; exact Nat.le_refl _, fun k _ hk => setRow_other wr.drew w.heap.size k cs2 hk⟩
            have hc3 : (wr.drew.setRow w.heap.size cs2).cell? ⟨b, c.toNat, none⟩ = some (.slice (some ⟨g, 0, none⟩) 2 cq) := (hk2.cell (p := ⟨b, c.toNat, none⟩) (World.block_lt_of_cell? _ _ h2) (by simp only; omega)).trans h2
            refine hK.out _ _ hc3 (fun hHeld => ?_)
            have HD2 := Lib.hid hd2
            have HK2 := Lib.hid (HK.out.trans hk2)
            have HCS := Lib.hid hcs2
            clear hK K hcs2 hd2 hk2 hcp
            generalize wr.drew.setRow w.heap.size cs2 = wr2 at hc3 HD2 HK2 hHeld ⊢
            iterate 2 (refine plan_take (v := ?_) rfl (by assumption) rfl (fun _ _ _ h => h) ?_ ?_; rotate_left; · (intro w hSw; (try dsimp only at hSw); go_simp; try with_reducible rfl); all_goals (simp only [Act.put, List.setIfInBounds_toArray, List.set_cons_zero, List.set_cons_succ]))
            simp only [wpPlan]
            go_wp2
            go_roundw
            case rel =>
              have hcl : cs2.toList = List.take J cur.toList ++ bv (escQ c) ++ List.drop (J + 2) cur.toList := by rw [← HCS.out]; simp
              refine ⟨k + 1, J + 2, cs2, by omega, by go_num, by go_num, HEL.out.symm, HD2.out, ?_, ?_, HK2.out⟩
              · rw [← Array.length_toList, hcl]
                have h3 : cur.toList.length = N := by rw [Array.length_toList, hcur]
                have h4 := HLB.out
                simp only [List.length_append, List.length_take, List.length_drop, h3, h4]
                omega
              · rw [hcl, take_splice _ _ _ _ (by rw [Array.length_toList, hcur]; omega) HLB.out, HES.out, bv_append, HP.out]; exact rfl
            case measure => simp [intOf]; omega
        · have hkl : k = l.length := by omega
          subst hkl
          have hJ := HJ.out
          have hP := HP.out
          rw [List.take_length] at hJ hP
          have hJN2 : J = N := by rw [hJ, HLEN.out]; exact HN.out
          have hrow : Row (fun k => k = w.heap.size) wr 1 (some ⟨w.heap.size, 0, none⟩) N (bv (escQs l)) := by
            refine ⟨by rw [bv_length, ← hJ, hJN2]; omega, fun _ => ⟨_, rfl, rfl, fun j u hu => ?_⟩⟩
            rw [addr_lit, Nat.zero_add, HD.out.cell j]
            rw [← hP, hJN2, List.take_of_length_le (by rw [Array.length_toList, hcur]; omega)] at hu
            simpa using hu
          have hcv := conv_row hrow N
          have HBW := Lib.hid (B2.out.trans (HK.out.below (B := w.heap.size) (by omega) (fun i hi (e : i = w.heap.size) => by omega)))
          clear hrow hJ hP
          go_wp2
          go_ret
          exact ⟨rfl, HBW.out⟩
end Go.Proofs.YtgkiffodnofggaaGreatDoor
