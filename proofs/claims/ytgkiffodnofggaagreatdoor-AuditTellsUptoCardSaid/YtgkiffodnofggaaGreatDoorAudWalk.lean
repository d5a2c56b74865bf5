/-
  The walk of the law AuditTells.
-/
import Derived.Test.YtgkiffodnofggaaGreatDoorAudLives
import Derived.Test.YtgkiffodnofggaaGreatDoorAudCount
import Derived.Test.YtgkiffodnofggaaGreatDoorAudRPrint
import Derived.Test.YtgkiffodnofggaaGreatDoorAudRSum
import Derived.Laws.StructEq
namespace Go.Proofs.YtgkiffodnofggaaGreatDoor
open Go.RowKit
set_option linter.unusedVariables false
set_option linter.unusedSimpArgs false

set_option maxRecDepth 100000 in
theorem neq_ten (l : List Int) (h : l.length = 10) (W : World) : (binOp .neq 26 (.agg (iv l).toArray) (.agg (iv l).toArray)).run Tryz.prog W = .ok (.bool false) W := by
  obtain ⟨a, b, c, d, e, f, g, i, j, k, rfl⟩ := ten h
  simp only [iv, List.map_cons, List.map_nil]
  have u3 := Tryz.underlying3
  have a3 := Tryz.isAgg3
  have z3 := Tryz.sizeOf3
  rw [run_neq_struct, show (10000 : Nat) = 9999 + 1 from rfl, Op.equalIn]
  simp only [Sem.run_bind, run_underlying Tryz.underlying26, Result.andThen_ok]
  simp only [Std.Legacy.Range.forIn_eq_forIn_range', Std.Legacy.Range.size, Nat.sub_zero, Nat.add_sub_cancel, Nat.div_one, List.range'_succ, List.range'_zero, List.forIn_cons, List.forIn_nil]
  go_simp

set_option maxHeartbeats 8000000 in
set_option maxRecDepth 100000 in
theorem auditTells_walk (S : Nat → Prop) (A : Option Addr) (cp : Nat) (L : List Fd) (w : World) (hr : Row S w 5 A L.length (L.flatMap fdCells)) (hS : ∀ k, S k → k < w.heap.size) (hok : ∀ f ∈ L, f.ok) (hw : fwt L ≤ 1048576) (hT : Tab w) :
    Calls Tryz.prog 3 #[.slice A L.length cp] w fun e w' => e = .returned (.bool true) ∧ Below w.heap.size w w' := by
  have hfl := fwt_length L
  have K1 := Lib.hid (fun W (hb : Below w.heap.size w W) => names_any S A cp L W (hr.below hb hS) (fun k h => Nat.lt_of_lt_of_le (hS k h) hb.size) hw)
  have K2 := Lib.hid (fun W (hb : Below w.heap.size w W) => rnames_any S A cp L W (hr.below hb hS) (fun k h => Nat.lt_of_lt_of_le (hS k h) hb.size) hw)
  have K3 := Lib.hid (fun W (hb : Below w.heap.size w W) => tcount_any S A cp L W (hr.below hb hS) (fun k h => Nat.lt_of_lt_of_le (hS k h) hb.size) (by omega))
  have K4 := Lib.hid (fun W (hb : Below w.heap.size w W) => rcount_any S A cp L W (hr.below hb hS) (fun k h => Nat.lt_of_lt_of_le (hS k h) hb.size) (by omega))
  have K5 := Lib.hid (fun W (hb : Below w.heap.size w W) => print_any S A cp L W (hr.below hb hS) (fun k h => Nat.lt_of_lt_of_le (hS k h) hb.size) hok hw (hT.behind hb))
  have K6 := Lib.hid (fun W (hb : Below w.heap.size w W) => rprint_any S A cp L W (hr.below hb hS) (fun k h => Nat.lt_of_lt_of_le (hS k h) hb.size) hok hw)
  have K7 := Lib.hid (fun W (hb : Below w.heap.size w W) => summary_any S A cp L W (hr.below hb hS) (fun k h => Nat.lt_of_lt_of_le (hS k h) hb.size) hok hw (hT.behind hb))
  have K8 := Lib.hid (fun W (hb : Below w.heap.size w W) => rsummary_any S A cp L W (hr.below hb hS) (fun k h => Nat.lt_of_lt_of_le (hS k h) hb.size) hok hw)
  have K9 := Lib.hid (fun W (hb : Below w.heap.size w W) => lives_any W (hT.behind hb))
  have hne := fun W => neq_ten (cnW (L.map Fd.why)) (cnW_length _) W
  clear hr hS hok hT
  generalize (iv (cnW (L.map Fd.why))).toArray = ct at K3 K4 hne
  generalize printB L = pb at K5 K6
  generalize summaryB L = sb at K7 K8
  generalize namesB L = nb at K1 K2
  go_enter Tryz.func3, Tryz.ntmps3
  go_wp2_with fail
  refine (K1.out w (Below.refl _ _)).mono ?_
  rintro e w1 ⟨A1, c1, rfl, ho1, hb1⟩
  have HO1 := Lib.hid ho1
  have B1 := Lib.hid hb1
  clear ho1 hb1 K1
  go_wp2_with fail
  refine (K2.out w1 B1.out).mono ?_
  rintro e w2 ⟨A2, c2, rfl, ho2, hb2⟩
  have HO2 := Lib.hid (own_less ho2 B1.out.size)
  have HO1' := Lib.hid (own_behind HO1.out hb2)
  have B2 := Lib.hid (B1.out.trans (hb2.mono B1.out.size))
  clear ho2 hb2 K2 HO1 B1
  go_wp2_with fail
  refine (K3.out w2 B2.out).mono ?_
  rintro e w3 ⟨rfl, hb3⟩
  have B3 := Lib.hid (B2.out.trans (hb3.mono B2.out.size))
  have HO13 := Lib.hid (own_behind HO1'.out hb3)
  have HO23 := Lib.hid (own_behind HO2.out hb3)
  clear hb3 K3 B2 HO1' HO2
  go_wp2_with fail
  refine (K4.out w3 B3.out).mono ?_
  rintro e w4 ⟨rfl, hb4⟩
  have B4 := Lib.hid (B3.out.trans (hb4.mono B3.out.size))
  have HO14 := Lib.hid (own_behind HO13.out hb4)
  have HO24 := Lib.hid (own_behind HO23.out hb4)
  clear hb4 K4 B3 HO13 HO23
  go_wp2_with fail
  refine (K5.out w4 B4.out).mono ?_
  rintro e w5 ⟨rfl, hb5⟩
  have B5 := Lib.hid (B4.out.trans (hb5.mono B4.out.size))
  have HO15 := Lib.hid (own_behind HO14.out hb5)
  have HO25 := Lib.hid (own_behind HO24.out hb5)
  clear hb5 K5 B4 HO14 HO24
  go_wp2_with fail
  refine (K6.out w5 B5.out).mono ?_
  rintro e w6 ⟨rfl, hb6⟩
  have B6 := Lib.hid (B5.out.trans (hb6.mono B5.out.size))
  have HO16 := Lib.hid (own_behind HO15.out hb6)
  have HO26 := Lib.hid (own_behind HO25.out hb6)
  clear hb6 K6 B5 HO15 HO25
  go_wp2_with fail
  refine (K7.out w6 B6.out).mono ?_
  rintro e w7 ⟨rfl, hb7⟩
  have B7 := Lib.hid (B6.out.trans (hb7.mono B6.out.size))
  have HO17 := Lib.hid (own_behind HO16.out hb7)
  have HO27 := Lib.hid (own_behind HO26.out hb7)
  clear hb7 K7 B6 HO16 HO26
  go_wp2_with fail
  refine (K8.out w7 B7.out).mono ?_
  rintro e w8 ⟨rfl, hb8⟩
  have B8 := Lib.hid (B7.out.trans (hb8.mono B7.out.size))
  have HO18 := Lib.hid (own_behind HO17.out hb8)
  have HO28 := Lib.hid (own_behind HO27.out hb8)
  clear hb8 K8 B7 HO17 HO27
  go_wp2_with fail
  have hnbl : nb.length ≤ 9223372036854775807 := by
    obtain ⟨A3, c3, e3, h3, h4⟩ := own_slice HO18.out
    unfold maxLen at h4
    omega
  go_loopw [38] (fun jv wr => ∃ (j m : Nat), j ≤ nb.length ∧ jv = .int .i64 (j : Int) ∧ Hid (wr = w8.drewN m)) (fun jv _ => nb.length - (intOf jv).toNat)
  case atStart => exact ⟨0, 0, Nat.zero_le _, rfl, rfl⟩
  case round =>
    obtain ⟨j, m, hj, rfl, HWR⟩ := hrel
    have o1 : wr.ownsRow w.heap.size 9 1 (.slice A1 nb.length c1) nb.length (txv nb) := by rw [HWR.out]; exact own_less (own_drewN HO18.out m) (Nat.le_refl _)
    have o2 : wr.ownsRow w.heap.size 9 1 (.slice A2 nb.length c2) nb.length (txv nb) := by rw [HWR.out]; exact own_drewN HO28.out m
    have B := Lib.hid (show Below w.heap.size w wr by rw [HWR.out]; exact below_drewN B8.out m)
    by_cases hjl : j < nb.length
    · have hu := txv_get nb j hjl
      obtain ⟨a1, u1, rfl, _, hu1, e1⟩ := (Row.of_own o1).at_ hjl
      obtain ⟨a2, u2, rfl, _, hu2, e2⟩ := (Row.of_own o2).at_ hjl
      rw [hu] at hu1 hu2
      obtain rfl := Option.some.inj hu1
      obtain rfl := Option.some.inj hu2
      have j0 : (0 : Int) ≤ (j : Int) := by omega
      have j1 : (j : Int) < (nb.length : Int) := by omega
      generalize nb[j] = x at e1 e2
      clear hu hu1 hu2 o1 o2
      go_wp2_with fail
      go_quiet (fail)
      go_wp2
      go_roundw
      case rel => exact ⟨j + 1, m + nq, by omega, by go_num, by rw [HWR.out, World.drewN_drewN]; rfl⟩
      case measure => simp [intOf]; omega
    · have hjn : j = nb.length := by omega
      clear o1 o2
      go_wp2_with fail
      refine (K9.out wr B.out).mono ?_
      rintro e w9 ⟨rfl, hb9⟩
      have B9 := Lib.hid (B.out.trans (hb9.mono B.out.size))
      clear hb9
      go_wp2
      go_ret
      exact ⟨rfl, B9.out⟩
end Go.Proofs.YtgkiffodnofggaaGreatDoor
