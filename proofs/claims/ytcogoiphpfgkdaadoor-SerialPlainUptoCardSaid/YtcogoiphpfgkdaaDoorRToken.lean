/-
  The contracts of the reference's token words: valid, stop, TagName, AttrName.
-/
import Derived.Test.YtcogoiphpfgkdaaDoorUtfAll
import Derived.Test.YtcogoiphpfgkdaaDoorRunesAll
namespace Go.Proofs.YtcogoiphpfgkdaaDoor
open Go.RowKit
set_option linter.unusedVariables false
set_option linter.unusedSimpArgs false

theorem rn_ok_true {d : UInt8} {k : Nat} {X R : Bool} (h : (!(false || (true && decide (d.toNat = 61) && decide (0 < k))) && X) = R) (hb : ¬ (d.toNat = 61 ∧ 0 < k)) : X = R := by
  rw [← h]
  have : (!(false || (true && decide (d.toNat = 61) && decide (0 < k)))) = true := by
    simp
    omega
  rw [this, Bool.true_and]
theorem rn_bad_true {d : UInt8} {k : Nat} {X R : Bool} (h : (!(false || (true && decide (d.toNat = 61) && decide (0 < k))) && X) = R) (hb : d.toNat = 61 ∧ 0 < k) : false = R := by
  rw [← h]
  have : (!(false || (true && decide (d.toNat = 61) && decide (0 < k)))) = false := by
    simp
    omega
  rw [this, Bool.false_and]
theorem rn_ok_false {d : UInt8} {k : Nat} {X R : Bool} (h : (!(false || (false && decide (d.toNat = 61) && decide (0 < k))) && X) = R) (_hb : True) : X = R := by
  rw [← h]
  simp
theorem rn_bad_false {R : Bool} (_h : True) (hb : False) : false = R := hb.elim
set_option maxHeartbeats 4000000 in
theorem rtvalid_any (l : List UInt8) (w : World) (hn : l.length ≤ 1073741824) : Calls Tryd.prog 60 #[.string (str l)] w fun e w' => e = .returned (.bool (validB l)) ∧ Below w.heap.size w w' := by
  obtain ⟨c, w2, hc, hcl, hb, hr, hz⟩ := conv_str l w
  have K := Lib.hid (rvalid_any _ _ _ c l w2 hr hn hcl (fun k hk => by omega))
  have B := Lib.hid hb
  clear hb hr
  go_enter Tryd.func60, Tryd.ntmps60
  go_wp2_with (go_at_call 35; refine K.out.mono ?_; rintro e w3 ⟨rfl, hb3⟩)
  go_ret
  exact ⟨rfl, B.out.trans (hb3.mono B.out.size)⟩

set_option maxHeartbeats 8000000 in
set_option maxRecDepth 100000 in
theorem rstop_any (c : UInt8) (w : World) : Calls Tryd.prog 61 #[.int .u8 c.toNat] w fun e w' => e = .returned (.bool (stopB c)) ∧ w = w' := by
  obtain ⟨R, hR⟩ : ∃ R, stopB c = R := ⟨_, rfl⟩
  rw [hR]
  unfold stopB at hR
  generalize c.toNat = n at hR ⊢
  have H := Lib.hid hR
  clear hR
  go_enter Tryd.func61, Tryd.ntmps61
  go_wp2
  all_goals
    go_ret
    refine ⟨retb ?_, rfl⟩
    rw [← H.out, Bool.eq_iff_iff]
    simp only [Bool.or_eq_true, Bool.and_eq_true, beq_iff_eq, decide_eq_true_eq, true_iff, Bool.false_eq_true, false_iff] at *
    omega

set_option maxHeartbeats 8000000 in
set_option maxRecDepth 100000 in
theorem rtag_any (l : List UInt8) (w : World) (hn : l.length ≤ 1073741824) : Calls Tryd.prog 36 #[.string (str l)] w fun e w' => e = .returned (.bool (nameB false l)) ∧ Below w.heap.size w w' := by
  have K := Lib.hid (fun W => rtvalid_any l W hn)
  cases l with
  | nil =>
    have hv : validB [] = true := by rw [validB]
    rw [hv] at K
    go_enter Tryd.func36, Tryd.ntmps36
    go_wp2_with (go_at_call 60; refine (K.out _).mono ?_; rintro e w1 ⟨rfl, hb1⟩)
    go_ret
    exact ⟨rfl, hb1⟩
  | cons c r =>
    obtain ⟨L, hL⟩ : ∃ L, c :: r = L := ⟨_, rfl⟩
    obtain ⟨n, hln⟩ : ∃ n, L.length = n := ⟨_, rfl⟩
    have hsz : (str L).size = n := by rw [str_size, hln]
    have hn0 : 0 < n := by rw [← hln, ← hL]; simp
    have hq : (L == []) = false := by rw [← hL]; rfl
    have h0 : (str L)[0]'(by omega) = c := by subst hL; rfl
    obtain ⟨V, hV⟩ : ∃ V, validB L = V := ⟨_, rfl⟩
    obtain ⟨R, hR⟩ : ∃ R, nameB false L = R := ⟨_, rfl⟩
    have hR2 := hR
    rw [← hL, nameB, hL, hV] at hR2
    rw [hL] at K ⊢
    rw [hV] at K
    rw [hL, hln] at hn
    rw [hR]
    have HR := Lib.hid hR2
    have HL := Lib.hid hln
    have cl : c.toNat < 256 := c.toNat_lt
    clear hR hR2 hL hV hln
    by_cases hgo : V = true ∧ (97 ≤ c.toNat ∧ c.toNat ≤ 122)
    · skip
      rcases hgo with ⟨rfl, hat⟩
      have hrest : nameRest false 0 L = R := by
        have := HR.out
        rw [← this]
        simp [hat]
      have HN := Lib.hid hrest
      have d1 : decide ((c.toNat : Int) < 97) = false := by simp; omega
      have d2 : decide (122 < (c.toNat : Int)) = false := by simp; omega
      clear hrest HR hat
      go_enter Tryd.func36, Tryd.ntmps36
      go_wp2_with (go_at_call 60; refine (K.out _).mono ?_; rintro e w1 ⟨rfl, hb1⟩)
      clear h0 hq
      go_loopw [3] (fun i wr => ∃ k : Nat, k ≤ n ∧ i = .int .i64 k ∧ Hid (nameRest false k (L.drop k) = R) ∧ Hid (Below w.heap.size w wr)) (fun i _ => n - (intOf i).toNat)
      case atStart => exact ⟨0, Nat.zero_le _, rfl, HN.out, hb1⟩
      case round =>
        obtain ⟨k, hk, rfl, HK, HB⟩ := hrel
        by_cases hlt : k < n
        · obtain ⟨d, hd⟩ : ∃ d, (str L)[k]'(by omega) = d := ⟨_, rfl⟩
          have hdk : L.drop k = d :: L.drop (k + 1) := by
            rw [← hd, str_get, List.drop_eq_getElem_cons]
          have hv := HK.out
          rw [hdk, nameRest] at hv
          have K2 := Lib.hid (fun W => rstop_any d W)
          obtain ⟨sb, hsb⟩ : ∃ sb, stopB d = sb := ⟨_, rfl⟩
          rw [hsb] at hv K2
          have HV := Lib.hid hv
          have i0 : (0 : Int) ≤ (k : Int) := by omega
          have i1 : (k : Int) < (n : Int) := by omega
          clear hdk hv HK hsb
          cases sb with
          | true =>
            go_wp2_with (go_at_call 61; refine (K2.out _).mono ?_; rintro e w2 ⟨rfl, rfl⟩)
            go_ret
            refine ⟨retb ?_, HB.out⟩
            rw [← HV.out]
            simp
          | false =>
            go_wp2_with (go_at_call 61; refine (K2.out _).mono ?_; rintro e w2 ⟨rfl, rfl⟩)
            go_roundw
            case rel => exact ⟨k + 1, by omega, by go_num, rn_ok_false HV.out trivial, HB.out⟩
            case measure => simp [intOf]; omega
        · have hfin : R = true := by
            have := HK.out
            rw [List.drop_eq_nil_of_le (by rw [HL.out]; omega), nameRest] at this
            exact this.symm
          subst hfin
          go_wp2
          go_ret
          exact ⟨rfl, HB.out⟩
    · skip
      have hRf : R = false := by
        rw [← HR.out]
        cases V
        · simp
        · simp at hgo ⊢
          intro h1
          omega
      subst hRf
      clear HR
      cases V with
      | false =>
        go_enter Tryd.func36, Tryd.ntmps36
        go_wp2_with (go_at_call 60; refine (K.out _).mono ?_; rintro e w1 ⟨rfl, hb1⟩)
        go_ret
        exact ⟨rfl, hb1⟩
      | true =>
        by_cases h1 : c.toNat < 97
        · have d1 : decide ((c.toNat : Int) < 97) = true := by simp; omega
          clear hgo
          go_enter Tryd.func36, Tryd.ntmps36
          go_wp2_with (go_at_call 60; refine (K.out _).mono ?_; rintro e w1 ⟨rfl, hb1⟩)
          go_ret
          exact ⟨rfl, hb1⟩
        · have d1 : decide ((c.toNat : Int) < 97) = false := by simp; omega
          have d2 : decide (122 < (c.toNat : Int)) = true := by
            simp at hgo ⊢
            omega
          clear hgo
          go_enter Tryd.func36, Tryd.ntmps36
          go_wp2_with (go_at_call 60; refine (K.out _).mono ?_; rintro e w1 ⟨rfl, hb1⟩)
          go_ret
          exact ⟨rfl, hb1⟩

set_option maxHeartbeats 8000000 in
set_option maxRecDepth 100000 in
theorem rattr_any (l : List UInt8) (w : World) (hn : l.length ≤ 1073741824) : Calls Tryd.prog 62 #[.string (str l)] w fun e w' => e = .returned (.bool (nameB true l)) ∧ Below w.heap.size w w' := by
  have K := Lib.hid (fun W => rtvalid_any l W hn)
  cases l with
  | nil =>
    have hv : validB [] = true := by rw [validB]
    rw [hv] at K
    go_enter Tryd.func62, Tryd.ntmps62
    go_wp2_with (go_at_call 60; refine (K.out _).mono ?_; rintro e w1 ⟨rfl, hb1⟩)
    go_ret
    exact ⟨rfl, hb1⟩
  | cons c r =>
    obtain ⟨L, hL⟩ : ∃ L, c :: r = L := ⟨_, rfl⟩
    obtain ⟨n, hln⟩ : ∃ n, L.length = n := ⟨_, rfl⟩
    have hsz : (str L).size = n := by rw [str_size, hln]
    have hn0 : 0 < n := by rw [← hln, ← hL]; simp
    have hq : (L == []) = false := by rw [← hL]; rfl
    have h0 : (str L)[0]'(by omega) = c := by subst hL; rfl
    obtain ⟨V, hV⟩ : ∃ V, validB L = V := ⟨_, rfl⟩
    obtain ⟨R, hR⟩ : ∃ R, nameB true L = R := ⟨_, rfl⟩
    have hR2 := hR
    rw [← hL, nameB, hL, hV] at hR2
    rw [hL] at K ⊢
    rw [hV] at K
    rw [hL, hln] at hn
    rw [hR]
    have HR := Lib.hid hR2
    have HL := Lib.hid hln
    have cl : c.toNat < 256 := c.toNat_lt
    clear hR hR2 hL hV hln
    by_cases hgo : V = true
    · skip
      subst hgo
      have hrest : nameRest true 0 L = R := by
        have := HR.out
        rw [← this]
        simp
      have HN := Lib.hid hrest
      clear hrest HR
      go_enter Tryd.func62, Tryd.ntmps62
      go_wp2_with (go_at_call 60; refine (K.out _).mono ?_; rintro e w1 ⟨rfl, hb1⟩)
      clear h0 hq
      go_loopw [3] (fun i wr => ∃ k : Nat, k ≤ n ∧ i = .int .i64 k ∧ Hid (nameRest true k (L.drop k) = R) ∧ Hid (Below w.heap.size w wr)) (fun i _ => n - (intOf i).toNat)
      case atStart => exact ⟨0, Nat.zero_le _, rfl, HN.out, hb1⟩
      case round =>
        obtain ⟨k, hk, rfl, HK, HB⟩ := hrel
        by_cases hlt : k < n
        · obtain ⟨d, hd⟩ : ∃ d, (str L)[k]'(by omega) = d := ⟨_, rfl⟩
          have hdk : L.drop k = d :: L.drop (k + 1) := by
            rw [← hd, str_get, List.drop_eq_getElem_cons]
          have hv := HK.out
          rw [hdk, nameRest] at hv
          have K2 := Lib.hid (fun W => rstop_any d W)
          obtain ⟨sb, hsb⟩ : ∃ sb, stopB d = sb := ⟨_, rfl⟩
          rw [hsb] at hv K2
          have HV := Lib.hid hv
          have i0 : (0 : Int) ≤ (k : Int) := by omega
          have i1 : (k : Int) < (n : Int) := by omega
          clear hdk hv HK hsb
          cases sb with
          | true =>
            go_wp2_with (go_at_call 61; refine (K2.out _).mono ?_; rintro e w2 ⟨rfl, rfl⟩)
            go_ret
            refine ⟨retb ?_, HB.out⟩
            rw [← HV.out]
            simp
          | false =>
            go_wp2_with (go_at_call 61; refine (K2.out _).mono ?_; rintro e w2 ⟨rfl, rfl⟩)
            all_goals first
              | (go_ret
                 refine ⟨retb (rn_bad_true HV.out ?_), HB.out⟩
                 (try simp only [beq_iff_eq, beq_eq_false_iff_ne, ne_eq] at *)
                 omega)
              | (refine ⟨⟨k + 1, by omega, by go_num, rn_ok_true HV.out ?_, HB.out⟩, ?_⟩
                 · (try simp only [beq_iff_eq, beq_eq_false_iff_ne, ne_eq] at *)
                   omega
                 · simp [intOf]
                   omega)
        · have hfin : R = true := by
            have := HK.out
            rw [List.drop_eq_nil_of_le (by rw [HL.out]; omega), nameRest] at this
            exact this.symm
          subst hfin
          go_wp2
          go_ret
          exact ⟨rfl, HB.out⟩
    · skip
      have hV : V = false := by simpa using hgo
      subst hV
      have hRf : R = false := by
        rw [← HR.out]
        simp
      subst hRf
      clear HR hgo
      go_enter Tryd.func62, Tryd.ntmps62
      go_wp2_with (go_at_call 60; refine (K.out _).mono ?_; rintro e w1 ⟨rfl, hb1⟩)
      go_ret
      exact ⟨rfl, hb1⟩
end Go.Proofs.YtcogoiphpfgkdaaDoor
