/-
  The contracts of the reference's blank, Fields, text, In.
-/
import Derived.Test.YtcogoiphpfgkdaaDoorSets
import Derived.Test.YtcogoiphpfgkdaaDoorRunesAll
namespace Go.Proofs.YtcogoiphpfgkdaaDoor
open Go.RowKit
set_option linter.unusedVariables false
set_option linter.unusedSimpArgs false

def blankB (c : UInt8) : Bool := decide (c.toNat = 9 ∨ c.toNat = 10 ∨ c.toNat = 12 ∨ c.toNat = 32)
set_option maxHeartbeats 4000000 in
theorem rBlank_any (r : Int) (w : World) : Calls Tryd.prog 92 #[.int .i32 r] w fun e w' => e = .returned (.bool (decide (r = 9 ∨ r = 10 ∨ r = 12 ∨ r = 32))) ∧ w = w' := by
  obtain ⟨R, hR⟩ : ∃ R, decide (r = 9 ∨ r = 10 ∨ r = 12 ∨ r = 32) = R := ⟨_, rfl⟩
  rw [hR]
  have H := Lib.hid hR
  clear hR
  go_enter Tryd.func92, Tryd.ntmps92
  go_wp2
  all_goals
    go_ret
    refine ⟨retb ?_, rfl⟩
    rw [← H.out, Bool.eq_iff_iff]
    simp only [Bool.or_eq_true, Bool.and_eq_true, beq_iff_eq, decide_eq_true_eq, true_iff, Bool.false_eq_true, false_iff]
    omega
theorem rblank_any (c : UInt8) (w : World) : Calls Tryd.prog 83 #[.int .u8 c.toNat] w fun e w' => e = .returned (.bool (blankB c)) ∧ w = w' := by
  have K := Lib.hid (rBlank_any c.toNat w)
  have hb : decide ((c.toNat : Int) = 9 ∨ (c.toNat : Int) = 10 ∨ (c.toNat : Int) = 12 ∨ (c.toNat : Int) = 32) = blankB c := by
    unfold blankB
    rw [decide_eq_decide]
    omega
  rw [hb] at K
  have cl : c.toNat < 256 := c.toNat_lt
  clear hb
  go_enter Tryd.func83, Tryd.ntmps83
  go_wp2_with (go_at_call 92; refine K.out.mono ?_; rintro e w1 ⟨rfl, rfl⟩)
  go_ret
  exact ⟨rfl, rfl⟩

/-- The parts without a blank. -/
def rf (cur : List UInt8) : List UInt8 → List (List UInt8)
  | [] => if cur = [] then [] else [cur]
  | b :: l => if blankB b then (if cur = [] then rf [] l else cur :: rf [] l) else rf (cur ++ [b]) l
theorem strinfo : (Tryd.prog.info? 9).map (fun i => (i.zero, i.size, i.bytes)) = some (some (.string ByteArray.empty), 1, 16) := by kernel_rfl
def sv (l : List (List UInt8)) : List Value := l.map fun x => .string (str x)
theorem sv_length (l : List (List UInt8)) : (sv l).length = l.length := by simp [sv]
theorem str_extract (l : List UInt8) (f k : Nat) : (str l).extract f k = str ((l.drop f).take (k - f)) := by
  apply ByteArray.ext
  rw [ByteArray.data_extract]
  simp [str, List.extract_eq_take_drop]

set_option maxHeartbeats 8000000 in
set_option maxRecDepth 100000 in
theorem rfields_any (l : List UInt8) (w : World) (hn : l.length ≤ 1048576) :
    Calls Tryd.prog 63 #[.string (str l)] w (Gives fun v w' => w'.ownsRow w.heap.size 9 1 v (rf [] l).length (sv (rf [] l)) ∧ Below w.heap.size w w') := by
  obtain ⟨i0', hi, hz0, hz1, hz2⟩ := info_parts strinfo
  obtain ⟨R, hR⟩ : ∃ R, rf [] l = R := ⟨_, rfl⟩
  rw [hR]
  obtain ⟨n, hln⟩ : ∃ n, l.length = n := ⟨_, rfl⟩
  have hsz : (str l).size = n := by rw [str_size, hln]
  rw [hln] at hn
  have HR := Lib.hid hR
  have HL := Lib.hid hln
  have HEX := Lib.hid (fun f k => str_extract l f k)
  clear hR hln
  go_enter Tryd.func63, Tryd.ntmps63
  go_wp2
  go_loopw [3, 4, 5] (fun v f i wr => ∃ (k j : Nat) (D : List (List UInt8)), i = .int .i64 k ∧ f = .int .i64 j ∧ D.length ≤ k ∧ Hid (wr.ownsRow w.heap.size 9 1 v D.length (sv D)) ∧ Hid (Below w.heap.size w wr) ∧
    ((k ≤ n ∧ j ≤ k ∧ Hid (D ++ rf ((l.drop j).take (k - j)) (l.drop k) = R)) ∨ (k = n + 1 ∧ Hid (D = R)))) (fun _ _ i _ => n + 1 - (intOf i).toNat)
  case atStart => exact ⟨0, 0, [], rfl, rfl, Nat.zero_le _, World.ownsRow_nil _ _ _ _, Below.refl _ _, .inl ⟨Nat.zero_le _, Nat.le_refl _, HR.out⟩⟩
  case round =>
    obtain ⟨k, j, D, rfl, rfl, hDk, HO, HB, hcase⟩ := hrel
    obtain ⟨Av, cv, rfl, _, _⟩ := own_slice HO.out
    rcases hcase with ⟨hk, hj, HK⟩ | ⟨rfl, HK⟩
    · have lb := HB.out.size
      have i0 : (0 : Int) ≤ (k : Int) := by omega
      have j0 : (0 : Int) ≤ (j : Int) := by omega
      have j1 : (j : Int) ≤ (k : Int) := by omega
      have k1 : (k : Int) ≤ (n : Int) := by omega
      have hcur : ((l.drop j).take (k - j)).length = k - j := by
        rw [List.length_take, List.length_drop, HL.out]
        omega
      obtain ⟨cur, hc⟩ : ∃ cur, (l.drop j).take (k - j) = cur := ⟨_, rfl⟩
      rw [hc] at hcur
      have he : (str l).extract j k = str cur := by rw [HEX.out, hc]
      have hnil : cur = [] ↔ k = j := by
        rw [← List.length_eq_zero_iff, hcur]
        omega
      have HC := Lib.hid hc
      have HN := Lib.hid hnil
      have hv := HK.out
      rw [hc] at hv
      have HV := Lib.hid hv
      clear hv hc hnil HK hcur
      by_cases hlt : k < n
      · obtain ⟨d, hd⟩ : ∃ d, (str l)[k]'(by omega) = d := ⟨_, rfl⟩
        have hdk : l.drop k = d :: l.drop (k + 1) := by
          rw [← hd, str_get, List.drop_eq_getElem_cons]
        have hv := HV.out
        rw [hdk, rf] at hv
        have HDK := Lib.hid hdk
        have K := Lib.hid (fun W => rblank_any d W)
        have k2 : (k : Int) < (n : Int) := by omega
        cases hb : blankB d with
        | false =>
          rw [hb] at K hv
          simp only [Bool.false_eq_true, if_false] at hv
          have HVV := Lib.hid hv
          clear hv hdk
          go_wp2_with (go_at_call 83; refine (K.out _).mono ?_; rintro e w2 ⟨rfl, rfl⟩)
          go_roundw
          case rel =>
            refine ⟨k + 1, j, D, by go_num, rfl, by omega, HO.out, HB.out, .inl ⟨by omega, by omega, ?_⟩⟩
            show _ = R
            rw [← HVV.out]
            congr 2
            rw [show k + 1 - j = (k - j) + 1 by omega, List.take_add_one, HC.out]
            congr 1
            rw [List.getElem?_drop, show j + (k - j) = k by omega]
            have := congrArg List.head? HDK.out
            rw [List.head?_drop] at this
            rw [this]
            rfl
          case measure => simp [intOf]; omega
        | true =>
          rw [hb] at K hv
          simp only [if_true] at hv
          by_cases hjk : j < k
          · have hne : cur ≠ [] := fun e => by have := HN.out.1 e; omega
            rw [if_neg hne] at hv
            have HVV := Lib.hid hv
            have d1 : decide ((j : Int) < (k : Int)) = true := by simp; omega
            have d2 : decide (j < k) = true := by simpa using hjk
            clear hv hdk hne
            go_wp2_with (first
              | (go_at_call 83; refine (K.out _).mono ?_; rintro e w2 ⟨rfl, rfl⟩)
              | (at_builtin; refine wpList_append_row _ rfl _ _ 92 rfl w.heap.size 9 i0' _ 1 16 Tryd.underlying92 hi hz0 hz1 hz2 rfl (by decide) _ D.length (sv D) rfl (HO.out.alloc _) (fun j => j = wr.heap.size) (some ⟨wr.heap.size, 0, none⟩) 1 1 [.string (str cur)] rfl (Row.new wr 9 #[.string (str cur)] 1 1 rfl) (by simp [Value.oneCell']) (by simp only [maxLen]; omega) (by omega) (by simp; omega) ?_; intro v2 w2 ho2 hg2 hat2; obtain ⟨A2, c2, rfl, _, _⟩ := own_slice ho2; have HB2 := Lib.hid ((HB.out.alloc lb (.cells #[.string (str cur)] 9)).grown hg2 (by simp; omega) (fun j e => (HO.out.lt j e).1)); have HO2 := Lib.hid ho2; clear ho2 hg2 hat2))
            go_roundw
            case rel =>
              refine ⟨k + 1, k + 1, D ++ [cur], by go_num, by go_num, by simp; omega, ?_, HB2.out, .inl ⟨by omega, Nat.le_refl _, ?_⟩⟩
              · show w2.ownsRow _ _ _ _ _ _
                rw [List.length_append, sv, List.map_append]
                exact HO2.out
              · show _ = R
                rw [← HVV.out, Nat.sub_self, List.take_zero, List.append_assoc]
                rfl
            case measure => simp [intOf]; omega
          · have hne : cur = [] := HN.out.2 (by omega)
            rw [if_pos hne] at hv
            have HVV := Lib.hid hv
            have d1 : decide ((j : Int) < (k : Int)) = false := by simp; omega
            have d2 : decide (j < k) = false := by simpa using hjk
            clear hv hdk hne
            go_wp2_with (go_at_call 83; refine (K.out _).mono ?_; rintro e w2 ⟨rfl, rfl⟩)
            go_roundw
            case rel =>
              refine ⟨k + 1, k + 1, D, by go_num, by go_num, by omega, HO.out, HB.out, .inl ⟨by omega, Nat.le_refl _, ?_⟩⟩
              show _ = R
              rw [← HVV.out, Nat.sub_self, List.take_zero]
            case measure => simp [intOf]; omega
      · have hkn : k = n := by omega
        subst hkn
        have hv := HV.out
        rw [List.drop_eq_nil_of_le (by rw [HL.out]; omega), rf] at hv
        by_cases hjk : j < k
        · have hne : cur ≠ [] := fun e => by have := HN.out.1 e; omega
          rw [if_neg hne] at hv
          have HVV := Lib.hid hv
          have d1 : decide ((j : Int) < (k : Int)) = true := by simp; omega
          have d2 : decide (j < k) = true := by simpa using hjk
          clear hv hne
          go_wp2_with (at_builtin; refine wpList_append_row _ rfl _ _ 92 rfl w.heap.size 9 i0' _ 1 16 Tryd.underlying92 hi hz0 hz1 hz2 rfl (by decide) _ D.length (sv D) rfl (HO.out.alloc _) (fun j => j = wr.heap.size) (some ⟨wr.heap.size, 0, none⟩) 1 1 [.string (str cur)] rfl (Row.new wr 9 #[.string (str cur)] 1 1 rfl) (by simp [Value.oneCell']) (by simp only [maxLen]; omega) (by omega) (by simp; omega) ?_; intro v2 w2 ho2 hg2 hat2; obtain ⟨A2, c2, rfl, _, _⟩ := own_slice ho2; have HB2 := Lib.hid ((HB.out.alloc lb (.cells #[.string (str cur)] 9)).grown hg2 (by simp; omega) (fun j e => (HO.out.lt j e).1)); have HO2 := Lib.hid ho2; clear ho2 hg2 hat2)
          go_roundw
          case rel =>
            refine ⟨k + 1, k + 1, D ++ [cur], by go_num, by go_num, by simp; omega, ?_, HB2.out, .inr ⟨rfl, HVV.out⟩⟩
            show w2.ownsRow _ _ _ _ _ _
            rw [List.length_append, sv, List.map_append]
            exact HO2.out
          case measure => simp [intOf]
        · have hne : cur = [] := HN.out.2 (by omega)
          rw [if_pos hne, List.append_nil] at hv
          have HVV := Lib.hid hv
          have d1 : decide ((j : Int) < (k : Int)) = false := by simp; omega
          have d2 : decide (j < k) = false := by simpa using hjk
          clear hv hne
          go_wp2
          go_roundw
          case rel => exact ⟨k + 1, k + 1, D, by go_num, by go_num, by omega, HO.out, HB.out, .inr ⟨rfl, HVV.out⟩⟩
          case measure => simp [intOf]
    · have d : decide (((n + 1 : Nat) : Int) ≤ (n : Int)) = false := by simp; omega
      go_wp2
      go_ret
      have := HK.out
      subst this
      exact ⟨_, rfl, HO.out, HB.out⟩
set_option maxHeartbeats 4000000 in
set_option maxRecDepth 100000 in
theorem rtext0_any (w : World) : Calls Tryd.prog 64 #[.int .i64 0] w fun e w' => e = .returned (.string (str rText0)) ∧ w = w' := by
  go_enter Tryd.func64, Tryd.ntmps64
  go_wp2
  go_ret
  exact ⟨by kernel_rfl, rfl⟩
theorem rText0_fields : rf [] rText0 = setNames0 := by decide +kernel
set_option maxHeartbeats 4000000 in
set_option maxRecDepth 100000 in
theorem rin0_any (name : List UInt8) (w : World) : Calls Tryd.prog 38 #[.string (str name), .int .i64 0] w fun e w' => e = .returned (.bool (decide (name ∈ setNames0))) ∧ Below w.heap.size w w' := by
  have K := Lib.hid (fun W => rfields_any rText0 W (by decide +kernel))
  rw [rText0_fields] at K
  have h0 : decide (([] : List UInt8) ∈ setNames0) = false := by decide +kernel
  obtain ⟨R, hR⟩ : ∃ R, decide (name ∈ setNames0) = R := ⟨_, rfl⟩
  have hk1 : (setNames0).length < 1000 := by decide +kernel
  by_cases hne : name = []
  · subst hne
    rw [h0] at *
    clear K hk1
    go_enter Tryd.func38, Tryd.ntmps38
    go_wp2
    go_ret
    exact ⟨rfl, Below.refl _ _⟩
  have q0 : (name == []) = false := by simpa using hne
  rw [hR]
  have HR := Lib.hid hR
  generalize setNames0 = Ns at K HR hk1
  clear hR h0 hne
  go_enter Tryd.func38, Tryd.ntmps38
  go_wp2_with (first
    | (go_at_call 64; refine (rtext0_any _).mono ?_; rintro e w1 ⟨rfl, rfl⟩)
    | fail)
  refine (K.out _).mono ?_
  rintro e w2 ⟨v, rfl, ho, hb⟩
  obtain ⟨A2, c2, rfl, _, _⟩ := own_slice ho
  have HO := Lib.hid (Row.of_own ho)
  have B2 := Lib.hid hb
  clear ho hb
  go_wp2
  go_loop [13] (fun i => ∃ k : Nat, k ≤ Ns.length ∧ i = .int .i64 k ∧ Hid (decide (name ∈ Ns.drop k) = R)) (fun i => Ns.length - (intOf i).toNat)
  case atStart => exact ⟨0, Nat.zero_le _, rfl, HR.out⟩
  case round =>
    obtain ⟨k, hk, rfl, HK⟩ := hrel
    by_cases hlt : k < Ns.length
    · obtain ⟨ad, u, rfl, _, hu, c0⟩ := HO.out.at_ hlt
      rw [sv, List.getElem?_map, List.getElem?_eq_getElem hlt] at hu
      obtain rfl := Option.some.inj hu
      have hdk : Ns.drop k = Ns[k] :: Ns.drop (k + 1) := List.drop_eq_getElem_cons hlt
      have hv := HK.out
      rw [hdk] at hv
      generalize Ns[k] = x at c0 hv
      have HV := Lib.hid hv
      have i0 : (0 : Int) ≤ (k : Int) := by omega
      have i1 : (k : Int) < (Ns.length : Int) := by omega
      clear hdk hv HK
      by_cases hx : x = name
      · have q : (x == name) = true := by simpa using hx
        go_wp2
        go_ret
        exact ⟨retb (by rw [← HV.out]; simp [hx]), B2.out⟩
      · have q : (x == name) = false := by simpa using hx
        go_wp2
        go_round
        case rel => exact ⟨k + 1, by omega, by go_num, by show _ = R; rw [← HV.out]; simp [Ne.symm hx]⟩
        case measure => simp [intOf]; omega
    · have hfin : R = false := by
        have := HK.out
        rw [List.drop_eq_nil_of_le (by omega)] at this
        simpa using this.symm
      subst hfin
      go_wp2
      go_ret
      exact ⟨rfl, B2.out⟩
set_option maxHeartbeats 4000000 in
set_option maxRecDepth 100000 in
theorem rtext1_any (w : World) : Calls Tryd.prog 64 #[.int .i64 1] w fun e w' => e = .returned (.string (str rText1)) ∧ w = w' := by
  go_enter Tryd.func64, Tryd.ntmps64
  go_wp2
  go_ret
  exact ⟨by kernel_rfl, rfl⟩
theorem rText1_fields : rf [] rText1 = setNames1 := by decide +kernel
set_option maxHeartbeats 4000000 in
set_option maxRecDepth 100000 in
theorem rin1_any (name : List UInt8) (w : World) : Calls Tryd.prog 38 #[.string (str name), .int .i64 1] w fun e w' => e = .returned (.bool (decide (name ∈ setNames1))) ∧ Below w.heap.size w w' := by
  have K := Lib.hid (fun W => rfields_any rText1 W (by decide +kernel))
  rw [rText1_fields] at K
  have h0 : decide (([] : List UInt8) ∈ setNames1) = false := by decide +kernel
  obtain ⟨R, hR⟩ : ∃ R, decide (name ∈ setNames1) = R := ⟨_, rfl⟩
  have hk1 : (setNames1).length < 1000 := by decide +kernel
  by_cases hne : name = []
  · subst hne
    rw [h0] at *
    clear K hk1
    go_enter Tryd.func38, Tryd.ntmps38
    go_wp2
    go_ret
    exact ⟨rfl, Below.refl _ _⟩
  have q0 : (name == []) = false := by simpa using hne
  rw [hR]
  have HR := Lib.hid hR
  generalize setNames1 = Ns at K HR hk1
  clear hR h0 hne
  go_enter Tryd.func38, Tryd.ntmps38
  go_wp2_with (first
    | (go_at_call 64; refine (rtext1_any _).mono ?_; rintro e w1 ⟨rfl, rfl⟩)
    | fail)
  refine (K.out _).mono ?_
  rintro e w2 ⟨v, rfl, ho, hb⟩
  obtain ⟨A2, c2, rfl, _, _⟩ := own_slice ho
  have HO := Lib.hid (Row.of_own ho)
  have B2 := Lib.hid hb
  clear ho hb
  go_wp2
  go_loop [13] (fun i => ∃ k : Nat, k ≤ Ns.length ∧ i = .int .i64 k ∧ Hid (decide (name ∈ Ns.drop k) = R)) (fun i => Ns.length - (intOf i).toNat)
  case atStart => exact ⟨0, Nat.zero_le _, rfl, HR.out⟩
  case round =>
    obtain ⟨k, hk, rfl, HK⟩ := hrel
    by_cases hlt : k < Ns.length
    · obtain ⟨ad, u, rfl, _, hu, c0⟩ := HO.out.at_ hlt
      rw [sv, List.getElem?_map, List.getElem?_eq_getElem hlt] at hu
      obtain rfl := Option.some.inj hu
      have hdk : Ns.drop k = Ns[k] :: Ns.drop (k + 1) := List.drop_eq_getElem_cons hlt
      have hv := HK.out
      rw [hdk] at hv
      generalize Ns[k] = x at c0 hv
      have HV := Lib.hid hv
      have i0 : (0 : Int) ≤ (k : Int) := by omega
      have i1 : (k : Int) < (Ns.length : Int) := by omega
      clear hdk hv HK
      by_cases hx : x = name
      · have q : (x == name) = true := by simpa using hx
        go_wp2
        go_ret
        exact ⟨retb (by rw [← HV.out]; simp [hx]), B2.out⟩
      · have q : (x == name) = false := by simpa using hx
        go_wp2
        go_round
        case rel => exact ⟨k + 1, by omega, by go_num, by show _ = R; rw [← HV.out]; simp [Ne.symm hx]⟩
        case measure => simp [intOf]; omega
    · have hfin : R = false := by
        have := HK.out
        rw [List.drop_eq_nil_of_le (by omega)] at this
        simpa using this.symm
      subst hfin
      go_wp2
      go_ret
      exact ⟨rfl, B2.out⟩
set_option maxHeartbeats 4000000 in
set_option maxRecDepth 100000 in
theorem rtext6_any (w : World) : Calls Tryd.prog 64 #[.int .i64 6] w fun e w' => e = .returned (.string (str rText6)) ∧ w = w' := by
  go_enter Tryd.func64, Tryd.ntmps64
  go_wp2
  go_ret
  exact ⟨by kernel_rfl, rfl⟩
theorem rText6_fields : rf [] rText6 = setNames6 := by decide +kernel
set_option maxHeartbeats 4000000 in
set_option maxRecDepth 100000 in
theorem rin6_any (name : List UInt8) (w : World) : Calls Tryd.prog 38 #[.string (str name), .int .i64 6] w fun e w' => e = .returned (.bool (decide (name ∈ setNames6))) ∧ Below w.heap.size w w' := by
  have K := Lib.hid (fun W => rfields_any rText6 W (by decide +kernel))
  rw [rText6_fields] at K
  have h0 : decide (([] : List UInt8) ∈ setNames6) = false := by decide +kernel
  obtain ⟨R, hR⟩ : ∃ R, decide (name ∈ setNames6) = R := ⟨_, rfl⟩
  have hk1 : (setNames6).length < 1000 := by decide +kernel
  by_cases hne : name = []
  · subst hne
    rw [h0] at *
    clear K hk1
    go_enter Tryd.func38, Tryd.ntmps38
    go_wp2
    go_ret
    exact ⟨rfl, Below.refl _ _⟩
  have q0 : (name == []) = false := by simpa using hne
  rw [hR]
  have HR := Lib.hid hR
  generalize setNames6 = Ns at K HR hk1
  clear hR h0 hne
  go_enter Tryd.func38, Tryd.ntmps38
  go_wp2_with (first
    | (go_at_call 64; refine (rtext6_any _).mono ?_; rintro e w1 ⟨rfl, rfl⟩)
    | fail)
  refine (K.out _).mono ?_
  rintro e w2 ⟨v, rfl, ho, hb⟩
  obtain ⟨A2, c2, rfl, _, _⟩ := own_slice ho
  have HO := Lib.hid (Row.of_own ho)
  have B2 := Lib.hid hb
  clear ho hb
  go_wp2
  go_loop [13] (fun i => ∃ k : Nat, k ≤ Ns.length ∧ i = .int .i64 k ∧ Hid (decide (name ∈ Ns.drop k) = R)) (fun i => Ns.length - (intOf i).toNat)
  case atStart => exact ⟨0, Nat.zero_le _, rfl, HR.out⟩
  case round =>
    obtain ⟨k, hk, rfl, HK⟩ := hrel
    by_cases hlt : k < Ns.length
    · obtain ⟨ad, u, rfl, _, hu, c0⟩ := HO.out.at_ hlt
      rw [sv, List.getElem?_map, List.getElem?_eq_getElem hlt] at hu
      obtain rfl := Option.some.inj hu
      have hdk : Ns.drop k = Ns[k] :: Ns.drop (k + 1) := List.drop_eq_getElem_cons hlt
      have hv := HK.out
      rw [hdk] at hv
      generalize Ns[k] = x at c0 hv
      have HV := Lib.hid hv
      have i0 : (0 : Int) ≤ (k : Int) := by omega
      have i1 : (k : Int) < (Ns.length : Int) := by omega
      clear hdk hv HK
      by_cases hx : x = name
      · have q : (x == name) = true := by simpa using hx
        go_wp2
        go_ret
        exact ⟨retb (by rw [← HV.out]; simp [hx]), B2.out⟩
      · have q : (x == name) = false := by simpa using hx
        go_wp2
        go_round
        case rel => exact ⟨k + 1, by omega, by go_num, by show _ = R; rw [← HV.out]; simp [Ne.symm hx]⟩
        case measure => simp [intOf]; omega
    · have hfin : R = false := by
        have := HK.out
        rw [List.drop_eq_nil_of_le (by omega)] at this
        simpa using this.symm
      subst hfin
      go_wp2
      go_ret
      exact ⟨rfl, B2.out⟩
set_option maxHeartbeats 4000000 in
set_option maxRecDepth 100000 in
theorem rtext14_any (w : World) : Calls Tryd.prog 64 #[.int .i64 14] w fun e w' => e = .returned (.string (str rText14)) ∧ w = w' := by
  go_enter Tryd.func64, Tryd.ntmps64
  go_wp2
  go_ret
  exact ⟨by kernel_rfl, rfl⟩
theorem rText14_fields : rf [] rText14 = setNames14 := by decide +kernel
set_option maxHeartbeats 4000000 in
set_option maxRecDepth 100000 in
theorem rin14_any (name : List UInt8) (w : World) : Calls Tryd.prog 38 #[.string (str name), .int .i64 14] w fun e w' => e = .returned (.bool (decide (name ∈ setNames14))) ∧ Below w.heap.size w w' := by
  have K := Lib.hid (fun W => rfields_any rText14 W (by decide +kernel))
  rw [rText14_fields] at K
  have h0 : decide (([] : List UInt8) ∈ setNames14) = false := by decide +kernel
  obtain ⟨R, hR⟩ : ∃ R, decide (name ∈ setNames14) = R := ⟨_, rfl⟩
  have hk1 : (setNames14).length < 1000 := by decide +kernel
  by_cases hne : name = []
  · subst hne
    rw [h0] at *
    clear K hk1
    go_enter Tryd.func38, Tryd.ntmps38
    go_wp2
    go_ret
    exact ⟨rfl, Below.refl _ _⟩
  have q0 : (name == []) = false := by simpa using hne
  rw [hR]
  have HR := Lib.hid hR
  generalize setNames14 = Ns at K HR hk1
  clear hR h0 hne
  go_enter Tryd.func38, Tryd.ntmps38
  go_wp2_with (first
    | (go_at_call 64; refine (rtext14_any _).mono ?_; rintro e w1 ⟨rfl, rfl⟩)
    | fail)
  refine (K.out _).mono ?_
  rintro e w2 ⟨v, rfl, ho, hb⟩
  obtain ⟨A2, c2, rfl, _, _⟩ := own_slice ho
  have HO := Lib.hid (Row.of_own ho)
  have B2 := Lib.hid hb
  clear ho hb
  go_wp2
  go_loop [13] (fun i => ∃ k : Nat, k ≤ Ns.length ∧ i = .int .i64 k ∧ Hid (decide (name ∈ Ns.drop k) = R)) (fun i => Ns.length - (intOf i).toNat)
  case atStart => exact ⟨0, Nat.zero_le _, rfl, HR.out⟩
  case round =>
    obtain ⟨k, hk, rfl, HK⟩ := hrel
    by_cases hlt : k < Ns.length
    · obtain ⟨ad, u, rfl, _, hu, c0⟩ := HO.out.at_ hlt
      rw [sv, List.getElem?_map, List.getElem?_eq_getElem hlt] at hu
      obtain rfl := Option.some.inj hu
      have hdk : Ns.drop k = Ns[k] :: Ns.drop (k + 1) := List.drop_eq_getElem_cons hlt
      have hv := HK.out
      rw [hdk] at hv
      generalize Ns[k] = x at c0 hv
      have HV := Lib.hid hv
      have i0 : (0 : Int) ≤ (k : Int) := by omega
      have i1 : (k : Int) < (Ns.length : Int) := by omega
      clear hdk hv HK
      by_cases hx : x = name
      · have q : (x == name) = true := by simpa using hx
        go_wp2
        go_ret
        exact ⟨retb (by rw [← HV.out]; simp [hx]), B2.out⟩
      · have q : (x == name) = false := by simpa using hx
        go_wp2
        go_round
        case rel => exact ⟨k + 1, by omega, by go_num, by show _ = R; rw [← HV.out]; simp [Ne.symm hx]⟩
        case measure => simp [intOf]; omega
    · have hfin : R = false := by
        have := HK.out
        rw [List.drop_eq_nil_of_le (by omega)] at this
        simpa using this.symm
      subst hfin
      go_wp2
      go_ret
      exact ⟨rfl, B2.out⟩
end Go.Proofs.YtcogoiphpfgkdaaDoor
