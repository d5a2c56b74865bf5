/-
  The contracts of token.blank, valid, name; of the reference's stop, valid, TagName, AttrName.
-/
import Derived.Test.YtcogoiphpfgkdaaDoorUtfValid
import Derived.Test.YtcogoiphpfgkdaaDoorRUtf
import Derived.Lib.ConvBytes
namespace Go.Proofs.YtcogoiphpfgkdaaDoor
open Go.RowKit
set_option linter.unusedVariables false
set_option linter.unusedSimpArgs false

theorem str_size (l : List UInt8) : (str l).size = l.length := by simp [str, ByteArray.size]
theorem str_data (l : List UInt8) : (str l).data = l.toArray := rfl
/-- '[]byte(s)': a new block. -/
theorem conv_str (l : List UInt8) (w : World) : ∃ c w2, (convert 9 55 (.string (str l))).run Tryd.prog w = .ok (.slice (some ⟨w.heap.size, 0, none⟩) l.length c) w2 ∧ l.length ≤ c ∧ Below w.heap.size w w2 ∧
    Row (fun k => k = w.heap.size) w2 1 (some ⟨w.heap.size, 0, none⟩) l.length (bv l) ∧ w2.heap.size = w.heap.size + 1 := by
  have h := Lib.run_convert_string_bytes (P := Tryd.prog) w 9 55 5 (str l) Tryd.underlying9 Tryd.underlying55 Tryd.underlying5
  rw [str_size] at h
  refine ⟨_, _, h, ?_, ?_, ?_, Lib.bytesWorld_size w _ _⟩
  · exact grownCap_ge w l.length 0 5
  · refine ⟨?_, ?_, ?_, ?_, fun k hk => Lib.bytesWorld_at_old w _ _ k hk⟩
    · rfl
    · rfl
    · rfl
    · rw [Lib.bytesWorld_size]; omega
  · refine ⟨by rw [bv_length]; omega, fun _ => ⟨_, rfl, rfl, fun j u hu => ?_⟩⟩
    have hj : j < l.length := by have := (List.getElem?_eq_some_iff.1 hu).1; rwa [bv_length] at this
    rw [bv_get l j hj] at hu
    obtain rfl := Option.some.inj hu
    rw [addr_lit, Nat.zero_add, Lib.bytesWorld_cell w _ _ j (by rw [str_size]; exact hj)]
    simp [str, List.getD_eq_getElem?_getD, List.getElem?_eq_getElem hj]

/-- A byte that no name may hold. -/
def stopB (c : UInt8) : Bool := decide (c.toNat = 0 ∨ c.toNat = 9 ∨ c.toNat = 10 ∨ c.toNat = 12 ∨ c.toNat = 32 ∨ c.toNat = 47 ∨ c.toNat = 62 ∨ (65 ≤ c.toNat ∧ c.toNat ≤ 90))
def nameRest (attr : Bool) : Nat → List UInt8 → Bool
  | _, [] => true
  | i, c :: r => !(stopB c || (attr && decide (c.toNat = 61) && decide (0 < i))) && nameRest attr (i + 1) r
/-- May a name be, of a tag, or (attr) of an attribute? -/
def nameB (attr : Bool) (l : List UInt8) : Bool :=
  match l with
  | [] => false
  | c :: r => validB (c :: r) && (attr || decide (97 ≤ c.toNat ∧ c.toNat ≤ 122)) && nameRest attr 0 (c :: r)

set_option maxHeartbeats 4000000 in
theorem tvalid_any (l : List UInt8) (w : World) (hn : l.length ≤ 140737488355328) : Calls Tryd.prog 94 #[.string (str l)] w fun e w' => e = .returned (.bool (validB l)) ∧ Below w.heap.size w w' := by
  obtain ⟨c, w2, hc, hcl, hb, hr, hz⟩ := conv_str l w
  have K := Lib.hid (utfValid_any _ _ _ c l w2 hr hn hcl)
  have B := Lib.hid hb
  clear hb hr
  go_enter Tryd.func94, Tryd.ntmps94
  go_wp2_with (go_at_call 77; refine K.out.mono ?_; rintro e w3 ⟨rfl, q, rfl⟩)
  go_ret
  exact ⟨rfl, below_drewN B.out q⟩

set_option maxHeartbeats 4000000 in
theorem tblank_any (c : UInt8) (w : World) : Calls Tryd.prog 108 #[.int .u8 c.toNat] w fun e w' => e = .returned (.bool (decide (c.toNat = 9 ∨ c.toNat = 10 ∨ c.toNat = 12 ∨ c.toNat = 32))) ∧ w = w' := by
  obtain ⟨R, hR⟩ : ∃ R, decide (c.toNat = 9 ∨ c.toNat = 10 ∨ c.toNat = 12 ∨ c.toNat = 32) = R := ⟨_, rfl⟩
  have hR2 := hR
  generalize c.toNat = n at hR2 ⊢
  rw [show (decide (n = 9 ∨ n = 10 ∨ n = 12 ∨ n = 32)) = R from hR2]
  have H := Lib.hid hR2
  clear hR hR2
  go_enter Tryd.func108, Tryd.ntmps108
  go_wp2
  all_goals
    go_ret
    refine ⟨retb ?_, rfl⟩
    rw [← H.out, Bool.eq_iff_iff]
    simp only [Bool.or_eq_true, Bool.and_eq_true, beq_iff_eq, decide_eq_true_eq, true_iff, Bool.false_eq_true, false_iff]
    omega
theorem str_get (l : List UInt8) (i : Nat) (h : i < (str l).size) : (str l)[i] = l[i]'(by rw [str_size] at h; exact h) := rfl

theorem name_bad_true {d : UInt8} {k : Nat} {X R : Bool} (h : (!(stopB d || (true && decide (d.toNat = 61) && decide (0 < k))) && X) = R)
    (hb : (d.toNat = 0 ∨ d.toNat = 9 ∨ d.toNat = 10 ∨ d.toNat = 12 ∨ d.toNat = 32 ∨ d.toNat = 47 ∨ d.toNat = 62 ∨ (65 ≤ d.toNat ∧ d.toNat ≤ 90))∨ (d.toNat = 61 ∧ 0 < k)) : false = R := by
  rw [← h]
  symm
  rw [Bool.and_eq_false_iff]
  left
  simp only [stopB, Bool.not_eq_false', Bool.or_eq_true, Bool.and_eq_true, decide_eq_true_eq, true_and, Bool.false_eq_true, false_and, or_false]
  omega
theorem name_ok_true {d : UInt8} {k : Nat} {X R : Bool} (h : (!(stopB d || (true && decide (d.toNat = 61) && decide (0 < k))) && X) = R)
    (hb : ¬ ((d.toNat = 0 ∨ d.toNat = 9 ∨ d.toNat = 10 ∨ d.toNat = 12 ∨ d.toNat = 32 ∨ d.toNat = 47 ∨ d.toNat = 62 ∨ (65 ≤ d.toNat ∧ d.toNat ≤ 90))∨ (d.toNat = 61 ∧ 0 < k))) : X = R := by
  rw [← h]
  have : (!(stopB d || (true && decide (d.toNat = 61) && decide (0 < k)))) = true := by
    simp only [stopB, Bool.not_eq_true', Bool.or_eq_false_iff, Bool.and_eq_false_iff, decide_eq_false_iff_not]
    simp
    omega
  rw [this, Bool.true_and]
theorem name_bad_false {d : UInt8} {k : Nat} {X R : Bool} (h : (!(stopB d || (false && decide (d.toNat = 61) && decide (0 < k))) && X) = R)
    (hb : (d.toNat = 0 ∨ d.toNat = 9 ∨ d.toNat = 10 ∨ d.toNat = 12 ∨ d.toNat = 32 ∨ d.toNat = 47 ∨ d.toNat = 62 ∨ (65 ≤ d.toNat ∧ d.toNat ≤ 90))) : false = R := by
  rw [← h]
  symm
  rw [Bool.and_eq_false_iff]
  left
  simp only [stopB, Bool.not_eq_false', Bool.or_eq_true, Bool.and_eq_true, decide_eq_true_eq, true_and, Bool.false_eq_true, false_and, or_false]
  omega
theorem name_ok_false {d : UInt8} {k : Nat} {X R : Bool} (h : (!(stopB d || (false && decide (d.toNat = 61) && decide (0 < k))) && X) = R)
    (hb : ¬ ((d.toNat = 0 ∨ d.toNat = 9 ∨ d.toNat = 10 ∨ d.toNat = 12 ∨ d.toNat = 32 ∨ d.toNat = 47 ∨ d.toNat = 62 ∨ (65 ≤ d.toNat ∧ d.toNat ≤ 90)))) : X = R := by
  rw [← h]
  have : (!(stopB d || (false && decide (d.toNat = 61) && decide (0 < k)))) = true := by
    simp only [stopB, Bool.not_eq_true', Bool.or_eq_false_iff, Bool.and_eq_false_iff, decide_eq_false_iff_not]
    simp
    omega
  rw [this, Bool.true_and]
set_option maxHeartbeats 8000000 in
set_option maxRecDepth 100000 in
theorem tname_any (attr : Bool) (l : List UInt8) (w : World) (hn : l.length ≤ 140737488355328) : Calls Tryd.prog 95 #[.string (str l), .bool attr] w fun e w' => e = .returned (.bool (nameB attr l)) ∧ Below w.heap.size w w' := by
  cases l with
  | nil =>
    go_enter Tryd.func95, Tryd.ntmps95
    go_wp2
    go_ret
    exact ⟨rfl, Below.refl _ _⟩
  | cons c r =>
    have K := Lib.hid (fun W => tvalid_any (c :: r) W hn)
    obtain ⟨L, hL⟩ : ∃ L, c :: r = L := ⟨_, rfl⟩
    obtain ⟨n, hln⟩ : ∃ n, L.length = n := ⟨_, rfl⟩
    have hsz : (str L).size = n := by rw [str_size, hln]
    have hn0 : 0 < n := by rw [← hln, ← hL]; simp
    have hq : (L == []) = false := by rw [← hL]; rfl
    have h0 : (str L)[0]'(by omega) = c := by subst hL; rfl
    obtain ⟨V, hV⟩ : ∃ V, validB L = V := ⟨_, rfl⟩
    obtain ⟨R, hR⟩ : ∃ R, nameB attr L = R := ⟨_, rfl⟩
    have hR2 := hR
    rw [← hL, nameB, hL, hV] at hR2
    rw [hL] at K ⊢
    rw [hV] at K
    rw [hL, hln] at hn
    rw [hR]
    have HR := Lib.hid hR2
    have HL := Lib.hid hln
    have cl : c.toNat < 256 := c.toNat_lt
    clear hR hR2 hL hV hln
    by_cases hgo : V = true ∧ (attr = true ∨ (97 ≤ c.toNat ∧ c.toNat ≤ 122))
    · obtain ⟨rfl, hat⟩ := hgo
      have hrest : nameRest attr 0 L = R := by
        have := HR.out
        rw [← this]
        rcases hat with rfl | hat
        · simp
        · simp [hat]
      have HN := Lib.hid hrest
      clear hrest HR
      have hfst : attr = true ∨ (attr = false ∧ decide ((c.toNat : Int) < 97) = false ∧ decide (122 < (c.toNat : Int)) = false) := by
        rcases hat with h | h
        · exact .inl h
        · cases attr with
          | true => exact .inl rfl
          | false => exact .inr ⟨rfl, by simp; omega, by simp; omega⟩
      clear hat
      rcases hfst with rfl | ⟨rfl, d1, d2⟩
      · go_enter Tryd.func95, Tryd.ntmps95
        go_wp2_with (go_at_call 94; refine (K.out _).mono ?_; rintro e w1 ⟨rfl, hb1⟩)
        clear h0 hq
        go_loopw [30] (fun i wr => ∃ k : Nat, k ≤ n ∧ i = .int .i64 k ∧ Hid (nameRest true k (L.drop k) = R) ∧ Hid (Below w.heap.size w wr)) (fun i _ => n - (intOf i).toNat)
        case atStart => exact ⟨0, Nat.zero_le _, rfl, HN.out, hb1⟩
        case round =>
          obtain ⟨k, hk, rfl, HK, HB⟩ := hrel
          by_cases hlt : k < n
          · obtain ⟨d, hd⟩ : ∃ d, (str L)[k]'(by omega) = d := ⟨_, rfl⟩
            have hdk : L.drop k = d :: L.drop (k + 1) := by
              rw [← hd, str_get, List.drop_eq_getElem_cons]
            have hv := HK.out
            rw [hdk, nameRest] at hv
            have HV := Lib.hid hv
            have K2 := Lib.hid (fun W => tblank_any d W)
            have i0 : (0 : Int) ≤ (k : Int) := by omega
            have i1 : (k : Int) < (n : Int) := by omega
            clear hdk hv HK
            go_wp2_with (go_at_call 108; refine (K2.out _).mono ?_; rintro e w2 ⟨rfl, rfl⟩)
            all_goals first
              | (go_ret
                 refine ⟨retb (name_bad_true HV.out ?_), HB.out⟩
                 (try simp only [beq_iff_eq, beq_eq_false_iff_ne, ne_eq] at *)
                 omega)
              | (refine ⟨⟨k + 1, by omega, by go_num, name_ok_true HV.out ?_, HB.out⟩, ?_⟩
                 · (try simp only [beq_iff_eq, beq_eq_false_iff_ne, ne_eq] at *)
                   omega
                 · simp [intOf]
                   omega)
          · have hfin : R = true := by
              have := HK.out
              rw [List.drop_eq_nil_of_le (by rw [HL.out]; omega), nameRest] at this
              exact this.symm
            subst hfin
            go_wp2
            go_ret
            exact ⟨rfl, HB.out⟩
      · go_enter Tryd.func95, Tryd.ntmps95
        go_wp2_with (go_at_call 94; refine (K.out _).mono ?_; rintro e w1 ⟨rfl, hb1⟩)
        clear h0 hq
        go_loopw [30] (fun i wr => ∃ k : Nat, k ≤ n ∧ i = .int .i64 k ∧ Hid (nameRest false k (L.drop k) = R) ∧ Hid (Below w.heap.size w wr)) (fun i _ => n - (intOf i).toNat)
        case atStart => exact ⟨0, Nat.zero_le _, rfl, HN.out, hb1⟩
        case round =>
          obtain ⟨k, hk, rfl, HK, HB⟩ := hrel
          by_cases hlt : k < n
          · obtain ⟨d, hd⟩ : ∃ d, (str L)[k]'(by omega) = d := ⟨_, rfl⟩
            have hdk : L.drop k = d :: L.drop (k + 1) := by
              rw [← hd, str_get, List.drop_eq_getElem_cons]
            have hv := HK.out
            rw [hdk, nameRest] at hv
            have HV := Lib.hid hv
            have K2 := Lib.hid (fun W => tblank_any d W)
            have i0 : (0 : Int) ≤ (k : Int) := by omega
            have i1 : (k : Int) < (n : Int) := by omega
            clear hdk hv HK
            go_wp2_with (go_at_call 108; refine (K2.out _).mono ?_; rintro e w2 ⟨rfl, rfl⟩)
            all_goals first
              | (go_ret
                 refine ⟨retb (name_bad_false HV.out ?_), HB.out⟩
                 (try simp only [beq_iff_eq, beq_eq_false_iff_ne, ne_eq] at *)
                 omega)
              | (refine ⟨⟨k + 1, by omega, by go_num, name_ok_false HV.out ?_, HB.out⟩, ?_⟩
                 · (try simp only [beq_iff_eq, beq_eq_false_iff_ne, ne_eq] at *)
                   omega
                 · simp [intOf]
                   omega)
          · have hfin : R = true := by
              have := HK.out
              rw [List.drop_eq_nil_of_le (by rw [HL.out]; omega), nameRest] at this
              exact this.symm
            subst hfin
            go_wp2
            go_ret
            exact ⟨rfl, HB.out⟩
    · have hRf : R = false := by
        rw [← HR.out]
        cases V
        · simp
        · cases attr
          · simp at hgo ⊢
            intro h1
            omega
          · simp at hgo
      subst hRf
      clear HR
      cases V with
      | false =>
        go_enter Tryd.func95, Tryd.ntmps95
        go_wp2_with (go_at_call 94; refine (K.out _).mono ?_; rintro e w1 ⟨rfl, hb1⟩)
        go_ret
        exact ⟨rfl, hb1⟩
      | true =>
        cases attr with
        | true => simp at hgo
        | false =>
          by_cases h1 : c.toNat < 97
          · have d1 : decide ((c.toNat : Int) < 97) = true := by simp; omega
            clear hgo
            go_enter Tryd.func95, Tryd.ntmps95
            go_wp2_with (go_at_call 94; refine (K.out _).mono ?_; rintro e w1 ⟨rfl, hb1⟩)
            go_ret
            exact ⟨rfl, hb1⟩
          · have d1 : decide ((c.toNat : Int) < 97) = false := by simp; omega
            have d2 : decide (122 < (c.toNat : Int)) = true := by
              simp at hgo ⊢
              omega
            clear hgo
            go_enter Tryd.func95, Tryd.ntmps95
            go_wp2_with (go_at_call 94; refine (K.out _).mono ?_; rintro e w1 ⟨rfl, hb1⟩)
            go_ret
            exact ⟨rfl, hb1⟩
end Go.Proofs.YtcogoiphpfgkdaaDoor
