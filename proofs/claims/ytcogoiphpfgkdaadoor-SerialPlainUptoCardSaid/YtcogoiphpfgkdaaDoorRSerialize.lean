/-
  The contracts of the reference's Serialize and Inner.
-/
import Derived.Test.YtcogoiphpfgkdaaDoorRMarkup
namespace Go.Proofs.YtcogoiphpfgkdaaDoor
open Go.RowKit
set_option linter.unusedVariables false
set_option linter.unusedSimpArgs false

theorem ptText_le (l : List PT) (k : Nat) : (ptText (l.take k)).length ≤ (ptText l).length := by
  have := congrArg (fun x => (ptText x).length) (List.take_append_drop k l)
  simp only [ptText_append, List.length_append] at this
  omega
set_option maxHeartbeats 1000000 in
set_option maxRecDepth 100000 in
theorem rSerialize_any (S : Nat → Prop) (L : List Nd) (A : Option Addr) (c : Nat) (w : World) (hw : wt L ≤ 1048576) (hN : Ns S w A L.length L) (hS : ∀ k, S k → k < w.heap.size) :
    Calls Tryd.prog 16 #[.slice A L.length c] w fun e w' => e = .returned (.string (str (ptText (ptB [] 0 L)))) ∧ Below w.heap.size w w' := by
  have k0 := rpts_any S L hw [] 0 w A c hN hS (by omega)
  have k1 : Calls Tryd.prog 17 #[.string ⟨#[]⟩, .int .i64 0, .slice A L.length c] w _ := k0
  have hle := ptB_le L [] 0
  obtain ⟨ps, hps⟩ : ∃ ps, ptB [] 0 L = ps := ⟨_, rfl⟩
  obtain ⟨R, hR⟩ : ∃ R, ptText ps = R := ⟨_, rfl⟩
  rw [hps, hR] at hle
  rw [hps] at k1 ⊢
  rw [hR]
  have K := Lib.hid k1
  have HR := Lib.hid hR
  clear k0 k1 hps hR hN hS
  go_enter Tryd.func16, Tryd.ntmps16
  go_wp2_with fail
  refine K.out.mono ?_
  rintro e w1 ⟨v1, rfl, ho, hb⟩
  obtain ⟨A1, c1, rfl, _, _⟩ := own_slice ho
  have HO := Lib.hid (Row.of_own ho)
  have B1 := Lib.hid hb
  clear ho hb
  go_wp2_with fail
  go_loopw [3, 9] (fun v i wr => ∃ (k : Nat) (acc : List UInt8), k ≤ ps.length ∧ i = .int .i64 k ∧ v = .string (str acc) ∧ Hid (Below w1.heap.size w1 wr) ∧ Hid (acc ++ ptText (ps.drop k) = R)) (fun _ i _ => ps.length - (intOf i).toNat)
  case atStart => exact ⟨0, [], Nat.zero_le _, rfl, rfl, Below.refl _ _, HR.out⟩
  case round =>
    obtain ⟨k, acc, hk, rfl, rfl, HW, HK⟩ := hrel
    by_cases hlt : k < ps.length
    · obtain ⟨p, hp⟩ : ∃ p, ps[k]? = some p := ⟨ps[k], List.getElem?_eq_getElem hlt⟩
      obtain ⟨ad, rfl, hsa, hsa2, c0, cj⟩ := (HO.out.behind HW.out).walk ptCells_length (by omega) rfl hp
      have x0 := c0 _ rfl
      have x1 := cj 0 _ rfl
      have hdk : ps.drop k = p :: ps.drop (k + 1) := by
        rw [List.drop_eq_getElem_cons hlt]
        rw [List.getElem?_eq_getElem hlt] at hp
        rw [Option.some.inj hp]
      have hv := HK.out
      rw [hdk, ptText_cons, ← List.append_assoc] at hv
      have hal : acc.length + p.t.length ≤ 8 * 1048576 := by
        have := congrArg List.length hv
        rw [List.length_append, List.length_append] at this
        omega
      obtain ⟨y, hy⟩ : ∃ y, acc ++ p.t = y := ⟨_, rfl⟩
      rw [hy] at hv
      have e4 : str acc ++ str p.t = str y := by rw [← hy]; exact str_append _ _
      have z1 : (str acc).size ≤ 8 * 1048576 := by rw [str_size]; omega
      have z2 : (str p.t).size ≤ 8 * 1048576 := by rw [str_size]; omega
      have HV := Lib.hid hv
      have i0 : (0 : Int) ≤ (k : Int) := by omega
      have i1 : (k : Int) < (ps.length : Int) := by omega
      have lw := HW.out.size
      clear c0 cj hp hdk hv HK hy hal
      go_wp2
      go_roundw
      case rel => exact ⟨k + 1, y, by omega, by go_num, rfl, HW.out.alloc lw _, HV⟩
      case measure => simp [intOf]; omega
    · have hfin : acc = R := by
        have := HK.out
        rw [List.drop_eq_nil_of_le (by omega), ptText, List.flatMap_nil, List.append_nil] at this
        exact this
      subst hfin
      go_wp2
      go_ret
      exact ⟨rfl, B1.out.trans (HW.out.mono B1.out.size)⟩

/-- What stands inside a tree. -/
def innerB (nm : List UInt8) (kids : List Nd) : List UInt8 := if nm = [] ∨ nm ∈ setNames1 then [] else ptText (ptB nm 0 kids)
set_option maxHeartbeats 1000000 in
set_option maxRecDepth 100000 in
theorem rInner_any (S : Nat → Prop) (nm tx : List UInt8) (va : Value) (kids : List Nd) (Ak : Option Addr) (ck : Nat) (w : World) (hw : nm.length + wt kids ≤ 1048576) (hN : Ns S w Ak kids.length kids) (hS : ∀ k, S k → k < w.heap.size) :
    Calls Tryd.prog 23 #[.agg #[.string (str nm), .string (str tx), va, .slice Ak kids.length ck]] w fun e w' => e = .returned (.string (str (innerB nm kids))) ∧ Below w.heap.size w w' := by
  have KB := Lib.hid (rbare_any nm)
  have HN := Lib.hid hN
  have HS := Lib.hid hS
  have KP := Lib.hid (fun W' (hN : Ns S W' Ak kids.length kids) hS => rpts_any S kids (by omega) nm 0 W' Ak ck hN hS (by omega))
  have hle := ptB_le kids nm 0
  have hin : innerB nm kids = if nm = [] ∨ nm ∈ setNames1 then [] else ptText (ptB nm 0 kids) := rfl
  obtain ⟨ps, hps⟩ : ∃ ps, ptB nm 0 kids = ps := ⟨_, rfl⟩
  obtain ⟨R, hR⟩ : ∃ R, ptText ps = R := ⟨_, rfl⟩
  rw [hps, hR] at hle hin
  rw [hps] at KP
  have HR := Lib.hid hR
  obtain ⟨b, hb⟩ : ∃ b, decide (nm ∈ setNames1) = b := ⟨_, rfl⟩
  rw [hb] at KB
  rw [hin]
  clear hin hps hR hN hS
  by_cases hnm : nm = []
  · subst hnm
    rw [if_pos (.inl rfl)]
    clear hb
    go_enter Tryd.func23, Tryd.ntmps23
    go_wp2
    go_ret
    exact ⟨rfl, (Below.refl _ w).alloc (Nat.le_refl _) _⟩
  · have q0 : (nm == []) = false := by simpa using hnm
    obtain ⟨W1, hW1⟩ : ∃ W1, (w.alloc (.cells #[.string (str nm), .string (str tx), va, .slice Ak kids.length ck] 41)) = W1 := ⟨_, rfl⟩
    have b1 : Below w.heap.size w W1 := by rw [← hW1]; exact (Below.refl _ w).alloc (Nat.le_refl _) _
    have hb1 : Blk W1 w.heap.size 41 #[.string (str nm), .string (str tx), va, .slice Ak kids.length ck] := by rw [← hW1]; exact Blk.new w _ _
    have hl1 := hb1.lt
    have B1 := Lib.hid b1
    have Y1 := Lib.hid hb1
    have a0 := hb1.cell 0
    have a3 := hb1.cell 3
    simp only [List.getElem?_toArray, List.getElem?_cons_zero, List.getElem?_cons_succ] at a0 a3
    clear b1 hb1
    cases b with
    | true =>
      rw [if_pos (.inr (of_decide_eq_true hb))]
      clear hb hnm
      go_enter Tryd.func23, Tryd.ntmps23
      go_wp2_with (go_at_call 41; refine (KB.out _).mono ?_; rintro e w2 ⟨rfl, hb2⟩)
      go_ret
      exact ⟨rfl, B1.out.trans (hb2.mono B1.out.size)⟩
    | false =>
      rw [if_neg (fun h => h.elim hnm (of_decide_eq_false hb))]
      clear hb hnm
      go_enter Tryd.func23, Tryd.ntmps23
      go_wp2_with fail
      refine (KB.out W1).mono ?_
      rintro e w2 ⟨rfl, hb2⟩
      have B2 := Lib.hid (B1.out.trans (hb2.mono B1.out.size))
      have y2 := Y1.out.below hb2 hl1
      have z0 := y2.cell 0
      have z3 := y2.cell 3
      simp only [List.getElem?_toArray, List.getElem?_cons_zero, List.getElem?_cons_succ] at z0 z3
      clear hb2 y2 a0 a3
      go_wp2_with fail
      refine (KP.out w2 (HN.out.behind B2.out) (fun k hk => Nat.lt_of_lt_of_le (HS.out k hk) B2.out.size)).mono ?_
      rintro e w3 ⟨v1, rfl, ho, hb3⟩
      obtain ⟨A1, c1, rfl, _, _⟩ := own_slice ho
      have HO := Lib.hid (Row.of_own ho)
      have B3 := Lib.hid (B2.out.trans (hb3.mono B2.out.size))
      clear ho hb3 z0 z3
      go_wp2_with fail
      go_loopw [3, 20] (fun v i wr => ∃ (k : Nat) (acc : List UInt8), k ≤ ps.length ∧ i = .int .i64 k ∧ v = .string (str acc) ∧ Hid (Below w3.heap.size w3 wr) ∧ Hid (acc ++ ptText (ps.drop k) = R)) (fun _ i _ => ps.length - (intOf i).toNat)
      case atStart => exact ⟨0, [], Nat.zero_le _, rfl, rfl, Below.refl _ _, HR.out⟩
      case round =>
        obtain ⟨k, acc, hk, rfl, rfl, HW, HK⟩ := hrel
        by_cases hlt : k < ps.length
        · obtain ⟨p, hp⟩ : ∃ p, ps[k]? = some p := ⟨ps[k], List.getElem?_eq_getElem hlt⟩
          obtain ⟨ad, rfl, hsa, hsa2, c0, cj⟩ := (HO.out.behind HW.out).walk ptCells_length (by omega) rfl hp
          have x0 := c0 _ rfl
          have x1 := cj 0 _ rfl
          have hdk : ps.drop k = p :: ps.drop (k + 1) := by
            rw [List.drop_eq_getElem_cons hlt]
            rw [List.getElem?_eq_getElem hlt] at hp
            rw [Option.some.inj hp]
          have hv := HK.out
          rw [hdk, ptText_cons, ← List.append_assoc] at hv
          have hal : acc.length + p.t.length ≤ 8 * 1048576 := by
            have := congrArg List.length hv
            rw [List.length_append, List.length_append] at this
            omega
          obtain ⟨y, hy⟩ : ∃ y, acc ++ p.t = y := ⟨_, rfl⟩
          rw [hy] at hv
          have e4 : str acc ++ str p.t = str y := by rw [← hy]; exact str_append _ _
          have z1 : (str acc).size ≤ 8 * 1048576 := by rw [str_size]; omega
          have z2 : (str p.t).size ≤ 8 * 1048576 := by rw [str_size]; omega
          have HV := Lib.hid hv
          have i0 : (0 : Int) ≤ (k : Int) := by omega
          have i1 : (k : Int) < (ps.length : Int) := by omega
          have lw := HW.out.size
          clear c0 cj hp hdk hv HK hy hal
          go_wp2
          go_roundw
          case rel => exact ⟨k + 1, y, by omega, by go_num, rfl, HW.out.alloc lw _, HV⟩
          case measure => simp [intOf]; omega
        · have hfin : acc = R := by
            have := HK.out
            rw [List.drop_eq_nil_of_le (by omega), ptText, List.flatMap_nil, List.append_nil] at this
            exact this
          subst hfin
          go_wp2
          go_ret
          exact ⟨rfl, B3.out.trans (HW.out.mono B3.out.size)⟩
end Go.Proofs.YtcogoiphpfgkdaaDoor
