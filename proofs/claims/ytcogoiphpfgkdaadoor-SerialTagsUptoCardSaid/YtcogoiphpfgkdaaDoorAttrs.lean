/-
  The contract of token.attrs: a map of the names that were seen.
-/
import Derived.Test.YtcogoiphpfgkdaaDoorNodes
import Derived.Test.YtcogoiphpfgkdaaDoorToken
import Derived.Maps.OwnOps
import Derived.Maps.Views
namespace Go.Proofs.YtcogoiphpfgkdaaDoor
open Go.RowKit
set_option linter.unusedVariables false
set_option linter.unusedSimpArgs false

/-- May attributes be? -/
def attrsFrom (seen : List (List UInt8)) : List At → Bool
  | [] => true
  | a :: r => nameB true a.name && validB a.value && !decide (a.name ∈ seen) && attrsFrom (seen ++ [a.name]) r
def attrsB (l : List At) : Bool := attrsFrom [] l

abbrev seenSet (names : List (List UInt8)) : DataW Unit := Maps.setOf (.lit (.bool true)) (names.map Lit.string)
theorem seen_snoc (names : List (List UInt8)) (x : List UInt8) : seenSet (names ++ [x]) = (seenSet names).put (.string x) (.lit (.bool true)) := by
  unfold seenSet
  rw [List.map_append, List.map_singleton, Maps.setOf_snoc]
theorem seen_isMap (names : List (List UInt8)) : Maps.IsMap (seenSet names) := (Maps.tidy_setOf _ _ (fun x hx => by obtain ⟨a, _, rfl⟩ := List.mem_map.1 hx; trivial)).isMap
theorem seen_at (x : List UInt8) (names : List (List UInt8)) : (seenSet names).atKey (.string x) (.lit (.bool false)) = .lit (.bool (decide (x ∈ names))) := by
  generalize hn : names.length = n
  induction n generalizing names with
  | zero =>
    obtain rfl := List.eq_nil_of_length_eq_zero hn
    rfl
  | succ n ih =>
    obtain ⟨m, y, rfl⟩ : ∃ m y, names = m ++ [y] := by
      rcases List.eq_nil_or_concat names with rfl | ⟨m, y, h⟩
      · simp at hn
      · exact ⟨m, y, by rw [h, List.concat_eq_append]⟩
    rw [seen_snoc]
    by_cases hxy : x = y
    · subst hxy
      rw [Maps.atKey_put_same (seen_isMap m) (show WideAt.IsKeyLit (Lit.string x) from trivial)]
      simp
    · rw [Maps.atKey_put_other (by intro e; injection e with e; exact hxy e), ih m (by simpa using hn)]
      simp [hxy]
/-- Block b is the map of the names that were seen. -/
def SeenAt (w : World) (b : Nat) (names : List (List UInt8)) : Prop := w.ownsMap Tryd.prog 9 (plainElem Tryd.prog 4) b names.length (seenSet names)
theorem key_str (x : List UInt8) (h : x.length ≤ maxLen) : keyOf Tryd.prog 9 (.string (str x)) = some (.string x) := by
  have := WideMaps.keyOf_string_mk (P := Tryd.prog) (k := 9) (s := str x) Tryd.underlying9 (by rw [str_size]; exact h)
  simpa [str] using this
theorem SeenAt.lt {w : World} {b : Nat} {names : List (List UInt8)} (h : SeenAt w b names) : b < w.heap.size := World.ownsMap.lt h
theorem SeenAt.behind {w w' : World} {b : Nat} {names : List (List UInt8)} (h : SeenAt w b names) (hb : Below w.heap.size w w') : SeenAt w' b names := by
  obtain ⟨es, clock, h1, rest⟩ := h
  exact ⟨es, clock, (hb.block b (lt_of_heap h1)).trans h1, rest⟩
set_option maxRecDepth 100000 in
theorem SeenAt.look {w : World} {b : Nat} {names : List (List UInt8)} (h : SeenAt w b names) (x : List UInt8) (hx : x.length ≤ maxLen) :
    (Instr.lookup 140 (.map (some b)) (.string (str x)) false).run Tryd.prog w = .ok (.bool (decide (x ∈ names))) w := by
  obtain ⟨v, ps, hrun, hv⟩ := World.ownsMap.lookup h (Maps.string_keyed Tryd.underlying9) Tryd.underlying140 (z := .bool false) (by kernel_rfl) (plainElem_bool Tryd.underlying4 false) (key_str x hx)
  rw [hrun]
  rw [seen_at] at hv
  congr 1
  unfold plainElem at hv
  rw [Tryd.underlying4] at hv
  cases v <;> simp_all

set_option maxHeartbeats 8000000 in
set_option maxRecDepth 100000 in
theorem tattrs_any (S : Nat → Prop) (A : Option Addr) (n c : Nat) (L : List At) (w : World) (hr : Row S w 2 A n (L.flatMap atCells)) (hl : L.length = n) (hn : n ≤ 1073741824) (hS : ∀ k, S k → k < w.heap.size)
    (hb : ∀ a ∈ L, a.name.length ≤ 1073741824 ∧ a.value.length ≤ 1073741824) :
    Calls Tryd.prog 96 #[.slice A n c] w fun e w' => e = .returned (.bool (attrsB L)) ∧ Below w.heap.size w w' := by
  have K1 := Lib.hid (fun (W : World) (x : List UInt8) (h : x.length ≤ 1073741824) => tname_any true x W (by omega))
  have K2 := Lib.hid (fun (W : World) (x : List UInt8) (h : x.length ≤ 1073741824) => tvalid_any x W (by omega))
  have HB := Lib.hid hb
  have HS := Lib.hid hS
  have HR := Lib.hid hr
  obtain ⟨R, hR⟩ : ∃ R, attrsB L = R := ⟨_, rfl⟩
  rw [hR]
  unfold attrsB at hR
  have HV := Lib.hid hR
  subst hl
  have hmm := @run_makeMap Tryd.prog
  clear hb hS hr hR
  go_enter Tryd.func96, Tryd.ntmps96
  go_wp2
  obtain ⟨W0, hW0⟩ : ∃ W0, w.alloc (Obj.map #[] 0) = W0 := ⟨_, rfl⟩
  rw [hW0]
  have hs0 : SeenAt W0 w.heap.size [] := by rw [← hW0]; exact World.ownsMap_made w _ _ _
  have B0 : Below w.heap.size w W0 := by rw [← hW0]; exact (Below.refl _ w).alloc (Nat.le_refl _) _
  clear hW0
  go_loopw [9] (fun i wr => ∃ (k : Nat) (seen : List (List UInt8)), k ≤ L.length ∧ i = .int .i64 k ∧ seen.length ≤ k ∧ Hid (SeenAt wr w.heap.size seen) ∧ Hid (Below w.heap.size w wr) ∧ Hid (attrsFrom seen (L.drop k) = R)) (fun i _ => L.length - (intOf i).toNat)
  case atStart => exact ⟨0, [], Nat.zero_le _, rfl, Nat.zero_le _, hs0, B0, HV.out⟩
  case round =>
    clear hs0 B0
    obtain ⟨k, seen, hk, rfl, hsl, HM, HW, HK⟩ := hrel
    by_cases hlt : k < L.length
    · obtain ⟨a, ha⟩ : ∃ a, L[k]? = some a := ⟨L[k], List.getElem?_eq_getElem hlt⟩
      obtain ⟨ad, rfl, hsa, hsa2, c0, cj⟩ := (HR.out.behind HW.out).walk atCells_length (by omega) rfl ha
      have x0 := c0 _ rfl
      have x1 := cj 0 _ rfl
      have hdk : L.drop k = a :: L.drop (k + 1) := by
        rw [List.drop_eq_getElem_cons hlt]
        rw [List.getElem?_eq_getElem hlt] at ha
        rw [Option.some.inj ha]
      have hab := HB.out a (List.mem_of_getElem? ha)
      have hv := HK.out
      rw [hdk, attrsFrom] at hv
      have HVV := Lib.hid hv
      have i0 : (0 : Int) ≤ (k : Int) := by omega
      have i1 : (k : Int) < (L.length : Int) := by omega
      have lw := HW.out.size
      have lb := HM.out.lt
      have hblt := HS.out _ hsa
      have hblt2 := HS.out _ hsa2
      clear c0 cj ha hdk hv HK
      go_wp2_with fail
      obtain ⟨W1, hW1⟩ : ∃ W1, wr.alloc (.cells #[.string (str a.name), .string (str a.value)] 63) = W1 := ⟨_, rfl⟩
      rw [hW1]
      have HM1 := Lib.hid (show SeenAt W1 w.heap.size seen by rw [← hW1]; exact HM.out.behind ((Below.refl _ wr).alloc (Nat.le_refl _) _))
      have HW1 := Lib.hid (show Below w.heap.size w W1 by rw [← hW1]; exact HW.out.alloc lw _)
      have hb1 : Blk W1 wr.heap.size 63 #[.string (str a.name), .string (str a.value)] := by rw [← hW1]; exact Blk.new _ _ _
      clear hW1 HM HW x0 x1
      have hl1 := hb1.lt
      refine (K1.out W1 a.name hab.1).mono ?_
      rintro e w2 ⟨rfl, hb2⟩
      have HM2 := Lib.hid (HM1.out.behind hb2)
      have l1 := HW1.out.size
      have l2 := hb2.size
      have HW2 := Lib.hid (HW1.out.trans (hb2.mono l1))
      have y2 := hb1.below hb2 hl1
      have z0 := y2.cell 0
      have z1 := y2.cell 1
      simp only [List.getElem?_toArray, List.getElem?_cons_zero, List.getElem?_cons_succ] at z0 z1
      clear HM1 HW1 hb1 hb2
      obtain ⟨nb, hnb⟩ : ∃ nb, nameB true a.name = nb := ⟨_, rfl⟩
      obtain ⟨vb, hvb⟩ : ∃ vb, validB a.value = vb := ⟨_, rfl⟩
      obtain ⟨sb, hsb⟩ : ∃ sb, decide (a.name ∈ seen) = sb := ⟨_, rfl⟩
      have hv := HVV.out
      rw [hnb, hvb, hsb] at hv
      rw [hnb]
      have HVV2 := Lib.hid hv
      have HVB := Lib.hid hvb
      have HSB := Lib.hid hsb
      clear hv HVV hnb hvb hsb
      cases nb with
      | false =>
        go_wp2
        go_ret
        exact ⟨retb (by rw [← HVV2.out]; rfl), HW2.out⟩
      | true =>
        go_wp2_with fail
        refine (K2.out w2 a.value hab.2).mono ?_
        rintro e w3 ⟨rfl, hb3⟩
        rw [HVB.out]
        have HM3 := Lib.hid (HM2.out.behind hb3)
        have l3 := hb3.size
        have lw2 := HW2.out.size
        have HW3 := Lib.hid (HW2.out.trans (hb3.mono lw2))
        have y3 := y2.below hb3 y2.lt
        have u0 := y3.cell 0
        have u1 := y3.cell 1
        simp only [List.getElem?_toArray, List.getElem?_cons_zero, List.getElem?_cons_succ] at u0 u1
        have hlk := HM3.out.look a.name (by simp only [maxLen]; omega)
        rw [HSB.out] at hlk
        clear z0 z1 hb3 HM2 HW2
        cases vb with
        | false =>
          go_wp2
          go_ret
          exact ⟨retb (by rw [← HVV2.out]; rfl), HW3.out⟩
        | true =>
          cases sb with
          | true =>
            go_wp2
            go_ret
            exact ⟨retb (by rw [← HVV2.out]; rfl), HW3.out⟩
          | false =>
            go_wp2_with (at_mapUpdate; refine wpList_mapUpdate_own _ rfl _ _ _ 140 rfl 9 4 (Maps.string_keyed Tryd.underlying9) Tryd.underlying140 _ w.heap.size seen.length (seenSet seen) rfl HM3.out (by simp only [maxLen]; omega) _ _ (.string a.name) rfl rfl (key_str a.name (by simp only [maxLen]; omega)) (.lit (.bool true)) [] (plainElem_bool Tryd.underlying4 true) ?_; intro w4 hown4 hg4; have HM4 := Lib.hid hown4; have HG4 := Lib.hid hg4; clear hown4 hg4)
            go_roundw
            case rel =>
              refine ⟨k + 1, seen ++ [a.name], by omega, by go_num, by simp; omega, ?_, ?_, ?_⟩
              · show SeenAt _ _ _
                unfold SeenAt
                rw [seen_snoc, List.length_append]
                exact HM4.out
              · exact HW3.out.grown HG4.out (by omega) (fun j e => by cases e; exact Nat.le_refl _)
              · show _ = R
                rw [← HVV2.out]
                rfl
            case measure => simp [intOf]; omega
    · have hfin : R = true := by
        have := HK.out
        rw [List.drop_eq_nil_of_le (by omega), attrsFrom] at this
        exact this.symm
      subst hfin
      go_wp2
      go_ret
      exact ⟨rfl, HW.out⟩
end Go.Proofs.YtcogoiphpfgkdaaDoor
