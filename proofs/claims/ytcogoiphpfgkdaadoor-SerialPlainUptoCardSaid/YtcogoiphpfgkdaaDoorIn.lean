/-
  The contracts of names.In, of the sets that are asked for; of bare, void.
-/
import Derived.Test.YtcogoiphpfgkdaaDoorSets
import Derived.Test.YtcogoiphpfgkdaaDoorShelf
namespace Go.Proofs.YtcogoiphpfgkdaaDoor
open Go.RowKit
set_option linter.unusedVariables false
set_option linter.unusedSimpArgs false

theorem var_behind {w w' : World} {x : String} {cs : Array Value} (h : w.var? Tryd.prog x = some cs) (hb : Below w.heap.size w w') : w'.var? Tryd.prog x = some cs := by
  unfold World.var? at h ⊢
  cases hg : Tryd.prog.globalNamed x with
  | none => rw [hg] at h; simp at h
  | some g =>
    rw [hg] at h
    simp only [Option.bind_some] at h ⊢
    cases hh : w.heap[g]? with
    | none => rw [hh] at h; cases h
    | some o =>
      rw [(hb.block g (lt_of_heap hh)).trans hh]
      rw [hh] at h
      exact h
/-- The library's table of blanks is as it was laid. -/
def Tab (w : World) : Prop := Lib.TabIs Tryd.prog w "strings.asciiSpace" .u8 Lib.asciiSpaceTab
theorem Tab.behind {w w' : World} (h : Tab w) (hb : Below w.heap.size w w') : Tab w' := var_behind h hb
theorem Tab.below {B : Nat} {w w' : World} (h : Tab w) (hb : Below B w w') (hB : w.heap.size ≤ B) : Tab w' := h.behind (hb.mono hB)

theorem setText0_ascii : ∀ (j : Nat) b, (str setText0).data.toList[j]? = some b → b.toNat < 128 := by
  have h : (setText0.all fun b => decide (b.toNat < 128)) = true := by decide +kernel
  intro j b hb
  have hm : b ∈ setText0 := List.mem_of_getElem? (by simpa [str] using hb)
  simpa using List.all_eq_true.1 h b hm
theorem setText0_fields : Lib.fields (str setText0).data.toList = setNames0 := by decide +kernel
theorem isSet0_any (w : World) : Calls Tryd.prog 85 #[.int .i64 0] w fun e w' => e = .returned (.bool true) ∧ w = w' := by
  go_enter Tryd.func85, Tryd.ntmps85
  go_wp2
  go_ret
  exact ⟨rfl, rfl⟩
set_option maxHeartbeats 4000000 in
set_option maxRecDepth 100000 in
theorem in0_any (name : List UInt8) (w : World) (hT : Tab w) : Calls Tryd.prog 67 #[.string (str name), .int .i64 0] w fun e w' => e = .returned (.bool (decide (name ∈ setNames0))) ∧ Below w.heap.size w w' := by
  have hix : ∀ W : World, (Instr.index 114 (.agg setVals) (.int .i64 0)).run Tryd.prog W = .ok (.string (str setText0)) W := fun W => by kernel_rfl
  have K := Lib.hid (fun (W : World) (hW : Tab W) => Tryd.strings_Fields (str setText0) W (by rw [str_size]; decide +kernel) setText0_ascii hW)
  rw [setText0_fields] at K
  have HT := Lib.hid hT
  obtain ⟨R, hR⟩ : ∃ R, decide (name ∈ setNames0) = R := ⟨_, rfl⟩
  rw [hR]
  have HR := Lib.hid hR
  have hk1 : (setNames0).length < 1000 := by decide +kernel
  generalize setNames0 = Ns at K HR hk1
  clear hT hR
  go_enter Tryd.func67, Tryd.ntmps67
  go_wp2_with (first
    | (go_at_call 85; refine (isSet0_any _).mono ?_; rintro e w0 ⟨rfl, rfl⟩)
    | (go_at_call 87; refine (lists_any _).mono ?_; rintro e w1 ⟨rfl, hb1⟩)
    | fail)
  have B1 := Lib.hid hb1
  have l1 := hb1.size
  refine (K.out _ (HT.out.behind hb1)).mono ?_
  rintro e w2 ⟨rfl, rfl⟩
  clear hb1
  have hrow : Row (fun _ => True) (w1.alloc (.cells (Ns.map fun l => Value.string ⟨l.toArray⟩).toArray 9)) 1 (some ⟨w1.heap.size, 0, none⟩) Ns.length (Ns.map fun l => .string (str l)) := by
    refine ⟨by simp, fun _ => ⟨_, rfl, trivial, fun j u hu => ?_⟩⟩
    have := (Blk.new w1 9 (Ns.map fun l => Value.string ⟨l.toArray⟩).toArray).cell (0 + j)
    rw [addr_lit, this]
    simpa [str] using hu
  have B2 := Lib.hid (B1.out.alloc l1 (.cells (Ns.map fun l => Value.string ⟨l.toArray⟩).toArray 9))
  generalize (w1.alloc (.cells (Ns.map fun l => Value.string ⟨l.toArray⟩).toArray 9)) = w2 at hrow B2 ⊢
  have HO := Lib.hid hrow
  clear hrow
  go_wp2
  go_loop [15] (fun i => ∃ k : Nat, k ≤ Ns.length ∧ i = .int .i64 k ∧ Hid (decide (name ∈ Ns.drop k) = R)) (fun i => Ns.length - (intOf i).toNat)
  case atStart => exact ⟨0, Nat.zero_le _, rfl, HR.out⟩
  case round =>
    obtain ⟨k, hk, rfl, HK⟩ := hrel
    by_cases hlt : k < Ns.length
    · obtain ⟨ad, u, e0, _, hu, c0⟩ := HO.out.at_ hlt
      injection e0 with e0
      subst e0
      rw [addr_lit, Nat.zero_add] at c0
      rw [List.getElem?_map, List.getElem?_eq_getElem hlt] at hu
      obtain rfl := Option.some.inj hu
      have hdk : Ns.drop k = Ns[k] :: Ns.drop (k + 1) := List.drop_eq_getElem_cons hlt
      have hv := HK.out
      rw [hdk] at hv
      generalize Ns[k] = x at c0 hv
      have HV := Lib.hid hv
      have i0 : (0 : Int) ≤ (k : Int) := by omega
      have i1 : (k : Int) < (Ns.length : Int) := by omega
      clear hdk hv HK
      by_cases hx : x = name
      · have q : (x == name) = true := by simpa using hx
        go_wp2
        go_ret
        exact ⟨retb (by rw [← HV.out]; simp [hx]), B2.out⟩
      · have q : (x == name) = false := by simpa using hx
        go_wp2
        go_round
        case rel => exact ⟨k + 1, by omega, by go_num, by show _ = R; rw [← HV.out]; simp [Ne.symm hx]⟩
        case measure => simp [intOf]; omega
    · have hfin : R = false := by
        have := HK.out
        rw [List.drop_eq_nil_of_le (by omega)] at this
        simpa using this.symm
      subst hfin
      go_wp2
      go_ret
      exact ⟨rfl, B2.out⟩
theorem setText1_ascii : ∀ (j : Nat) b, (str setText1).data.toList[j]? = some b → b.toNat < 128 := by
  have h : (setText1.all fun b => decide (b.toNat < 128)) = true := by decide +kernel
  intro j b hb
  have hm : b ∈ setText1 := List.mem_of_getElem? (by simpa [str] using hb)
  simpa using List.all_eq_true.1 h b hm
theorem setText1_fields : Lib.fields (str setText1).data.toList = setNames1 := by decide +kernel
theorem isSet1_any (w : World) : Calls Tryd.prog 85 #[.int .i64 1] w fun e w' => e = .returned (.bool true) ∧ w = w' := by
  go_enter Tryd.func85, Tryd.ntmps85
  go_wp2
  go_ret
  exact ⟨rfl, rfl⟩
set_option maxHeartbeats 4000000 in
set_option maxRecDepth 100000 in
theorem in1_any (name : List UInt8) (w : World) (hT : Tab w) : Calls Tryd.prog 67 #[.string (str name), .int .i64 1] w fun e w' => e = .returned (.bool (decide (name ∈ setNames1))) ∧ Below w.heap.size w w' := by
  have hix : ∀ W : World, (Instr.index 114 (.agg setVals) (.int .i64 1)).run Tryd.prog W = .ok (.string (str setText1)) W := fun W => by kernel_rfl
  have K := Lib.hid (fun (W : World) (hW : Tab W) => Tryd.strings_Fields (str setText1) W (by rw [str_size]; decide +kernel) setText1_ascii hW)
  rw [setText1_fields] at K
  have HT := Lib.hid hT
  obtain ⟨R, hR⟩ : ∃ R, decide (name ∈ setNames1) = R := ⟨_, rfl⟩
  rw [hR]
  have HR := Lib.hid hR
  have hk1 : (setNames1).length < 1000 := by decide +kernel
  generalize setNames1 = Ns at K HR hk1
  clear hT hR
  go_enter Tryd.func67, Tryd.ntmps67
  go_wp2_with (first
    | (go_at_call 85; refine (isSet1_any _).mono ?_; rintro e w0 ⟨rfl, rfl⟩)
    | (go_at_call 87; refine (lists_any _).mono ?_; rintro e w1 ⟨rfl, hb1⟩)
    | fail)
  have B1 := Lib.hid hb1
  have l1 := hb1.size
  refine (K.out _ (HT.out.behind hb1)).mono ?_
  rintro e w2 ⟨rfl, rfl⟩
  clear hb1
  have hrow : Row (fun _ => True) (w1.alloc (.cells (Ns.map fun l => Value.string ⟨l.toArray⟩).toArray 9)) 1 (some ⟨w1.heap.size, 0, none⟩) Ns.length (Ns.map fun l => .string (str l)) := by
    refine ⟨by simp, fun _ => ⟨_, rfl, trivial, fun j u hu => ?_⟩⟩
    have := (Blk.new w1 9 (Ns.map fun l => Value.string ⟨l.toArray⟩).toArray).cell (0 + j)
    rw [addr_lit, this]
    simpa [str] using hu
  have B2 := Lib.hid (B1.out.alloc l1 (.cells (Ns.map fun l => Value.string ⟨l.toArray⟩).toArray 9))
  generalize (w1.alloc (.cells (Ns.map fun l => Value.string ⟨l.toArray⟩).toArray 9)) = w2 at hrow B2 ⊢
  have HO := Lib.hid hrow
  clear hrow
  go_wp2
  go_loop [15] (fun i => ∃ k : Nat, k ≤ Ns.length ∧ i = .int .i64 k ∧ Hid (decide (name ∈ Ns.drop k) = R)) (fun i => Ns.length - (intOf i).toNat)
  case atStart => exact ⟨0, Nat.zero_le _, rfl, HR.out⟩
  case round =>
    obtain ⟨k, hk, rfl, HK⟩ := hrel
    by_cases hlt : k < Ns.length
    · obtain ⟨ad, u, e0, _, hu, c0⟩ := HO.out.at_ hlt
      injection e0 with e0
      subst e0
      rw [addr_lit, Nat.zero_add] at c0
      rw [List.getElem?_map, List.getElem?_eq_getElem hlt] at hu
      obtain rfl := Option.some.inj hu
      have hdk : Ns.drop k = Ns[k] :: Ns.drop (k + 1) := List.drop_eq_getElem_cons hlt
      have hv := HK.out
      rw [hdk] at hv
      generalize Ns[k] = x at c0 hv
      have HV := Lib.hid hv
      have i0 : (0 : Int) ≤ (k : Int) := by omega
      have i1 : (k : Int) < (Ns.length : Int) := by omega
      clear hdk hv HK
      by_cases hx : x = name
      · have q : (x == name) = true := by simpa using hx
        go_wp2
        go_ret
        exact ⟨retb (by rw [← HV.out]; simp [hx]), B2.out⟩
      · have q : (x == name) = false := by simpa using hx
        go_wp2
        go_round
        case rel => exact ⟨k + 1, by omega, by go_num, by show _ = R; rw [← HV.out]; simp [Ne.symm hx]⟩
        case measure => simp [intOf]; omega
    · have hfin : R = false := by
        have := HK.out
        rw [List.drop_eq_nil_of_le (by omega)] at this
        simpa using this.symm
      subst hfin
      go_wp2
      go_ret
      exact ⟨rfl, B2.out⟩
theorem setText6_ascii : ∀ (j : Nat) b, (str setText6).data.toList[j]? = some b → b.toNat < 128 := by
  have h : (setText6.all fun b => decide (b.toNat < 128)) = true := by decide +kernel
  intro j b hb
  have hm : b ∈ setText6 := List.mem_of_getElem? (by simpa [str] using hb)
  simpa using List.all_eq_true.1 h b hm
theorem setText6_fields : Lib.fields (str setText6).data.toList = setNames6 := by decide +kernel
theorem isSet6_any (w : World) : Calls Tryd.prog 85 #[.int .i64 6] w fun e w' => e = .returned (.bool true) ∧ w = w' := by
  go_enter Tryd.func85, Tryd.ntmps85
  go_wp2
  go_ret
  exact ⟨rfl, rfl⟩
set_option maxHeartbeats 4000000 in
set_option maxRecDepth 100000 in
theorem in6_any (name : List UInt8) (w : World) (hT : Tab w) : Calls Tryd.prog 67 #[.string (str name), .int .i64 6] w fun e w' => e = .returned (.bool (decide (name ∈ setNames6))) ∧ Below w.heap.size w w' := by
  have hix : ∀ W : World, (Instr.index 114 (.agg setVals) (.int .i64 6)).run Tryd.prog W = .ok (.string (str setText6)) W := fun W => by kernel_rfl
  have K := Lib.hid (fun (W : World) (hW : Tab W) => Tryd.strings_Fields (str setText6) W (by rw [str_size]; decide +kernel) setText6_ascii hW)
  rw [setText6_fields] at K
  have HT := Lib.hid hT
  obtain ⟨R, hR⟩ : ∃ R, decide (name ∈ setNames6) = R := ⟨_, rfl⟩
  rw [hR]
  have HR := Lib.hid hR
  have hk1 : (setNames6).length < 1000 := by decide +kernel
  generalize setNames6 = Ns at K HR hk1
  clear hT hR
  go_enter Tryd.func67, Tryd.ntmps67
  go_wp2_with (first
    | (go_at_call 85; refine (isSet6_any _).mono ?_; rintro e w0 ⟨rfl, rfl⟩)
    | (go_at_call 87; refine (lists_any _).mono ?_; rintro e w1 ⟨rfl, hb1⟩)
    | fail)
  have B1 := Lib.hid hb1
  have l1 := hb1.size
  refine (K.out _ (HT.out.behind hb1)).mono ?_
  rintro e w2 ⟨rfl, rfl⟩
  clear hb1
  have hrow : Row (fun _ => True) (w1.alloc (.cells (Ns.map fun l => Value.string ⟨l.toArray⟩).toArray 9)) 1 (some ⟨w1.heap.size, 0, none⟩) Ns.length (Ns.map fun l => .string (str l)) := by
    refine ⟨by simp, fun _ => ⟨_, rfl, trivial, fun j u hu => ?_⟩⟩
    have := (Blk.new w1 9 (Ns.map fun l => Value.string ⟨l.toArray⟩).toArray).cell (0 + j)
    rw [addr_lit, this]
    simpa [str] using hu
  have B2 := Lib.hid (B1.out.alloc l1 (.cells (Ns.map fun l => Value.string ⟨l.toArray⟩).toArray 9))
  generalize (w1.alloc (.cells (Ns.map fun l => Value.string ⟨l.toArray⟩).toArray 9)) = w2 at hrow B2 ⊢
  have HO := Lib.hid hrow
  clear hrow
  go_wp2
  go_loop [15] (fun i => ∃ k : Nat, k ≤ Ns.length ∧ i = .int .i64 k ∧ Hid (decide (name ∈ Ns.drop k) = R)) (fun i => Ns.length - (intOf i).toNat)
  case atStart => exact ⟨0, Nat.zero_le _, rfl, HR.out⟩
  case round =>
    obtain ⟨k, hk, rfl, HK⟩ := hrel
    by_cases hlt : k < Ns.length
    · obtain ⟨ad, u, e0, _, hu, c0⟩ := HO.out.at_ hlt
      injection e0 with e0
      subst e0
      rw [addr_lit, Nat.zero_add] at c0
      rw [List.getElem?_map, List.getElem?_eq_getElem hlt] at hu
      obtain rfl := Option.some.inj hu
      have hdk : Ns.drop k = Ns[k] :: Ns.drop (k + 1) := List.drop_eq_getElem_cons hlt
      have hv := HK.out
      rw [hdk] at hv
      generalize Ns[k] = x at c0 hv
      have HV := Lib.hid hv
      have i0 : (0 : Int) ≤ (k : Int) := by omega
      have i1 : (k : Int) < (Ns.length : Int) := by omega
      clear hdk hv HK
      by_cases hx : x = name
      · have q : (x == name) = true := by simpa using hx
        go_wp2
        go_ret
        exact ⟨retb (by rw [← HV.out]; simp [hx]), B2.out⟩
      · have q : (x == name) = false := by simpa using hx
        go_wp2
        go_round
        case rel => exact ⟨k + 1, by omega, by go_num, by show _ = R; rw [← HV.out]; simp [Ne.symm hx]⟩
        case measure => simp [intOf]; omega
    · have hfin : R = false := by
        have := HK.out
        rw [List.drop_eq_nil_of_le (by omega)] at this
        simpa using this.symm
      subst hfin
      go_wp2
      go_ret
      exact ⟨rfl, B2.out⟩
theorem setText14_ascii : ∀ (j : Nat) b, (str setText14).data.toList[j]? = some b → b.toNat < 128 := by
  have h : (setText14.all fun b => decide (b.toNat < 128)) = true := by decide +kernel
  intro j b hb
  have hm : b ∈ setText14 := List.mem_of_getElem? (by simpa [str] using hb)
  simpa using List.all_eq_true.1 h b hm
theorem setText14_fields : Lib.fields (str setText14).data.toList = setNames14 := by decide +kernel
theorem isSet14_any (w : World) : Calls Tryd.prog 85 #[.int .i64 14] w fun e w' => e = .returned (.bool true) ∧ w = w' := by
  go_enter Tryd.func85, Tryd.ntmps85
  go_wp2
  go_ret
  exact ⟨rfl, rfl⟩
set_option maxHeartbeats 4000000 in
set_option maxRecDepth 100000 in
theorem in14_any (name : List UInt8) (w : World) (hT : Tab w) : Calls Tryd.prog 67 #[.string (str name), .int .i64 14] w fun e w' => e = .returned (.bool (decide (name ∈ setNames14))) ∧ Below w.heap.size w w' := by
  have hix : ∀ W : World, (Instr.index 114 (.agg setVals) (.int .i64 14)).run Tryd.prog W = .ok (.string (str setText14)) W := fun W => by kernel_rfl
  have K := Lib.hid (fun (W : World) (hW : Tab W) => Tryd.strings_Fields (str setText14) W (by rw [str_size]; decide +kernel) setText14_ascii hW)
  rw [setText14_fields] at K
  have HT := Lib.hid hT
  obtain ⟨R, hR⟩ : ∃ R, decide (name ∈ setNames14) = R := ⟨_, rfl⟩
  rw [hR]
  have HR := Lib.hid hR
  have hk1 : (setNames14).length < 1000 := by decide +kernel
  generalize setNames14 = Ns at K HR hk1
  clear hT hR
  go_enter Tryd.func67, Tryd.ntmps67
  go_wp2_with (first
    | (go_at_call 85; refine (isSet14_any _).mono ?_; rintro e w0 ⟨rfl, rfl⟩)
    | (go_at_call 87; refine (lists_any _).mono ?_; rintro e w1 ⟨rfl, hb1⟩)
    | fail)
  have B1 := Lib.hid hb1
  have l1 := hb1.size
  refine (K.out _ (HT.out.behind hb1)).mono ?_
  rintro e w2 ⟨rfl, rfl⟩
  clear hb1
  have hrow : Row (fun _ => True) (w1.alloc (.cells (Ns.map fun l => Value.string ⟨l.toArray⟩).toArray 9)) 1 (some ⟨w1.heap.size, 0, none⟩) Ns.length (Ns.map fun l => .string (str l)) := by
    refine ⟨by simp, fun _ => ⟨_, rfl, trivial, fun j u hu => ?_⟩⟩
    have := (Blk.new w1 9 (Ns.map fun l => Value.string ⟨l.toArray⟩).toArray).cell (0 + j)
    rw [addr_lit, this]
    simpa [str] using hu
  have B2 := Lib.hid (B1.out.alloc l1 (.cells (Ns.map fun l => Value.string ⟨l.toArray⟩).toArray 9))
  generalize (w1.alloc (.cells (Ns.map fun l => Value.string ⟨l.toArray⟩).toArray 9)) = w2 at hrow B2 ⊢
  have HO := Lib.hid hrow
  clear hrow
  go_wp2
  go_loop [15] (fun i => ∃ k : Nat, k ≤ Ns.length ∧ i = .int .i64 k ∧ Hid (decide (name ∈ Ns.drop k) = R)) (fun i => Ns.length - (intOf i).toNat)
  case atStart => exact ⟨0, Nat.zero_le _, rfl, HR.out⟩
  case round =>
    obtain ⟨k, hk, rfl, HK⟩ := hrel
    by_cases hlt : k < Ns.length
    · obtain ⟨ad, u, e0, _, hu, c0⟩ := HO.out.at_ hlt
      injection e0 with e0
      subst e0
      rw [addr_lit, Nat.zero_add] at c0
      rw [List.getElem?_map, List.getElem?_eq_getElem hlt] at hu
      obtain rfl := Option.some.inj hu
      have hdk : Ns.drop k = Ns[k] :: Ns.drop (k + 1) := List.drop_eq_getElem_cons hlt
      have hv := HK.out
      rw [hdk] at hv
      generalize Ns[k] = x at c0 hv
      have HV := Lib.hid hv
      have i0 : (0 : Int) ≤ (k : Int) := by omega
      have i1 : (k : Int) < (Ns.length : Int) := by omega
      clear hdk hv HK
      by_cases hx : x = name
      · have q : (x == name) = true := by simpa using hx
        go_wp2
        go_ret
        exact ⟨retb (by rw [← HV.out]; simp [hx]), B2.out⟩
      · have q : (x == name) = false := by simpa using hx
        go_wp2
        go_round
        case rel => exact ⟨k + 1, by omega, by go_num, by show _ = R; rw [← HV.out]; simp [Ne.symm hx]⟩
        case measure => simp [intOf]; omega
    · have hfin : R = false := by
        have := HK.out
        rw [List.drop_eq_nil_of_le (by omega)] at this
        simpa using this.symm
      subst hfin
      go_wp2
      go_ret
      exact ⟨rfl, B2.out⟩
end Go.Proofs.YtcogoiphpfgkdaaDoor
