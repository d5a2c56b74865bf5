/-
  The contracts of rawParent, bare; of the reference's raw, Bare.
-/
import Derived.Test.YtcogoiphpfgkdaaDoorIn
import Derived.Test.YtcogoiphpfgkdaaDoorRIn
namespace Go.Proofs.YtcogoiphpfgkdaaDoor
open Go.RowKit
set_option linter.unusedVariables false
set_option linter.unusedSimpArgs false

def rawNames : List (List UInt8) := [[115, 116, 121, 108, 101], [115, 99, 114, 105, 112, 116], [120, 109, 112], [105, 102, 114, 97, 109, 101], [110, 111, 101, 109, 98, 101, 100], [110, 111, 102, 114, 97, 109, 101, 115], [112, 108, 97, 105, 110, 116, 101, 120, 116], [110, 111, 115, 99, 114, 105, 112, 116]]
/-- The program's variable rawParents is as it was laid. -/
def RawTab (w : World) : Prop := w.var? Tryd.prog "sieve/serial.rawParents" = some (sv rawNames).toArray
theorem RawTab.behind {w w' : World} (h : RawTab w) (hb : Below w.heap.size w w') : RawTab w' := var_behind h hb
theorem RawTab.heap {w : World} (h : RawTab w) : ∃ t fr, w.heap[0]? = some (.cells (sv rawNames).toArray t fr) := by
  have hg : Tryd.prog.globalNamed "sieve/serial.rawParents" = some 0 := by kernel_rfl
  unfold RawTab World.var? at h
  rw [hg] at h
  simp only [Option.bind_some] at h
  cases hh : w.heap[0]? with
  | none => rw [hh] at h; cases h
  | some o =>
    rw [hh] at h
    cases o with
    | cells cs t fr =>
      injection h with h
      subst h
      exact ⟨t, fr, rfl⟩
    | _ => cases h

set_option maxHeartbeats 4000000 in
set_option maxRecDepth 100000 in
theorem rawParent_any (name : List UInt8) (w : World) (hT : RawTab w) : Calls Tryd.prog 58 #[.string (str name)] w fun e w' => e = .returned (.bool (decide (name ∈ rawNames))) ∧ w = w' := by
  obtain ⟨t, fr, hg⟩ := hT.heap
  have hidx : ∀ (k : Nat) (x : List UInt8), rawNames[k]? = some x → ∀ W : World, (Instr.index 109 (.agg (sv rawNames).toArray) (.int .i64 k)).run Tryd.prog W = .ok (.string (str x)) W := by
    intro k x hx W
    have q0 : (Instr.index 109 (.agg (sv rawNames).toArray) (.int .i64 0)).run Tryd.prog W = .ok (.string (str [115, 116, 121, 108, 101])) W := by kernel_rfl
    have q1 : (Instr.index 109 (.agg (sv rawNames).toArray) (.int .i64 1)).run Tryd.prog W = .ok (.string (str [115, 99, 114, 105, 112, 116])) W := by kernel_rfl
    have q2 : (Instr.index 109 (.agg (sv rawNames).toArray) (.int .i64 2)).run Tryd.prog W = .ok (.string (str [120, 109, 112])) W := by kernel_rfl
    have q3 : (Instr.index 109 (.agg (sv rawNames).toArray) (.int .i64 3)).run Tryd.prog W = .ok (.string (str [105, 102, 114, 97, 109, 101])) W := by kernel_rfl
    have q4 : (Instr.index 109 (.agg (sv rawNames).toArray) (.int .i64 4)).run Tryd.prog W = .ok (.string (str [110, 111, 101, 109, 98, 101, 100])) W := by kernel_rfl
    have q5 : (Instr.index 109 (.agg (sv rawNames).toArray) (.int .i64 5)).run Tryd.prog W = .ok (.string (str [110, 111, 102, 114, 97, 109, 101, 115])) W := by kernel_rfl
    have q6 : (Instr.index 109 (.agg (sv rawNames).toArray) (.int .i64 6)).run Tryd.prog W = .ok (.string (str [112, 108, 97, 105, 110, 116, 101, 120, 116])) W := by kernel_rfl
    have q7 : (Instr.index 109 (.agg (sv rawNames).toArray) (.int .i64 7)).run Tryd.prog W = .ok (.string (str [110, 111, 115, 99, 114, 105, 112, 116])) W := by kernel_rfl
    have h : k < 8 := (List.getElem?_eq_some_iff.1 hx).1
    rcases (show k = 0 ∨ k = 1 ∨ k = 2 ∨ k = 3 ∨ k = 4 ∨ k = 5 ∨ k = 6 ∨ k = 7 by omega) with rfl | rfl | rfl | rfl | rfl | rfl | rfl | rfl
    · obtain rfl := Option.some.inj hx
      exact q0
    · obtain rfl := Option.some.inj hx
      exact q1
    · obtain rfl := Option.some.inj hx
      exact q2
    · obtain rfl := Option.some.inj hx
      exact q3
    · obtain rfl := Option.some.inj hx
      exact q4
    · obtain rfl := Option.some.inj hx
      exact q5
    · obtain rfl := Option.some.inj hx
      exact q6
    · obtain rfl := Option.some.inj hx
      exact q7
  have hlen : rawNames.length = 8 := rfl
  obtain ⟨R, hR⟩ : ∃ R, decide (name ∈ rawNames) = R := ⟨_, rfl⟩
  rw [hR]
  have hsz : (sv rawNames).toArray.size = 8 := rfl
  have HI := Lib.hid hidx
  generalize (sv rawNames).toArray = vals at HI hsz hg
  generalize rawNames = Ns at HI hR hlen
  have HR := Lib.hid hR
  have HG := Lib.hid hg
  clear hidx hR hg hT
  go_enter Tryd.func58, Tryd.ntmps58
  go_wp2_with (refine wpList_load_row rfl 109 (.global 0) rfl 0 rfl t vals fr _ HG.out Tryd.underlying109 rfl (by rw [hsz]; kernel_rfl) ?_)
  go_loop [6] (fun i => ∃ k : Nat, k ≤ 8 ∧ i = .int .i64 k ∧ Hid (decide (name ∈ Ns.drop k) = R)) (fun i => 8 - (intOf i).toNat)
  case atStart => exact ⟨0, Nat.zero_le _, rfl, HR.out⟩
  case round =>
    obtain ⟨k, hk, rfl, HK⟩ := hrel
    by_cases hlt : k < 8
    · obtain ⟨x, hx⟩ : ∃ x, Ns[k]? = some x := ⟨Ns[k], List.getElem?_eq_getElem (by omega)⟩
      have hdk : Ns.drop k = x :: Ns.drop (k + 1) := by
        rw [List.drop_eq_getElem_cons (by omega)]
        rw [List.getElem?_eq_getElem (by omega)] at hx
        rw [Option.some.inj hx]
      have hv := HK.out
      rw [hdk] at hv
      have hix := HI.out k x hx
      have HV := Lib.hid hv
      have i1 : (k : Int) < (8 : Int) := by omega
      clear hdk hv HK hx
      by_cases hx : x = name
      · have q : (x == name) = true := by simpa using hx
        go_wp2
        go_ret
        exact ⟨retb (by rw [← HV.out]; simp [hx]), rfl⟩
      · have q : (x == name) = false := by simpa using hx
        go_wp2
        go_round
        case rel => exact ⟨k + 1, by omega, by go_num, by show _ = R; rw [← HV.out]; simp [Ne.symm hx]⟩
        case measure => simp [intOf]; omega
    · have hfin : R = false := by
        have := HK.out
        rw [List.drop_eq_nil_of_le (by omega)] at this
        simpa using this.symm
      have i1 : decide ((k : Int) < (8 : Int)) = false := by simp; omega
      subst hfin
      go_wp2
      go_ret
      exact ⟨rfl, rfl⟩

set_option maxHeartbeats 4000000 in
set_option maxRecDepth 100000 in
theorem rraw_any (name : List UInt8) (w : World) : Calls Tryd.prog 39 #[.string (str name)] w fun e w' => e = .returned (.bool (decide (name ∈ rawNames))) ∧ Below w.heap.size w w' := by
  obtain ⟨R, hR⟩ : ∃ R, decide (name ∈ rawNames) = R := ⟨_, rfl⟩
  rw [hR]
  have HR := Lib.hid hR
  clear hR
  go_enter Tryd.func39, Tryd.ntmps39
  go_wp2
  have hrow : Row (fun _ => True) (w.alloc (.cells (sv rawNames).toArray 9)) 1 (some ⟨w.heap.size, 0, none⟩) 8 (sv rawNames) := by
    refine ⟨rfl, fun _ => ⟨_, rfl, trivial, fun j u hu => ?_⟩⟩
    have := (Blk.new w 9 (sv rawNames).toArray).cell (0 + j)
    rw [addr_lit, this]
    simpa using hu
  have B2 := Lib.hid ((Below.refl _ w).alloc (Nat.le_refl _) (.cells (sv rawNames).toArray 9))
  show Code.wp _ _ _ _ (w.alloc (.cells (sv rawNames).toArray 9))
  have hlen : rawNames.length = 8 := rfl
  generalize (w.alloc (.cells (sv rawNames).toArray 9)) = w2 at hrow B2 ⊢
  generalize rawNames = Ns at hrow HR hlen
  have HO := Lib.hid hrow
  clear hrow
  go_loop [7] (fun i => ∃ k : Nat, k ≤ 8 ∧ i = .int .i64 k ∧ Hid (decide (name ∈ Ns.drop k) = R)) (fun i => 8 - (intOf i).toNat)
  case atStart => exact ⟨0, Nat.zero_le _, rfl, HR.out⟩
  case round =>
    obtain ⟨k, hk, rfl, HK⟩ := hrel
    by_cases hlt : k < 8
    · obtain ⟨ad, u, e0, _, hu, c0⟩ := HO.out.at_ hlt
      injection e0 with e0
      subst e0
      rw [addr_lit, Nat.zero_add] at c0
      rw [sv, List.getElem?_map, List.getElem?_eq_getElem (by omega)] at hu
      obtain rfl := Option.some.inj hu
      have hdk : Ns.drop k = Ns[k] :: Ns.drop (k + 1) := List.drop_eq_getElem_cons (by omega)
      have hv := HK.out
      rw [hdk] at hv
      generalize Ns[k] = x at c0 hv
      have HV := Lib.hid hv
      have i0 : (0 : Int) ≤ (k : Int) := by omega
      have i1 : (k : Int) < (8 : Int) := by omega
      clear hdk hv HK
      by_cases hx : x = name
      · have q : (x == name) = true := by simpa using hx
        go_wp2
        go_ret
        exact ⟨retb (by rw [← HV.out]; simp [hx]), B2.out⟩
      · have q : (x == name) = false := by simpa using hx
        go_wp2
        go_round
        case rel => exact ⟨k + 1, by omega, by go_num, by show _ = R; rw [← HV.out]; simp [Ne.symm hx]⟩
        case measure => simp [intOf]; omega
    · have hfin : R = false := by
        have := HK.out
        rw [List.drop_eq_nil_of_le (by omega)] at this
        simpa using this.symm
      have i1 : decide ((k : Int) < (8 : Int)) = false := by simp; omega
      subst hfin
      go_wp2
      go_ret
      exact ⟨rfl, B2.out⟩

theorem bare_any (name : List UInt8) (w : World) (hT : Tab w) : Calls Tryd.prog 44 #[.string (str name)] w fun e w' => e = .returned (.bool (decide (name ∈ setNames1))) ∧ Below w.heap.size w w' := by
  have K := Lib.hid (in1_any name w hT)
  go_enter Tryd.func44, Tryd.ntmps44
  go_wp2_with (go_at_call 67; refine K.out.mono ?_; rintro e w1 ⟨rfl, hb⟩)
  go_ret
  exact ⟨rfl, hb⟩
theorem rbare_any (name : List UInt8) (w : World)  : Calls Tryd.prog 41 #[.string (str name)] w fun e w' => e = .returned (.bool (decide (name ∈ setNames1))) ∧ Below w.heap.size w w' := by
  have K := Lib.hid (rin1_any name w )
  go_enter Tryd.func41, Tryd.ntmps41
  go_wp2_with (go_at_call 38; refine K.out.mono ?_; rintro e w1 ⟨rfl, hb⟩)
  go_ret
  exact ⟨rfl, hb⟩
end Go.Proofs.YtcogoiphpfgkdaaDoor
