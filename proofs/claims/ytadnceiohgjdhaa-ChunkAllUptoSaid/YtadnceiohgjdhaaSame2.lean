/-
  The contract of the law's own same: is a script the one that is wanted?
-/
import Derived.Test.YtadnceiohgjdhaaSame
import Derived.Deep.QuietTactic
import Derived.BigQuiet
namespace Go.Proofs.Ytadnceiohgjdhaa
open Go.RowKit
set_option linter.unusedVariables false

theorem take_succ_eq {α : Type} {L M : List α} {k : Nat} {x : α} (h : L.take k = M.take k) (h1 : L[k]? = some x) (h2 : M[k]? = some x) : L.take (k + 1) = M.take (k + 1) := by
  rw [List.take_add_one, List.take_add_one, h, h1, h2]
theorem eq_of_take {α : Type} {L M : List α} (h : L.take L.length = M.take L.length) (hl : L.length = M.length) : L = M := by
  rw [List.take_length] at h
  rw [h, hl, List.take_length]

set_option maxHeartbeats 4000000 in
set_option maxRecDepth 100000 in
theorem lsame_any (S T : Nat → Prop) (A B : Option Addr) (n c m d : Nat) (L M : List Stp) (w : World) (hS : Steps S w A n L) (hT : Steps T w B m M) (hn : n ≤ 140737488355328) (hm : m ≤ 140737488355328) :
    Calls Try.prog 21 #[.slice A n c, .slice B m d] w fun e w' => e = .returned (.bool (decide (L = M))) ∧ Below w.heap.size w w' := by
  have hl := hS.1
  have hlm := hT.1
  subst hl
  subst hlm
  have HS := Lib.hid hS
  have HT := Lib.hid hT
  clear hS hT
  by_cases hlen : L.length = M.length
  · have hq : ((L.length : Int) != (M.length : Int)) = false := by simp [hlen]
    have HLEN := Lib.hid hlen
    clear hlen
    go_enter Try.func21, Try.ntmps21
    go_wp2
    go_loopw [14] (fun i wr => ∃ (k : Nat), Hid (L.take k = M.take k) ∧ k ≤ L.length ∧ i = .int .i64 k ∧ Below w.heap.size w wr) (fun i _ => L.length - (intOf i).toNat)
    case atStart => exact ⟨0, by simp [Hid], Nat.zero_le _, rfl, Below.refl _ _⟩
    case round =>
      obtain ⟨k, HK, hk, rfl, hbl⟩ := hrel
      by_cases hlt : k < L.length
      · obtain ⟨ad, Ak, ck, x, f, rfl, _, hdf, e0, e1, hrow, hdc, hcm, hd47⟩ := (HS.out.behind hbl).get hlt
        obtain ⟨bd, Bk, dk, y, g, rfl, _, hdg, g0, g1, hrow2, _, _, _⟩ := (HT.out.behind hbl).get (show k < M.length by rw [← HLEN.out]; exact hlt)
        have HD := Lib.hid hdf
        have HE := Lib.hid hdg
        clear hdf hdg
        have lm : (k : Int) < (M.length : Int) := by have := HLEN.out; omega
        have l0 : (0 : Int) ≤ (k : Int) := by omega
        have b0 := World.block_lt_of_cell? wr _ g0
        have b1 := World.block_lt_of_cell? wr _ g1
        have h1 := fun q => conv_row ((hrow.alloc (.cells #[.slice Ak x.length ck, .bool f] 42)).drewN q) ck
        have h2 := fun q => conv_row ((hrow2.alloc (.cells #[.slice Ak x.length ck, .bool f] 42)).drewN q) dk
        clear hrow hrow2
        cases hxy : x == y
        · go_wp2_with fail
          go_quiet (fail)
          go_wp2
          go_ret
          refine ⟨ret_bool ?_, below_drewN (hbl.alloc hbl.size _) _⟩
          refine (decide_eq_false fun e => ?_).symm
          have := HD.out
          rw [e, HE.out] at this
          simp at this hxy
          exact hxy this.1.symm
        · cases hfg : f == g
          · go_wp2_with fail
            go_quiet (fail)
            go_wp2
            go_ret
            refine ⟨ret_bool ?_, below_drewN (hbl.alloc hbl.size _) _⟩
            refine (decide_eq_false fun e => ?_).symm
            have := HD.out
            rw [e, HE.out] at this
            simp at this hfg
            exact hfg this.2.symm
          · go_wp2_with fail
            go_quiet (fail)
            go_wp2
            go_roundw
            case rel =>
              refine ⟨k + 1, ?_, by omega, by go_num, below_drewN (hbl.alloc hbl.size _) _⟩
              have hx : x = y := by simpa using hxy
              have hf : f = g := by simpa using hfg
              subst hx
              subst hf
              exact take_succ_eq HK.out HD.out HE.out
            case measure => simp [intOf]; omega
      · have hkm : k = L.length := by omega
        subst hkm
        go_wp2
        go_ret
        refine ⟨ret_bool ?_, hbl⟩
        exact (decide_eq_true (eq_of_take HK.out HLEN.out)).symm
  · have hq : ((L.length : Int) != (M.length : Int)) = true := by rw [bne_iff_ne]; omega
    have hne : decide (L = M) = false := decide_eq_false fun e => hlen (by rw [e])
    rw [hne]
    clear hne
    go_enter Try.func21, Try.ntmps21
    go_wp2
    go_ret
    exact ⟨rfl, Below.refl _ _⟩

end Go.Proofs.Ytadnceiohgjdhaa
