/-
  The contract of the comparison by which Names sorts: by how often a name came, then by its bytes.
-/
import Derived.Test.YtgkiffodnofggaaGreatDoorAudMap
namespace Go.Proofs.YtgkiffodnofggaaGreatDoor
open Go.RowKit
set_option linter.unusedVariables false
set_option linter.unusedSimpArgs false

/-- Which of two names comes first. -/
def cmpN (ks : List (List UInt8)) (x y : List UInt8) : Int := if cnt ks x = cnt ks y then Lib.compareBytes x y else ((cnt ks y : Nat) : Int) - ((cnt ks x : Nat) : Int)

set_option maxHeartbeats 4000000 in
set_option maxRecDepth 100000 in
theorem cmp_any (ks : List (List UInt8)) (x y : List UInt8) (hx : x.length ≤ maxLen) (hy : y.length ≤ maxLen) (W : World) (B n c : Nat) (hK : KM kName W B n ks) (hc : W.cell? ⟨c, 0, none⟩ = some (.map (some B))) (hl : ks.length ≤ 1048576) :
    Calls Tryz.prog 14 #[.string (str x), .string (str y), .pointer (some ⟨c, 0, none⟩)] W fun e w' => e = .returned (.int .i64 (cmpN ks x y)) ∧ w' = W := by
  have r1 := hK.run x hx
  have r2 := hK.run y hy
  have hcx := cnt_le ks x
  have hcy := cnt_le ks y
  have K := Lib.hid (Tryz.strings_Compare (str x) (str y) W)
  unfold cmpN
  simp only [kName] at r1 r2
  clear hx hy
  obtain ⟨a, ha⟩ : ∃ a, cnt ks x = a := ⟨_, rfl⟩
  obtain ⟨b, hb⟩ : ∃ b, cnt ks y = b := ⟨_, rfl⟩
  rw [ha] at r1 hcx ⊢
  rw [hb] at r2 hcy ⊢
  clear ha hb hK
  by_cases e : a = b
  · subst e
    rw [if_pos rfl]
    go_enter Tryz.func14, Tryz.ntmps14
    go_wp2_with fail
    refine K.out.mono ?_
    rintro e w' ⟨rfl, rfl⟩
    go_wp2
    go_ret
    exact ⟨rfl, rfl⟩
  · rw [if_neg e]
    have f1 : ((a : Int) == (b : Int)) = false := by rw [beq_eq_false_iff_ne]; omega
    have f2 : ((a : Int) != (b : Int)) = true := by rw [bne_iff_ne]; omega
    clear e
    go_enter Tryz.func14, Tryz.ntmps14
    go_wp2
    go_ret
    exact ⟨rfl, rfl⟩
end Go.Proofs.YtgkiffodnofggaaGreatDoor
