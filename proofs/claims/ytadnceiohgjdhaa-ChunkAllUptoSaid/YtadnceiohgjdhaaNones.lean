/-
  Sources and buffers that no call made: what each call on them says.
-/
import Derived.Test.YtadnceiohgjdhaaAwake
import Derived.Test.YtadnceiohgjdhaaRange
namespace Go.Proofs.Ytadnceiohgjdhaa
open Go.RowKit
set_option linter.unusedVariables false
set_option linter.unusedSimpArgs false

/-- The method 'is' says no, and changes nothing. -/
def SaysNo (f : FuncId) (v : Value) (w : World) : Prop := Calls Try.prog f #[v] w fun e w' => e = .returned (.bool false) ∧ w = w'

set_option maxHeartbeats 4000000 in
theorem srcNil_no (w : World) : SaysNo 46 (.pointer none) w := by
  have hq : ∀ w : World, (binOp .neq 46 (.pointer none) (.pointer none)).run Try.prog w = .ok (.bool false) w := fun w => by kernel_rfl
  unfold SaysNo
  go_enter Try.func46, Try.ntmps46
  go_wp2
  go_ret
  exact ⟨rfl, rfl⟩
set_option maxHeartbeats 4000000 in
theorem bufNil_no (w : World) : SaysNo 53 (.pointer none) w := by
  have hq : ∀ w : World, (binOp .neq 68 (.pointer none) (.pointer none)).run Try.prog w = .ok (.bool false) w := fun w => by kernel_rfl
  unfold SaysNo
  go_enter Try.func53, Try.ntmps53
  go_wp2
  go_ret
  exact ⟨rfl, rfl⟩
set_option maxHeartbeats 4000000 in
theorem srcZero_no (w : World) (g : Nat) (h : w.cell? ⟨g, 4, none⟩ = some (.bool false)) : SaysNo 46 (.pointer (some ⟨g, 0, none⟩)) w := by
  have hq : ∀ w : World, (binOp .neq 46 (.pointer (some ⟨g, 0, none⟩)) (.pointer none)).run Try.prog w = .ok (.bool true) w := fun w => by kernel_rfl
  unfold SaysNo
  go_enter Try.func46, Try.ntmps46
  go_wp2
  go_ret
  exact ⟨rfl, rfl⟩
set_option maxHeartbeats 4000000 in
theorem bufZero_no (w : World) (g : Nat) (h : w.cell? ⟨g, 0, none⟩ = some .nilIface) : SaysNo 53 (.pointer (some ⟨g, 0, none⟩)) w := by
  have hq : ∀ w : World, (binOp .neq 68 (.pointer (some ⟨g, 0, none⟩)) (.pointer none)).run Try.prog w = .ok (.bool true) w := fun w => by kernel_rfl
  have hq2 : ∀ w : World, (binOp .neq 75 .nilIface .nilIface).run Try.prog w = .ok (.bool false) w := fun w => by kernel_rfl
  unfold SaysNo
  go_enter Try.func53, Try.ntmps53
  go_wp2
  go_ret
  exact ⟨rfl, rfl⟩

section
variable (v : Value) (w : World)
set_option maxHeartbeats 4000000 in
set_option maxRecDepth 100000 in
theorem srcRead_none(n : Int) (h : SaysNo 46 v w) : Calls Try.prog 28 #[v, .int .i64 n] w fun e w' => e = .returned (.tuple #[.slice none 0 0, .int .i64 2]) ∧ w = w' := by
  have K := Lib.hid h
  clear h
  go_enter Try.func28, Try.ntmps28
  go_wp2_with (go_at_call 46; refine (show Calls _ _ _ _ _ from K.out).mono ?_; rintro e w1 ⟨rfl, rfl⟩)
  first | go_ret2 | go_ret
  exact ⟨rfl, rfl⟩
set_option maxHeartbeats 4000000 in
set_option maxRecDepth 100000 in
theorem srcTold_none (h : SaysNo 46 v w) : Calls Try.prog 30 #[v] w fun e w' => e = .returned (.int .i64 0) ∧ w = w' := by
  have K := Lib.hid h
  clear h
  go_enter Try.func30, Try.ntmps30
  go_wp2_with (go_at_call 46; refine (show Calls _ _ _ _ _ from K.out).mono ?_; rintro e w1 ⟨rfl, rfl⟩)
  first | go_ret2 | go_ret
  exact ⟨rfl, rfl⟩
set_option maxHeartbeats 4000000 in
set_option maxRecDepth 100000 in
theorem srcOver_none (h : SaysNo 46 v w) : Calls Try.prog 31 #[v] w fun e w' => e = .returned (.bool true) ∧ w = w' := by
  have K := Lib.hid h
  clear h
  go_enter Try.func31, Try.ntmps31
  go_wp2_with (go_at_call 46; refine (show Calls _ _ _ _ _ from K.out).mono ?_; rintro e w1 ⟨rfl, rfl⟩)
  first | go_ret2 | go_ret
  exact ⟨rfl, rfl⟩
set_option maxHeartbeats 4000000 in
set_option maxRecDepth 100000 in
theorem newBuffer_none(n : Int) (h : SaysNo 46 v w) : Calls Try.prog 35 #[v, .int .i64 n] w fun e w' => e = .returned (.tuple #[.pointer none, .int .i64 2]) ∧ w = w' := by
  have K := Lib.hid h
  clear h
  go_enter Try.func35, Try.ntmps35
  go_wp2_with (go_at_call 46; refine (show Calls _ _ _ _ _ from K.out).mono ?_; rintro e w1 ⟨rfl, rfl⟩)
  first | go_ret2 | go_ret
  exact ⟨rfl, rfl⟩
set_option maxHeartbeats 4000000 in
set_option maxRecDepth 100000 in
theorem bufHas_none (h : SaysNo 53 v w) : Calls Try.prog 38 #[v] w fun e w' => e = .returned (.int .i64 0) ∧ w = w' := by
  have K := Lib.hid h
  clear h
  go_enter Try.func38, Try.ntmps38
  go_wp2_with (go_at_call 53; refine (show Calls _ _ _ _ _ from K.out).mono ?_; rintro e w1 ⟨rfl, rfl⟩)
  first | go_ret2 | go_ret
  exact ⟨rfl, rfl⟩
set_option maxHeartbeats 4000000 in
set_option maxRecDepth 100000 in
theorem bufTaken_none (h : SaysNo 53 v w) : Calls Try.prog 37 #[v] w fun e w' => e = .returned (.int .i64 0) ∧ w = w' := by
  have K := Lib.hid h
  clear h
  go_enter Try.func37, Try.ntmps37
  go_wp2_with (go_at_call 53; refine (show Calls _ _ _ _ _ from K.out).mono ?_; rintro e w1 ⟨rfl, rfl⟩)
  first | go_ret2 | go_ret
  exact ⟨rfl, rfl⟩
set_option maxHeartbeats 4000000 in
set_option maxRecDepth 100000 in
theorem bufPeek_none(n : Int) (h : SaysNo 53 v w) : Calls Try.prog 39 #[v, .int .i64 n] w fun e w' => e = .returned (.tuple #[.slice none 0 0, .int .i64 2]) ∧ w = w' := by
  have K := Lib.hid h
  clear h
  go_enter Try.func39, Try.ntmps39
  go_wp2_with (go_at_call 53; refine (show Calls _ _ _ _ _ from K.out).mono ?_; rintro e w1 ⟨rfl, rfl⟩)
  first | go_ret2 | go_ret
  exact ⟨rfl, rfl⟩
set_option maxHeartbeats 4000000 in
set_option maxRecDepth 100000 in
theorem bufRest_none (h : SaysNo 53 v w) : Calls Try.prog 41 #[v] w fun e w' => e = .returned (.tuple #[.slice none 0 0, .int .i64 2]) ∧ w = w' := by
  have K := Lib.hid h
  clear h
  go_enter Try.func41, Try.ntmps41
  go_wp2_with (go_at_call 53; refine (show Calls _ _ _ _ _ from K.out).mono ?_; rintro e w1 ⟨rfl, rfl⟩)
  first | go_ret2 | go_ret
  exact ⟨rfl, rfl⟩
set_option maxHeartbeats 4000000 in
set_option maxRecDepth 100000 in
theorem bufUntil_none (n : Int) (h : SaysNo 53 v w) : Calls Try.prog 40 #[v, .int .u8 n] w fun e w' => e = .returned (.tuple #[.slice none 0 0, .int .i64 2]) ∧ w = w' := by
  have K := Lib.hid h
  clear h
  go_enter Try.func40, Try.ntmps40
  go_wp2
  go_step3
  go_wp2_with (go_at_call 53; refine (show Calls _ _ _ _ _ from K.out).mono ?_; rintro e w1 ⟨rfl, rfl⟩)
  rw [Exit.noGoto_ret]
  go_ret2
  exact ⟨rfl, rfl⟩
set_option maxHeartbeats 4000000 in
theorem bufTake_none (n : Int) (h : SaysNo 53 v w) : Calls Try.prog 36 #[v, .int .i64 n] w fun e w' => e = .returned (.tuple #[.slice none 0 0, .int .i64 2]) ∧ w = w' := by
  have K := Lib.hid (bufPeek_none v w n h)
  clear h
  go_enter Try.func36, Try.ntmps36
  go_wp2_with (go_at_call 39; refine K.out.mono ?_; rintro e w1 ⟨rfl, rfl⟩)
  first | go_ret2 | go_ret
  exact ⟨rfl, rfl⟩
end
/-- s.All(n): the receiver and n are boxed; the function value captures the boxes. -/
theorem srcAll_any (p : Option Addr) (n : Int) (w : World) : Calls Try.prog 33 #[.pointer p, .int .i64 n] w fun e w' =>
    ∃ B, e = .returned (.func (.func 48) #[] #[.pointer (some ⟨B, 0, none⟩), .pointer (some ⟨B + 1, 0, none⟩)]) ∧ w.heap.size ≤ B ∧ B + 1 < w'.heap.size ∧
      w'.cell? ⟨B, 0, none⟩ = some (.pointer p) ∧ w'.cell? ⟨B + 1, 0, none⟩ = some (.int .i64 n) ∧ Below w.heap.size w w' := by
  go_enter Try.func33, Try.ntmps33
  go_wp2
  first | go_ret2 | go_ret
  have h1 : Blk (w.alloc (.cells #[.pointer p] 46)) w.heap.size 46 #[.pointer p] := Blk.new w _ _
  have h2 : Blk ((w.alloc (.cells #[.pointer p] 46)).alloc (.cells #[.int .i64 n] 3)) (w.heap.size + 1) 3 #[.int .i64 n] := Blk.new_at _ _ (by simp)
  exact ⟨w.heap.size, rfl, Nat.le_refl _, by simp, (h1.alloc _).cell 0, h2.cell 0, ((Below.refl _ w).alloc (Nat.le_refl _) _).alloc (by simp) _⟩
/-- The function value, where its source is none. -/
theorem srcAll1_none (v y u : Value) (B : Nat) (w : World) (hc : w.cell? ⟨B, 0, none⟩ = some v) (h : SaysNo 46 v w) :
    Calls Try.prog 48 #[y, .pointer (some ⟨B, 0, none⟩), u] w fun e w' => (∃ x, e = .returned x) ∧ w = w' := by
  have K := Lib.hid h
  clear h
  go_enter Try.func48, Try.ntmps48
  go_wp2_with (go_at_call 46; refine (show Calls _ _ _ _ _ from K.out).mono ?_; rintro e w1 ⟨rfl, rfl⟩)
  (try simp only [Exit.inBlock, Exit.then])
  refine bodyPost_ret (results_none rfl _ _ _) rfl ?_
  exact ⟨⟨_, rfl⟩, rfl⟩
end Go.Proofs.Ytadnceiohgjdhaa
