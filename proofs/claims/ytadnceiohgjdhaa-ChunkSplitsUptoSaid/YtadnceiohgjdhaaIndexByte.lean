/-
  The contract of bytes.IndexByte on a slice of bytes that is read, over any frame.
-/
import Derived.Test.YtadnceiohgjdhaaBytes
import Derived.Shelf.Bytes.SlIndexAt
namespace Go.Proofs.Ytadnceiohgjdhaa
open Go.RowKit
set_option linter.unusedVariables false

theorem indexByte_idx (l : List UInt8) (c : UInt8) : Lib.indexByte l c = if c ∈ l then (l.idxOf c : Int) else -1 := by
  induction l with
  | nil => rfl
  | cons b l ih =>
    rw [Lib.indexByte, ih]
    by_cases h : b = c
    · subst h; simp
    · have h1 : (b == c) = false := by simpa using h
      have h2 : ¬ c = b := fun e => h e.symm
      by_cases h3 : c ∈ l
      · rw [List.idxOf_cons]
        simp only [h1, h3, cond_false, List.mem_cons, or_true, if_true, Bool.false_eq_true, if_false]
        rw [if_neg (by simp)]
        omega
      · simp [h1, h2, h3]

theorem bytesOf_bv (l : List UInt8) : Lib.bytesOf (l.map fun b => (b.toNat : Int)) = l := by
  induction l with
  | nil => rfl
  | cons b l ih =>
    simp only [Lib.bytesOf, List.map_cons, List.map_map] at ih ⊢
    rw [ih]
    simp

set_option maxHeartbeats 1000000 in
theorem indexByte_any (S : Nat → Prop) (A : Option Addr) (n c : Nat) (l : List UInt8) (cv : UInt8) (w : World) (hr : Row S w 1 A n (bv l)) :
    Calls Try.prog 55 #[.slice A n c, .int .u8 cv.toNat] w fun e w' => e = .returned (.int .i64 (if cv ∈ l then (l.idxOf cv : Int) else -1)) ∧ w = w' := by
  have hl : l.length = n := by have := hr.1; rw [bv_length] at this; omega
  have hrun : (Extern.BytealgIndexByte.indexByte #[.slice A n c, .int .u8 cv.toNat]).run Try.prog w = .ok (.int .i64 (if cv ∈ l then (l.idxOf cv : Int) else -1)) w := by
    rw [← indexByte_idx]
    rcases A with _ | a
    · obtain ⟨rfl, e⟩ := row_none hr
      have hl : l = [] := by simpa [bv] using e
      subst hl
      exact Lib.run_indexByteNil w 0 c _
    · have := Lib.run_indexByteAt (P := Try.prog) w a n c (l.map fun b => (b.toNat : Int)) (by simpa using hl) (fun i hi => by
        obtain ⟨ad, e, _, hc⟩ := hr.2 (by omega)
        injection e with e
        subst e
        have := hc i _ (bv_get l i (by omega))
        rw [this]
        simp [List.getElem?_eq_getElem (show i < l.length by omega)]) cv.toNat
      rw [bytesOf_bv] at this
      simpa using this
  generalize (if cv ∈ l then (l.idxOf cv : Int) else -1) = z at hrun ⊢
  have H := Lib.hid hrun
  clear hrun hr hl
  go_enter Try.func55, Try.ntmps55
  go_wp2
  rw [run_callFunc_extern Try.func60 (by kernel_rfl) (by kernel_rfl) (by kernel_rfl) (e := Extern.BytealgIndexByte.indexByte) (by kernel_rfl), H.out]
  simp only [Result.andThen]
  rw [Oper.upon_value]
  go_wp2
  go_ret
  exact ⟨rfl, rfl⟩

end Go.Proofs.Ytadnceiohgjdhaa
