/-
  The contracts of Bytes, of the program and of the reference: a script's bytes, and whether it fails.
-/
import Derived.Test.YtadnceiohgjdhaaSteps
namespace Go.Proofs.Ytadnceiohgjdhaa
open Go.RowKit
set_option linter.unusedVariables false

/-- A script's bytes, and whether it fails. -/
def bytesOf : List Stp → List UInt8 × Bool
  | [] => ([], false)
  | (d, f) :: r => if f then (d, true) else (d ++ (bytesOf r).1, (bytesOf r).2)
/-- What has come, and what the rest gives, is the whole. -/
def BytesTo (L : List Stp) (k : Nat) (acc : List UInt8) : Prop := acc ++ (bytesOf (L.drop k)).1 = (bytesOf L).1 ∧ (bytesOf (L.drop k)).2 = (bytesOf L).2
theorem drop_get {α : Type} (L : List α) (k : Nat) (h : k < L.length) : L.drop k = L[k] :: L.drop (k + 1) := by simp
theorem BytesTo.start (L : List Stp) : BytesTo L 0 [] := ⟨by simp, by simp⟩
theorem BytesTo.le {L : List Stp} {k : Nat} {acc d : List UInt8} {f : Bool} (h : BytesTo L k acc) (hk : L[k]? = some (d, f)) : (acc ++ d).length ≤ (bytesOf L).1.length := by
  obtain ⟨hl, hg⟩ := List.getElem?_eq_some_iff.1 hk
  have h1 := h.1
  rw [drop_get L k hl, hg] at h1
  rw [← h1]
  simp only [bytesOf]
  split <;> simp <;> omega
theorem BytesTo.next {L : List Stp} {k : Nat} {acc d : List UInt8} (h : BytesTo L k acc) (hk : L[k]? = some (d, false)) : BytesTo L (k + 1) (acc ++ d) := by
  obtain ⟨hl, hg⟩ := List.getElem?_eq_some_iff.1 hk
  have h1 := h.1
  have h2 := h.2
  rw [drop_get L k hl, hg] at h1 h2
  simp only [bytesOf] at h1 h2
  exact ⟨by simpa using h1, by simpa using h2⟩
theorem BytesTo.fail {L : List Stp} {k : Nat} {acc d : List UInt8} (h : BytesTo L k acc) (hk : L[k]? = some (d, true)) : bytesOf L = (acc ++ d, true) := by
  obtain ⟨hl, hg⟩ := List.getElem?_eq_some_iff.1 hk
  have h1 := h.1
  have h2 := h.2
  rw [drop_get L k hl, hg] at h1 h2
  simp only [bytesOf, if_true] at h1 h2
  exact Prod.ext h1.symm h2.symm
theorem BytesTo.over {L : List Stp} {acc : List UInt8} (h : BytesTo L L.length acc) : bytesOf L = (acc, false) := by
  have h1 := h.1
  have h2 := h.2
  simp [bytesOf] at h1 h2
  exact Prod.ext h1.symm (by simpa using h2)

set_option maxHeartbeats 2000000 in
set_option maxRecDepth 100000 in
theorem bytes_any (S : Nat → Prop) (A : Option Addr) (n c : Nat) (L : List Stp) (w : World) (hS : Steps S w A n L) (hb : (bytesOf L).1.length ≤ 140737488355328) (hn : n ≤ 140737488355328) :
    Calls Try.prog 16 #[.slice A n c] w (Gives fun v w' => ∃ b, v = .tuple #[b, .bool (bytesOf L).2] ∧ w'.ownsRow w.heap.size 5 1 b (bytesOf L).1.length (bv (bytesOf L).1) ∧ Below w.heap.size w w') := by
  obtain ⟨i0, hi, hz0, hz1, hz2⟩ := info_parts u8info
  have hl := hS.1
  subst hl
  have HS := Lib.hid hS
  clear hS
  go_enter Try.func16, Try.ntmps16
  go_wp2
  go_loopw [4, 9] (fun v i wr => ∃ (k : Nat) (acc : List UInt8), Hid (BytesTo L k acc) ∧ k ≤ L.length ∧ i = .int .i64 k ∧ wr.ownsRow w.heap.size 5 1 v acc.length (bv acc) ∧ Below w.heap.size w wr) (fun _ i _ => L.length - (intOf i).toNat)
  case atStart => exact ⟨0, [], BytesTo.start L, Nat.zero_le _, rfl, World.ownsRow_nil _ _ _ _, Below.refl _ _⟩
  case round =>
    obtain ⟨k, acc, HB, hk, rfl, hown, hbl⟩ := hrel
    by_cases hlt : k < L.length
    · obtain ⟨ad, Ak, ck, d, f, rfl, _, hdf, e0, e1, hrow, hdc, hcm, hd47⟩ := (HS.out.behind hbl).get hlt
      have hle := HB.out.le hdf
      rw [List.length_append] at hle
      have HD := Lib.hid hdf
      have HO := Lib.hid hown
      have HR := Lib.hid hrow
      clear hdf hown hrow
      cases f
      · go_wp2_with (at_builtin; refine wpList_append_row _ rfl _ _ 26 rfl w.heap.size 5 i0 _ 1 1 Try.underlying26 hi hz0 hz1 hz2 rfl (by decide) _ acc.length (bv acc) rfl (HO.out.alloc _) S Ak d.length ck (bv d) rfl (HR.out.alloc _) (bv_one d) (by simp only [maxLen]; omega) (by omega) (by have := hbl.size; simp; omega) ?_; intro v2 w2 hown2 hgrow hat; obtain ⟨A2, c2, rfl, _, _⟩ := own_slice hown2; have hf := hgrow.cell (cell_alloc_at wr #[.slice Ak d.length ck, .bool false] 42 1 (.bool false) rfl) (own_block_lt HO.out))
        go_roundw
        case rel =>
          refine ⟨k + 1, acc ++ d, HB.out.next HD.out, by omega, by go_num, ?_, ?_⟩
          · rw [bv_append, List.length_append]; exact hown2
          · exact (hbl.alloc hbl.size _).grown hgrow (by have := hbl.size; simp; omega) (fun j e => (HO.out.lt j e).1)
        case measure => simp [intOf]; omega
      · go_wp2_with (at_builtin; refine wpList_append_row _ rfl _ _ 26 rfl w.heap.size 5 i0 _ 1 1 Try.underlying26 hi hz0 hz1 hz2 rfl (by decide) _ acc.length (bv acc) rfl (HO.out.alloc _) S Ak d.length ck (bv d) rfl (HR.out.alloc _) (bv_one d) (by simp only [maxLen]; omega) (by omega) (by have := hbl.size; simp; omega) ?_; intro v2 w2 hown2 hgrow hat; obtain ⟨A2, c2, rfl, _, _⟩ := own_slice hown2; have hf := hgrow.cell (cell_alloc_at wr #[.slice Ak d.length ck, .bool true] 42 1 (.bool true) rfl) (own_block_lt HO.out))
        go_ret2
        have e := HB.out.fail HD.out
        refine ⟨_, rfl, _, (by rw [e]; rfl), ?_, ?_⟩
        · rw [e, bv_append, List.length_append]; exact hown2
        · exact (hbl.alloc hbl.size _).grown hgrow (by have := hbl.size; simp; omega) (fun j e => (HO.out.lt j e).1)
    · have hkm : k = L.length := by omega
      subst hkm
      have HO := Lib.hid hown
      clear hown
      go_wp2
      go_ret2
      have e := HB.out.over
      exact ⟨_, rfl, _, (by rw [e]; rfl), (by rw [e]; exact HO.out), hbl⟩

set_option maxHeartbeats 2000000 in
set_option maxRecDepth 100000 in
theorem rbytes_any (S : Nat → Prop) (A : Option Addr) (n c : Nat) (L : List Stp) (w : World) (hS : Steps S w A n L) (hb : (bytesOf L).1.length ≤ 140737488355328) (hn : n ≤ 140737488355328) :
    Calls Try.prog 17 #[.slice A n c] w (Gives fun v w' => ∃ b, v = .tuple #[b, .bool (bytesOf L).2] ∧ w'.ownsRow w.heap.size 5 1 b (bytesOf L).1.length (bv (bytesOf L).1) ∧ Below w.heap.size w w') := by
  obtain ⟨i0, hi, hz0, hz1, hz2⟩ := info_parts u8info
  have hl := hS.1
  subst hl
  have HS := Lib.hid hS
  clear hS
  go_enter Try.func17, Try.ntmps17
  go_wp2
  go_loopw [4, 9] (fun v i wr => ∃ (k : Nat) (acc : List UInt8), Hid (BytesTo L k acc) ∧ k ≤ L.length ∧ i = .int .i64 k ∧ wr.ownsRow w.heap.size 5 1 v acc.length (bv acc) ∧ Below w.heap.size w wr) (fun _ i _ => L.length - (intOf i).toNat)
  case atStart => exact ⟨0, [], BytesTo.start L, Nat.zero_le _, rfl, World.ownsRow_nil _ _ _ _, Below.refl _ _⟩
  case round =>
    obtain ⟨k, acc, HB, hk, rfl, hown, hbl⟩ := hrel
    by_cases hlt : k < L.length
    · obtain ⟨ad, Ak, ck, d, f, rfl, _, hdf, e0, e1, hrow, hdc, hcm, hd47⟩ := (HS.out.behind hbl).get hlt
      have hle := HB.out.le hdf
      rw [List.length_append] at hle
      have HD := Lib.hid hdf
      have HO := Lib.hid hown
      have HR := Lib.hid hrow
      clear hdf hown hrow
      cases f
      · go_wp2_with (at_builtin; refine wpList_append_row _ rfl _ _ 26 rfl w.heap.size 5 i0 _ 1 1 Try.underlying26 hi hz0 hz1 hz2 rfl (by decide) _ acc.length (bv acc) rfl (HO.out.alloc _) S Ak d.length ck (bv d) rfl (HR.out.alloc _) (bv_one d) (by simp only [maxLen]; omega) (by omega) (by have := hbl.size; simp; omega) ?_; intro v2 w2 hown2 hgrow hat; obtain ⟨A2, c2, rfl, _, _⟩ := own_slice hown2; have hf := hgrow.cell (cell_alloc_at wr #[.slice Ak d.length ck, .bool false] 93 1 (.bool false) rfl) (own_block_lt HO.out))
        go_roundw
        case rel =>
          refine ⟨k + 1, acc ++ d, HB.out.next HD.out, by omega, by go_num, ?_, ?_⟩
          · rw [bv_append, List.length_append]; exact hown2
          · exact (hbl.alloc hbl.size _).grown hgrow (by have := hbl.size; simp; omega) (fun j e => (HO.out.lt j e).1)
        case measure => simp [intOf]; omega
      · go_wp2_with (at_builtin; refine wpList_append_row _ rfl _ _ 26 rfl w.heap.size 5 i0 _ 1 1 Try.underlying26 hi hz0 hz1 hz2 rfl (by decide) _ acc.length (bv acc) rfl (HO.out.alloc _) S Ak d.length ck (bv d) rfl (HR.out.alloc _) (bv_one d) (by simp only [maxLen]; omega) (by omega) (by have := hbl.size; simp; omega) ?_; intro v2 w2 hown2 hgrow hat; obtain ⟨A2, c2, rfl, _, _⟩ := own_slice hown2; have hf := hgrow.cell (cell_alloc_at wr #[.slice Ak d.length ck, .bool true] 93 1 (.bool true) rfl) (own_block_lt HO.out))
        go_ret2
        have e := HB.out.fail HD.out
        refine ⟨_, rfl, _, (by rw [e]; rfl), ?_, ?_⟩
        · rw [e, bv_append, List.length_append]; exact hown2
        · exact (hbl.alloc hbl.size _).grown hgrow (by have := hbl.size; simp; omega) (fun j e => (HO.out.lt j e).1)
    · have hkm : k = L.length := by omega
      subst hkm
      have HO := Lib.hid hown
      clear hown
      go_wp2
      go_ret2
      have e := HB.out.over
      exact ⟨_, rfl, _, (by rw [e]; rfl), (by rw [e]; exact HO.out), hbl⟩

end Go.Proofs.Ytadnceiohgjdhaa
