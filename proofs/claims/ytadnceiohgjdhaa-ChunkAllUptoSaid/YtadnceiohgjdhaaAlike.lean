/-
  The contract of the law's own alike: is an answer the document's? It is written over then.
-/
import Derived.Test.YtadnceiohgjdhaaSame2
namespace Go.Proofs.Ytadnceiohgjdhaa
open Go.RowKit
set_option linter.unusedVariables false

/-- An answer is the one that is wanted. -/
def alikeB (e : Int) (l : List UInt8) (f : Int) (m : List UInt8) : Bool := decide (e = f ∧ l = m)
theorem alikeB_no {e f : Int} {l m : List UInt8} (h : (e == f) = false) : alikeB e l f m = false := by
  unfold alikeB
  refine decide_eq_false fun x => ?_
  simp at h
  exact h x.1
theorem alikeB_yes {e f : Int} {l m : List UInt8} (h : (e == f) = true) : (l == m) = alikeB e l f m := by
  unfold alikeB
  rw [Bool.eq_iff_iff]
  simp at h ⊢
  exact fun _ => h

set_option maxHeartbeats 4000000 in
set_option maxRecDepth 100000 in
theorem alike_any (lo : Nat) (T : Nat → Prop) (v : Value) (B : Option Addr) (n m d : Nat) (l x : List UInt8) (e f : Int) (w : World) (hv : w.ownsRow lo 5 1 v n (bv l)) (hT : Row T w 1 B m (bv x)) :
    Calls Try.prog 18 #[v, .int .i64 e, .slice B m d, .int .i64 f] w fun r w' => r = .returned (.bool (alikeB e l f x)) ∧ Keep (fun k => v.ownBlock = some k) w w' := by
  have hs := own_form hv
  have hrow : ∀ A c, v = .slice A n c → Row (fun k => lo ≤ k) w 1 A n (bv l) := fun A c e => by subst e; exact Row.of_own hv
  have h2 := conv_row hT d
  clear hT
  rcases hs with ⟨rfl, rfl, hl⟩ | ⟨g, cap, cur, rfl, hlo, hg, hblk, hnc, hcm, hcs, _⟩
  · have h1 := conv_row (hrow _ _ rfl) 0
    clear hrow hv
    cases hef : e == f
    · rw [alikeB_no hef]
      go_enter Try.func18, Try.ntmps18
      go_wp2
      refine wp_loop_rounds 1 ?_
      rw [rounds_succ]
      go_wp2
      go_ret
      exact ⟨rfl, Keep.refl _ _⟩
    · rw [← alikeB_yes hef]
      go_enter Try.func18, Try.ntmps18
      go_wp2
      refine wp_loop_rounds 1 ?_
      rw [rounds_succ]
      go_wp2
      go_ret
      exact ⟨rfl, Keep.refl _ _⟩
  · have h1 := conv_row (hrow _ _ rfl) cap
    clear hrow hv
    have HB := Lib.hid hblk
    have HC := Lib.hid hcs
    clear hblk hcs
    unfold maxLen at hcm
    cases hef : e == f
    · rw [alikeB_no hef]
      go_enter Try.func18, Try.ntmps18
      go_wp2
      go_loopw [24] (fun i wr => ∃ (k : Nat) (cur' : Array Value), k ≤ n ∧ i = .int .i64 k ∧ Hid (cur'.size = cap) ∧ Hid (Blk wr g 5 cur') ∧ Keep (fun k => (Value.slice (some ⟨g, 0, none⟩) n cap).ownBlock = some k) w wr) (fun i _ => n - (intOf i).toNat)
      case atStart => exact ⟨0, cur, Nat.zero_le _, rfl, by show cur.size = cap; have := HC.out; omega, HB.out, Keep.refl _ _⟩
      case round =>
        obtain ⟨k, cur', hk, rfl, HC', HB', hkeep⟩ := hrel
        by_cases hlt : k < n
        · have hc0 := HB'.out.cell k
          have hf0 := HB'.out.frozen k
          rw [Array.getElem?_eq_getElem (show k < cur'.size by rw [HC'.out]; omega)] at hc0
          generalize cur'[k]'(by rw [HC'.out]; omega) = u0 at hc0
          go_wp2
          go_roundw
          case rel => exact ⟨k + 1, cur'.setIfInBounds k (.int .u8 121), by omega, by go_num, by show Array.size _ = _; simpa using HC'.out, HB'.out.set_ k _, hkeep.setCell (p := ⟨g, k, none⟩) (.inl rfl) _⟩
          case measure => simp [intOf]; omega
        · go_wp2
          go_ret
          exact ⟨rfl, hkeep⟩
    · rw [← alikeB_yes hef]
      go_enter Try.func18, Try.ntmps18
      go_wp2
      go_loopw [24] (fun i wr => ∃ (k : Nat) (cur' : Array Value), k ≤ n ∧ i = .int .i64 k ∧ Hid (cur'.size = cap) ∧ Hid (Blk wr g 5 cur') ∧ Keep (fun k => (Value.slice (some ⟨g, 0, none⟩) n cap).ownBlock = some k) w wr) (fun i _ => n - (intOf i).toNat)
      case atStart => exact ⟨0, cur, Nat.zero_le _, rfl, by show cur.size = cap; have := HC.out; omega, HB.out, Keep.refl _ _⟩
      case round =>
        obtain ⟨k, cur', hk, rfl, HC', HB', hkeep⟩ := hrel
        by_cases hlt : k < n
        · have hc0 := HB'.out.cell k
          have hf0 := HB'.out.frozen k
          rw [Array.getElem?_eq_getElem (show k < cur'.size by rw [HC'.out]; omega)] at hc0
          generalize cur'[k]'(by rw [HC'.out]; omega) = u0 at hc0
          go_wp2
          go_roundw
          case rel => exact ⟨k + 1, cur'.setIfInBounds k (.int .u8 121), by omega, by go_num, by show Array.size _ = _; simpa using HC'.out, HB'.out.set_ k _, hkeep.setCell (p := ⟨g, k, none⟩) (.inl rfl) _⟩
          case measure => simp [intOf]; omega
        · go_wp2
          go_ret
          exact ⟨rfl, hkeep⟩

end Go.Proofs.Ytadnceiohgjdhaa
