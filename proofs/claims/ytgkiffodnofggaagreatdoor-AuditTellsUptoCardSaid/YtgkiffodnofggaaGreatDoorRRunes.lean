/-
  The contract of the reference's Runes of bytes.
-/
import Derived.Test.YtgkiffodnofggaaGreatDoorRPieces
import Derived.Test.YtgkiffodnofggaaGreatDoorMendPlain
namespace Go.Proofs.YtgkiffodnofggaaGreatDoor
open Go.RowKit
set_option linter.unusedVariables false
set_option linter.unusedSimpArgs false

theorem own_lower {W : World} {lo lo' size n : Nat} {t : TypeId} {v : Value} {xs : List Value} (h : W.ownsRow lo t size v n xs) (hl : lo' ≤ lo) : W.ownsRow lo' t size v n xs :=
  ⟨h.1, h.2.imp id (fun ⟨g, cap, cur, e, hb, rest⟩ => ⟨g, cap, cur, e, Nat.le_trans hl hb, rest⟩)⟩

theorem i32info : (Tryz.prog.info? 21).map (fun i => (i.zero, i.size, i.bytes)) = some (some (.int .i32 0), 1, 4) := by kernel_rfl
/-- Runes, as cells. -/
def rv (l : List Nat) : List Value := l.map fun (r : Nat) => .int .i32 r
theorem rv_length (l : List Nat) : (rv l).length = l.length := by simp [rv]
set_option maxHeartbeats 8000000 in
set_option maxRecDepth 100000 in
theorem rrunes_any (S : Nat → Prop) (A : Option Addr) (n cp : Nat) (l : List UInt8) (w : World) (hr : Row S w 1 A n (bv l)) (hn : n ≤ 1073741824) (hnc : n ≤ cp) (hS : ∀ k, S k → k < w.heap.size) :
    Calls Tryz.prog 37 #[.slice A n cp] w (Gives fun v w' => w'.ownsRow w.heap.size 21 1 v (runesOf l).length (rv (runesOf l)) ∧ Below w.heap.size w w') := by
  obtain ⟨i0', hi, hz0, hz1, hz2⟩ := info_parts i32info
  have hp := rpieces_any S A n cp l w hr hn hnc hS
  have hl : l.length = n := by have := hr.1; rw [bv_length] at this; omega
  have hpl := pieces_length l 0
  unfold runesOf
  generalize pieces 0 l = Ps at hp hpl ⊢
  have K := Lib.hid hp
  clear hp hr
  go_enter Tryz.func37, Tryz.ntmps37
  go_wp2_with fail
  refine K.out.mono ?_
  rintro e w1 ⟨v, rfl, ho, hb⟩
  obtain ⟨A1, c1, rfl, _, _⟩ := own_slice ho
  have HO := Lib.hid (Row.of_own ho)
  have B1 := Lib.hid hb
  have l1 := hb.size
  clear ho hb
  go_wp2_with fail
  go_loopw [3, 9] (fun v i wr => ∃ k : Nat, k ≤ Ps.length ∧ i = .int .i64 k ∧ Hid (wr.ownsRow w1.heap.size 21 1 v k (rv ((Ps.take k).map (·.r)))) ∧ Hid (Below w1.heap.size w1 wr)) (fun _ i _ => Ps.length - (intOf i).toNat)
  case atStart => exact ⟨0, Nat.zero_le _, rfl, World.ownsRow_nil _ _ _ _, Below.refl _ _⟩
  case round =>
    obtain ⟨k, hk, rfl, HV, HB⟩ := hrel
    obtain ⟨Av, cv, rfl, _, _⟩ := own_slice HV.out
    by_cases hlt : k < Ps.length
    · obtain ⟨p, hp⟩ : ∃ p, Ps[k]? = some p := ⟨Ps[k], List.getElem?_eq_getElem hlt⟩
      obtain ⟨ad, rfl, hsa, hsa2, c0, cj⟩ := (HO.out.behind HB.out).walk pcCells_length (by omega) rfl hp
      have x0 := c0 _ rfl
      have x1 := cj 0 _ rfl
      have x2 := cj 1 _ rfl
      have x3 := cj 2 _ rfl
      have htk : Ps.take (k + 1) = Ps.take k ++ [p] := by
        rw [List.take_succ_eq_append_getElem hlt]
        rw [List.getElem?_eq_getElem hlt] at hp
        rw [Option.some.inj hp]
      have HT := Lib.hid htk
      have i0 : (0 : Int) ≤ (k : Int) := by omega
      have i1 : (k : Int) < (Ps.length : Int) := by omega
      have l2 := HB.out.size
      clear c0 cj hp htk
      go_wp2_with (at_builtin; refine wpList_append_row _ rfl _ _ 64 rfl w1.heap.size 21 i0' _ 1 4 Tryz.underlying64 hi hz0 hz1 hz2 rfl (by decide) _ k (rv ((Ps.take k).map (·.r))) rfl ((HV.out.alloc _).alloc _) (fun j => j = wr.heap.size + 1) (some ⟨wr.heap.size + 1, 0, none⟩) 1 1 [.int .i32 p.r] rfl (by have h := Row.new (wr.alloc (.cells #[.int .i32 p.r, .int .i64 p.at_, .int .i64 p.size, .bool p.right] 107)) 21 #[.int .i32 p.r] 1 1 rfl; rw [World.size_alloc] at h; exact h) (by simp [Value.oneCell']) (by simp only [maxLen]; omega) (by omega) (by simp; omega) ?_; intro v2 w2 ho2 hg2 hat2; have HB2 := Lib.hid (((HB.out.alloc l2 (.cells #[.int .i32 p.r, .int .i64 p.at_, .int .i64 p.size, .bool p.right] 107)).alloc (by simp; omega) (.cells #[.int .i32 p.r] 21)).grown hg2 (by simp; omega) (fun j e => (HV.out.lt j e).1)); have HO2 := Lib.hid ho2; clear ho2 hg2 hat2)
      go_roundw
      case rel =>
        refine ⟨k + 1, by omega, by go_num, ?_, HB2.out⟩
        show w2.ownsRow _ _ _ _ _ _
        rw [HT.out, List.map_append, rv, List.map_append]
        exact HO2.out
      case measure => simp [intOf]; omega
    · have hfin : k = Ps.length := by omega
      subst hfin
      go_wp2
      go_ret
      refine ⟨_, rfl, ?_, B1.out.trans (HB.out.mono l1)⟩
      have := HV.out
      rw [List.take_length] at this
      rw [List.length_map]
      exact own_lower this l1
end Go.Proofs.YtgkiffodnofggaaGreatDoor
