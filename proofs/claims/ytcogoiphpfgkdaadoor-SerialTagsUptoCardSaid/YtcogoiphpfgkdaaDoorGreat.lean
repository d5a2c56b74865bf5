/-
  The law's num, nodes, great, awake.
-/
import Derived.Test.YtcogoiphpfgkdaaDoorTags
namespace Go.Proofs.YtcogoiphpfgkdaaDoor
open Go.RowKit
set_option linter.unusedVariables false
set_option linter.unusedSimpArgs false

theorem num_any (z : Int) (w : World) : Calls Tryd.prog 10 #[.int .i64 z] w fun e w' => e = .returned (.int .i64 z) ∧ w = w' := by
  go_enter Tryd.func10, Tryd.ntmps10
  go_wp2
  go_ret
  exact ⟨rfl, rfl⟩

def NodesAs (S : Nat → Prop) (L : List Nd) : Prop := ∀ (left depth : Nat) (W : World) (A : Option Addr) (c : Nat), Ns S W A L.length L → (∀ k, S k → k < W.heap.size) → left ≤ 20000 → depth ≤ 2001 →
  Calls Tryd.prog 30 #[.slice A L.length c, .int .i64 left, .int .i64 depth] W fun e w' => (∃ z : Nat, z ≤ 20000 ∧ e = .returned (.int .i64 z)) ∧ Below W.heap.size W w'

set_option maxHeartbeats 1000000 in
set_option maxRecDepth 100000 in
theorem nodes_any (S : Nat → Prop) (L : List Nd) (hl : wt L ≤ 1048576) : NodesAs S L := by
  induction L using nds_ind with
  | _ L IH =>
  intro left depth W A c hN hS h1 h2
  have hll := wt_length L
  have HIH := Lib.hid (fun d (h : d ∈ L) => IH d h (by have := wt_mem h; omega))
  have HN := Lib.hid hN
  have HS := Lib.hid (fun (W' : World) (h : W.heap.size ≤ W'.heap.size) (k : Nat) (hk : S k) => Nat.lt_of_lt_of_le (hS k hk) h)
  clear IH hN hS
  by_cases hd : depth ≤ 2000
  · have d0 : decide ((2000 : Int) < (depth : Int)) = false := decide_eq_false (by omega)
    have d1 : decide (2000 < depth) = false := decide_eq_false (by omega)
    go_enter Tryd.func30, Tryd.ntmps30
    go_wp2
    go_loopw [1, 13] (fun v i wr => ∃ (k le : Nat), k ≤ L.length ∧ i = .int .i64 k ∧ le ≤ 20000 ∧ v = .int .i64 le ∧ Hid (Below W.heap.size W wr)) (fun _ i _ => L.length - (intOf i).toNat)
    case atStart => exact ⟨0, left, Nat.zero_le _, rfl, h1, rfl, Below.refl _ _⟩
    case round =>
      obtain ⟨k, le, hk, rfl, hle, rfl, HB⟩ := hrel
      by_cases hlt : k < L.length
      · obtain ⟨x, hx⟩ : ∃ x, L[k]? = some x := ⟨L[k], List.getElem?_eq_getElem hlt⟩
        have hmem := List.mem_of_getElem? hx
        obtain ⟨ad, Aa, ca, Ak, ck, rfl, hsa, hsb, c0, c1, c2, c3, hra, hnk⟩ := (HN.out.behind HB.out).get hx
        have lb := HB.out.size
        have hbl := HS.out W (Nat.le_refl _) _ hsa
        have hbl2 := HS.out W (Nat.le_refl _) _ hsb
        have i1 : (0 : Int) ≤ (k : Int) := by omega
        have i2 : (k : Int) < (L.length : Int) := by omega
        have IHd := HIH.out x hmem
        have HNK := Lib.hid hnk
        have HID := Lib.hid IHd
        clear hx hmem hra hnk IHd
        by_cases hz : le ≤ 1
        · have g0 : decide ((le : Int) - 1 ≤ 0) = true := decide_eq_true (by omega)
          have g1 : decide ((le : Int) ≤ 1) = true := decide_eq_true (by omega)
          go_wp2
          go_ret
          exact ⟨⟨0, by omega, rfl⟩, HB.out.alloc lb _⟩
        · obtain ⟨m, rfl⟩ : ∃ m, le = m + 1 := ⟨le - 1, by omega⟩
          have g0 : decide (((m + 1 : Nat) : Int) - 1 ≤ 0) = false := decide_eq_false (by omega)
          have g1 : decide (((m + 1 : Nat) : Int) ≤ 1) = false := decide_eq_false (by omega)
          have g2 : ((m + 1 : Nat) : Int) - 1 = (m : Int) := by omega
          obtain ⟨W1, hW1⟩ : ∃ W1, wr.alloc (.cells #[.string (str x.name), .string (str x.text), .slice Aa x.attrs.length ca, .slice Ak x.kids.length ck] 41) = W1 := ⟨_, rfl⟩
          have hb1 : Below wr.heap.size wr W1 := by rw [← hW1]; exact (Below.refl _ wr).alloc (Nat.le_refl _) _
          have y1 : Blk W1 wr.heap.size 41 #[.string (str x.name), .string (str x.text), .slice Aa x.attrs.length ca, .slice Ak x.kids.length ck] := by rw [← hW1]; exact Blk.new _ _ _
          have a3 := y1.cell 3
          simp only [List.getElem?_toArray, List.getElem?_cons_zero, List.getElem?_cons_succ] at a3
          have y1l := y1.lt
          have B1 := Lib.hid (HB.out.trans (hb1.mono lb))
          have kk := HID.out m (depth + 1) W1 Ak ck (HNK.out.behind hb1) (HS.out W1 B1.out.size) (by omega) (by omega)
          simp only [Int.natCast_add, Int.natCast_one] at kk
          have KK := Lib.hid kk
          clear kk hb1 y1
          go_wp2_with fail
          refine KK.out.mono ?_
          rintro e w2 ⟨⟨z, hz2, rfl⟩, hb2⟩
          have B2 := Lib.hid (B1.out.trans (hb2.mono B1.out.size))
          clear hb2
          go_wp2
          go_roundw
          case rel => exact ⟨k + 1, z, by omega, by go_num, hz2, rfl, B2⟩
          case measure => simp [intOf]; omega
      · go_wp2
        go_ret
        exact ⟨⟨le, hle, rfl⟩, HB.out⟩
  · have d0 : decide ((2000 : Int) < (depth : Int)) = true := decide_eq_true (by omega)
    have d1 : decide (2000 < depth) = true := decide_eq_true (by omega)
    go_enter Tryd.func30, Tryd.ntmps30
    go_wp2
    go_ret
    exact ⟨⟨0, by omega, rfl⟩, Below.refl _ _⟩

set_option maxHeartbeats 1000000 in
theorem great_any (S : Nat → Prop) (L : List Nd) (hl : wt L ≤ 1048576) (W : World) (A : Option Addr) (c : Nat) (hN : Ns S W A L.length L) (hS : ∀ k, S k → k < W.heap.size) :
    Calls Tryd.prog 12 #[.slice A L.length c] W fun e w' => (∃ b, e = .returned (.bool b)) ∧ Below W.heap.size W w' := by
  have k0 := nodes_any S L hl 20000 0 W A c hN hS (by decide) (by decide)
  have k1 : Calls Tryd.prog 30 #[.slice A L.length c, .int .i64 20000, .int .i64 0] W _ := k0
  have K := Lib.hid k1
  clear k0 k1 hN hS
  go_enter Tryd.func12, Tryd.ntmps12
  go_wp2_with fail
  refine K.out.mono ?_
  rintro e w1 ⟨⟨z, hz, rfl⟩, hb⟩
  go_wp2
  go_ret
  exact ⟨⟨_, rfl⟩, hb⟩
end Go.Proofs.YtcogoiphpfgkdaaDoor
