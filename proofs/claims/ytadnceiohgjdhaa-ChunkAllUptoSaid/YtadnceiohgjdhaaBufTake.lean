/-
  The contract of a buffer's take (the inner one).
-/
import Derived.Test.YtadnceiohgjdhaaBuf
namespace Go.Proofs.Ytadnceiohgjdhaa
open Go.RowKit
set_option linter.unusedVariables false
set_option linter.unusedSimpArgs false

def Buf.drop (x : Buf) (n : Nat) : Buf := ⟨x.src, x.size, x.held.drop n, x.taken + n⟩
theorem Buf.drop_ok {x : Buf} (h : x.ok) {n : Nat} (hn : n ≤ x.held.length) : (x.drop n).ok := by
  obtain ⟨h1, h2, h3, h4, h5⟩ := h
  refine ⟨h1, h2, h3, ?_, ?_⟩
  · simp only [Buf.drop, List.length_drop]; omega
  · simp only [Buf.drop, List.length_drop]; omega
theorem Src.told_le {s : Src} (h : s.ok) : s.told ≤ 1073741824 := by
  obtain ⟨h1, h2, h3, h4, h5, h6⟩ := h
  by_cases hst : s.step = s.L.length
  · have := h3 hst
    have h4' := total_take_le s.L s.step
    omega
  · have hlt : s.step < s.L.length := by omega
    have hdf : s.L[s.step]? = some (s.L[s.step].1, s.L[s.step].2) := List.getElem?_eq_getElem hlt
    have h7 := h2 _ _ hdf
    have h8 := total_take s.L s.step _ _ hdf
    have h9 := total_take_le s.L (s.step + 1)
    omega

theorem Keep.buf2 (w : World) (g : Nat) (x y : Value) : Keep (fun k => k = g) w ((w.setCell ⟨g, 2, none⟩ x).setCell ⟨g, 3, none⟩ y) :=
  ((Keep.refl (fun k => k = g) w).setCell (p := ⟨g, 2, none⟩) (.inl rfl) x).setCell (p := ⟨g, 3, none⟩) (.inl rfl) y
/-- What take gives. -/
def TakeGives (H S : Nat → Prop) (b g : Nat) (x : Buf) (n : Nat) (w : World) (v : Value) (w' : World) : Prop :=
  w'.ownsRow w.heap.size 5 1 v n (bv (x.held.take n)) ∧ IsBuf H S w' b g (x.drop n) ∧ Keep (fun k => k = b) w w'

section
variable {H S : Nat → Prop} {w : World} {b g : Nat} {x : Buf}

set_option maxHeartbeats 8000000 in
set_option maxRecDepth 100000 in
theorem bufTake0_any (n : Nat) (h : IsBuf H S w b g x) (hn : n ≤ x.held.length) :
    Calls Try.prog 52 #[.pointer (some ⟨b, 0, none⟩), .int .i64 n] w (Gives (TakeGives H S b g x n w)) := by
  have HH := Lib.hid h
  obtain ⟨A, c, hb, hw⟩ := h.blk
  have hok := h.ok
  have ht := Src.told_le hok.1
  have h16 := hok.2.2.1
  have hhl := hok.2.2.2.1
  have htk := hok.2.2.2.2
  have hle := hw.le
  have hmx := hw.max
  have x2 : w.cell? ⟨b, 2, none⟩ = some (.slice A x.held.length c) := hb.cell 2
  have HB := Lib.hid hb
  have HW := Lib.hid hw
  have lb := hb.lt
  obtain ⟨L, hL⟩ : ∃ L, L = x.held.length := ⟨_, rfl⟩
  obtain ⟨A', hA'⟩ : ∃ A', (if c = n then A else Option.map (fun z => z.add n) A) = A' := ⟨_, rfl⟩
  have HA := Lib.hid hA'
  have i0 : (0 : Int) ≤ (n : Int) := by omega
  have i1 : (n : Int) ≤ (x.held.length : Int) := by omega
  have i2 : (n : Int) ≤ (c : Int) := by omega
  clear h hb hw hok
  go_enter Try.func52, Try.ntmps52
  go_wp2_with fail
  refine (clone_any H A n c (x.held.take n) w (by have := HW.out.row.upto hn; rw [Nat.mul_one, ← bv_take] at this; exact this) (by omega)).mono ?_
  rintro e w2 ⟨v1, rfl, hown, hb2⟩
  have HB2 := Lib.hid (HB.out.below hb2 lb)
  have HW2 := Lib.hid (HW.out.behind hb2)
  have O2 := Lib.hid hown
  have D2 := Lib.hid hb2
  have HH2 := Lib.hid (HH.out.behind hb2)
  have z2 : w2.cell? ⟨b, 2, none⟩ = some (.slice A x.held.length c) := HB2.out.cell 2
  have z3 : w2.cell? ⟨b, 3, none⟩ = some (.int .i64 x.taken) := HB2.out.cell 3
  have zf2 := HB2.out.frozen 2
  have zf3 := HB2.out.frozen 3
  clear hown hb2
  go_wp2_with fail
  go_ret
  have K3 := Keep.buf2 w2 b (.slice A' (x.held.length - n) (c - n)) (.int .i64 (x.taken + n))
  have hKw := (Keep.of_below D2.out (fun k => k = b)).trans K3
  refine ⟨_, rfl, own_keep O2.out K3 (fun k he e1 => by have := (O2.out.lt k he).1; omega), ?_, hKw⟩
  have hh := HH.out
  refine ⟨⟨A', c - n, ?_, ?_⟩, hh.src.keep hKw (fun e => hh.ne e.symm) (fun k hk e => hh.nS (e ▸ hk)), hh.ne, hh.nS, fun k hs => Nat.lt_of_lt_of_le (hh.Sl k hs) hKw.size, fun k hk => ⟨Nat.lt_of_lt_of_le (hh.held k hk).1 hKw.size, (hh.held k hk).2⟩, Buf.drop_ok hh.ok hn⟩
  · have h3 := HB2.out.rsrc2 (.slice A' (x.held.length - n) (c - n)) (.int .i64 (x.taken + n))
    simp only [Buf.drop, List.length_drop, Int.natCast_add]
    exact h3
  · have h4 := (HW2.out.cut hn)
    rw [HA.out] at h4
    simp only [Buf.drop, List.length_drop]
    exact h4.keep K3 (fun k hk e => (hh.held k hk).2.1 e)
end

end Go.Proofs.Ytadnceiohgjdhaa
