/-
  The reference's buffers: take (the inner one), Peek, Take.
-/
import Derived.Test.YtadnceiohgjdhaaRBuf
namespace Go.Proofs.Ytadnceiohgjdhaa
open Go.RowKit
set_option linter.unusedVariables false
set_option linter.unusedSimpArgs false

/-- What the reference's take gives. -/
def RTakeGives (S : Nat → Prop) (b g : Nat) (x : Buf) (n : Nat) (w : World) (v : Value) (w' : World) : Prop :=
  ∃ A c, v = .slice A n c ∧ w'.ownsRow w.heap.size 5 1 (.slice A n c) n (bv (x.held.take n)) ∧ Keep (fun k => k = b) w w' ∧
  ∃ H', (∀ k, H' k → w.heap.size ≤ k) ∧ (∀ k, (Value.slice A n c).ownBlock = some k → ¬ H' k) ∧ IsRBuf H' S w' b g (x.drop n)

section
variable {H S : Nat → Prop} {w : World} {b g : Nat} {x : Buf}

set_option maxHeartbeats 8000000 in
set_option maxRecDepth 100000 in
theorem rbufTake0_any (n : Nat) (h : IsRBuf H S w b g x) (hn : n ≤ x.held.length) :
    Calls Try.prog 62 #[.pointer (some ⟨b, 0, none⟩), .int .i64 n] w (Gives (RTakeGives S b g x n w)) := by
  obtain ⟨i0', hi, hz0, hz1, hz2⟩ := info_parts u8info
  have HH := Lib.hid h
  obtain ⟨A, c, hb, hw⟩ := h.blk
  have hok := h.ok
  have ht := Src.told_le hok.1
  have h16 := hok.2.2.1
  have hhl := hok.2.2.2.1
  have htk := hok.2.2.2.2
  have hle := hw.le
  have hmx := hw.max
  have x2 : w.cell? ⟨b, 2, none⟩ = some (.slice A x.held.length c) := hb.cell 2
  have HB := Lib.hid hb
  have HW := Lib.hid hw
  have lb := hb.lt
  obtain ⟨A', hA'⟩ : ∃ A', (if c = n then A else Option.map (fun z => z.add n) A) = A' := ⟨_, rfl⟩
  have hcut := hw.row.cut hn hle
  rw [Nat.mul_one, hA', ← bv_drop] at hcut
  have HC := Lib.hid hcut
  have i0 : (0 : Int) ≤ (n : Int) := by omega
  have i1 : (n : Int) ≤ (x.held.length : Int) := by omega
  have i2 : (n : Int) ≤ (c : Int) := by omega
  have hup := hw.row.upto hn
  rw [Nat.mul_one, ← bv_take] at hup
  have HU := Lib.hid hup
  have tok1 : True := trivial
  clear h hb hw hok hcut hup
  go_enter Try.func62, Try.ntmps62
  go_wp2_with (first
    | (at_builtin; have _t := tok1; refine wpList_append_copy w rfl _ _ 26 rfl 5 i0' _ 1 1 Try.underlying26 hi hz0 hz1 hz2 rfl (by decide) rfl H A n c (bv (x.held.take n)) rfl HU.out (bv_one _) (by simp only [maxLen]; omega) (by omega) ?_; intro A1 c1 w1 ho1 hb1 _ _; clear tok1; have HB1 := Lib.hid (HB.out.below hb1 lb); have z2 : w1.cell? ⟨b, 2, none⟩ = some (.slice A x.held.length c) := HB1.out.cell 2; have O1 := Lib.hid ho1; have D1 := Lib.hid hb1; have HC1 := Lib.hid (HC.out.behind hb1); have lb1 := HB1.out.lt; clear ho1 hb1)
    | (at_builtin; refine wpList_append_copy w1 rfl _ _ 26 rfl 5 i0' _ 1 1 Try.underlying26 hi hz0 hz1 hz2 rfl (by decide) rfl H A' (x.held.length - n) (c - n) (bv (x.held.drop n)) rfl HC1.out (bv_one _) (by simp only [maxLen]; omega) (by omega) ?_; intro A2 c2 w2 ho2 hb2 _ _; have HB2 := Lib.hid (HB1.out.below hb2 lb1); have z3 : w2.cell? ⟨b, 3, none⟩ = some (.int .i64 x.taken) := HB2.out.cell 3; have zf2 := HB2.out.frozen 2; have zf3 := HB2.out.frozen 3; have y2 : w2.cell? ⟨b, 2, none⟩ = some (.slice A x.held.length c) := HB2.out.cell 2; have O2 := Lib.hid ho2; have D2 := Lib.hid hb2; clear ho2 hb2))
  go_ret
  have K3 := Keep.buf2 w2 b (.slice A2 (x.held.length - n) c2) (.int .i64 (x.taken + n))
  have l1 := D1.out.size
  have hKw := ((Keep.of_below D1.out (fun k => k = b)).then_below D2.out).trans K3
  have hh := HH.out
  refine ⟨_, rfl, A1, c1, rfl, own_keep (own_behind O1.out D2.out) K3 (fun k he e1 => by have := (O1.out.lt k he).1; omega), hKw, fun k => (Value.slice A2 (x.held.length - n) c2).ownBlock = some k, fun k hk => by have := (O2.out.lt k hk).1; omega, fun k h1 h2 => by have := (O1.out.lt k h1).2; have := (O2.out.lt k h2).1; omega, ?_⟩
  refine ⟨⟨A2, c2, ?_, ?_⟩, hh.src.keep hKw (fun e => hh.ne e.symm) (fun k hk e => hh.nS (e ▸ hk)), hh.ne, hh.nS, fun k hs => Nat.lt_of_lt_of_le (hh.Sl k hs) hKw.size, fun k hk => ?_, Buf.drop_ok hh.ok hn⟩
  · have h3 := HB2.out.rsrc2 (.slice A2 (x.held.length - n) c2) (.int .i64 (x.taken + n))
    simp only [Buf.drop, List.length_drop, Int.natCast_add]
    exact h3
  · simp only [Buf.drop, List.length_drop]
    exact (Win.of_own' O2.out).keep K3 (fun k hk e => by have := (O2.out.lt k hk).1; omega)
  · have h4 := O2.out.lt k hk
    have lg := hh.src.lt
    refine ⟨by simpa [World.setCell] using h4.2, by omega, by omega, fun hS => ?_⟩
    have := hh.Sl k hS
    omega
end

end Go.Proofs.Ytadnceiohgjdhaa
