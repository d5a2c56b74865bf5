/-
  The reference's buffers: in memory; the contracts of its fill and of its take (the inner one).
-/
import Derived.Test.YtadnceiohgjdhaaRest
namespace Go.Proofs.Ytadnceiohgjdhaa
open Go.RowKit
set_option linter.unusedVariables false
set_option linter.unusedSimpArgs false

/-- A buffer of the reference at block b over the source at block g; what is held lies in H. -/
structure IsRBuf (H S : Nat → Prop) (w : World) (b g : Nat) (x : Buf) : Prop where
  blk : ∃ A c, Blk w b 85 #[.pointer (some ⟨g, 0, none⟩), .int .i64 x.size, .slice A x.held.length c, .int .i64 x.taken] ∧ Win H w A x.held.length c x.held
  src : IsRSrc S w g x.src
  ne : b ≠ g
  nS : ¬ S b
  Sl : ∀ k, S k → k < w.heap.size
  held : ∀ k, H k → k < w.heap.size ∧ k ≠ b ∧ k ≠ g ∧ ¬ S k
  ok : x.ok

theorem IsRBuf.keep {H S T : Nat → Prop} {w w' : World} {b g : Nat} {x : Buf} (h : IsRBuf H S w b g x) (hk : Keep T w w') (hb : ¬ T b) (hg : ¬ T g) (hS : ∀ k, S k → ¬ T k) (hH : ∀ k, H k → ¬ T k) : IsRBuf H S w' b g x := by
  obtain ⟨A, c, h1, h2⟩ := h.blk
  exact ⟨⟨A, c, h1.keep hk hb, h2.keep hk hH⟩, h.src.keep hk hg hS, h.ne, h.nS, fun k hs => Nat.lt_of_lt_of_le (h.Sl k hs) hk.size, fun k hk' => ⟨Nat.lt_of_lt_of_le (h.held k hk').1 hk.size, (h.held k hk').2⟩, h.ok⟩
theorem IsRBuf.behind {H S : Nat → Prop} {w w' : World} {b g : Nat} {x : Buf} (h : IsRBuf H S w b g x) (hb : Below w.heap.size w w') : IsRBuf H S w' b g x := h.keep (Keep.of_below hb (fun _ => False)) id id (fun _ _ => id) (fun _ _ => id)

theorem Win.of_own' {w : World} {lo n c : Nat} {A : Option Addr} {bs : List UInt8} (h : w.ownsRow lo 5 1 (.slice A n c) n (bv bs)) : Win (fun k => (Value.slice A n c).ownBlock = some k) w A n c bs := by
  rcases own_form h with ⟨e, h0, h1⟩ | ⟨g, cap, cur, e, hlo, hg, hb, hnc, hm, hs, _⟩
  · injection e with e1 e2 e3
    subst e1 e2 e3
    obtain rfl : bs = [] := by cases bs with | nil => rfl | cons x r => simp [bv] at h1
    exact Win.nil
  · injection e with e1 e2 e3
    subst e1 e3
    exact ⟨⟨h.1, fun hn => ⟨_, rfl, rfl, h.cells (g := g) rfl⟩⟩, hnc, hm, fun _ => ⟨g, 0, cur, rfl, rfl, hb, by omega⟩⟩

/-- What the reference's fill gives, before a hundred reads of nothing. -/
def RFillGives (H S : Nat → Prop) (b g : Nat) (x : Buf) (em : Nat) (w : World) (v : Value) (w' : World) : Prop :=
  v = .tuple #[.int .i64 ((x.fill em).1.2 : Int), .int .i64 (if (x.fill em).1.1 = 22 then 0 else (x.fill em).1.1)] ∧ Keep (fun k => k = b ∨ k = g ∨ H k) w w' ∧
  ∃ H', (∀ k, H' k → H k ∨ w.heap.size ≤ k) ∧ IsRBuf H' S w' b g (x.fill em).2

theorem Src.read_range {s : Src} (n : Nat) : (s.read n).1.2 = 0 ∨ (s.read n).1.2 = 20 ∨ (s.read n).1.2 = 21 := by
  cases hd : s.L[s.step]? with
  | none => simp [Src.read, hd]
  | some y =>
    obtain ⟨d, f⟩ := y
    by_cases c1 : f = true ∧ s.frm = d.length
    · simp [Src.read, hd, c1]
    · by_cases c2 : s.frm + min n (d.length - s.frm) = d.length ∧ f = false
      · obtain ⟨c2, rfl⟩ := c2
        rw [Src.read_next hd rfl c2]
        simp
      · rw [Src.read_on hd c1 rfl c2]
        simp

theorem rfill_ok {H S : Nat → Prop} {w w2 w3 : World} {b g : Nat} {x : Buf} {bs : List UInt8} {s' : Src} {A A3 : Option Addr} {c c3 : Nat} (HH : IsRBuf H S w b g x) (K2 : Keep (fun k => k = g) w w2) (S2 : IsRSrc S w2 g s')
    (HB3 : Blk w3 b 85 #[.pointer (some ⟨g, 0, none⟩), .int .i64 x.size, .slice A x.held.length c, .int .i64 x.taken])
    (W3 : Win (fun k => H k ∨ k = w2.heap.size) w3 A3 (x.held.length + bs.length) c3 (x.held ++ bs)) (K3 : Keep H w2 w3) (hok : (⟨s', x.size, x.held ++ bs, x.taken⟩ : Buf).ok) :
    Keep (fun k => k = b ∨ k = g ∨ H k) w (w3.setCell ⟨b, 2, none⟩ (.slice A3 (x.held.length + bs.length) c3)) ∧
    ∃ H', (∀ k, H' k → H k ∨ w.heap.size ≤ k) ∧ IsRBuf H' S (w3.setCell ⟨b, 2, none⟩ (.slice A3 (x.held.length + bs.length) c3)) b g ⟨s', x.size, x.held ++ bs, x.taken⟩ := by
  have K4 := (Keep.refl (fun k => k = b) w3).setCell (p := ⟨b, 2, none⟩) (.inl rfl) (.slice A3 (x.held.length + bs.length) c3)
  obtain ⟨_, _, hbw, _⟩ := HH.blk
  have lb := hbw.lt
  have lg := HH.src.lt
  have l2 := K2.size
  refine ⟨?_, fun k => (H k ∨ k = w2.heap.size) ∧ k < w3.heap.size, ?_, ?_⟩
  · exact ((K2.mono (fun i _ h => .inr (.inl h))).trans (K3.mono (fun i _ h => .inr (.inr h)))).trans (K4.mono (fun i _ h => .inl h))
  · rintro k ⟨h | rfl, _⟩
    · exact .inl h
    · exact .inr l2
  · refine ⟨⟨A3, c3, ?_, ?_⟩, ?_, HH.ne, HH.nS, fun k hs => by have := HH.Sl k hs; have := K2.size; have := K3.size; have := K4.size; omega, ?_, hok⟩
    · simp only [List.length_append]
      exact HB3.buf1 _
    · simp only [List.length_append]
      refine (W3.more (fun k hk h => ⟨h, hk⟩)).keep K4 ?_
      rintro k ⟨h | h, _⟩ e
      · exact (HH.held k h).2.1 e
      · omega
    · exact (S2.keep K3 (fun h => (HH.held g h).2.2.1 rfl) (fun k h1 h2 => (HH.held k h2).2.2.2 h1)).keep K4 (fun e => HH.ne e.symm) (fun k hk e => HH.nS (e ▸ hk))
    · rintro k ⟨h | h, hl⟩
      · exact ⟨by simpa [World.setCell] using hl, (HH.held k h).2⟩
      · refine ⟨by simpa [World.setCell] using hl, by omega, by omega, fun hS => ?_⟩
        have := HH.Sl k hS
        omega

section
variable {H S : Nat → Prop} {w : World} {b g : Nat} {x : Buf}

set_option maxHeartbeats 4000000 in
set_option maxRecDepth 100000 in
theorem rbufFill_full (h : IsRBuf H S w b g x) :
    Calls Try.prog 61 #[.pointer (some ⟨b, 0, none⟩), .int .i64 100] w fun e w' => e = .returned (.tuple #[.int .i64 100, .int .i64 22]) ∧ w = w' := by
  clear h
  go_enter Try.func61, Try.ntmps61
  go_wp2_with fail
  go_ret2
  exact ⟨rfl, rfl⟩

set_option maxHeartbeats 16000000 in
set_option maxRecDepth 100000 in
theorem rbufFill_any (em : Nat) (h : IsRBuf H S w b g x) (hroom : x.held.length < x.size) (hem : em < 100) :
    Calls Try.prog 61 #[.pointer (some ⟨b, 0, none⟩), .int .i64 em] w (Gives (RFillGives H S b g x em w)) := by
  obtain ⟨i0', hi, hz0, hz1, hz2⟩ := info_parts u8info
  have HH := Lib.hid h
  obtain ⟨A, c, hb, hw⟩ := h.blk
  have hok := h.ok
  have ht := Src.told_le hok.1
  have h16 := hok.2.2.1
  have hle := hw.le
  have hmx := hw.max
  have x0 : w.cell? ⟨b, 0, none⟩ = some (.pointer (some ⟨g, 0, none⟩)) := hb.cell 0
  have x1 : w.cell? ⟨b, 1, none⟩ = some (.int .i64 x.size) := hb.cell 1
  have x2 : w.cell? ⟨b, 2, none⟩ = some (.slice A x.held.length c) := hb.cell 2
  have HB := Lib.hid hb
  have HW := Lib.hid hw
  have lb := hb.lt
  obtain ⟨k, hk⟩ : ∃ k : Nat, x.size - x.held.length = k := ⟨_, rfl⟩
  have hX : IntKind.i64.wrap ((x.size : Int) - (x.held.length : Int)) = (k : Int) := by rw [show (x.size : Int) - (x.held.length : Int) = (k : Int) by omega]; exact IntWalk.i64_in _ (by omega)
  obtain ⟨bs, er, s', hrd⟩ : ∃ bs er s', x.src.read k = ((bs, er), s') := ⟨_, _, _, rfl⟩
  have hrg := Src.read_range (s := x.src) k
  rw [hrd] at hrg
  have HRG := Lib.hid hrg
  have HRD := Lib.hid hrd
  have HK := Lib.hid hk
  have qm : ((em : Int) == 100) = false := by rw [beq_eq_false_iff_ne]; omega
  clear h hb hw hok hrd hrg
  go_enter Try.func61, Try.ntmps61
  go_wp2_with fail
  refine wp_region_plan (S := fun w' => w'.cell? ⟨b, 0, none⟩ = some (.pointer (some ⟨g, 0, none⟩)) ∧ w'.cell? ⟨b, 1, none⟩ = some (.int .i64 x.size) ∧ w'.cell? ⟨b, 2, none⟩ = some (.slice A x.held.length c)) 20
    [(0, true), (1, true), (2, true), (3, true), (4, true), (5, true), (6, true), (7, true), (8, true), (9, true), (10, true), (11, true), (12, true), (13, true), (14, false), (15, true), (16, true), (17, true), (18, false), (19, false)] (by kernel_rfl) (by kernel_rfl) ?_ (fun hHeld => ?_)
  · exact ⟨x0, x1, x2⟩
  iterate 14 (refine plan_take (v := ?_) rfl (by assumption) rfl (fun _ _ _ h => h) ?_ ?_; rotate_left; (· (intro w hSw; (try dsimp only at hSw); go_simp; try with_reducible rfl)); all_goals (simp only [Act.put, List.getElem_toArray, List.getElem_cons_zero, List.getElem_cons_succ, List.setIfInBounds_toArray, List.set_cons_zero, List.set_cons_succ]))
  refine plan_op rfl (by decide) (fun K hK => ?_)
  go_simp
  refine (rsrcRead_any k (HH.out.src.drewN 1) (by omega)).mono ?_
  rintro e w2 ⟨v2, rfl, h2⟩
  obtain ⟨A2, c2, rfl, ho2, hs2, hk2⟩ := h2.at_ HRD.out
  have O2 := Lib.hid ho2
  have S2 := Lib.hid hs2
  have K2 := Lib.hid (show Keep (fun k => k = g) w w2 from ⟨hk2.os, hk2.tape, hk2.output, hk2.size, hk2.block⟩)
  have HB2 := Lib.hid (HB.out.keep K2.out HH.out.ne)
  have HW2 := Lib.hid (HW.out.keep K2.out (fun k hk => (HH.out.held k hk).2.2.1))
  have z0 : w2.cell? ⟨b, 0, none⟩ = some (.pointer (some ⟨g, 0, none⟩)) := HB2.out.cell 0
  have z1 : w2.cell? ⟨b, 1, none⟩ = some (.int .i64 x.size) := HB2.out.cell 1
  have z2 : w2.cell? ⟨b, 2, none⟩ = some (.slice A x.held.length c) := HB2.out.cell 2
  have zf2 := HB2.out.frozen 2
  clear h2 ho2 hs2 hk2
  dsimp only
  refine hK.out _ _ ⟨z0, z1, z2⟩ (fun hHeld => ?_)
  clear hK K
  iterate 3 (refine plan_take (v := ?_) rfl (by assumption) rfl (fun _ _ _ h => h) ?_ ?_; rotate_left; (· (intro w hSw; (try dsimp only at hSw); go_simp; try with_reducible rfl)); all_goals (simp only [Act.put, List.getElem_toArray, List.getElem_cons_zero, List.getElem_cons_succ, List.setIfInBounds_toArray, List.set_cons_zero, List.set_cons_succ]))
  refine plan_op rfl (by decide) (fun K hK => ?_)
  go_simp
  refine hK.out _ _ ⟨z0, z1, z2⟩ (fun hHeld => ?_)
  clear hK K
  refine plan_op rfl (by decide) (fun K hK => ?_)
  go_simp
  refine hK.out _ _ ⟨z0, z1, z2⟩ (fun hHeld => ?_)
  clear hK K
  simp only [wpPlan]
  have hlen : x.held.length + bs.length ≤ x.size := by
    have k3 := Src.read_le HH.out.ok.1 k
    rw [HRD.out] at k3
    simp only at k3
    omega
  have hrd2 : x.src.read (x.size - x.held.length) = ((bs, er), s') := by rw [HK.out]; exact HRD.out
  have hok2 := Lib.hid (Buf.more_ok HH.out.ok hrd2)
  have HR2 := Lib.hid hrd2
  clear hrd2 x0 x1 x2 hX hk
  by_cases he : er = 0
  · subst he
    by_cases hb0 : 0 < bs.length
    · have q0 : ((bs.length : Int) == 0) = false := by rw [beq_eq_false_iff_ne]; omega
      go_wp2_with (at_builtin; refine wpList_append_win w2 rfl _ _ 26 rfl 5 i0' rfl Try.underlying26 hi hz0 hz1 hz2 rfl HW2.out rfl (Row.of_own O2.out) (by omega) ?_; intro A3 c3 w3 hw3 hk3 hs3; have HB3 := Lib.hid (HB2.out.keep hk3 (fun h => (HH.out.held b h).2.1 rfl)); have y2 := HB3.out.cell 2; have yf2 := HB3.out.frozen 2; have W3 := Lib.hid hw3; have K3 := Lib.hid hk3; clear hw3 hk3)
      go_ret2
      have hf := rfill_ok HH.out K2.out S2.out HB3.out W3.out K3.out hok2.out
      refine ⟨_, rfl, ?_, hf.1, ?_⟩
      · rw [Buf.fill_some HR2.out em hb0]
        rfl
      · rw [Buf.fill_some HR2.out em hb0]
        exact hf.2
    · obtain rfl : bs = [] := List.eq_nil_of_length_eq_zero (by omega)
      go_wp2_with (at_builtin; refine wpList_append_win w2 rfl _ _ 26 rfl 5 i0' rfl Try.underlying26 hi hz0 hz1 hz2 rfl HW2.out rfl (Row.of_own O2.out) (by omega) ?_; intro A3 c3 w3 hw3 hk3 hs3; have HB3 := Lib.hid (HB2.out.keep hk3 (fun h => (HH.out.held b h).2.1 rfl)); have y2 := HB3.out.cell 2; have yf2 := HB3.out.frozen 2; have W3 := Lib.hid hw3; have K3 := Lib.hid hk3; clear hw3 hk3)
      go_ret2
      have hf := rfill_ok HH.out K2.out S2.out HB3.out W3.out K3.out hok2.out
      rw [List.append_nil] at hf
      refine ⟨_, rfl, ?_, hf.1, ?_⟩
      · rw [Buf.fill_none HR2.out em]
        by_cases h100 : em + 1 = 100 <;> simp [h100] <;> omega
      · rw [Buf.fill_none HR2.out em]
        exact hf.2
  · have qe : (er != 0) = true := by simpa using he
    go_wp2_with fail
    go_ret2
    have hx := Src.read_err (s := x.src) (x.size - x.held.length) (by rw [HR2.out]; exact he)
    rw [HR2.out] at hx
    have hs' : s' = x.src := hx.2
    subst hs'
    have hh := HH.out
    refine ⟨_, rfl, ?_, K2.out.mono (fun i _ h => .inr (.inl h)), H, fun k h => .inl h, ?_⟩
    · rw [Buf.fill_err HR2.out em he]
      have h22 : er ≠ 22 := by have := HRG.out; omega
      simp [h22]
    · rw [Buf.fill_err HR2.out em he]
      exact ⟨⟨A, c, HB2.out, HW2.out⟩, S2.out, hh.ne, hh.nS, fun k hs => Nat.lt_of_lt_of_le (hh.Sl k hs) K2.out.size, fun k hk => ⟨Nat.lt_of_lt_of_le (hh.held k hk).1 K2.out.size, (hh.held k hk).2⟩, hh.ok⟩
end

end Go.Proofs.Ytadnceiohgjdhaa
