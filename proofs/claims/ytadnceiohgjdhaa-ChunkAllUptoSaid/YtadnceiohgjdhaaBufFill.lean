/-
  The contract of a buffer's fill.
-/
import Derived.Test.YtadnceiohgjdhaaBufTake
import Derived.Test.YtadnceiohgjdhaaReadGives
namespace Go.Proofs.Ytadnceiohgjdhaa
open Go.RowKit
set_option linter.unusedVariables false
set_option linter.unusedSimpArgs false

theorem Src.read_told {s : Src} (n : Nat) : (s.read n).2.told = s.told + (s.read n).1.1.length := by
  cases hd : s.L[s.step]? with
  | none => simp [Src.read, hd]
  | some y =>
    obtain ⟨d, f⟩ := y
    by_cases c1 : f = true ∧ s.frm = d.length
    · simp [Src.read, hd, c1]
    · by_cases c2 : s.frm + min n (d.length - s.frm) = d.length ∧ f = false
      · obtain ⟨c2, rfl⟩ := c2
        rw [Src.read_next hd rfl c2]
        simp
      · rw [Src.read_on hd c1 rfl c2]
        simp
theorem Src.read_err {s : Src} (n : Nat) (h : (s.read n).1.2 ≠ 0) : (s.read n).1.1 = [] ∧ (s.read n).2 = s := by
  cases hd : s.L[s.step]? with
  | none => simp [Src.read, hd]
  | some y =>
    obtain ⟨d, f⟩ := y
    by_cases c1 : f = true ∧ s.frm = d.length
    · simp [Src.read, hd, c1]
    · exfalso
      apply h
      by_cases c2 : s.frm + min n (d.length - s.frm) = d.length ∧ f = false
      · obtain ⟨c2, rfl⟩ := c2
        rw [Src.read_next hd rfl c2]
      · rw [Src.read_on hd c1 rfl c2]
theorem Buf.fill_err {x : Buf} {bs : List UInt8} {er : Int} {s' : Src} (h : x.src.read (x.size - x.held.length) = ((bs, er), s')) (em : Nat) (he : er ≠ 0) : x.fill em = ((er, em), x) := by
  have h2 := Src.read_err (s := x.src) (x.size - x.held.length) (by rw [h]; exact he)
  rw [h] at h2
  obtain ⟨_, rfl⟩ := h2
  simp [Buf.fill, h, he]
theorem Buf.fill_some {x : Buf} {bs : List UInt8} {s' : Src} (h : x.src.read (x.size - x.held.length) = ((bs, 0), s')) (em : Nat) (hb : 0 < bs.length) : x.fill em = ((0, 0), ⟨s', x.size, x.held ++ bs, x.taken⟩) := by
  simp [Buf.fill, h]
  intro e
  rw [e] at hb
  exact absurd hb (by simp)
theorem Buf.fill_none {x : Buf} {s' : Src} (h : x.src.read (x.size - x.held.length) = (([], 0), s')) (em : Nat) : x.fill em = ((if em + 1 = 100 then 22 else 0, em + 1), ⟨s', x.size, x.held, x.taken⟩) := by
  simp [Buf.fill, h]
theorem Buf.more_ok {x : Buf} (h : x.ok) {bs : List UInt8} {er : Int} {s' : Src} (hr : x.src.read (x.size - x.held.length) = ((bs, er), s')) : (⟨s', x.size, x.held ++ bs, x.taken⟩ : Buf).ok := by
  obtain ⟨h1, h2, h3, h4, h5⟩ := h
  have k1 := Src.read_ok h1 (x.size - x.held.length)
  have k2 := Src.read_told (s := x.src) (x.size - x.held.length)
  have k3 := Src.read_le h1 (x.size - x.held.length)
  rw [hr] at k1 k2 k3
  simp only at k2 k3
  refine ⟨k1, h2, h3, ?_, ?_⟩
  · simp only [List.length_append]; omega
  · simp only [List.length_append]; omega

/-- What fill gives. -/
def FillGives (H S : Nat → Prop) (b g eb : Nat) (x : Buf) (em : Nat) (w : World) (v : Value) (w' : World) : Prop :=
  v = .int .i64 (x.fill em).1.1 ∧ Blk w' eb 3 #[.int .i64 ((x.fill em).1.2 : Int)] ∧ Keep (fun k => k = b ∨ k = g ∨ H k ∨ k = eb) w w' ∧
  ∃ H', (∀ k, H' k → H k ∨ w.heap.size ≤ k) ∧ IsBuf H' S w' b g (x.fill em).2

theorem Blk.buf1 {w : World} {g : Nat} {t : TypeId} {a b c d : Value} (h : Blk w g t #[a, b, c, d]) (x : Value) : Blk (w.setCell ⟨g, 2, none⟩ x) g t #[a, b, x, d] := by
  have := h.set_ 2 x
  simpa using this
theorem Blk.one {w : World} {g : Nat} {t : TypeId} {a : Value} (h : Blk w g t #[a]) (x : Value) : Blk (w.setCell ⟨g, 0, none⟩ x) g t #[x] := by
  have := h.set_ 0 x
  simpa using this
theorem Keep.two (w : World) (b e : Nat) (i j : Nat) (x y : Value) : Keep (fun k => k = b ∨ k = e) w ((w.setCell ⟨b, i, none⟩ x).setCell ⟨e, j, none⟩ y) :=
  ((Keep.refl (fun k => k = b ∨ k = e) w).setCell (p := ⟨b, i, none⟩) (.inl (.inl rfl)) x).setCell (p := ⟨e, j, none⟩) (.inl (.inr rfl)) y
theorem fill_ok {H S : Nat → Prop} {w w2 w3 : World} {b g eb : Nat} {x : Buf} {bs : List UInt8} {s' : Src} {A A3 : Option Addr} {c c3 : Nat} {z : Int} {u : Value} (HH : IsBuf H S w b g x) (K2 : Keep (fun k => k = g) w w2) (S2 : IsSrc S w2 g s')
    (HB3 : Blk w3 b 77 #[.iface 46 (.pointer (some ⟨g, 0, none⟩)), .int .i64 x.size, .slice A x.held.length c, .int .i64 x.taken]) (HE3 : Blk w3 eb 3 #[u])
    (W3 : Win (fun k => H k ∨ k = w2.heap.size) w3 A3 (x.held.length + bs.length) c3 (x.held ++ bs)) (K3 : Keep H w2 w3) (hel : eb < w.heap.size) (heb : eb ≠ b ∧ eb ≠ g ∧ ¬ H eb ∧ ¬ S eb) (hok : (⟨s', x.size, x.held ++ bs, x.taken⟩ : Buf).ok) :
    Blk ((w3.setCell ⟨b, 2, none⟩ (.slice A3 (x.held.length + bs.length) c3)).setCell ⟨eb, 0, none⟩ (.int .i64 z)) eb 3 #[.int .i64 z] ∧
    Keep (fun k => k = b ∨ k = g ∨ H k ∨ k = eb) w ((w3.setCell ⟨b, 2, none⟩ (.slice A3 (x.held.length + bs.length) c3)).setCell ⟨eb, 0, none⟩ (.int .i64 z)) ∧
    ∃ H', (∀ k, H' k → H k ∨ w.heap.size ≤ k) ∧ IsBuf H' S ((w3.setCell ⟨b, 2, none⟩ (.slice A3 (x.held.length + bs.length) c3)).setCell ⟨eb, 0, none⟩ (.int .i64 z)) b g ⟨s', x.size, x.held ++ bs, x.taken⟩ := by
  have K4 := Keep.two w3 b eb 2 0 (.slice A3 (x.held.length + bs.length) c3) (.int .i64 z)
  obtain ⟨_, _, hbw, _⟩ := HH.blk
  have lb := hbw.lt
  have lg := HH.src.lt
  have l2 := K2.size
  refine ⟨(HE3.far (p := ⟨b, 2, none⟩) heb.1 _).one _, ?_, fun k => (H k ∨ k = w2.heap.size) ∧ k < w3.heap.size, ?_, ?_⟩
  · exact ((K2.mono (fun i _ h => .inr (.inl h))).trans (K3.mono (fun i _ h => .inr (.inr (.inl h))))).trans (K4.mono (fun i _ h => h.elim .inl (fun h => .inr (.inr (.inr h)))))
  · rintro k ⟨h | rfl, _⟩
    · exact .inl h
    · exact .inr l2
  · refine ⟨⟨A3, c3, ?_, ?_⟩, ?_, HH.ne, HH.nS, fun k hs => by have := HH.Sl k hs; have := K2.size; have := K3.size; have := K4.size; omega, ?_, hok⟩
    · simp only [List.length_append]
      exact (HB3.buf1 _).far (p := ⟨eb, 0, none⟩) (fun e => heb.1 e.symm) _
    · simp only [List.length_append]
      refine (W3.more (fun k hk h => ⟨h, hk⟩)).keep K4 ?_
      rintro k ⟨h | h, _⟩ (e | e)
      · exact (HH.held k h).2.1 e
      · exact heb.2.2.1 (e ▸ h)
      · omega
      · omega
    · refine (S2.keep K3 (fun h => (HH.held g h).2.2.1 rfl) (fun k h1 h2 => (HH.held k h2).2.2.2 h1)).keep K4 ?_ ?_
      · rintro (e | e)
        · exact HH.ne e.symm
        · exact heb.2.1 e.symm
      · rintro k hk (e | e)
        · exact HH.nS (e ▸ hk)
        · exact heb.2.2.2 (e ▸ hk)
    · rintro k ⟨h | h, hl⟩
      · exact ⟨by simpa [World.setCell] using hl, (HH.held k h).2⟩
      · refine ⟨by simpa [World.setCell] using hl, by omega, by omega, fun hS => ?_⟩
        have := HH.Sl k hS
        omega

section
variable {H S : Nat → Prop} {w : World} {b g : Nat} {x : Buf}

set_option maxHeartbeats 16000000 in
set_option maxRecDepth 100000 in
theorem bufFill_any (eb em : Nat) (h : IsBuf H S w b g x) (hroom : x.held.length < x.size) (he : Blk w eb 3 #[.int .i64 em]) (hem : em ≤ 100) (heb : eb ≠ b ∧ eb ≠ g ∧ ¬ H eb ∧ ¬ S eb) :
    Calls Try.prog 54 #[.pointer (some ⟨b, 0, none⟩), .pointer (some ⟨eb, 0, none⟩)] w (Gives (FillGives H S b g eb x em w)) := by
  obtain ⟨i0', hi, hz0, hz1, hz2⟩ := info_parts u8info
  have HH := Lib.hid h
  obtain ⟨A, c, hb, hw⟩ := h.blk
  have hok := h.ok
  have ht := Src.told_le hok.1
  have h16 := hok.2.2.1
  have hle := hw.le
  have hmx := hw.max
  have x0 : w.cell? ⟨b, 0, none⟩ = some (.iface 46 (.pointer (some ⟨g, 0, none⟩))) := hb.cell 0
  have x1 : w.cell? ⟨b, 1, none⟩ = some (.int .i64 x.size) := hb.cell 1
  have x2 : w.cell? ⟨b, 2, none⟩ = some (.slice A x.held.length c) := hb.cell 2
  have HB := Lib.hid hb
  have HW := Lib.hid hw
  have HE := Lib.hid he
  have lb := hb.lt
  obtain ⟨k, hk⟩ : ∃ k : Nat, x.size - x.held.length = k := ⟨_, rfl⟩
  have hX : IntKind.i64.wrap ((x.size : Int) - (x.held.length : Int)) = (k : Int) := by rw [show (x.size : Int) - (x.held.length : Int) = (k : Int) by omega]; exact IntWalk.i64_in _ (by omega)
  obtain ⟨bs, er, s', hrd⟩ : ∃ bs er s', x.src.read k = ((bs, er), s') := ⟨_, _, _, rfl⟩
  have HRD := Lib.hid hrd
  have HK := Lib.hid hk
  have hm : ∀ W : World, (method 228 46 (.pointer (some ⟨g, 0, none⟩)) "Read").run Try.prog W = .ok (28, .pointer (some ⟨g, 0, none⟩)) W := fun W => by kernel_rfl
  clear h hb hw hok he hrd
  go_enter Try.func54, Try.ntmps54
  go_wp2_with fail
  refine wp_region_plan (S := fun w' => w'.cell? ⟨b, 0, none⟩ = some (.iface 46 (.pointer (some ⟨g, 0, none⟩))) ∧ w'.cell? ⟨b, 1, none⟩ = some (.int .i64 x.size) ∧ w'.cell? ⟨b, 2, none⟩ = some (.slice A x.held.length c)) 22
    [(0, true), (1, true), (2, true), (3, true), (4, true), (5, true), (6, true), (7, true), (8, true), (9, true), (10, true), (11, true), (12, true), (13, true), (14, true), (15, true), (16, false), (17, true), (18, true), (19, true), (20, false), (21, false)] (by kernel_rfl) (by kernel_rfl) ?_ (fun hHeld => ?_)
  · exact ⟨x0, x1, x2⟩
  iterate 16 (refine plan_take (v := ?_) rfl (by assumption) rfl (fun _ _ _ h => h) ?_ ?_; rotate_left; (· (intro w hSw; (try dsimp only at hSw); go_simp; try with_reducible rfl)); all_goals (simp only [Act.put, List.getElem_toArray, List.getElem_cons_zero, List.getElem_cons_succ, List.setIfInBounds_toArray, List.set_cons_zero, List.set_cons_succ]))
  refine plan_op rfl (by decide) (fun K hK => ?_)
  go_simp
  refine (srcRead_any k (HH.out.src.drewN 1) (by omega)).mono ?_
  rintro e w2 ⟨v2, rfl, h2⟩
  obtain ⟨A2, c2, rfl, ho2, hs2, hk2⟩ := h2.at_ HRD.out
  have O2 := Lib.hid ho2
  have S2 := Lib.hid hs2
  have K2 := Lib.hid (show Keep (fun k => k = g) w w2 from ⟨hk2.os, hk2.tape, hk2.output, hk2.size, hk2.block⟩)
  have HB2 := Lib.hid (HB.out.keep K2.out HH.out.ne)
  have HW2 := Lib.hid (HW.out.keep K2.out (fun k hk => (HH.out.held k hk).2.2.1))
  have HE2 := Lib.hid (HE.out.keep K2.out heb.2.1)
  have z0 : w2.cell? ⟨b, 0, none⟩ = some (.iface 46 (.pointer (some ⟨g, 0, none⟩))) := HB2.out.cell 0
  have z1 : w2.cell? ⟨b, 1, none⟩ = some (.int .i64 x.size) := HB2.out.cell 1
  have z2 : w2.cell? ⟨b, 2, none⟩ = some (.slice A x.held.length c) := HB2.out.cell 2
  have ze : w2.cell? ⟨eb, 0, none⟩ = some (.int .i64 em) := HE2.out.cell 0
  have zf2 := HB2.out.frozen 2
  have zfe := HE2.out.frozen 0
  clear h2 ho2 hs2 hk2
  dsimp only
  refine hK.out _ _ ⟨z0, z1, z2⟩ (fun hHeld => ?_)
  clear hK K
  iterate 3 (refine plan_take (v := ?_) rfl (by assumption) rfl (fun _ _ _ h => h) ?_ ?_; rotate_left; (· (intro w hSw; (try dsimp only at hSw); go_simp; try with_reducible rfl)); all_goals (simp only [Act.put, List.getElem_toArray, List.getElem_cons_zero, List.getElem_cons_succ, List.setIfInBounds_toArray, List.set_cons_zero, List.set_cons_succ]))
  refine plan_op rfl (by decide) (fun K hK => ?_)
  go_simp
  refine hK.out _ _ ⟨z0, z1, z2⟩ (fun hHeld => ?_)
  clear hK K
  refine plan_op rfl (by decide) (fun K hK => ?_)
  go_simp
  refine hK.out _ _ ⟨z0, z1, z2⟩ (fun hHeld => ?_)
  clear hK K
  simp only [wpPlan]
  have hlen : x.held.length + bs.length ≤ x.size := by
    have k3 := Src.read_le HH.out.ok.1 k
    rw [HRD.out] at k3
    simp only at k3
    omega
  have hrd2 : x.src.read (x.size - x.held.length) = ((bs, er), s') := by rw [HK.out]; exact HRD.out
  have hok2 := Lib.hid (Buf.more_ok HH.out.ok hrd2)
  have HR2 := Lib.hid hrd2
  clear hrd2 x0 x1 x2 hX hm
  by_cases he : er = 0
  · subst he
    by_cases hb0 : 0 < bs.length
    · go_wp2_with (at_builtin; refine wpList_append_win w2 rfl _ _ 26 rfl 5 i0' rfl Try.underlying26 hi hz0 hz1 hz2 rfl HW2.out rfl (Row.of_own O2.out) (by omega) ?_; intro A3 c3 w3 hw3 hk3 hs3; have HB3 := Lib.hid (HB2.out.keep hk3 (fun h => (HH.out.held b h).2.1 rfl)); have HE3 := Lib.hid (HE2.out.keep hk3 heb.2.2.1); have y2 := HB3.out.cell 2; have yf2 := HB3.out.frozen 2; have ye := HE3.out.cell 0; have yfe := HE3.out.frozen 0; have W3 := Lib.hid hw3; have K3 := Lib.hid hk3; clear hw3 hk3)
      go_ret
      have hf := fill_ok (z := 0) HH.out K2.out S2.out HB3.out HE3.out W3.out K3.out HE.out.lt heb hok2.out
      refine ⟨_, rfl, ?_, ?_, hf.2.1, ?_⟩
      · rw [Buf.fill_some HR2.out em hb0]
        rfl
      · rw [Buf.fill_some HR2.out em hb0]
        exact hf.1
      · rw [Buf.fill_some HR2.out em hb0]
        exact hf.2.2
    · obtain rfl : bs = [] := List.eq_nil_of_length_eq_zero (by omega)
      by_cases h100 : em + 1 = 100
      · have q4 : ((em : Int) + 1 == 100) = true := by first | (rw [beq_iff_eq]; omega) | (rw [beq_eq_false_iff_ne]; omega)
        go_wp2_with (at_builtin; refine wpList_append_win w2 rfl _ _ 26 rfl 5 i0' rfl Try.underlying26 hi hz0 hz1 hz2 rfl HW2.out rfl (Row.of_own O2.out) (by omega) ?_; intro A3 c3 w3 hw3 hk3 hs3; have HB3 := Lib.hid (HB2.out.keep hk3 (fun h => (HH.out.held b h).2.1 rfl)); have HE3 := Lib.hid (HE2.out.keep hk3 heb.2.2.1); have y2 := HB3.out.cell 2; have yf2 := HB3.out.frozen 2; have ye := HE3.out.cell 0; have yfe := HE3.out.frozen 0; have W3 := Lib.hid hw3; have K3 := Lib.hid hk3; clear hw3 hk3)
        go_ret
        have hf := fill_ok (z := em + 1) HH.out K2.out S2.out HB3.out HE3.out W3.out K3.out HE.out.lt heb hok2.out
        rw [List.append_nil] at hf
        have hz : x.fill em = ((22, em + 1), ⟨s', x.size, x.held, x.taken⟩) := by rw [Buf.fill_none HR2.out em]; simp [h100]
        refine ⟨_, rfl, ?_, ?_, hf.2.1, ?_⟩
        · rw [hz]
          rfl
        · rw [hz]
          simpa using hf.1
        · rw [hz]
          exact hf.2.2
      · have q4 : ((em : Int) + 1 == 100) = false := by first | (rw [beq_iff_eq]; omega) | (rw [beq_eq_false_iff_ne]; omega)
        go_wp2_with (at_builtin; refine wpList_append_win w2 rfl _ _ 26 rfl 5 i0' rfl Try.underlying26 hi hz0 hz1 hz2 rfl HW2.out rfl (Row.of_own O2.out) (by omega) ?_; intro A3 c3 w3 hw3 hk3 hs3; have HB3 := Lib.hid (HB2.out.keep hk3 (fun h => (HH.out.held b h).2.1 rfl)); have HE3 := Lib.hid (HE2.out.keep hk3 heb.2.2.1); have y2 := HB3.out.cell 2; have yf2 := HB3.out.frozen 2; have ye := HE3.out.cell 0; have yfe := HE3.out.frozen 0; have W3 := Lib.hid hw3; have K3 := Lib.hid hk3; clear hw3 hk3)
        go_ret
        have hf := fill_ok (z := em + 1) HH.out K2.out S2.out HB3.out HE3.out W3.out K3.out HE.out.lt heb hok2.out
        rw [List.append_nil] at hf
        have hz : x.fill em = ((0, em + 1), ⟨s', x.size, x.held, x.taken⟩) := by rw [Buf.fill_none HR2.out em]; simp [h100]
        refine ⟨_, rfl, ?_, ?_, hf.2.1, ?_⟩
        · rw [hz]
          rfl
        · rw [hz]
          simpa using hf.1
        · rw [hz]
          exact hf.2.2
  · have qe : (er == 0) = false := by simpa using he
    go_wp2_with fail
    go_ret
    have hx := Src.read_err (s := x.src) (x.size - x.held.length) (by rw [HR2.out]; exact he)
    rw [HR2.out] at hx
    have hs' : s' = x.src := hx.2
    subst hs'
    have hh := HH.out
    refine ⟨_, rfl, ?_, ?_, K2.out.mono (fun i _ h => .inr (.inl h)), H, fun k h => .inl h, ?_⟩
    · rw [Buf.fill_err HR2.out em he]
      rfl
    · rw [Buf.fill_err HR2.out em he]
      exact HE2.out
    · rw [Buf.fill_err HR2.out em he]
      exact ⟨⟨A, c, HB2.out, HW2.out⟩, S2.out, hh.ne, hh.nS, fun k hs => Nat.lt_of_lt_of_le (hh.Sl k hs) K2.out.size, fun k hk => ⟨Nat.lt_of_lt_of_le (hh.held k hk).1 K2.out.size, (hh.held k hk).2⟩, hh.ok⟩
end

end Go.Proofs.Ytadnceiohgjdhaa
