/-
  The contract of the law's own spoil: all of a script is written over.
-/
import Derived.Test.YtadnceiohgjdhaaSteps
import Derived.Lib.SlBytesConst
namespace Go.Proofs.Ytadnceiohgjdhaa
open Go.RowKit
set_option linter.unusedVariables false

/-- A slice of bytes of the call's own, of whatever content, in a block of S. -/
def Room (S : Nat → Prop) (w : World) (v : Value) (n : Nat) : Prop :=
  (v = .slice none 0 0 ∧ n = 0) ∨ ∃ g cap cur, v = .slice (some ⟨g, 0, none⟩) n cap ∧ S g ∧ Blk w g 5 cur ∧ cur.size = cap ∧ n ≤ cap ∧ cap ≤ maxLen
/-- A slice of steps of the call's own, of whatever content, in blocks of S. -/
def OwnIn (S : Nat → Prop) (T : TypeId) (w : World) (v : Value) (n : Nat) : Prop :=
  (v = .slice none 0 0 ∧ n = 0) ∨ ∃ g cap cur, v = .slice (some ⟨g, 0, none⟩) n cap ∧ S g ∧ Blk w g T cur ∧ cur.size = cap * 2 ∧ n ≤ cap ∧ cap ≤ maxLen ∧
    ∀ j, j < n → ∃ p m f, cur[j * 2]? = some p ∧ cur[j * 2 + 1]? = some (.bool f) ∧ Room S w p m

theorem Room.form {S : Nat → Prop} {w : World} {v : Value} {n : Nat} (h : Room S w v n) : ∃ A c, v = .slice A n c ∧ c ≤ maxLen := by
  rcases h with ⟨rfl, rfl⟩ | ⟨g, cap, _, rfl, _, _, _, _, h⟩
  · exact ⟨_, _, rfl, Nat.zero_le _⟩
  · exact ⟨_, _, rfl, h⟩
theorem OwnSteps.in_ {T : TypeId} {lo : Nat} {w : World} {v : Value} {L : List Stp} (h : OwnSteps T lo w v L) : OwnIn (fun k => lo ≤ k ∧ k < w.heap.size) T w v L.length := by
  obtain ⟨vs, h1, h2, h3⟩ := h
  rcases own_form h1 with ⟨rfl, h0, _⟩ | ⟨g, cap, cur, rfl, hb, hl, hg, hn, hm, hs, ht⟩
  · exact .inl ⟨rfl, h0⟩
  · refine .inr ⟨g, cap, cur, rfl, ⟨hb, hl⟩, hg, hs, hn, hm, fun j hj => ?_⟩
    have hjv : j < vs.length := by omega
    obtain ⟨e, h4, _⟩ := h3.1 j vs[j] L[j] (List.getElem?_eq_getElem hjv) (List.getElem?_eq_getElem hj)
    obtain ⟨c0, c1⟩ := stepCells_get vs j vs[j] (List.getElem?_eq_getElem hjv)
    rw [← ht, List.getElem?_take, if_pos (by omega)] at c0 c1
    refine ⟨_, L[j].1.length, _, by simpa using c0, by simpa using c1, ?_⟩
    · rcases own_form h4 with ⟨e0, h0, _⟩ | ⟨g', cap', cur', e0, hb', hl', hg', hn', hm', hs', _⟩
      · exact .inl ⟨e0, h0⟩
      · exact .inr ⟨g', cap', cur', e0, ⟨hb', hl'⟩, hg', by omega, hn', hm'⟩
theorem Room.keep {S R : Nat → Prop} {w w' : World} {v : Value} {n : Nat} (h : Room S w v n) (hk : Keep R w w') (hR : ∀ k, S k → ¬ R k) : Room S w' v n := by
  rcases h with h | ⟨g, cap, cur, rfl, hs, hg, rest⟩
  · exact .inl h
  · exact .inr ⟨g, cap, cur, rfl, hs, hg.keep hk (hR _ hs), rest⟩
theorem OwnIn.keep {S R : Nat → Prop} {T : TypeId} {w w' : World} {v : Value} {n : Nat} (h : OwnIn S T w v n) (hk : Keep R w w') (hR : ∀ k, S k → ¬ R k) : OwnIn S T w' v n := by
  rcases h with h | ⟨g, cap, cur, rfl, hs, hg, h1, h2, h3, h4⟩
  · exact .inl h
  · refine .inr ⟨g, cap, cur, rfl, hs, hg.keep hk (hR _ hs), h1, h2, h3, fun j hj => ?_⟩
    obtain ⟨p, m, f, a, b, c⟩ := h4 j hj
    exact ⟨p, m, f, a, b, c.keep hk hR⟩
theorem Room.setFar {S : Nat → Prop} {w : World} {v : Value} {n : Nat} {g : Nat} {T : TypeId} {cs : Array Value} (h : Room S w v n) (hg : Blk w g T cs) (hT : T ≠ 5) (j : Nat) (u : Value) : Room S (w.setCell ⟨g, j, none⟩ u) v n := by
  rcases h with h | ⟨g', cap, cur, rfl, hs, hb, rest⟩
  · exact .inl h
  · exact .inr ⟨g', cap, cur, rfl, hs, hb.far (p := ⟨g, j, none⟩) (hb.ne_ hg hT.symm) u, rest⟩
theorem Room.setByte {S : Nat → Prop} {w : World} {v : Value} {n : Nat} {g : Nat} (h : Room S w v n) (j : Nat) (u : Value) : Room S (w.setCell ⟨g, j, none⟩ u) v n := by
  rcases h with h | ⟨g', cap, cur, rfl, hs, hb, h1, rest⟩
  · exact .inl h
  · by_cases e : g' = g
    · subst e
      exact .inr ⟨g', cap, _, rfl, hs, hb.set_ j u, by simpa using h1, rest⟩
    · exact .inr ⟨g', cap, cur, rfl, hs, hb.far (p := ⟨g, j, none⟩) e u, h1, rest⟩
theorem Room.alloc {S : Nat → Prop} {w : World} {v : Value} {n : Nat} (h : Room S w v n) (o : Obj) : Room S (w.alloc o) v n := by
  rcases h with h | ⟨g', cap, cur, rfl, hs, hb, rest⟩
  · exact .inl h
  · exact .inr ⟨g', cap, cur, rfl, hs, hb.alloc o, rest⟩

set_option maxHeartbeats 4000000 in
set_option maxRecDepth 100000 in
theorem spoil_any (S : Nat → Prop) (v : Value) (n : Nat) (w : World) (hv : OwnIn S 42 w v n) :
    Calls Try.prog 24 #[v] w fun e w' => e = .returned (.tuple #[]) ∧ Keep S w w' := by
  have kc := fun (w : World) (C : Array Value) (n c : Nat) => Lib.run_convert_bytes_const (P := Try.prog) w 26 5 C n c Try.underlying26 Try.underlying5
  rcases hv with ⟨rfl, rfl⟩ | ⟨g, cap, cur, rfl, hs, hg, hcs, hnc, hcm, hel⟩
  · go_enter Try.func24, Try.ntmps24
    go_wp2
    refine wp_loop_rounds 1 ?_
    rw [rounds_succ]
    go_wp2
    go_end0
    exact ⟨rfl, Keep.refl _ _⟩
  · have HG := Lib.hid hg
    have HC := Lib.hid hcs
    have HE := Lib.hid hel
    clear hg hcs hel
    unfold maxLen at hcm
    go_enter Try.func24, Try.ntmps24
    go_wp2
    go_loopw [6] (fun i wr => ∃ (k : Nat) (cu : Array Value), k ≤ n ∧ i = .int .i64 k ∧ Hid (Blk wr g 42 cu) ∧ Hid (cu.size = cap * 2) ∧ Hid (∀ j, k ≤ j → j < n → ∃ p m f, cu[j * 2]? = some p ∧ cu[j * 2 + 1]? = some (.bool f) ∧ Room S wr p m) ∧ Keep S w wr) (fun i _ => n - (intOf i).toNat)
    case atStart => exact ⟨0, cur, Nat.zero_le _, rfl, HG.out, HC.out, fun j _ hj => HE.out j hj, Keep.refl _ _⟩
    case round =>
      obtain ⟨k, cu, hk, rfl, HB, HCU, HEL, hkeep⟩ := hrel
      by_cases hlt : k < n
      · obtain ⟨p, m, f, hp, hf, hroom⟩ := HEL.out k (Nat.le_refl _) hlt
        have e0 := (HB.out.cell (k * 2)).trans hp
        have HF := Lib.hid hf
        have HP := Lib.hid hp
        obtain ⟨Ap, cp, rfl, hcp⟩ := hroom.form
        clear hroom hp hf
        unfold maxLen at hcp
        go_wp2
        obtain ⟨wo, rfl⟩ : ∃ wo : World, wo = wr := ⟨_, rfl⟩
        go_loopw [15] (fun i wr => ∃ (q : Nat), q ≤ m ∧ i = .int .i64 q ∧ Hid (Blk wr g 42 cu) ∧ Hid (∀ j, k ≤ j → j < n → ∃ p m f, cu[j * 2]? = some p ∧ cu[j * 2 + 1]? = some (.bool f) ∧ Room S wr p m) ∧ Keep S w wr) (fun i _ => m - (intOf i).toNat)
        case atStart => exact ⟨0, Nat.zero_le _, rfl, HB.out, HEL.out, hkeep⟩
        case round =>
          clear e0
          obtain ⟨q, hq, rfl, HB2, HEL2, hkeep2⟩ := hrel
          have e0 := (HB2.out.cell (k * 2)).trans HP.out
          by_cases hqm : q < m
          · obtain ⟨p', m', f', hp', hf', hr'⟩ := HEL2.out k (Nat.le_refl _) hlt
            obtain rfl : p' = .slice Ap m cp := by have := HP.out; rw [hp'] at this; injection this
            rcases hr' with ⟨e, _⟩ | ⟨g2, cap2, cur2, e, hs2, hg2, hc2, hn2, hm2⟩
            · injection e; omega
            · injection e with e1 e2 e3
              subst e1 e2 e3
              have c0 := hg2.cell q
              have c1 := hg2.frozen q
              rw [Array.getElem?_eq_getElem (show q < cur2.size by omega)] at c0
              generalize cur2[q]'(by omega) = u0 at c0
              have hne := (hg2.ne_ HB2.out (by decide)).symm
              have H2 := Lib.hid hg2
              clear hg2 hc2 hp' hf'
              go_wp2
              go_roundw
              case rel => exact ⟨q + 1, by omega, by go_num, HB2.out.far (p := ⟨g2, q, none⟩) hne _, fun j h1 h2 => by
                obtain ⟨p, m, f, a, b, c⟩ := HEL2.out j h1 h2
                exact ⟨p, m, f, a, b, c.setByte q _⟩, hkeep2.setCell (p := ⟨g2, q, none⟩) (.inl hs2) _⟩
              case measure => simp [intOf]; omega
          · have e1 := (HB2.out.cell (k * 2 + 1)).trans HF.out
            have f0 := HB2.out.frozen (k * 2)
            have f1 := HB2.out.frozen (k * 2 + 1)
            have lg := HB2.out.lt
            go_wp2
            go_roundw
            case rel =>
              refine ⟨k + 1, _, by omega, by go_num, ((HB2.out.set_ (k * 2) _).set_ (k * 2 + 1) _).alloc _, ?_, ?_, ((hkeep2.setCell (p := ⟨g, k * 2, none⟩) (.inl hs) _).setCell (p := ⟨g, k * 2 + 1, none⟩) (.inl hs) _).alloc _⟩
              · show Array.size _ = _
                simpa using HCU.out
              · intro j h1 h2
                obtain ⟨p, m, f, a, b, c⟩ := HEL2.out j (by omega) h2
                refine ⟨p, m, f, ?_, ?_, ((c.setFar HB2.out (by decide) _ _).setFar (HB2.out.set_ _ _) (by decide) _ _).alloc _⟩
                · rw [Array.getElem?_setIfInBounds_ne (by omega), Array.getElem?_setIfInBounds_ne (by omega)]; exact a
                · rw [Array.getElem?_setIfInBounds_ne (by omega), Array.getElem?_setIfInBounds_ne (by omega)]; exact b
            case measure => simp [intOf]; omega
      · go_wp2
        go_end0
        exact ⟨rfl, hkeep⟩

end Go.Proofs.Ytadnceiohgjdhaa
