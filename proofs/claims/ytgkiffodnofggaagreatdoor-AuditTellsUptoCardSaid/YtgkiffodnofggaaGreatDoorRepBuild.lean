/-
  The contract of the building of a replacer of the four marks.
-/
import Derived.Test.YtgkiffodnofggaaGreatDoorRepPlain
import Derived.Deep.WholeRow
import Derived.KernelRfl
namespace Go.Proofs.YtgkiffodnofggaaGreatDoor
open Go.RowKit
set_option linter.unusedVariables false
set_option linter.unusedSimpArgs false

theorem addr_succ (ad : Addr) (m : Nat) : ad.add (m + 1) = ⟨ad.block, ad.off + (m + 1), none⟩ := by simp [Addr.add]
/-- What a replacer is told: the marks and what stands in their place, in turn. -/
def olds : List Value := reps.flatMap fun p => [sv [p.1], sv p.2]
theorem olds_even (k : Nat) (p : UInt8 × List UInt8) (h : reps[k]? = some p) : olds[2 * k]? = some (sv [p.1]) ∧ olds[2 * k + 1]? = some (sv p.2) ∧ k < 4 ∧ p.2.length = 2 ∧ p ∈ reps := by
  have hk : k < 4 := (List.getElem?_eq_some_iff.1 h).1
  refine ⟨?_, ?_, hk, reps_len p (List.mem_of_getElem? h), List.mem_of_getElem? h⟩
  all_goals
    rcases (by omega : k = 0 ∨ k = 1 ∨ k = 2 ∨ k = 3) with rfl | rfl | rfl | rfl
    all_goals
      obtain rfl := Option.some.inj h
      rfl
theorem reps_drop (k : Nat) (p : UInt8 × List UInt8) (h : reps[k]? = some p) : reps.drop k = p :: reps.drop (k + 1) ∧ ∀ q ∈ reps.drop (k + 1), q.1 ≠ p.1 := by
  have hk : k < 4 := (List.getElem?_eq_some_iff.1 h).1
  rcases (by omega : k = 0 ∨ k = 1 ∨ k = 2 ∨ k = 3) with rfl | rfl | rfl | rfl
  all_goals
    obtain rfl := Option.some.inj h
    exact ⟨rfl, by decide⟩

theorem reps_marks_at (m : Nat) (p : UInt8 × List UInt8) (h : reps[m]? = some p) : marks.take (4 - m) = marks.take (3 - m) ++ [p.1] := by
  have hk : m < 4 := (List.getElem?_eq_some_iff.1 h).1
  rcases (by omega : m = 0 ∨ m = 1 ∨ m = 2 ∨ m = 3) with rfl | rfl | rfl | rfl
  all_goals
    obtain rfl := Option.some.inj h
    rfl
theorem bsr_info : (Tryz.prog.info? 155).map (fun i => (i.zero, i.size)) = some (some (.agg (Array.replicate 257 (.slice none 0 0))), 257) := by kernel_rfl
theorem bsr_built (A : Option Addr) (n c : Nat) : Tryz.prog.built 155 [(1, .slice A n c)] = some ((Array.replicate 257 (.slice none 0 0)).setIfInBounds 256 (.slice A n c)) := by kernel_rfl
theorem str_info : (Tryz.prog.info? 9).map (fun i => (i.zero, i.size, i.bytes)) = some (some (.string ⟨#[]⟩), 1, 16) := by kernel_rfl

theorem RepAt.start {W : World} {lo b : Nat} {v : Value} : RepAt W lo b v [] ((Array.replicate 257 (.slice none 0 0)).setIfInBounds 256 v) where
  size := by simp
  bare := fun c _ => by
    have hc : c.toNat < 256 := c.toNat_lt
    rw [Array.getElem?_setIfInBounds_ne (by omega), Array.getElem?_replicate, if_pos (by omega)]
  there := fun p hp => by cases hp
  last_ := by rw [Array.getElem?_setIfInBounds_self_of_lt (by simp)]
theorem RepAt.add {W W5 : World} {lo b g cc : Nat} {v v3 : Value} {L : List (UInt8 × List UInt8)} {C : Array Value} {p : UInt8 × List UInt8} (h : RepAt W lo b v L C) (hlo : lo ≤ W.heap.size) (hp : ∀ q ∈ L, q.1 ≠ p.1)
    (hk : Keep (fun k => k = b ∨ v.ownBlock = some k) W W5) (hg : W.heap.size ≤ g) (hb : b < W.heap.size) (hv3 : ∀ k, v3.ownBlock = some k → k ≠ g ∧ (v.ownBlock = some k ∨ W.heap.size ≤ k))
    (hcc : p.2.length ≤ cc) (hr : Row (fun k => k = g) W5 1 (some ⟨g, 0, none⟩) p.2.length (bv p.2)) (hpl : 0 < p.2.length) (hL : ∀ q ∈ L, 0 < q.2.length) :
    RepAt W5 lo b v3 (p :: L) ((C.setIfInBounds 256 v3).setIfInBounds p.1.toNat (.slice (some ⟨g, 0, none⟩) p.2.length cc)) where
  size := by simp [h.size]
  bare := fun c hc => by
    have hc1 : c.toNat < 256 := c.toNat_lt
    have h2 : c.toNat ≠ p.1.toNat := fun e => hc p (by simp) (UInt8.toNat_inj.1 e.symm)
    rw [Array.getElem?_setIfInBounds_ne (Ne.symm h2), Array.getElem?_setIfInBounds_ne (by omega)]
    exact h.bare c fun q hq => hc q (List.mem_cons_of_mem _ hq)
  there := fun q hq => by
    have hq1 : q.1.toNat < 256 := q.1.toNat_lt
    rcases List.mem_cons.1 hq with rfl | hq
    · refine ⟨g, cc, ?_, by omega, fun e => (hv3 _ e).1 rfl, hcc, hr, by omega⟩
      rw [Array.getElem?_setIfInBounds_self_of_lt (by simp [h.size]; omega)]
    · obtain ⟨g', c', e1, e2, e3, e4, e5, e0⟩ := h.there q hq
      have h2 : q.1.toNat ≠ p.1.toNat := fun e => hp q hq (UInt8.toNat_inj.1 e)
      have hgl : g' < W.heap.size := by
        obtain ⟨ad, u, ea, _, _, e⟩ := e5.at_ (hL q hq)
        injection ea with ea
        subst ea
        have := World.block_lt_of_cell? W _ e
        rwa [addr_block] at this
      refine ⟨g', c', ?_, e2, fun e => ?_, e4, e5.keep hk (fun k (e6 : k = g') e7 => ?_), e0⟩
      · rw [Array.getElem?_setIfInBounds_ne (Ne.symm h2), Array.getElem?_setIfInBounds_ne (by omega), e1]
      · rcases (hv3 _ e).2 with h3 | h3
        · exact e3 h3
        · omega
      · subst e6
        rcases e7 with h3 | h3
        · exact e2 h3
        · exact e3 h3
  last_ := by
    have hp1 : p.1.toNat < 256 := p.1.toNat_lt
    rw [Array.getElem?_setIfInBounds_ne (by omega), Array.getElem?_setIfInBounds_self_of_lt (by simp [h.size])]
theorem conv_byte (w : World) (c : UInt8) : (convert 43 9 (.slice (some ⟨w.heap.size, 0, none⟩) 1 1)).run Tryz.prog (w.alloc (.cells #[.int .u8 (c.toNat : Int)] 5)) = .ok (.string (str [c])) (w.alloc (.cells #[.int .u8 (c.toNat : Int)] 5)) :=
  conv_row (Row.new w 5 #[.int .u8 (c.toNat : Int)] 1 1 rfl) 1

set_option maxHeartbeats 8000000 in
set_option maxRecDepth 100000 in
theorem build_any (S : Nat → Prop) (rb : Nat) (A : Option Addr) (c8 : Nat) (w : World) (hx : w.cell? ⟨rb, 4, none⟩ = some (.slice A 8 c8)) (hr : Row S w 1 A 8 olds) (hS : ∀ k, S k → k < w.heap.size) :
    Calls Tryz.prog 77 #[.pointer (some ⟨rb, 0, none⟩)] w fun e w' => ∃ b, e = .returned (.iface 156 (.pointer (some ⟨b, 0, none⟩))) ∧ w.heap.size ≤ b ∧ Bsr w' w.heap.size b ∧ Below w.heap.size w w' := by
  have HR := Lib.hid hr
  have HS := Lib.hid hS
  clear hr hS
  go_enter Tryz.func77, Tryz.ntmps77
  go_wp2
  go_loop [4, 5] (fun nb iv => ∃ k : Nat, k ≤ 4 ∧ iv = .int .i64 ((2 * k : Nat) : Int) ∧ nb = .bool (k == 0)) (fun _ iv => 8 - (intOf iv).toNat)
  case atStart => exact ⟨0, by omega, rfl, rfl⟩
  case round =>
    obtain ⟨k, hk, rfl, rfl⟩ := hrel
    by_cases hk4 : k < 4
    · obtain ⟨p, hp⟩ : ∃ p, reps[k]? = some p := ⟨_, List.getElem?_eq_getElem hk4⟩
      obtain ⟨h1, h2, _, hpl, _⟩ := olds_even k p hp
      obtain ⟨ad, u, rfl, _, hu, e0⟩ := HR.out.at_ (k := 2 * k) (by omega)
      obtain ⟨ad2, u2, ea, _, hu2, e1⟩ := HR.out.at_ (k := 2 * k + 1) (by omega)
      injection ea with ea
      subst ea
      rw [h1] at hu
      rw [h2] at hu2
      obtain rfl := Option.some.inj hu
      obtain rfl := Option.some.inj hu2
      have z1 := str_size [p.1]
      have z2 := str_size p.2
      rw [hpl] at z2
      obtain ⟨m, hm⟩ : ∃ m, 2 * k = m := ⟨_, rfl⟩
      rw [hm] at e0 e1 ⊢
      have i0 : (0 : Int) ≤ (m : Int) := by omega
      have i1 : (m : Int) < 8 := by omega
      have i2 : (m : Int) + 1 < 8 := by omega
      rw [addr_succ] at e1
      unfold sv at e0 e1
      have hk1 : (k + 1 == 0) = false := by simp
      clear hu hu2 h1 h2 hp hpl
      go_wp2
      go_round
      case rel => exact ⟨k + 1, by omega, by rw [← hm]; go_num, by rw [hk1]⟩
      case measure => simp [intOf]; omega
    · have hk4' : k = 4 := by omega
      subst hk4'
      obtain ⟨ti, hi, hz0, hz1, hz2⟩ := info_parts str_info
      obtain ⟨C0, hC0, hC1, hmk⟩ := run_make_any (P := Tryz.prog) 23 9 ti _ Tryz.underlying23 hi hz0 0 4 (by decide) (by decide) (by rw [hz2]; decide) (by decide)
      rw [hz1] at hC1
      obtain ⟨hzero, hsize⟩ := zero_of_info bsr_info
      have hst : ∀ (W : World) (B : Option Addr) (n c : Nat), (storeCells ⟨W.heap.size, 0, none⟩ ((Array.replicate 257 (Value.slice none 0 0)).toList.set 256 (.slice B n c))).run Tryz.prog (W.alloc (.cells (Array.replicate 257 (.slice none 0 0)) 155)) = .ok () (W.alloc (.cells ((Array.replicate 257 (.slice none 0 0)).setIfInBounds 256 (.slice B n c)) 155)) := fun W B n c => by
        have := run_storeCells_new (P := Tryz.prog) W 155 (Array.replicate 257 (.slice none 0 0)) ((Array.replicate 257 (.slice none 0 0)).setIfInBounds 256 (.slice B n c)) (by rw [hsize]; simp) (by simp) (by rw [Array.all_eq_true_iff_forall_mem]; intro v hv; rcases Array.mem_or_eq_of_mem_setIfInBounds hv with h | h <;> simp_all [Value.oneCell'])
        rwa [Array.toList_setIfInBounds] at this
      have hst2 := hst (w.alloc (.cells C0 9)) (some ⟨w.heap.size, 0, none⟩) 0 4
      rw [World.size_alloc] at hst2
      have hzs : (Array.replicate 257 (Value.slice none 0 0)).size = 257 := by simp
      have hstart := fun (W : World) (b : Nat) (v : Value) => RepAt.start (W := W) (lo := w.heap.size) (b := b) (v := v)
      generalize (Array.replicate 257 (Value.slice none 0 0)) = Z at hzero hst2 hzs hstart
      have HSTART := Lib.hid hstart
      have HC1 := Lib.hid hC1
      simp only [show (0 : Int).toNat = 0 from rfl, show (4 : Int).toNat = 4 from rfl] at hmk
      clear hst hstart hC0 hC1 hsize
      go_wp2_with fail
      obtain ⟨W2, hW2⟩ : ∃ W2, (w.alloc (.cells C0 9)).alloc (.cells (Z.setIfInBounds 256 (.slice (some ⟨w.heap.size, 0, none⟩) 0 4)) 155) = W2 := ⟨_, rfl⟩
      rw [hW2]
      have hb2 : Blk W2 (w.heap.size + 1) 155 (Z.setIfInBounds 256 (.slice (some ⟨w.heap.size, 0, none⟩) 0 4)) := by rw [← hW2]; exact Blk.new_at _ _ (by simp)
      have ho2 : W2.ownsRow w.heap.size 9 1 (.slice (some ⟨w.heap.size, 0, none⟩) 0 4) 0 [] := by
        rw [← hW2]
        exact own_behind ⟨rfl, .inr ⟨w.heap.size, 4, C0, rfl, Nat.le_refl _, Blk.new _ _ _, by omega, by decide, by have := HC1.out; simpa using this, by simp⟩⟩ ((Below.refl _ _).alloc (Nat.le_refl _) _)
      have hB2 : Below w.heap.size w W2 := by rw [← hW2]; exact ((Below.refl _ w).alloc (Nat.le_refl _) _).alloc (by simp) _
      have D2 := Lib.hid hb2
      have O2 := Lib.hid ho2
      have B2 := Lib.hid hB2
      clear hW2 hb2 ho2 hB2 hst2 hmk
      go_loopw [12] (fun iv wr => ∃ (m : Nat) (Cc : Array Value) (v : Value), m ≤ 4 ∧ iv = .int .i64 (2 * (m : Int) - 2) ∧ Hid (Blk wr (w.heap.size + 1) 155 Cc) ∧ Hid (RepAt wr w.heap.size (w.heap.size + 1) v (reps.drop m) Cc) ∧ Hid (wr.ownsRow w.heap.size 9 1 v (4 - m) ((marks.take (4 - m)).map fun c => sv [c])) ∧ Hid (Below w.heap.size w wr)) (fun iv _ => (intOf iv + 2).toNat)
      case atStart => exact ⟨4, _, _, Nat.le_refl _, rfl, D2.out, HSTART.out _ _ _, O2.out, B2.out⟩
      case round =>
        obtain ⟨m, Cc, v, hm, rfl, HD, HRA, HO, HBW⟩ := hrel
        rcases m with _ | m
        · obtain ⟨Av, cv, rfl, _, _⟩ := own_slice HO.out
          go_wp2
          go_ret
          exact ⟨w.heap.size + 1, rfl, by omega, ⟨Cc, _, _, HD.out, HRA.out, HO.out⟩, HBW.out⟩
        · obtain ⟨p, hp⟩ : ∃ p, reps[m]? = some p := ⟨_, List.getElem?_eq_getElem (by show m < 4; omega)⟩
          obtain ⟨h1, h2, _, hpl, hpm⟩ := olds_even m p hp
          obtain ⟨hdrop, hne⟩ := reps_drop m p hp
          have hmk := reps_marks_at m p hp
          have hrw := HR.out.below HBW.out (fun k hk => HS.out k hk)
          obtain ⟨ad, u, rfl, _, hu, e0⟩ := hrw.at_ (k := 2 * m) (by omega)
          obtain ⟨ad2, u2, ea, _, hu2, e1⟩ := hrw.at_ (k := 2 * m + 1) (by omega)
          injection ea with ea
          subst ea
          rw [h1] at hu
          rw [h2] at hu2
          obtain rfl := Option.some.inj hu
          obtain rfl := Option.some.inj hu2
          obtain ⟨q, hq⟩ : ∃ q, 2 * m = q := ⟨_, rfl⟩
          have hiq : 2 * ((m + 1 : Nat) : Int) - 2 = (q : Int) := by omega
          rw [hiq]
          rw [hq] at e0 e1
          rw [addr_succ] at e1
          obtain ⟨n, hn⟩ : ∃ n, 4 - (m + 1) = n := ⟨_, rfl⟩
          have hO := HO.out
          rw [hn] at hO
          obtain ⟨Av, cv, rfl, _, _⟩ := own_slice hO
          have hvb : (Value.slice Av n cv).ownBlock ≠ some (w.heap.size + 1) := own_ne hO HD.out (by decide)
          have HO1 := Lib.hid hO
          clear hO HO
          have i0 : (0 : Int) ≤ (q : Int) := by omega
          have i1 : (q : Int) < 8 := by omega
          have i2 : (q : Int) + 1 < 8 := by omega
          have hpn : p.1.toNat < 256 := p.1.toNat_lt
          have i3 : (0 : Int) ≤ (p.1.toNat : Int) := by omega
          have i4 : (p.1.toNat : Int) < 256 := by omega
          have x0 : wr.cell? ⟨w.heap.size + 1, p.1.toNat, none⟩ = some (.slice none 0 0) := (HD.out.cell _).trans (HRA.out.bare p.1 hne)
          have x1 : wr.cell? ⟨w.heap.size + 1, 256, none⟩ = some (.slice Av n cv) := (HD.out.cell _).trans HRA.out.last_
          obtain ⟨s1, hs1⟩ : ∃ s1, str [p.1] = s1 := ⟨_, rfl⟩
          have hs2 : s1.size = 1 := by rw [← hs1]; rfl
          have hs3 : s1[0]'(by omega) = p.1 := by subst hs1; rfl
          unfold sv at e0 e1
          rw [hs1] at e0
          have hcb := conv_byte wr p.1
          rw [hs1] at hcb
          have HS1 := Lib.hid hs1
          have HMK := Lib.hid hmk
          have HDR := Lib.hid hdrop
          have HNE := Lib.hid hne
          have HVB := Lib.hid hvb
          have HPL := Lib.hid hpl
          clear hu hu2 h1 h2 hp hdrop hne hmk hrw hvb hs1 hpl
          have heq : ∀ W : World, (binOp .eql 43 (.slice none 0 0) (.slice none 0 0)).run Tryz.prog W = .ok (.bool true) W := fun W => by kernel_rfl
          have hbl := HD.out.lt
          have hsz := HBW.out.size
          go_wp2_with (at_builtin; go_loud (refine wpList_append_row _ rfl _ _ 23 rfl w.heap.size 9 ti _ 1 16 Tryz.underlying23 hi hz0 hz1 hz2 rfl (by decide) (.slice Av n cv) n _ rfl ((HO1.out.alloc _).alloc _) (fun j => j = wr.heap.size + 1) (some ⟨wr.heap.size + 1, 0, none⟩) 1 1 [.string s1] rfl (by have h := Row.new (wr.alloc (.cells #[.int .u8 (p.1.toNat : Int)] 5)) 9 #[.string s1] 1 1 rfl; rw [World.size_alloc] at h; exact h) (by simp [Value.oneCell']) (by simp only [maxLen]; omega) (by omega) (by simp; omega) ?_); intro v3 w3 ho3 hg3 hat3; obtain ⟨A3, c3, rfl, _, _⟩ := own_slice ho3; have hb3 : Blk w3 (w.heap.size + 1) 155 Cc := (hg3.block _ (by simp; omega) (fun e => HVB.out e.symm)).trans ((HD.out.alloc _).alloc _); have x3 := (hb3.cell 256).trans HRA.out.last_; have f3 := hb3.frozen 256; obtain ⟨cc, w5, hcv, hcl, hb5, hr5, hs5⟩ := conv_str p.2 (w3.setCell ⟨w.heap.size + 1, 256, none⟩ (.slice A3 (n + 1) c3)); have hb4 := hb3.set_ 256 (.slice A3 (n + 1) c3); have hb6 := hb4.below hb5 hb4.lt; have x6 : w5.cell? ⟨w.heap.size + 1, p.1.toNat, none⟩ = some (.slice none 0 0) := (hb6.cell _).trans ((Array.getElem?_setIfInBounds_ne (by omega)).trans (HRA.out.bare p.1 HNE.out)); have f6 := hb6.frozen p.1.toNat; have HO3 := Lib.hid ho3; have HG3 := Lib.hid hg3; have HAT := Lib.hid hat3; have HB6 := Lib.hid hb6; have HB5 := Lib.hid hb5; have HR5 := Lib.hid hr5; have HS5 := Lib.hid hs5; have HCL := Lib.hid hcl; clear ho3 hg3 hat3 hb3 hb4 hb6 hb5 hr5 hs5 hcl x0 x1)
          go_roundw
          case rel =>
            have e4 : (w3.setCell ⟨w.heap.size + 1, 256, none⟩ (.slice A3 (n + 1) c3)).heap.size = w3.heap.size := by simp [World.setCell]
            have hr5 := HR5.out
            rw [e4] at hr5
            have hg3 := HG3.out
            have hs3 := hg3.size
            rw [World.size_alloc, World.size_alloc] at hs3
            have hat : ∀ k, (Value.slice A3 (n + 1) c3).ownBlock = some k → (Value.slice Av n cv).ownBlock = some k ∨ wr.heap.size ≤ k := fun k e => by
              rcases HAT.out with h | h
              · exact .inl (h.symm.trans e)
              · rw [h] at e
                injection e with e
                refine .inr ?_
                rw [← e, World.size_alloc, World.size_alloc]
                omega
            have hvb3 : (Value.slice A3 (n + 1) c3).ownBlock ≠ some (w.heap.size + 1) := fun e => by
              rcases hat _ e with h | h
              · exact HVB.out h
              · omega
            have hk1 : Keep (fun k => k = w.heap.size + 1 ∨ (Value.slice Av n cv).ownBlock = some k) wr (w5.setCell ⟨w.heap.size + 1, p.1.toNat, none⟩ (.slice (some ⟨w3.heap.size, 0, none⟩) p.2.length cc)) :=
              ((((((Keep.refl _ wr).alloc _).alloc _).grown hg3 (fun k e => .inl (.inr e))).setCell (p := ⟨w.heap.size + 1, 256, none⟩) (.inl (.inl rfl)) _).then_below HB5.out).setCell (p := ⟨w.heap.size + 1, p.1.toNat, none⟩) (.inl (.inl rfl)) _
            have hk2 : Keep (fun k => k = w.heap.size + 1) w3 (w5.setCell ⟨w.heap.size + 1, p.1.toNat, none⟩ (.slice (some ⟨w3.heap.size, 0, none⟩) p.2.length cc)) :=
              (((Keep.refl (fun k => k = w.heap.size + 1) w3).setCell (p := ⟨w.heap.size + 1, 256, none⟩) (.inl rfl) _).then_below HB5.out).setCell (p := ⟨w.heap.size + 1, p.1.toNat, none⟩) (.inl rfl) _
            refine ⟨m, _, .slice A3 (n + 1) c3, by omega, by congr 1; omega, HB6.out.set_ p.1.toNat _, ?_, ?_, ?_⟩
            · have hadd := RepAt.add (W5 := w5.setCell ⟨w.heap.size + 1, p.1.toNat, none⟩ (.slice (some ⟨w3.heap.size, 0, none⟩) p.2.length cc)) (v3 := .slice A3 (n + 1) c3) (g := w3.heap.size) (cc := cc) HRA.out HBW.out.size HNE.out hk1 (by omega) hbl
                (fun k e => ⟨fun h => by have := (HO3.out.lt _ e).2; omega, hat k e⟩) HCL.out (hr5.setCell (p := ⟨w.heap.size + 1, p.1.toNat, none⟩) (by simp only; omega) _) (by rw [HPL.out]; decide) (fun q hq => by rw [reps_len q (List.mem_of_mem_drop hq)]; decide)
              rw [← HDR.out] at hadd
              exact hadd
            · have ho4 := own_keep HO3.out hk2 (fun k e1 e2 => hvb3 (by rw [e1, e2]))
              have e5 : 4 - m = n + 1 := by omega
              have e6 : 3 - m = n := by omega
              show World.ownsRow _ _ _ _ _ _ _
              rw [HMK.out, e5, List.map_append, e6]
              show World.ownsRow _ _ _ _ _ _ (_ ++ [sv [p.1]])
              unfold sv at ho4 ⊢
              rw [HS1.out]
              exact ho4
            · exact HBW.out.trans (hk1.below (B := w.heap.size) HBW.out.size (fun i hi e => by
                rcases e with e | e
                · omega
                · have := (HO1.out.lt _ e).1; omega))
          case measure => simp [intOf]; omega
end Go.Proofs.YtgkiffodnofggaaGreatDoor
