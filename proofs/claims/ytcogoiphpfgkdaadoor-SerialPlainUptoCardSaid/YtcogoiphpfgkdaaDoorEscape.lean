/-
  Escaping, as plain data; the contract of the program's escape.
-/
import Derived.Test.YtcogoiphpfgkdaaDoorNodesAll
import Derived.Test.YtcogoiphpfgkdaaDoorBuilder
import Derived.Test.YtcogoiphpfgkdaaDoorRunesAll
import Derived.Lib.OthersKept
namespace Go.Proofs.YtcogoiphpfgkdaaDoor
open Go.RowKit
set_option linter.unusedVariables false
set_option linter.unusedSimpArgs false

/-- A rune, escaped. -/
def escR (attr : Bool) (r : Nat) : List UInt8 :=
  if r = 38 then [38, 97, 109, 112, 59] else if r = 160 then [38, 110, 98, 115, 112, 59] else if r = 60 then [38, 108, 116, 59] else if r = 62 then [38, 103, 116, 59]
  else if r = 34 ∧ attr = true then [38, 113, 117, 111, 116, 59] else Lib.encodeRune r
def escB (attr : Bool) (l : List UInt8) : List UInt8 := (runesOf l).flatMap (escR attr)
theorem encodeRune_le (r : Int) : (Lib.encodeRune r).length ≤ 4 := by
  have h := Lib.runeCells_le r
  rw [Lib.runeCells_length] at h
  exact h.2
theorem escR_le (attr : Bool) (r : Nat) : (escR attr r).length ≤ 6 := by
  unfold escR
  have := encodeRune_le r
  repeat' split
  all_goals (try simp)
  all_goals omega
theorem flatMap_le {f : Nat → List UInt8} (h : ∀ r, (f r).length ≤ 6) (l : List Nat) : (l.flatMap f).length ≤ 6 * l.length := by
  induction l with
  | nil => simp
  | cons x l ih => rw [List.flatMap_cons, List.length_append, List.length_cons]; have := h x; omega
theorem escB_le (attr : Bool) (l : List UInt8) : (escB attr l).length ≤ 6 * l.length := by
  have h := flatMap_le (escR_le attr) (runesOf l)
  have := runesOf_length l
  unfold escB
  omega

/-- What is left to be escaped from a place on. -/
def escFrom (attr : Bool) (at_ : Nat) (l : List UInt8) : List UInt8 := ((pieces at_ l).map (·.r)).flatMap (escR attr)
theorem escFrom_nil (attr : Bool) (at_ : Nat) : escFrom attr at_ [] = [] := by rw [escFrom, pieces_nil]; rfl
theorem escFrom_cons (attr : Bool) (at_ : Nat) (c : UInt8) (r : List UInt8) (hg : uLen c ≠ 0 ∧ uGood c r = uLen c) : escFrom attr at_ (c :: r) = escR attr (uVal c r) ++ escFrom attr (at_ + uLen c) (r.drop (uLen c - 1)) := by
  have hp : pcOf at_ c r = ⟨uVal c r, at_, uLen c, true⟩ := by rw [pcOf, if_pos hg]
  rw [escFrom, pieces_cons, hp]
  rfl
theorem rec_same {T : Nat → Prop} {W W' : World} {l : Nat} {o : Obj} (h : W.heap[l]? = some o) (hk : Keep T W W') (hl : ¬ T l) : W'.heap[l]? = some o := (hk.block l (lt_of_heap h) hl).trans h
theorem uVal_le (c : UInt8) (r : List UInt8) (l : List UInt8) (pos : Nat) (h : l.drop pos = c :: r) (hg : uLen c ≠ 0 ∧ uGood c r = uLen c) : uVal c r ≤ 2147483647 := by
  have h1 := decode_good l pos c r h hg
  have h2 := decode_le (str l) pos
  rw [h1] at h2
  exact h2

set_option maxHeartbeats 2000000 in
set_option maxRecDepth 100000 in
theorem escape_any (attr : Bool) (l : List UInt8) (w : World) (hv : validB l = true) (hn : l.length ≤ 1073741824) :
    Calls Tryd.prog 56 #[.agg #[.bool attr], .string (str l)] w fun e w' => e = .returned (.string (str (escB attr l))) ∧ Below w.heap.size w w' := by
  obtain ⟨R, hR⟩ : ∃ R, escB attr l = R := ⟨_, rfl⟩
  rw [hR]
  have hR0 : escFrom attr 0 l = R := hR
  obtain ⟨n, hln⟩ : ∃ n, l.length = n := ⟨_, rfl⟩
  have hsz : (str l).size = n := by rw [str_size, hln]
  rw [hln] at hn
  have HR := Lib.hid hR0
  have HV := Lib.hid hv
  have HL := Lib.hid hln
  clear hR hR0 hv hln
  go_enter Tryd.func56, Tryd.ntmps56
  go_wp2
  obtain ⟨W0, hW0⟩ : ∃ W0, ((w.alloc (.cells #[.bool attr] 85)).alloc (.cells #[.pointer none, .slice none 0 0] 68)).iter (str l) 0 = W0 := ⟨_, rfl⟩
  rw [hW0]
  have hit0 : W0.heap[w.heap.size + 1 + 1]? = some (.stringIter (str l) 0) := by
    rw [← hW0]
    have := World.iter_heap ((w.alloc (.cells #[.bool attr] 85)).alloc (.cells #[.pointer none, .slice none 0 0] 68)) (str l) 0
    simpa using this
  have hx0 : Blk W0 w.heap.size 85 #[.bool attr] := by rw [← hW0]; exact ((Blk.new w _ _).alloc _).alloc _
  have hb0 : Blk W0 (w.heap.size + 1) 68 #[.pointer none, .slice none 0 0] := by rw [← hW0]; exact (Blk.new_at _ _ (by simp)).alloc _
  have B0 : Below w.heap.size w W0 := by
    rw [← hW0]
    exact (((Below.refl _ w).alloc (Nat.le_refl _) _).alloc (by simp) _).alloc (by simp; omega) _
  clear hW0
  go_loopw [] (fun wr => ∃ (pos : Nat) (acc : List UInt8) (v : Value), pos ≤ n ∧ acc.length ≤ 6 * pos ∧ Hid (wr.heap[w.heap.size + 1 + 1]? = some (.stringIter (str l) pos)) ∧ Hid (Bld wr w.heap.size (w.heap.size + 1) v acc) ∧ Hid (Blk wr w.heap.size 85 #[.bool attr]) ∧
    Hid (Below w.heap.size w wr) ∧ Hid (validB (l.drop pos) = true) ∧ Hid (acc ++ escFrom attr pos (l.drop pos) = R)) (fun wr => n - wr.iterPos (w.heap.size + 1 + 1))
  case atStart => exact ⟨0, [], _, Nat.zero_le _, by simp, hit0, Bld.new hb0 _ (by omega), hx0, B0, HV.out, HR.out⟩
  case round =>
    clear hit0 hx0 hb0 B0
    obtain ⟨pos, acc, v, hp, hal, HI, HBd, HX, HW, HVd, HK⟩ := hrel
    have hsl := lt_of_heap HI.out
    by_cases hlt : pos < n
    · obtain ⟨c, r, hcr⟩ : ∃ c r, l.drop pos = c :: r := by
        have hlen := congrArg List.length (rfl : l.drop pos = l.drop pos)
        cases h : l.drop pos with
        | nil => have := congrArg List.length h; rw [List.length_drop, HL.out] at this; simp at this; omega
        | cons c r => exact ⟨c, r, rfl⟩
      have hv := HVd.out
      rw [hcr, validB_cons] at hv
      have hg : uLen c ≠ 0 ∧ uGood c r = uLen c := by
        by_cases h : uLen c ≠ 0 ∧ uGood c r = uLen c
        · exact h
        · rw [if_neg h] at hv; cases hv
      rw [if_pos hg] at hv
      have hdec := decode_good l pos c r hcr hg
      have hzl := uVal_le c r l pos hcr hg
      have hk := HK.out
      rw [hcr, escFrom_cons attr pos c r hg] at hk
      have hdr : r.drop (uLen c - 1) = l.drop (pos + uLen c) := by
        rw [← List.drop_drop, hcr]
        obtain ⟨j, hj⟩ : ∃ j, uLen c = j + 1 := ⟨uLen c - 1, by have := hg.1; omega⟩
        rw [hj]
        simp
      rw [hdr] at hv hk
      have hrl : uLen c ≤ 1 + r.length := by rw [← hg.2]; exact uGood_le c r
      have hlr : r.length + 1 + pos = n := by have := congrArg List.length hcr; rw [List.length_drop, HL.out, List.length_cons] at this; omega
      have hu1 : 1 ≤ uLen c := by have := hg.1; omega
      generalize uLen c = u at hdec hk hv hrl hu1
      generalize uVal c r = z at hdec hk hzl
      have HVn := Lib.hid hv
      have HKn := Lib.hid hk
      have hnx : ∀ ty, (Instr.next (.pointer (some ⟨w.heap.size + 1 + 1, 0, none⟩)) true ty).run Tryd.prog wr = .ok (.tuple #[.bool true, .int .i64 pos, .int .i32 z]) (wr.iterAt (w.heap.size + 1 + 1) (str l) (pos + u)) := fun ty => by
        have := Lib.run_next_any_at (P := Tryd.prog) wr (w.heap.size + 1 + 1) (str l) pos ty HI.out (by omega)
        rw [hdec] at this
        exact this
      have hki : Keep (fun k => k = w.heap.size + 1 + 1) wr (wr.iterAt (w.heap.size + 1 + 1) (str l) (pos + u)) := ⟨rfl, rfl, rfl, by rw [Lib.iterAt_size]; exact Nat.le_refl _, fun k _ hk => Lib.iterAt_other wr _ k _ _ hk⟩
      have hit2 := Lib.iterAt_heap wr (w.heap.size + 1 + 1) (str l) pos (pos + u) HI.out
      have hbd2 : Bld (wr.iterAt (w.heap.size + 1 + 1) (str l) (pos + u)) w.heap.size (w.heap.size + 1) v acc := HBd.out.keep hki (by omega) (fun k e1 e2 => ownF_not HBd.out.2.2.1 HI.out (fun cs fz e => by cases e) (by rw [e1, e2]))
      have hx2 := HX.out.keep hki (by omega)
      have hw2 : Below w.heap.size w (wr.iterAt (w.heap.size + 1 + 1) (str l) (pos + u)) := HW.out.trans (hki.below HW.out.size (fun i hi e => by omega))
      have hpos := HI.out
      have hmeas : wr.iterPos (w.heap.size + 1 + 1) = pos := by simp [World.iterPos, HI.out]
      clear hdr hv hk hcr hg hdec hki HI HBd HX HW HVd HK
      generalize wr.iterAt (w.heap.size + 1 + 1) (str l) (pos + u) = w2 at hnx hit2 hbd2 hx2 hw2
      have x0 := hx2.cell 0
      simp only [List.getElem?_toArray, List.getElem?_cons_zero] at x0
      have HI2 := Lib.hid hit2
      have HB2 := Lib.hid hbd2
      have HX2 := Lib.hid hx2
      have HW2 := Lib.hid hw2
      have HMS := Lib.hid hmeas
      clear hit2 hbd2 hx2 hw2 hpos hmeas
      have hpost : ∀ (s : List UInt8) (w3 : World), escR attr z = s → Keep (fun k => k = w.heap.size + 1 ∨ v.ownBlock = some k) w2 w3 → (∃ v', Bld w3 w.heap.size (w.heap.size + 1) v' (acc ++ s)) →
          (∃ (pos' : Nat) (acc' : List UInt8) (v' : Value), pos' ≤ n ∧ acc'.length ≤ 6 * pos' ∧ Hid (w3.heap[w.heap.size + 1 + 1]? = some (.stringIter (str l) pos')) ∧ Hid (Bld w3 w.heap.size (w.heap.size + 1) v' acc') ∧ Hid (Blk w3 w.heap.size 85 #[.bool attr]) ∧
            Hid (Below w.heap.size w w3) ∧ Hid (validB (l.drop pos') = true) ∧ Hid (acc' ++ escFrom attr pos' (l.drop pos') = R)) ∧ n - w3.iterPos (w.heap.size + 1 + 1) < n - pos := by
        rintro s w3 hs hk3 ⟨v', hb3⟩
        have hle := escR_le attr z
        rw [hs] at hle
        have ho := HB2.out.2.2.1
        have hn1 : ∀ k, v.ownBlock = some k → w.heap.size ≤ k := fun k e => (World.ownsRowF.lt ho k e).1
        have hit3 := rec_same HI2.out hk3 (by rintro (e | e) <;> first | omega | exact ownF_not ho HI2.out (fun cs fz e => by cases e) e)
        refine ⟨⟨pos + u, acc ++ s, v', by omega, by rw [List.length_append]; omega, hit3, hb3, ?_, ?_, HVn.out, ?_⟩, ?_⟩
        · refine HX2.out.keep hk3 ?_
          rintro (e | e)
          · omega
          · exact ownF_not ho HX2.out (fun cs fz e => by cases e) e
        · refine HW2.out.trans (hk3.below HW2.out.size (fun i hi e => ?_))
          rcases e with e | e
          · omega
          · have := hn1 i e; omega
        · show _ = R
          rw [← HKn.out, hs, List.append_assoc]
        · have : w3.iterPos (w.heap.size + 1 + 1) = pos + u := by simp [World.iterPos, hit3]
          omega
      have HP := Lib.hid hpost
      clear hpost
      by_cases q0 : z = 38
      · have f0 : ((z : Int) == 38) = true := by rw [q0]; rfl
        have k0 := writeString_any HB2.out [38, 97, 109, 112, 59] (by simp; omega)
        have k1 : Calls Tryd.prog 55 #[.pointer (some ⟨w.heap.size + 1, 0, none⟩), .string ⟨#[38, 97, 109, 112, 59]⟩] w2 _ := k0
        have K1 := Lib.hid k1
        clear k0 k1
        go_wp2_with (go_at_call 55; refine K1.out.mono ?_; rintro e w3 ⟨rfl, v3, hb3, hk3⟩)
        have hp3 := HP.out [38, 97, 109, 112, 59] w3 (by unfold escR; rw [if_pos q0]) hk3 ⟨v3, hb3⟩
        go_roundw
        case rel => exact hp3.1
        case measure => rw [HMS.out]; exact hp3.2
      · have f0 : ((z : Int) == 38) = false := by rw [beq_eq_false_iff_ne]; omega
        by_cases q1 : z = 160
        · have f1 : ((z : Int) == 160) = true := by rw [q1]; rfl
          have k0 := writeString_any HB2.out [38, 110, 98, 115, 112, 59] (by simp; omega)
          have k1 : Calls Tryd.prog 55 #[.pointer (some ⟨w.heap.size + 1, 0, none⟩), .string ⟨#[38, 110, 98, 115, 112, 59]⟩] w2 _ := k0
          have K1 := Lib.hid k1
          clear k0 k1
          go_wp2_with (go_at_call 55; refine K1.out.mono ?_; rintro e w3 ⟨rfl, v3, hb3, hk3⟩)
          have hp3 := HP.out [38, 110, 98, 115, 112, 59] w3 (by unfold escR; rw [if_neg q0]; rw [if_pos q1]) hk3 ⟨v3, hb3⟩
          go_roundw
          case rel => exact hp3.1
          case measure => rw [HMS.out]; exact hp3.2
        · have f1 : ((z : Int) == 160) = false := by rw [beq_eq_false_iff_ne]; omega
          by_cases q2 : z = 60
          · have f2 : ((z : Int) == 60) = true := by rw [q2]; rfl
            have k0 := writeString_any HB2.out [38, 108, 116, 59] (by simp; omega)
            have k1 : Calls Tryd.prog 55 #[.pointer (some ⟨w.heap.size + 1, 0, none⟩), .string ⟨#[38, 108, 116, 59]⟩] w2 _ := k0
            have K1 := Lib.hid k1
            clear k0 k1
            go_wp2_with (go_at_call 55; refine K1.out.mono ?_; rintro e w3 ⟨rfl, v3, hb3, hk3⟩)
            have hp3 := HP.out [38, 108, 116, 59] w3 (by unfold escR; rw [if_neg q0]; rw [if_neg q1]; rw [if_pos q2]) hk3 ⟨v3, hb3⟩
            go_roundw
            case rel => exact hp3.1
            case measure => rw [HMS.out]; exact hp3.2
          · have f2 : ((z : Int) == 60) = false := by rw [beq_eq_false_iff_ne]; omega
            by_cases q3 : z = 62
            · have f3 : ((z : Int) == 62) = true := by rw [q3]; rfl
              have k0 := writeString_any HB2.out [38, 103, 116, 59] (by simp; omega)
              have k1 : Calls Tryd.prog 55 #[.pointer (some ⟨w.heap.size + 1, 0, none⟩), .string ⟨#[38, 103, 116, 59]⟩] w2 _ := k0
              have K1 := Lib.hid k1
              clear k0 k1
              go_wp2_with (go_at_call 55; refine K1.out.mono ?_; rintro e w3 ⟨rfl, v3, hb3, hk3⟩)
              have hp3 := HP.out [38, 103, 116, 59] w3 (by unfold escR; rw [if_neg q0]; rw [if_neg q1]; rw [if_neg q2]; rw [if_pos q3]) hk3 ⟨v3, hb3⟩
              go_roundw
              case rel => exact hp3.1
              case measure => rw [HMS.out]; exact hp3.2
            · have f3 : ((z : Int) == 62) = false := by rw [beq_eq_false_iff_ne]; omega
              by_cases q4 : z = 34 ∧ attr = true
              · obtain ⟨q5, rfl⟩ := q4
                have f4 : ((z : Int) == 34) = true := by rw [q5]; rfl
                have k0 := writeString_any HB2.out [38, 113, 117, 111, 116, 59] (by simp; omega)
                have k1 : Calls Tryd.prog 55 #[.pointer (some ⟨w.heap.size + 1, 0, none⟩), .string ⟨#[38, 113, 117, 111, 116, 59]⟩] w2 _ := k0
                have K1 := Lib.hid k1
                clear k0 k1
                go_wp2_with (go_at_call 55; refine K1.out.mono ?_; rintro e w3 ⟨rfl, v3, hb3, hk3⟩)
                have hp3 := HP.out [38, 113, 117, 111, 116, 59] w3 (by unfold escR; rw [if_neg q0]; rw [if_neg q1]; rw [if_neg q2]; rw [if_neg q3]; rw [if_pos ⟨q5, rfl⟩]) hk3 ⟨v3, hb3⟩
                go_roundw
                case rel => exact hp3.1
                case measure => rw [HMS.out]; exact hp3.2
              · have k0 := writeRune_any HB2.out (z : Int) (by omega) (by omega) (by omega)
                have K1 := Lib.hid k0
                have hesc : escR attr z = Lib.encodeRune z := by unfold escR; rw [if_neg q0]; rw [if_neg q1]; rw [if_neg q2]; rw [if_neg q3]; rw [if_neg q4]
                have HE := Lib.hid hesc
                clear k0 hesc
                by_cases q5 : z = 34
                · have ha : attr = false := by cases attr with | false => rfl | true => exact absurd ⟨q5, rfl⟩ q4
                  subst ha
                  have f4 : ((z : Int) == 34) = true := by rw [q5]; rfl
                  clear q4 q5
                  go_wp2_with (go_at_call 81; refine K1.out.mono ?_; rintro e w3 ⟨⟨uu, rfl⟩, v3, hb3, hk3⟩)
                  have hp3 := HP.out _ w3 HE.out hk3 ⟨v3, hb3⟩
                  go_roundw
                  case rel => exact hp3.1
                  case measure => rw [HMS.out]; exact hp3.2
                · have f4 : ((z : Int) == 34) = false := by rw [beq_eq_false_iff_ne]; omega
                  clear q4
                  go_wp2_with (go_at_call 81; refine K1.out.mono ?_; rintro e w3 ⟨⟨uu, rfl⟩, v3, hb3, hk3⟩)
                  have hp3 := HP.out _ w3 HE.out hk3 ⟨v3, hb3⟩
                  go_roundw
                  case rel => exact hp3.1
                  case measure => rw [HMS.out]; exact hp3.2
    · have hfin : acc = R := by
        have := HK.out
        rw [List.drop_eq_nil_of_le (by rw [HL.out]; omega), escFrom_nil, List.append_nil] at this
        exact this
      have hnx : ∀ ty, (Instr.next (.pointer (some ⟨w.heap.size + 1 + 1, 0, none⟩)) true ty).run Tryd.prog wr = .ok (.tuple #[.bool false]) wr := fun ty => Lib.run_next_end_at (P := Tryd.prog) wr (w.heap.size + 1 + 1) (str l) pos ty HI.out (by omega)
      subst hfin
      have K1 := Lib.hid (builderString_any HBd.out)
      go_wp2_with (go_at_call 50; refine K1.out.mono ?_; rintro e w3 ⟨rfl, hb3⟩)
      go_ret
      exact ⟨rfl, HW.out.trans hb3⟩
end Go.Proofs.YtcogoiphpfgkdaaDoor
