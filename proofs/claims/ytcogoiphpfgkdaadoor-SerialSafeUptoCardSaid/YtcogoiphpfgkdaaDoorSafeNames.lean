/-
  The law's raw and names: what their 'no' says.
-/
import Derived.Test.YtcogoiphpfgkdaaDoorSafePlain
import Derived.Test.YtcogoiphpfgkdaaDoorNodesAll
import Derived.Test.YtcogoiphpfgkdaaDoorEscape
namespace Go.Proofs.YtcogoiphpfgkdaaDoor
open Go.RowKit
set_option linter.unusedVariables false
set_option linter.unusedSimpArgs false

set_option maxHeartbeats 1000000 in
set_option maxRecDepth 100000 in
theorem plainRune_any (z : Int) (w : World) : Calls Tryd.prog 47 #[.int .i32 z] w fun e w' => (∃ y, e = .returned (.int .i32 y)) ∧ w = w' := by
  go_enter Tryd.func47, Tryd.ntmps47
  go_wp2
  all_goals
    go_ret
    exact ⟨⟨_, rfl⟩, rfl⟩

def RawAs (S : Nat → Prop) (L : List Nd) : Prop := ∀ (W : World) (A : Option Addr) (c : Nat), Ns S W A L.length L → (∀ k, S k → k < W.heap.size) →
  Calls Tryd.prog 26 #[.slice A L.length c] W fun e w' => (∃ b, e = .returned (.bool b) ∧ (b = false → rawFree L = true)) ∧ Below W.heap.size W w'

set_option maxHeartbeats 2000000 in
set_option maxRecDepth 100000 in
theorem raw_any (S : Nat → Prop) (L : List Nd) (hl : wt L ≤ 1048576) : RawAs S L := by
  induction L using nds_ind with
  | _ L IH =>
  intro W A c hN hS
  have hll := wt_length L
  have HIH := Lib.hid (fun d (h : d ∈ L) => IH d h (by have := wt_mem h; omega))
  have HN := Lib.hid hN
  have HS := Lib.hid (fun (W' : World) (h : W.heap.size ≤ W'.heap.size) (k : Nat) (hk : S k) => Nat.lt_of_lt_of_le (hS k hk) h)
  clear IH hN hS
  go_enter Tryd.func26, Tryd.ntmps26
  go_wp2
  go_loopw [7] (fun i wr => ∃ (k : Nat), k ≤ L.length ∧ i = .int .i64 k ∧ Hid (rawFree (L.take k) = true) ∧ Hid (Below W.heap.size W wr)) (fun i _ => L.length - (intOf i).toNat)
  case atStart => exact ⟨0, Nat.zero_le _, rfl, rawFree_nil, Below.refl _ _⟩
  case round =>
    obtain ⟨k, hk, rfl, HF, HB⟩ := hrel
    by_cases hlt : k < L.length
    · obtain ⟨x, hx⟩ : ∃ x, L[k]? = some x := ⟨L[k], List.getElem?_eq_getElem hlt⟩
      have hmem := List.mem_of_getElem? hx
      obtain ⟨ad, Aa, ca, Ak, ck, rfl, hsa, hsb, c0, c1, c2, c3, hra, hnk⟩ := (HN.out.behind HB.out).get hx
      have lb := HB.out.size
      have hbl := HS.out W (Nat.le_refl _) _ hsa
      have hbl2 := HS.out W (Nat.le_refl _) _ hsb
      have i1 : (0 : Int) ≤ (k : Int) := by omega
      have i2 : (k : Int) < (L.length : Int) := by omega
      have IHd := HIH.out x hmem
      have HNK := Lib.hid hnk
      have HID := Lib.hid IHd
      have HX := Lib.hid hx
      clear hx hmem hra hnk IHd
      obtain ⟨W1, hW1⟩ : ∃ W1, wr.alloc (.cells #[.string (str x.name), .string (str x.text), .slice Aa x.attrs.length ca, .slice Ak x.kids.length ck] 41) = W1 := ⟨_, rfl⟩
      have hb1 : Below wr.heap.size wr W1 := by rw [← hW1]; exact (Below.refl _ wr).alloc (Nat.le_refl _) _
      have y1 : Blk W1 wr.heap.size 41 #[.string (str x.name), .string (str x.text), .slice Aa x.attrs.length ca, .slice Ak x.kids.length ck] := by rw [← hW1]; exact Blk.new _ _ _
      have a0 := y1.cell 0
      have a3 := y1.cell 3
      simp only [List.getElem?_toArray, List.getElem?_cons_zero, List.getElem?_cons_succ] at a0 a3
      have y1l := y1.lt
      have B1 := Lib.hid (HB.out.trans (hb1.mono lb))
      have KK := Lib.hid (HID.out W1 Ak ck (HNK.out.behind hb1) (HS.out W1 B1.out.size))
      have hnew : x.name ∉ rawNames → rawFree x.kids = true → rawFree (L.take (k + 1)) = true := fun h1 h2 => by
        have e : L.take (k + 1) = L.take k ++ [x] := by rw [List.take_add_one, HX.out]; rfl
        have app : ∀ a b : List Nd, rawFree (a ++ b) = (rawFree a && rawFree b) := fun a b => by
          induction a with
          | nil => rw [List.nil_append, rawFree_nil, Bool.true_and]
          | cons d a ih => rw [List.cons_append, rawFree_cons, rawFree_cons, ih]; simp only [Bool.and_assoc]
        rw [e, app, HF.out, rawFree_cons, rawFree_nil, h2]
        simp [h1]
      have HNEW := Lib.hid hnew
      clear hb1 y1 hnew
      by_cases q1 : (x.name == [115, 116, 121, 108, 101]) = true
      · go_wp2
        go_ret
        exact ⟨⟨true, rfl, fun h => by cases h⟩, B1.out⟩
      replace q1 : (x.name == [115, 116, 121, 108, 101]) = false := Bool.eq_false_iff.2 q1
      by_cases q2 : (x.name == [115, 99, 114, 105, 112, 116]) = true
      · go_wp2
        go_ret
        exact ⟨⟨true, rfl, fun h => by cases h⟩, B1.out⟩
      replace q2 : (x.name == [115, 99, 114, 105, 112, 116]) = false := Bool.eq_false_iff.2 q2
      by_cases q3 : (x.name == [120, 109, 112]) = true
      · go_wp2
        go_ret
        exact ⟨⟨true, rfl, fun h => by cases h⟩, B1.out⟩
      replace q3 : (x.name == [120, 109, 112]) = false := Bool.eq_false_iff.2 q3
      by_cases q4 : (x.name == [105, 102, 114, 97, 109, 101]) = true
      · go_wp2
        go_ret
        exact ⟨⟨true, rfl, fun h => by cases h⟩, B1.out⟩
      replace q4 : (x.name == [105, 102, 114, 97, 109, 101]) = false := Bool.eq_false_iff.2 q4
      by_cases q5 : (x.name == [110, 111, 101, 109, 98, 101, 100]) = true
      · go_wp2
        go_ret
        exact ⟨⟨true, rfl, fun h => by cases h⟩, B1.out⟩
      replace q5 : (x.name == [110, 111, 101, 109, 98, 101, 100]) = false := Bool.eq_false_iff.2 q5
      by_cases q6 : (x.name == [110, 111, 102, 114, 97, 109, 101, 115]) = true
      · go_wp2
        go_ret
        exact ⟨⟨true, rfl, fun h => by cases h⟩, B1.out⟩
      replace q6 : (x.name == [110, 111, 102, 114, 97, 109, 101, 115]) = false := Bool.eq_false_iff.2 q6
      by_cases q7 : (x.name == [112, 108, 97, 105, 110, 116, 101, 120, 116]) = true
      · go_wp2
        go_ret
        exact ⟨⟨true, rfl, fun h => by cases h⟩, B1.out⟩
      replace q7 : (x.name == [112, 108, 97, 105, 110, 116, 101, 120, 116]) = false := Bool.eq_false_iff.2 q7
      by_cases q8 : (x.name == [110, 111, 115, 99, 114, 105, 112, 116]) = true
      · go_wp2
        go_ret
        exact ⟨⟨true, rfl, fun h => by cases h⟩, B1.out⟩
      replace q8 : (x.name == [110, 111, 115, 99, 114, 105, 112, 116]) = false := Bool.eq_false_iff.2 q8
      have hnr : x.name ∉ rawNames := by
        intro h
        simp only [rawNames, List.mem_cons, List.not_mem_nil, or_false] at h
        rcases h with h | h | h | h | h | h | h | h
        · rw [h] at q1; exact absurd q1 (by decide)
        · rw [h] at q2; exact absurd q2 (by decide)
        · rw [h] at q3; exact absurd q3 (by decide)
        · rw [h] at q4; exact absurd q4 (by decide)
        · rw [h] at q5; exact absurd q5 (by decide)
        · rw [h] at q6; exact absurd q6 (by decide)
        · rw [h] at q7; exact absurd q7 (by decide)
        · rw [h] at q8; exact absurd q8 (by decide)
      have HNR := Lib.hid hnr
      clear hnr
      go_wp2_with fail
      refine KK.out.mono ?_
      rintro e w2 ⟨⟨b, rfl, hb⟩, hb2⟩
      have B2 := Lib.hid (B1.out.trans (hb2.mono B1.out.size))
      have HBB := Lib.hid hb
      clear hb hb2
      cases b with
      | true =>
        go_wp2
        go_ret
        exact ⟨⟨true, rfl, fun h => by cases h⟩, B2.out⟩
      | false =>
        go_wp2
        go_roundw
        case rel => exact ⟨k + 1, by omega, by go_num, Lib.hid (HNEW.out HNR.out (HBB.out trivial)), B2⟩
        case measure => simp [intOf]; omega
    · have hkm : k = L.length := by omega
      subst hkm
      have hf := HF.out
      rw [List.take_length] at hf
      have HF2 := Lib.hid hf
      clear hf
      go_wp2
      go_ret
      exact ⟨⟨false, rfl, fun _ => HF2.out⟩, HB.out⟩

/-- One step of a range over a text. -/
theorem rns_step (l : List UInt8) (pos : Nat) (h : pos < l.length) : ∃ z u, Utf8.decode (str l) pos = (z, u) ∧ 1 ≤ u ∧ pos + u ≤ l.length ∧ rns (l.drop pos) = z :: rns (l.drop (pos + u)) := by
  cases hcr : l.drop pos with
  | nil => have := congrArg List.length hcr; rw [List.length_drop] at this; simp at this; omega
  | cons c r =>
    obtain ⟨h1, h2, _, _⟩ := dec_facts c r
    have hl : l.length - pos = r.length + 1 := by have := congrArg List.length hcr; rw [List.length_drop] at this; simpa using this
    refine ⟨(Lib.decodeL (c :: r)).1, (Lib.decodeL (c :: r)).2, ?_, h1, by omega, ?_⟩
    · have := Lib.decodeL_drop (str l) pos
      rw [show (str l).data.toList = l by simp [str], hcr] at this
      rw [← this]
    · rw [rns_cons, ← hcr, List.drop_drop]

def NamesAs (S : Nat → Prop) (L : List Nd) : Prop := ∀ (W : World) (A : Option Addr) (c : Nat), Ns S W A L.length L → (∀ k, S k → k < W.heap.size) →
  Calls Tryd.prog 27 #[.slice A L.length c] W fun e w' => (∃ b, e = .returned (.bool b) ∧ (b = false → namesB L = true)) ∧ Below W.heap.size W w'

set_option maxHeartbeats 4000000 in
set_option maxRecDepth 100000 in
theorem names_any (S : Nat → Prop) (L : List Nd) (hl : wt L ≤ 1048576) : NamesAs S L := by
  induction L using nds_ind with
  | _ L IH =>
  intro W A c hN hS
  have hll := wt_length L
  have HIH := Lib.hid (fun d (h : d ∈ L) => IH d h (by have := wt_mem h; omega))
  have HN := Lib.hid hN
  have HS := Lib.hid (fun (W' : World) (h : W.heap.size ≤ W'.heap.size) (k : Nat) (hk : S k) => Nat.lt_of_lt_of_le (hS k hk) h)
  clear IH hN hS
  go_enter Tryd.func27, Tryd.ntmps27
  go_wp2
  go_loopw [12] (fun i wr => ∃ (k : Nat), k ≤ L.length ∧ i = .int .i64 k ∧ Hid (namesB (L.take k) = true) ∧ Hid (Below W.heap.size W wr)) (fun i _ => L.length - (intOf i).toNat)
  case atStart => exact ⟨0, Nat.zero_le _, rfl, namesB_nil, Below.refl _ _⟩
  case round =>
    obtain ⟨k, hk, rfl, HF, HB⟩ := hrel
    by_cases hlt : k < L.length
    · obtain ⟨x, hx⟩ : ∃ x, L[k]? = some x := ⟨L[k], List.getElem?_eq_getElem hlt⟩
      have hmem := List.mem_of_getElem? hx
      obtain ⟨ad, Aa, ca, Ak, ck, rfl, hsa, hsb, c0, c1, c2, c3, hra, hnk⟩ := (HN.out.behind HB.out).get hx
      have lb := HB.out.size
      have hbl := HS.out W (Nat.le_refl _) _ hsa
      have hbl2 := HS.out W (Nat.le_refl _) _ hsb
      have i1 : (0 : Int) ≤ (k : Int) := by omega
      have i2 : (k : Int) < (L.length : Int) := by omega
      have hwx := wt_mem hmem
      have hal := awt_length x.attrs
      have IHd := HIH.out x hmem
      have HNK := Lib.hid hnk
      have HRA := Lib.hid hra
      have HID := Lib.hid IHd
      have HX := Lib.hid hx
      clear hx hmem hra hnk IHd
      have hnew : qB (nameText x.name x.attrs) = true → n60 (nameText x.name x.attrs) = 0 → namesB x.kids = true → namesB (L.take (k + 1)) = true := fun h0 h1 h2 => by
        have e : L.take (k + 1) = L.take k ++ [x] := by rw [List.take_add_one, HX.out]; rfl
        have app : ∀ a b : List Nd, namesB (a ++ b) = (namesB a && namesB b) := fun a b => by
          induction a with
          | nil => rw [List.nil_append, namesB_nil, Bool.true_and]
          | cons d a ih => rw [List.cons_append, namesB_cons, namesB_cons, ih]; simp only [Bool.and_assoc]
        rw [e, app, HF.out, namesB_cons, namesB_nil, h0, h1, h2]
        rfl
      have HNEW := Lib.hid hnew
      have hlen : ∀ j, (nameText x.name (x.attrs.take j)).length ≤ x.name.length + awt x.attrs := fun j => by
        have g : ∀ (bs : List At) (j : Nat), ((bs.take j).flatMap At.name).length ≤ awt bs := by
          intro bs
          induction bs with
          | nil => intro j; simp
          | cons a bs ih =>
            intro j
            cases j with
            | zero => simp
            | succ j =>
              have := ih j
              simp only [List.take_succ_cons, List.flatMap_cons, List.length_append, awt, List.map_cons, List.sum_cons] at this ⊢
              omega
        have := g x.attrs j
        unfold nameText
        rw [List.length_append]
        omega
      have HLEN := Lib.hid hlen
      clear hnew hlen
      go_wp2_with fail
      obtain ⟨W1, hW1⟩ : ∃ W1, wr.alloc (.cells #[.string (str x.name), .string (str x.text), .slice Aa x.attrs.length ca, .slice Ak x.kids.length ck] 41) = W1 := ⟨_, rfl⟩
      rw [hW1]
      have hb1 : Below wr.heap.size wr W1 := by rw [← hW1]; exact (Below.refl _ wr).alloc (Nat.le_refl _) _
      have y1 : Blk W1 wr.heap.size 41 #[.string (str x.name), .string (str x.text), .slice Aa x.attrs.length ca, .slice Ak x.kids.length ck] := by rw [← hW1]; exact Blk.new _ _ _
      have Y1 := Lib.hid y1
      have V1 := Lib.hid hb1
      have RA := Lib.hid (HRA.out.behind hb1)
      have NK := Lib.hid (HNK.out.behind hb1)
      have l1 := hb1.size
      have y1l := y1.lt
      clear hW1 hb1 y1 c0 c1 c2 c3 HRA HNK
      go_loopw [21, 5] (fun i s wr2 => ∃ (j : Nat), j ≤ x.attrs.length ∧ i = .int .i64 j ∧ s = .string (str (nameText x.name (x.attrs.take j))) ∧ Hid (Below W1.heap.size W1 wr2)) (fun i _ _ => x.attrs.length - (intOf i).toNat)
      case atStart => exact ⟨0, Nat.zero_le _, rfl, by simp [nameText], Below.refl _ _⟩
      case round =>
        obtain ⟨j, hj, rfl, rfl, HB2⟩ := hrel
        by_cases hjt : j < x.attrs.length
        · obtain ⟨a, ha⟩ : ∃ a, x.attrs[j]? = some a := ⟨x.attrs[j], List.getElem?_eq_getElem hjt⟩
          obtain ⟨ad2, rfl, hsa3, hsa4, d0, d1⟩ := (RA.out.behind HB2.out).walk atCells_length (by decide) rfl ha
          have e0 := d0 _ rfl
          have e1 := d1 0 _ rfl
          have j1 : (0 : Int) ≤ (j : Int) := by omega
          have j2 : (j : Int) < (x.attrs.length : Int) := by omega
          have lw2 := HB2.out.size
          have hbl3 := HS.out W1 (by omega) _ hsa3
          have hbl4 := HS.out W1 (by omega) _ hsa4
          have hlen := HLEN.out j
          have haw := awt_mem (List.mem_of_getElem? ha)
          obtain ⟨y, hy⟩ : ∃ y, nameText x.name (x.attrs.take j) = y := ⟨_, rfl⟩
          have hy2 : nameText x.name (x.attrs.take (j + 1)) = y ++ a.name := by
            rw [← hy]
            unfold nameText
            rw [List.take_add_one, ha]
            simp
          rw [hy] at hlen ⊢
          have ee : str y ++ str a.name = str (y ++ a.name) := str_append _ _
          have z1 : (str y).size ≤ 2097152 := by rw [str_size]; omega
          have z2 : (str a.name).size ≤ 2097152 := by rw [str_size]; omega
          obtain ⟨y3, hy3⟩ : ∃ y3, y ++ a.name = y3 := ⟨_, rfl⟩
          rw [hy3] at ee hy2
          have HY2 := Lib.hid hy2
          clear d0 d1 ha hy hy2 hy3 hlen haw
          go_wp2
          go_roundw
          case rel => exact ⟨j + 1, by omega, by go_num, by rw [HY2.out], HB2.out.alloc lw2 _⟩
          case measure => simp [intOf]; omega
        · have hkm : j = x.attrs.length := by omega
          subst hkm
          rw [List.take_length]
          have hlen := HLEN.out x.attrs.length
          rw [List.take_length] at hlen
          obtain ⟨wr2, hwr2⟩ : ∃ y, y = wr := ⟨_, rfl⟩
          subst hwr2
          obtain ⟨l, hlx⟩ : ∃ l, nameText x.name x.attrs = l := ⟨_, rfl⟩
          rw [hlx] at HNEW hlen ⊢
          have hsz := str_size l
          have B2 := Lib.hid (HB.out.trans (V1.out.mono lb) |>.trans (HB2.out.mono (by omega)))
          have Y2 := Lib.hid (Y1.out.below HB2.out y1l)
          have NK2 := Lib.hid (NK.out.behind HB2.out)
          have lw2 := HB2.out.size
          clear hlx HB2
          go_wp2_with fail
          obtain ⟨W3, hW3⟩ : ∃ W3, wr2.iter (str l) 0 = W3 := ⟨_, rfl⟩
          rw [hW3]
          have hit0 : W3.heap[wr2.heap.size]? = some (.stringIter (str l) 0) := by rw [← hW3]; simpa using World.iter_heap wr2 (str l) 0
          have hb3 : Below wr2.heap.size wr2 W3 := by rw [← hW3]; exact (Below.refl _ wr2).alloc (Nat.le_refl _) _
          have IT0 := Lib.hid hit0
          have V3 := Lib.hid hb3
          clear hW3 hit0 hb3
          go_loopw [] (fun wr3 => ∃ (pos : Nat) (done : List Nat), pos ≤ l.length ∧ Hid (wr3.heap[wr2.heap.size]? = some (.stringIter (str l) pos)) ∧ Hid (rns l = done ++ rns (l.drop pos) ∧ 60 ∉ done ∧ 160 ∉ done) ∧ Hid (Below wr2.heap.size wr2 wr3)) (fun wr3 => l.length - wr3.iterPos wr2.heap.size)
          case atStart => exact ⟨0, [], Nat.zero_le _, IT0, ⟨rfl, by simp, by simp⟩, V3⟩
          case round =>
            obtain ⟨pos, done, hpl, HI, HR, HV⟩ := hrel
            by_cases hpt : pos < l.length
            · obtain ⟨z, u, hdec, hu1, hu2, hrn⟩ := rns_step l pos hpt
              have hnx : ∀ ty, (Instr.next (.pointer (some ⟨wr2.heap.size, 0, none⟩)) true ty).run Tryd.prog wr = .ok (.tuple #[.bool true, .int .i64 pos, .int .i32 z]) (wr.iterAt wr2.heap.size (str l) (pos + u)) := fun ty => by
                have := Lib.run_next_any_at (P := Tryd.prog) wr wr2.heap.size (str l) pos ty HI.out (by rw [hsz]; omega)
                rw [hdec] at this
                exact this
              have hit2 := Lib.iterAt_heap wr wr2.heap.size (str l) pos (pos + u) HI.out
              have hw2 : Below wr2.heap.size wr2 (wr.iterAt wr2.heap.size (str l) (pos + u)) := by
                have hki : Keep (fun k => k = wr2.heap.size) wr (wr.iterAt wr2.heap.size (str l) (pos + u)) := ⟨rfl, rfl, rfl, by rw [Lib.iterAt_size]; exact Nat.le_refl _, fun k _ hk => Lib.iterAt_other wr _ k _ _ hk⟩
                exact HV.out.trans (hki.below HV.out.size (fun i hi e => by omega))
              have HMS := Lib.hid (show wr.iterPos wr2.heap.size = pos by simp [World.iterPos, HI.out])
              obtain ⟨W4, hW4⟩ : ∃ W4, wr.iterAt wr2.heap.size (str l) (pos + u) = W4 := ⟨_, rfl⟩
              rw [hW4] at hnx hit2 hw2
              have HI2 := Lib.hid hit2
              have HV2 := Lib.hid hw2
              have HRN := Lib.hid hrn
              have hmeas : W4.iterPos wr2.heap.size = pos + u := by simp [World.iterPos, hit2]
              have HM2 := Lib.hid hmeas
              have K1 := Lib.hid (plainRune_any (z : Int) W4)
              clear hW4 hit2 hw2 hdec hrn hmeas
              by_cases q0 : z = 60
              · have f0 : ((z : Int) == 60) = true := by rw [q0]; rfl
                go_wp2
                go_ret
                exact ⟨⟨true, rfl, fun h => by cases h⟩, B2.out.trans (HV2.out.mono B2.out.size)⟩
              · have f0 : ((z : Int) == 60) = false := by rw [beq_eq_false_iff_ne]; omega
                by_cases q1 : z = 160
                · have f1 : ((z : Int) == 160) = true := by rw [q1]; rfl
                  go_wp2
                  go_ret
                  exact ⟨⟨true, rfl, fun h => by cases h⟩, B2.out.trans (HV2.out.mono B2.out.size)⟩
                · have f1 : ((z : Int) == 160) = false := by rw [beq_eq_false_iff_ne]; omega
                  go_wp2_with fail
                  refine K1.out.mono ?_
                  rintro e w5 ⟨⟨y, rfl⟩, rfl⟩
                  cases hyz : (y != (z : Int)) with
                  | true =>
                    go_wp2
                    go_ret
                    exact ⟨⟨true, rfl, fun h => by cases h⟩, B2.out.trans (HV2.out.mono B2.out.size)⟩
                  | false =>
                    go_wp2
                    go_roundw
                    case rel =>
                      refine ⟨pos + u, done ++ [z], hu2, HI2, Lib.hid ⟨by rw [HR.out.1, HRN.out]; simp, ?_, ?_⟩, HV2⟩
                      · have := HR.out.2.1; simp [this]; omega
                      · have := HR.out.2.2; simp [this]; omega
                    case measure => rw [HMS.out, HM2.out]; omega
            · have hnx : ∀ ty, (Instr.next (.pointer (some ⟨wr2.heap.size, 0, none⟩)) true ty).run Tryd.prog wr = .ok (.tuple #[.bool false]) wr := fun ty => Lib.run_next_end_at (P := Tryd.prog) wr wr2.heap.size (str l) pos ty HI.out (by rw [hsz]; omega)
              have hq : qB l = true ∧ n60 l = 0 := by
                obtain ⟨r1, r2, r3⟩ := HR.out
                rw [List.drop_eq_nil_of_le (by omega), rns_nil, List.append_nil] at r1
                obtain ⟨g1, g2⟩ := rns_facts l
                rw [r1] at g1 g2
                refine ⟨?_, ?_⟩
                · cases hq : qB l with
                  | true => rfl
                  | false => exact absurd (g2.2 hq) r3
                · rw [← g1]; exact List.count_eq_zero.2 r2
              have HQ := Lib.hid hq
              have Y3 := (Y2.out.below HV.out Y2.out.lt)
              have a3 := Y3.cell 3
              simp only [List.getElem?_toArray, List.getElem?_cons_zero, List.getElem?_cons_succ] at a3
              have B3 := Lib.hid (B2.out.trans (HV.out.mono B2.out.size))
              have y3l := Y3.lt
              have KK := Lib.hid (HID.out wr Ak ck (NK2.out.behind HV.out) (HS.out wr B3.out.size))
              clear hq Y3
              go_wp2_with fail
              refine KK.out.mono ?_
              rintro e w6 ⟨⟨b, rfl, hb⟩, hb6⟩
              have B6 := Lib.hid (B3.out.trans (hb6.mono B3.out.size))
              have HBB := Lib.hid hb
              clear hb hb6
              cases b with
              | true =>
                go_wp2
                go_ret
                exact ⟨⟨true, rfl, fun h => by cases h⟩, B6.out⟩
              | false =>
                go_wp2
                go_roundw
                case rel => exact ⟨k + 1, by omega, by go_num, Lib.hid (HNEW.out HQ.out.1 HQ.out.2 (HBB.out trivial)), B6⟩
                case measure => simp [intOf]; omega
    · have hkm : k = L.length := by omega
      subst hkm
      have hf := HF.out
      rw [List.take_length] at hf
      have HF2 := Lib.hid hf
      clear hf
      go_wp2
      go_ret
      exact ⟨⟨false, rfl, fun _ => HF2.out⟩, HB.out⟩
end Go.Proofs.YtcogoiphpfgkdaaDoor
