/-
  A source's All: the function value, as an iterator that keeps its source in memory.
-/
import Derived.Test.YtadnceiohgjdhaaReadGives
import Derived.Test.YtadnceiohgjdhaaPull
import Derived.Test.YtadnceiohgjdhaaNones
import Derived.Test.YtadnceiohgjdhaaRangeOpen
import Derived.RangeFuncBound
import Derived.OwnWalkIn
import Derived.TacticsInMore
import Derived.LoopIn
namespace Go.Proofs.Ytadnceiohgjdhaa
open Go.RowKit
set_option linter.unusedVariables false
set_option linter.unusedSimpArgs false
attribute [local go_sem] Oper.semAt_some

/-- A read of whatever length. -/
def Src.readI (s : Src) (n : Int) : (List UInt8 × Int) × Src := if n < 1 then (([], 1), s) else s.read n.toNat
/-- How much is left to be read. -/
def Src.meas (s : Src) : Nat := (s.L.length - s.step) + (total s.L - s.told)
theorem Src.readI_facts {s : Src} (h : s.ok) {n e : Int} {bs : List UInt8} {s' : Src} (hr : s.readI n = ((bs, e), s')) : s'.ok ∧ s'.L = s.L ∧ (e = 0 → s'.meas < s.meas) := by
  unfold Src.readI at hr
  by_cases hn : n < 1
  · rw [if_pos hn] at hr
    injection hr with h1 h2
    injection h1 with h1 h3
    subst h2 h3
    exact ⟨h, rfl, fun e => by omega⟩
  · rw [if_neg hn] at hr
    obtain ⟨x, rfl⟩ : ∃ x : Nat, n = x := ⟨n.toNat, by omega⟩
    simp only [Int.toNat_natCast] at hr
    have hL := Src.read_L (s := s) x
    have hok := Src.read_ok h x
    have ht := Src.told_total hok
    rw [hr] at hL hok ht
    simp only at hL hok ht
    refine ⟨hok, hL, fun he => ?_⟩
    subst he
    have h2 := hok
    obtain ⟨k1, k2, k3, k4, k5, k6⟩ := h
    cases hd : s.L[s.step]? with
    | none => simp [Src.read, hd] at hr
    | some y =>
      obtain ⟨d, f⟩ := y
      have hlt : s.step < s.L.length := (List.getElem?_eq_some_iff.1 hd).1
      have hfl := k2 d f hd
      by_cases c1 : f = true ∧ s.frm = d.length
      · simp [Src.read, hd, c1] at hr
      · by_cases c2 : s.frm + min x (d.length - s.frm) = d.length ∧ f = false
        · obtain ⟨c2, rfl⟩ := c2
          rw [Src.read_next hd rfl c2] at hr
          injection hr with _ h5
          subst h5
          simp only [Src.meas]
          simp only at ht
          omega
        · rw [Src.read_on hd c1 rfl c2] at hr
          injection hr with _ h5
          subst h5
          simp only [Src.meas]
          simp only at ht
          have hm : 0 < min x (d.length - s.frm) := by
            rcases Nat.eq_zero_or_pos (min x (d.length - s.frm)) with h0 | h0
            · exfalso
              have : s.frm = d.length := by omega
              cases f with
              | false => exact c2 ⟨by omega, rfl⟩
              | true => exact c1 ⟨rfl, this⟩
            · exact h0
          omega

/-- What a read hands over. -/
structure ReadTo (S : Nat → Prop) (g : Nat) (n : Int) (s : Src) (w : World) (bs : List UInt8) (e : Int) (s' : Src) (A : Option Addr) (c : Nat) (w' : World) : Prop where
  eq : s.readI n = ((bs, e), s')
  own : w'.ownsRow w.heap.size 5 1 (.slice A bs.length c) bs.length (bv bs)
  src : IsSrc S w' g s'
  keep : Keep (fun k => k = g) w w'
theorem srcReadI_any {S : Nat → Prop} {w : World} {g : Nat} {s : Src} (n : Int) (h : IsSrc S w g s) :
    Calls Try.prog 28 #[.pointer (some ⟨g, 0, none⟩), .int .i64 n] w fun r w' => ∃ bs e s' A c, r = .returned (.tuple #[.slice A bs.length c, .int .i64 e]) ∧ ReadTo S g n s w bs e s' A c w' := by
  by_cases hn : n < 1
  · refine (srcRead_few n h hn).mono ?_
    rintro e w' ⟨rfl, rfl⟩
    exact ⟨[], 1, s, none, 0, rfl, by rw [Src.readI, if_pos hn], World.ownsRow_nil _ _ _ _, h, Keep.refl _ _⟩
  · obtain ⟨x, rfl⟩ : ∃ x : Nat, n = x := ⟨n.toNat, by omega⟩
    obtain ⟨bs, er, s', hrd⟩ : ∃ bs er s', s.read x = ((bs, er), s') := ⟨_, _, _, rfl⟩
    refine (srcRead_any x h (by omega)).mono ?_
    rintro e w' ⟨v, rfl, h8⟩
    obtain ⟨A8, c8, rfl, ho8, hs8, hk8⟩ := h8.at_ hrd
    exact ⟨bs, er, s', A8, c8, rfl, by rw [Src.readI, if_neg hn]; simpa using hrd, ho8, hs8, hk8⟩

abbrev Told := (Option Addr × List UInt8 × Nat) × Int
def toldArgs (x : Told) : Array Value := #[.slice x.1.1 x.1.2.1.length x.1.2.2, .int .i64 x.2]

/-- What the iterator asks of the loop's words. -/
structure AllWords (B : World) (S : Nat → Prop) (g bA bN : Nat) (n : Int) (L : List Stp) (I : Src × Int → World → Prop) (Y : Src × Int → Told → World → Prop) : Prop where
  src : ∀ s e W, I (s, e) W → IsSrc S W g s ∧ s.L = L ∧ W.cell? ⟨bA, 0, none⟩ = some (.pointer (some ⟨g, 0, none⟩)) ∧ W.cell? ⟨bN, 0, none⟩ = some (.int .i64 n)
  step : ∀ s W bs e s' A c W', I (s, 0) W → ReadTo S g n s W bs e s' A c W' → Y (s', e) ((A, bs, c), e) W'
  lt : g < B.heap.size

theorem srcStep {S : Nat → Prop} {w : World} {g : Nat} {s : Src} (h : IsSrc S w g s) : w.cell? ⟨g, 1, none⟩ = some (.int .i64 s.step) ∧ w.cell? ⟨g, 3, none⟩ = some (.int .i64 s.told) ∧ s.ok := by
  obtain ⟨A, c, h1, _, _, h2⟩ := h
  exact ⟨h1.cell 1, h1.cell 3, h2⟩

set_option maxHeartbeats 8000000 in
set_option maxRecDepth 100000 in
theorem srcAll1_open {B : World} {S : Nat → Prop} {g bA bN : Nat} {n : Int} {L : List Stp} {I Ix : Src × Int → World → Prop} {Y : Src × Int → Told → World → Prop} (hw : AllWords B S g bA bN n L I Y) (s0 : Src) :
    IterOpen Try.prog 48 #[.pointer (some ⟨bA, 0, none⟩), .pointer (some ⟨bN, 0, none⟩)] toldArgs B I Ix Y (fun s => s.2 ≠ 0) (s0, 0) := by
  intro l K Kx W hK hB h0 hk0 hR
  have HW := Lib.hid hw
  have HK := Lib.hid hK
  have HI := Lib.hid h0
  have HK0 := Lib.hid hk0
  have HR := Lib.hid hR
  obtain ⟨hs, hL, ca, cn⟩ := hw.src _ _ _ h0
  have HS := Lib.hid hs
  clear hw hK h0 hk0 hR hB hs hL
  refine callsIn_of_wp Try.func48 rfl trivial ?_ rfl
  simp only [Try.ntmps48, List.size_toArray, List.length_cons, List.length_nil, Nat.reduceAdd, Nat.reduceSub, Array.replicate_succ, Array.replicate_zero, List.push_toArray, List.append_toArray, List.nil_append, List.cons_append]
  gi_wp2_with ((try refine ⟨trivial, ?_⟩); gi_at_call 46; refine (callsIn_wide.2 (srcIs_any HS.out)).mono ?_; rintro e w1 ⟨rfl, rfl⟩)
  clear ca cn HS
  gi_loopw [] (fun wr => ∃ s : Src, Hid (I (s, 0) wr) ∧ Hid (K wr)) (fun wr => (L.length - cellNum wr ⟨g, 1, none⟩) + (total L - cellNum wr ⟨g, 3, none⟩))
  case atStart => exact ⟨s0, HI.out, HK0.out⟩
  case round =>
    obtain ⟨s, HJ, HKr⟩ := hrel
    obtain ⟨hs, hL, ca, cn⟩ := HW.out.src _ _ _ HJ.out
    obtain ⟨f1, f3, hok⟩ := srcStep hs
    have HS := Lib.hid hs
    have HM := Lib.hid (show (L.length - cellNum wr ⟨g, 1, none⟩) + (total L - cellNum wr ⟨g, 3, none⟩) = s.meas by rw [cellNum_of f1, cellNum_of f3, ← hL]; rfl)
    have HL := Lib.hid hL
    have HO := Lib.hid hok
    clear hs f1 f3 hL hok
    gi_wp2_with fail
    refine ⟨trivial, ?_⟩
    gi_at_call 28
    refine (callsIn_wide.2 (srcReadI_any n HS.out)).mono ?_
    rintro r w1 ⟨bs, e, s', A, c, rfl, ht⟩
    have HKs := Lib.hid (HK.out _ _ HKr.out (ht.keep.mono (fun i hi h1 => by subst h1; exact HW.out.lt)))
    obtain ⟨fn, tmps, assign, body, hy, hRd⟩ := HR.out _ _ _ (HW.out.step s wr bs e s' A c w1 HJ.out ht) HKs.out
    have HF := Lib.hid (Src.readI_facts HO.out ht.eq)
    clear ht HKr HJ ca cn HS
    have HRd := Lib.hid hRd
    clear hRd
    simp only [toldArgs] at hy
    gi_wp2_with fail
    refine HRd.out.mono ?_
    rintro r2 w3 (⟨rfl, hI3, hK3⟩ | ⟨rfl, hX, hKx⟩)
    · have J3 := Lib.hid hI3
      have K3 := Lib.hid hK3
      clear hI3 hK3 hy HRd
      by_cases he : e = 0
      · subst he
        gi_wp2
        go_roundw
        case rel => exact ⟨s', J3.out, K3.out⟩
        case measure =>
          obtain ⟨hs, hL, _, _⟩ := HW.out.src _ _ _ J3.out
          obtain ⟨f1, f3, _⟩ := srcStep hs
          have := HF.out.2.2 (by simp)
          show _ < _
          rw [HM.out, cellNum_of f1, cellNum_of f3, ← hL]
          exact this
      · have q0 : (e != 0) = true := by simpa using he
        have q1 : (e == 0) = false := by simpa using he
        gi_wp2
        (try simp only [Exit.inBlock, Exit.then])
        refine bodyPost_ret (results_none rfl _ _ _) rfl ?_
        exact ⟨⟨_, rfl⟩, .inl ⟨(s', e), he, J3.out, K3.out⟩⟩
    · have X3 := Lib.hid hX
      have K3 := Lib.hid hKx
      clear hX hKx hy HRd
      gi_wp2
      (try simp only [Exit.inBlock, Exit.then])
      refine bodyPost_ret (results_none rfl _ _ _) rfl ?_
      exact ⟨⟨_, rfl⟩, .inr ⟨(s', e), X3.out, K3.out⟩⟩
end Go.Proofs.Ytadnceiohgjdhaa
