/-
  ChunkCuts returns true on every run, where what it is given is of bulk at most 1048576: what is cut is the data again, in one step more than there are cuts.
-/
import Derived.Test.YtadnceiohgjdhaaRows
import Derived.Test.YtadnceiohgjdhaaRow
import Derived.Test.YtadnceiohgjdhaaAwake
import Derived.Test.YtadnceiohgjdhaaSame
import Derived.Test.YtadnceiohgjdhaaOpenSteps
namespace Go.Proofs.Ytadnceiohgjdhaa
open Go.RowKit
set_option linter.unusedVariables false

/-! ## Plain -/
theorem cut_length (data : List UInt8) (cs : List Int) (fail : Bool) : (cut data cs fail).length = cs.length + 1 := by
  simp [cut, cutTo_length]
/-- What is sure to come of steps none of which fails. -/
def flat (L : List Stp) : List UInt8 := L.flatMap (·.1)
theorem bytesOf_flat (L : List Stp) (h : ∀ s ∈ L, s.2 = false) (d : List UInt8) (f : Bool) : bytesOf (L ++ [(d, f)]) = (flat L ++ d, f) := by
  induction L with
  | nil => cases f <;> simp [bytesOf, flat]
  | cons s L ih =>
    obtain ⟨x, g⟩ := s
    have hg : g = false := h (x, g) (by simp)
    subst hg
    have := ih fun s hs => h s (by simp [hs])
    simp [bytesOf, this, flat]
theorem cutTo_flat (data : List UInt8) (cs : List Int) : flat (cutTo data cs).1 ++ data.drop (cutTo data cs).2 = data ∧ ∀ s ∈ (cutTo data cs).1, s.2 = false := by
  induction h : cs.length generalizing cs with
  | zero =>
    have : cs = [] := List.eq_nil_of_length_eq_zero h
    subst this
    simp [cutTo, flat]
  | succ n ih =>
    rcases List.eq_nil_or_concat cs with rfl | ⟨l, c, rfl⟩
    · simp at h
    · rw [List.concat_eq_append] at h ⊢
      obtain ⟨h1, h2⟩ := ih l (by simpa using h)
      have hF := cutTo_le data l
      rw [cutTo_snoc]
      generalize cutTo data l = P at *
      obtain ⟨L0, F⟩ := P
      simp only [cutStep] at *
      generalize ht : (min (max c (F : Int)) (data.length : Int)).toNat = t
      have ht1 : F ≤ t := by omega
      have ht2 : t ≤ data.length := by omega
      constructor
      · conv => rhs; rw [← h1]
        simp only [flat, List.flatMap_append, List.append_assoc] at h1 ⊢
        congr 1
        simp only [List.flatMap_cons, List.flatMap_nil, List.append_nil]
        conv => rhs; rw [← List.take_append_drop (t - F) (data.drop F)]
        rw [List.drop_drop]
        congr 2
        omega
      · intro s hs
        rcases List.mem_append.1 hs with hs | hs
        · exact h2 s hs
        · simp at hs
          rw [hs]
theorem bytesOf_cut (data : List UInt8) (cs : List Int) (fail : Bool) : bytesOf (cut data cs fail) = (data, fail) := by
  obtain ⟨h1, h2⟩ := cutTo_flat data cs
  rw [cut, bytesOf_flat _ h2, h1]
theorem sameB_cut (data : List UInt8) (cs ds : List Int) (fail : Bool) : sameB (cut data cs fail) (cut data ds fail) = true := by
  unfold sameB
  rw [bytesOf_cut, bytesOf_cut]
  simp

set_option maxHeartbeats 4000000 in
set_option maxRecDepth 100000 in
theorem chunkCuts_walk (A B : Option Addr) (n c m d : Nat) (data : List UInt8) (cs : List Int) (fail : Bool) (w : World)
    (hd : Row (fun k => k < w.heap.size) w 1 A n (bv data)) (hc : Row (fun k => k < w.heap.size) w 1 B m (iv cs)) (hnc : n ≤ c) (hn : n ≤ 1048576) (hm : m ≤ 1048576) :
    Calls Try.prog 5 #[.agg #[.slice A n c, .slice B m d, .bool fail]] w fun e w' => e = .returned (.bool true) ∧ Below w.heap.size w w' := by
  have hdl : data.length = n := by have := hd.1; rw [bv_length] at this; omega
  have hcl : cs.length = m := by have := hc.1; rw [iv_length] at this; omega
  obtain ⟨L, hL⟩ : ∃ L, L = cut data cs fail := ⟨_, rfl⟩
  obtain ⟨M, hM⟩ : ∃ M, M = cut data [] fail := ⟨_, rfl⟩
  have hLb : bytesOf L = (data, fail) := by rw [hL]; exact bytesOf_cut _ _ _
  have hMb : bytesOf M = (data, fail) := by rw [hM]; exact bytesOf_cut _ _ _
  have hLl : L.length = m + 1 := by rw [hL, cut_length, hcl]
  have hMl : M.length = 1 := by rw [hM, cut_length]; rfl
  have hs : sameB L M = true := by rw [hL, hM]; exact sameB_cut _ _ _ _
  have c1 := fun (S : Nat → Prop) W h1 h2 => cut_any S A B n c m d data cs fail W h1 h2 hnc (by omega) (by omega)
  have c2 := fun (S : Nat → Prop) W h1 h2 => cut_any S A none n c 0 0 data [] fail W h1 h2 hnc (by omega) (by omega)
  have c3 := fun (S : Nat → Prop) A c W h => bytes_any S A (m + 1) c L W h (by rw [hLb]; simp only; omega) (by omega)
  have c4 := fun (S T : Nat → Prop) A B c d W h1 h2 => same_any S T A B (m + 1) c 1 d L M W h1 h2 (by rw [hLb]; simp only; omega) (by rw [hMb]; simp only; omega) (by omega) (by omega)
  rw [← hL] at c1
  rw [← hM] at c2
  rw [hLb, hdl] at c3
  rw [hs] at c4
  have C1 := Lib.hid c1
  have C2 := Lib.hid c2
  have C3 := Lib.hid c3
  have C4 := Lib.hid c4
  have HD := Lib.hid hd
  have HC := Lib.hid hc
  have HL := Lib.hid hLl
  have HM := Lib.hid hMl
  clear c1 c2 c3 c4 hd hc hdl hcl hLb hMb hLl hMl hs hL hM
  have hbx := Blk.new w 29 #[.slice A n c, .slice B m d, .bool fail]
  go_enter Try.func5, Try.ntmps5
  go_wp2_with fail
  refine (C1.out _ _ (HD.out.alloc _) (HC.out.alloc _)).mono ?_
  rintro e w1 ⟨v1, rfl, hos1, hb1⟩
  obtain ⟨A1, k1, hv1, _, _⟩ := hos1.form
  rw [HL.out] at hv1
  subst hv1
  have hs1 := hos1.steps
  have x1 := hbx.below hb1 hbx.lt
  have S1 := Lib.hid hs1
  have B1 := Lib.hid hb1
  have X1 := Lib.hid x1
  clear hos1 hs1 hb1 x1
  have a0 := X1.out.cell 0
  have a1 := X1.out.cell 1
  have a2 := X1.out.cell 2
  go_wp2_with fail
  refine (C3.out _ _ _ _ S1.out).mono ?_
  rintro e w2 ⟨v2, rfl, b2, rfl, hown2, hb2⟩
  obtain ⟨A2, k2, rfl, _, _⟩ := own_slice hown2
  have B2 := Lib.hid hb2
  have X2 := Lib.hid (X1.out.below hb2 X1.out.lt)
  clear hb2 a0 a1 a2
  have a0 := X2.out.cell 0
  have a1 := X2.out.cell 1
  have a2 := X2.out.cell 2
  go_wp2_with fail
  refine (C2.out (fun k => k < w.heap.size) _ ((HD.out.alloc _).behind B1.out |>.behind B2.out) Row.none_).mono ?_
  rintro e w3 ⟨v3, rfl, hos3, hb3⟩
  obtain ⟨A3, k3, hv3, _, _⟩ := hos3.form
  rw [HM.out] at hv3
  subst hv3
  have S3 := Lib.hid hos3.steps
  have X3 := Lib.hid (X2.out.below hb3 X2.out.lt)
  have B3 := Lib.hid hb3
  clear hos3 hb3 a0 a1 a2
  have a0 := X3.out.cell 0
  have a1 := X3.out.cell 1
  have a2 := X3.out.cell 2
  have q1 := conv_row (Row.of_own (own_behind hown2 B3.out)) k2
  have q2 := conv_row (((HD.out.alloc _).behind B1.out |>.behind B2.out).behind B3.out) c
  go_wp2_with (first
    | (go_at_call 19; refine (C4.out _ _ _ _ _ _ _ ((S1.out.behind B2.out).behind B3.out) S3.out).mono ?_; rintro e w4 ⟨rfl, hb4⟩)
    | (go_at_call 14; refine (awake_any _).mono ?_; rintro e w5 ⟨rfl, hb5⟩))
  go_ret
  refine ⟨rfl, ?_⟩
  have g1 := B1.out.size
  have g2 := B2.out.size
  have g3 := B3.out.size
  have g4 := hb4.size
  rw [World.size_alloc] at g1
  exact (((((Below.refl _ w).alloc (Nat.le_refl _) _).trans (B1.out.mono (by simp))).trans (B2.out.mono (by omega))).trans (B3.out.mono (by omega))).trans (hb4.mono (by omega)) |>.trans (hb5.mono (by omega))

namespace chunkCuts
open Go.ChangeShapes Go.WideShapes Go.ChangeAt Go.RowKit Go.Joins
theorem own : ownKnob Try.prog.godebug = none := by kernel_rfl
theorem laidOut : laidOutB Try.prog = true := by kernel_rfl
theorem cellsCuts : Try.prog.cellsOf 29 = 3 := by kernel_rfl

set_option maxRecDepth 100000 in
theorem contract (H : Type) (enc : TypeId × Value → H) (W : World) (base : Nat) (args : Array Value) (ds gs : List (DataW H)) (before : List MemPlace)
    (hval : ∀ (j : Nat) t v, Try.f5.params[j]? = some t → args[j]? = some v → Value.okWide Try.prog W .any base t v)
    (hW : DataW.Whole enc Try.prog Try.f5.params.toList Rows.chunkCutsSpec.vars false W args.toList ds gs before) (hk : Rows.uptoSmall H (ds ++ gs) = true) :
    Calls Try.prog 5 args W fun e W' => ∃ v, e = .returned v ∧ Rows.chunkCutsSpec.post enc Try.prog Try.f5 false true false false W args v W' := by
  have hW' := hW
  obtain ⟨p, q, hA0, hV, rfl, hfz, hnd⟩ := hW
  have hA : DataW.TrodAll enc Try.prog W 0 (fun _ => true) true Try.f5.params.toList args.toList ds p := hA0
  rw [Try.params5] at hA hval
  obtain ⟨v0, vs0, d0, ds0, p0, q0, hargs, rfl, rfl, h0, r0⟩ := trodAll_cons hA
  obtain ⟨rfl, rfl, rfl⟩ := trodAll_nil r0
  obtain rfl : args = #[v0] := by cases args; simp_all
  obtain ⟨rfl, rfl⟩ := trodVars_none hV
  clear hA0
  have hb := bulks.bound hk
  simp only [List.append_nil, Rows.uptoBulkAll] at hb
  obtain ⟨c0, c1, c2, y0, y1, y2, m, rfl, rfl, rfl, g0, g1, g2⟩ := open_agg3 Try.underlying29 (by kernel_rfl) cellsCuts (hval 0 29 v0 rfl rfl) h0
  obtain ⟨A, n, c, data, e0, hnc, _, hl0, hr0, hb0⟩ := open_bytes g0
  obtain ⟨B, k, d, cs, e1, _, _, hl1, hr1, hb1⟩ := open_nums g1
  obtain ⟨fail, e2, rfl⟩ := DataW.trod_bool Try.underlying4 g2
  injection e0 with e0 _
  injection e1 with e1 _
  injection e2 with e2 _
  subst e0 e1 e2
  simp only [Rows.uptoBulk, Rows.uptoBulkAll] at hb
  refine (chunkCuts_walk A B n c k d data cs fail W hr0 hr1 hnc (by omega) (by omega)).mono fun e W' ⟨he, hg⟩ => ?_
  subst he
  exact ⟨_, rfl, law_post laidOut (by kernel_rfl) rfl (by kernel_rfl) Try.underlying4 hW' rfl rfl rfl hg⟩

set_option maxRecDepth 100000 in
theorem lifted (os : Os) (started : os.Started) (H : Type) (enc : TypeId × Value → H) (F : Stop.Interp) :
    ReturnsInHanded {} Try.checked os 5 .any ((Rows.OpenSpec.upto Rows.chunkCutsSpec).pre6 enc Try.prog Try.f5 Rows.chunkCutsUptoRow.domain false) (((Rows.OpenSpec.upto Rows.chunkCutsSpec).at F).post enc Try.prog Try.f5 false true false false) := by
  refine returnsInHanded_of_cond (C := Try.checked) (s := Rows.OpenSpec.upto Rows.chunkCutsSpec) (k := Rows.uptoSmall) rfl own started (by kernel_rfl) Try.func5
    (OpenSpec.witness (enc := enc) (C := Try.checked) (s := Rows.OpenSpec.upto Rows.chunkCutsSpec) (k := Rows.uptoSmall) rfl false ⟨#[], #[.agg #[.slice none 0 0, .slice none 0 0, .bool false]], []⟩ 8 (by kernel_rfl) (by kernel_rfl) (by kernel_rfl)
      (x := ([.agg [.nil, .nil, .lit (.bool false)]], [], [])) (by kernel_rfl) rfl (by kernel_rfl)) ?_
  intro W base args ds gs before hval hW _ hk _
  exact contract H enc W base args ds gs before hval hW hk

theorem over : Rows.chunkCutsUptoRow.holds Try.pinned (Rows.OpenSpec.upto Rows.chunkCutsSpec) :=
  OpenClaim.holds_of_cond 5 Try.f5 rfl rfl rfl rfl rfl rfl rfl ⟨rfl, rfl, rfl, rfl, rfl⟩ rfl rfl rfl rfl rfl (by kernel_rfl) Try.func5 (by kernel_rfl)
    (of_decide_eq_true (by kernel_rfl)) (by unfold Func.isWrapper; first | (rw [if_pos (by decide +kernel)]; kernel_rfl) | (rw [if_neg (by decide +kernel)]; exact ⟨rfl, rfl⟩))
    (fun os started H enc _ F => lifted os started H enc F)

theorem proved : Rows.ChunkCutsUptoSaid :=
  over
#print axioms proved
end chunkCuts
end Go.Proofs.Ytadnceiohgjdhaa
