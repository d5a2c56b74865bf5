/-
  ChunkSplits returns true on every run, where what it is given is of bulk at most 1048576: two scripts of the same bytes, asked the same through buffers of any sizes that allow it, answer the same.
-/
import Derived.Test.YtadnceiohgjdhaaRows
import Derived.Test.YtadnceiohgjdhaaRow
import Derived.Test.YtadnceiohgjdhaaLeave
import Derived.Test.YtadnceiohgjdhaaSplitsMain
import Derived.Test.YtadnceiohgjdhaaOpenActs
namespace Go.Proofs.Ytadnceiohgjdhaa
namespace chunkSplits
open Go.ChangeShapes Go.WideShapes Go.ChangeAt Go.RowKit Go.Joins
set_option linter.unusedVariables false
theorem own : ownKnob Try.prog.godebug = none := by kernel_rfl
theorem laidOut : laidOutB Try.prog = true := by kernel_rfl
theorem cellsCuts : Try.prog.cellsOf 29 = 3 := by kernel_rfl
theorem cellsPair : Try.prog.cellsOf 91 = 3 := by kernel_rfl

set_option maxRecDepth 100000 in
theorem contract (H : Type) (enc : TypeId × Value → H) (W : World) (base : Nat) (args : Array Value) (ds gs : List (DataW H)) (before : List MemPlace)
    (hval : ∀ (j : Nat) t v, Try.f12.params[j]? = some t → args[j]? = some v → Value.okWide Try.prog W .any base t v)
    (hW : DataW.Whole enc Try.prog Try.f12.params.toList Rows.chunkSplitsSpec.vars false W args.toList ds gs before) (hk : Rows.uptoSmall H (ds ++ gs) = true) :
    Calls Try.prog 12 args W fun e W' => ∃ v, e = .returned v ∧ Rows.chunkSplitsSpec.post enc Try.prog Try.f12 false true false false W args v W' := by
  have hW' := hW
  obtain ⟨p, q, hA0, hV, rfl, hfz, hnd⟩ := hW
  have hA : DataW.TrodAll enc Try.prog W 0 (fun _ => true) true Try.f12.params.toList args.toList ds p := hA0
  rw [Try.params12] at hA hval
  obtain ⟨v0, vs0, d0, ds0, p0, q0, hargs, rfl, rfl, h0, r0⟩ := trodAll_cons hA
  obtain ⟨v1, vs1, d1, ds1, p1, q1, rfl, rfl, rfl, h1, r1⟩ := trodAll_cons r0
  obtain ⟨v2, vs2, d2, ds2, p2, q2, rfl, rfl, rfl, h2, r2⟩ := trodAll_cons r1
  obtain ⟨rfl, rfl, rfl⟩ := trodAll_nil r2
  obtain rfl : args = #[v0, v1, v2] := by cases args; simp_all
  obtain ⟨rfl, rfl⟩ := trodVars_none hV
  clear hA0
  have hb := bulks.bound hk
  simp only [List.append_nil, Rows.uptoBulkAll] at hb
  obtain ⟨c0, c1, c2, y0, y1, y2, m0, rfl, rfl, rfl, g0, g1, g2⟩ := open_agg3 Try.underlying29 (by kernel_rfl) cellsCuts (hval 0 29 v0 rfl rfl) h0
  obtain ⟨A, n, ca, data, e0, hnc, _, hl0, hr0, hb0⟩ := open_bytes g0
  obtain ⟨B, m, cb, cs, e1, _, _, hl1, hr1, hb1⟩ := open_nums g1
  obtain ⟨fail, e2, rfl⟩ := DataW.trod_bool Try.underlying4 g2
  injection e0 with e0 _
  injection e1 with e1 _
  injection e2 with e2 _
  subst e0 e1 e2
  obtain ⟨b0, nb, xb, rfl⟩ := okWide_slice Try.underlying27 (hval 1 27 v1 rfl rfl)
  obtain ⟨fu1, hf1⟩ := h1
  obtain ⟨D, k, cd, dd, e3, _, _, hl3, hr3, hb3⟩ := open_nums hf1
  have e4 : Value.slice b0 nb xb = .slice D k cd := by simpa [Value.cells] using e3
  obtain ⟨t0, t1, t2, u0, u1, u2, m2, rfl, rfl, rfl, k0, k1, k2⟩ := open_agg3 Try.underlying91 (by kernel_rfl) cellsPair (hval 2 91 v2 rfl rfl) h2
  obtain ⟨z1, e5⟩ := dec_i64 Try.underlying3 _ _ _ k0
  obtain ⟨z2, e6⟩ := dec_i64 Try.underlying3 _ _ _ k1
  obtain ⟨E, j, ce, acts, e7, _, _, hr7, hb7⟩ := open_acts k2
  injection e5 with e5 _
  injection e6 with e6 _
  injection e7 with e7 _
  subst e5 e6 e7
  rw [e4] at hW' ⊢
  simp only [Rows.uptoBulk, Rows.uptoBulkAll] at hb
  simp only at hb3
  refine (chunkSplits_walk A B D E n ca m cb k cd j ce fail z1 z2 data cs dd acts W hr0 hr1 hr3 hr7 hnc (by omega) (by omega) (by omega) (by omega)).mono fun e W' ⟨he, hg⟩ => ?_
  subst he
  exact ⟨_, rfl, law_post laidOut (by kernel_rfl) rfl (by kernel_rfl) Try.underlying4 hW' rfl rfl rfl hg⟩

set_option maxRecDepth 100000 in
theorem lifted (os : Os) (started : os.Started) (H : Type) (enc : TypeId × Value → H) (F : Stop.Interp) :
    ReturnsInHanded {} Try.checked os 12 .any ((Rows.OpenSpec.upto Rows.chunkSplitsSpec).pre6 enc Try.prog Try.f12 Rows.chunkSplitsUptoRow.domain false) (((Rows.OpenSpec.upto Rows.chunkSplitsSpec).at F).post enc Try.prog Try.f12 false true false false) := by
  refine returnsInHanded_of_cond (C := Try.checked) (s := Rows.OpenSpec.upto Rows.chunkSplitsSpec) (k := Rows.uptoSmall) rfl own started (by kernel_rfl) Try.func12
    (OpenSpec.witness (enc := enc) (C := Try.checked) (s := Rows.OpenSpec.upto Rows.chunkSplitsSpec) (k := Rows.uptoSmall) rfl false ⟨#[], #[.agg #[.slice none 0 0, .slice none 0 0, .bool false], .slice none 0 0, .agg #[.int .i64 0, .int .i64 0, .slice none 0 0]], []⟩ 8 (by kernel_rfl) (by kernel_rfl) (by kernel_rfl)
      (x := ([.agg [.nil, .nil, .lit (.bool false)], .nil, .agg [.lit (.int .i64 0), .lit (.int .i64 0), .nil]], [], [])) (by kernel_rfl) rfl (by kernel_rfl)) ?_
  intro W base args ds gs before hval hW _ hk _
  exact contract H enc W base args ds gs before hval hW hk

theorem over : Rows.chunkSplitsUptoRow.holds Try.pinned (Rows.OpenSpec.upto Rows.chunkSplitsSpec) :=
  holds_leaving rfl (by kernel_rfl) (OpenClaim.holds_of_cond (c := { Rows.chunkSplitsUptoRow with leaving := false }) 12 Try.f12 rfl rfl rfl rfl rfl rfl rfl ⟨rfl, rfl, rfl, rfl, rfl⟩ rfl rfl rfl rfl rfl (by kernel_rfl) Try.func12 (by kernel_rfl)
    (of_decide_eq_true (by kernel_rfl)) (by unfold Func.isWrapper; first | (rw [if_pos (by decide +kernel)]; kernel_rfl) | (rw [if_neg (by decide +kernel)]; exact ⟨rfl, rfl⟩))
    (fun os started H enc _ F => lifted os started H enc F)) rfl rfl

theorem proved : Rows.ChunkSplitsUptoSaid :=
  over
#print axioms proved
end chunkSplits
end Go.Proofs.Ytadnceiohgjdhaa
