/-
  ChunkScripts returns true on every run, where what it is given is of bulk at most 1048576: the bytes of every script, whether two are the same, and cutting are the document's.
-/
import Derived.Test.YtadnceiohgjdhaaRows
import Derived.Test.YtadnceiohgjdhaaRow
import Derived.Test.YtadnceiohgjdhaaScriptsWalk
namespace Go.Proofs.Ytadnceiohgjdhaa
namespace chunkScripts
open Go.ChangeShapes Go.WideShapes Go.ChangeAt Go.RowKit Go.Joins
set_option linter.unusedVariables false
theorem own : ownKnob Try.prog.godebug = none := by kernel_rfl
theorem laidOut : laidOutB Try.prog = true := by kernel_rfl
theorem cellsCuts : Try.prog.cellsOf 29 = 3 := by kernel_rfl

set_option maxRecDepth 100000 in
theorem contract (H : Type) (enc : TypeId × Value → H) (W : World) (base : Nat) (args : Array Value) (ds gs : List (DataW H)) (before : List MemPlace)
    (hval : ∀ (j : Nat) t v, Try.f4.params[j]? = some t → args[j]? = some v → Value.okWide Try.prog W .any base t v)
    (hW : DataW.Whole enc Try.prog Try.f4.params.toList Rows.chunkScriptsSpec.vars false W args.toList ds gs before) (hk : Rows.uptoSmall H (ds ++ gs) = true) :
    Calls Try.prog 4 args W fun e W' => ∃ v, e = .returned v ∧ Rows.chunkScriptsSpec.post enc Try.prog Try.f4 false true false false W args v W' := by
  have hW' := hW
  obtain ⟨p, q, hA0, hV, rfl, hfz, hnd⟩ := hW
  have hA : DataW.TrodAll enc Try.prog W 0 (fun _ => true) true Try.f4.params.toList args.toList ds p := hA0
  rw [Try.params4] at hA hval
  obtain ⟨v0, vs0, d0, ds0, p0, q0, hargs, rfl, rfl, h0, r0⟩ := trodAll_cons hA
  obtain ⟨v1, vs1, d1, ds1, p1, q1, rfl, rfl, rfl, h1, r1⟩ := trodAll_cons r0
  obtain ⟨v2, vs2, d2, ds2, p2, q2, rfl, rfl, rfl, h2, r2⟩ := trodAll_cons r1
  obtain ⟨rfl, rfl, rfl⟩ := trodAll_nil r2
  obtain rfl : args = #[v0, v1, v2] := by cases args; simp_all
  obtain ⟨rfl, rfl⟩ := trodVars_none hV
  clear hA0
  have hb := bulks.bound hk
  simp only [List.append_nil, Rows.uptoBulkAll] at hb
  obtain ⟨c0, c1, c2, y0, y1, y2, m, rfl, rfl, rfl, g0, g1, g2⟩ := open_agg3 Try.underlying29 (by kernel_rfl) cellsCuts (hval 2 29 v2 rfl rfl) h2
  obtain ⟨A, n, c, data, e0, hnc, _, hl0, hr0, hb0⟩ := open_bytes g0
  obtain ⟨B, k, d, cs, e1, _, _, hl1, hr1, hb1⟩ := open_nums g1
  obtain ⟨fail, e2, rfl⟩ := DataW.trod_bool Try.underlying4 g2
  injection e0 with e0 _
  injection e1 with e1 _
  injection e2 with e2 _
  subst e0 e1 e2
  simp only [Rows.uptoBulk, Rows.uptoBulkAll] at hb
  obtain ⟨a0, na, ca, rfl⟩ := okWide_slice Try.underlying25 (hval 0 25 v0 rfl rfl)
  obtain ⟨b0, nb, cb, rfl⟩ := okWide_slice Try.underlying25 (hval 1 25 v1 rfl rfl)
  obtain ⟨fu0, hf0⟩ := h0
  obtain ⟨fu1, hf1⟩ := h1
  obtain ⟨A0, n0, k0, L, x0, _, _, hS0, hB0⟩ := open_steps hf0 (by simp only; omega)
  obtain ⟨B0, n1, k1, M, x1, _, _, hS1, hB1⟩ := open_steps hf1 (by simp only; omega)
  have e3 : Value.slice a0 na ca = .slice A0 n0 k0 := by simpa [Value.cells] using x0
  have e4 : Value.slice b0 nb cb = .slice B0 n1 k1 := by simpa [Value.cells] using x1
  rw [e3, e4] at hW' ⊢
  simp only at hB0 hB1
  refine (chunkScripts_walk A0 B0 A B n0 k0 n1 k1 n c k d L M data cs fail W hS0 hS1 hr0 hr1 hnc (by omega) (by omega) (by omega) (by omega) (by omega) (by omega)).mono fun e W' ⟨he, hg⟩ => ?_
  subst he
  exact ⟨_, rfl, law_post laidOut (by kernel_rfl) rfl (by kernel_rfl) Try.underlying4 hW' rfl rfl rfl hg⟩

set_option maxRecDepth 100000 in
theorem lifted (os : Os) (started : os.Started) (H : Type) (enc : TypeId × Value → H) (F : Stop.Interp) :
    ReturnsInHanded {} Try.checked os 4 .any ((Rows.OpenSpec.upto Rows.chunkScriptsSpec).pre6 enc Try.prog Try.f4 Rows.chunkScriptsUptoRow.domain false) (((Rows.OpenSpec.upto Rows.chunkScriptsSpec).at F).post enc Try.prog Try.f4 false true false false) := by
  refine returnsInHanded_of_cond (C := Try.checked) (s := Rows.OpenSpec.upto Rows.chunkScriptsSpec) (k := Rows.uptoSmall) rfl own started (by kernel_rfl) Try.func4
    (OpenSpec.witness (enc := enc) (C := Try.checked) (s := Rows.OpenSpec.upto Rows.chunkScriptsSpec) (k := Rows.uptoSmall) rfl false ⟨#[], #[.slice none 0 0, .slice none 0 0, .agg #[.slice none 0 0, .slice none 0 0, .bool false]], []⟩ 8 (by kernel_rfl) (by kernel_rfl) (by kernel_rfl)
      (x := ([.nil, .nil, .agg [.nil, .nil, .lit (.bool false)]], [], [])) (by kernel_rfl) rfl (by kernel_rfl)) ?_
  intro W base args ds gs before hval hW _ hk _
  exact contract H enc W base args ds gs before hval hW hk

theorem over : Rows.chunkScriptsUptoRow.holds Try.pinned (Rows.OpenSpec.upto Rows.chunkScriptsSpec) :=
  OpenClaim.holds_of_cond 4 Try.f4 rfl rfl rfl rfl rfl rfl rfl ⟨rfl, rfl, rfl, rfl, rfl⟩ rfl rfl rfl rfl rfl (by kernel_rfl) Try.func4 (by kernel_rfl)
    (of_decide_eq_true (by kernel_rfl)) (by unfold Func.isWrapper; first | (rw [if_pos (by decide +kernel)]; kernel_rfl) | (rw [if_neg (by decide +kernel)]; exact ⟨rfl, rfl⟩))
    (fun os started H enc _ F => lifted os started H enc F)

theorem proved : Rows.ChunkScriptsUptoSaid :=
  over
#print axioms proved
end chunkScripts
end Go.Proofs.Ytadnceiohgjdhaa
