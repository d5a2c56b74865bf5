/-
  The program's paper: lined, nodes.
-/
import Derived.Test.YtcogoiphpfgkdaaDoorPaperText
import Derived.Test.YtcogoiphpfgkdaaDoorRaw
import Derived.Deep.CutRange
import Derived.Deep.CutBlock
namespace Go.Proofs.YtcogoiphpfgkdaaDoor
open Go.RowKit
set_option linter.unusedVariables false
set_option linter.unusedSimpArgs false

/-- Does an element end the line? -/
def linedB (nm : List UInt8) : Bool := decide (nm ∈ setNames6) || (decide (nm ∈ setNames14) && !(nm == [116, 100]) && !(nm == [116, 104]))
def oneL (kept : Bool) (nm tx : List UInt8) (kidsF : Bool → Ls → Ls) (s : Ls) : Ls :=
  if nm = [] then s.text kept (rns tx) else if nm = [98, 114] then s.fin else
    let s1 := if linedB nm = true then s.fin else if (nm = [116, 100] ∨ nm = [116, 104]) ∧ s.line ≠ [] then s.put 9 else s
    let s2 := if nm = [108, 105] then (⟨s1.told, s1.line, true⟩ : Ls) else s1
    let s3 := if nm ∈ rawNames then s2 else kidsF (kept || nm == [112, 114, 101] || nm == [116, 101, 120, 116, 97, 114, 101, 97]) s2
    let s4 := if linedB nm = true then s3.fin else s3
    if nm = [108, 105] then ⟨s4.told, s4.line, false⟩ else s4
def nodesL (L : List Nd) (kept : Bool) (s : Ls) : Ls :=
  match L with
  | [] => s
  | d :: rest => nodesL rest kept (oneL kept d.name d.text (fun k t => nodesL d.kids k t) s)
termination_by SizeOf.sizeOf L
decreasing_by
  · have := d.kids_lt
    simp
    omega
  · simp
    omega
theorem nodesL_nil (kept : Bool) (s : Ls) : nodesL [] kept s = s := by rw [nodesL]
theorem nodesL_cons (d : Nd) (rest : List Nd) (kept : Bool) (s : Ls) : nodesL (d :: rest) kept s = nodesL rest kept (oneL kept d.name d.text (fun k t => nodesL d.kids k t) s) := by rw [nodesL]
theorem rns_le (l : List UInt8) : (rns l).length ≤ l.length := by
  generalize hn : l.length = n
  induction n using Nat.strongRecOn generalizing l with
  | _ n ih =>
    cases l with
    | nil => simp [rns_nil]
    | cons c r =>
      obtain ⟨h1, h2, _, _⟩ := dec_facts c r
      rw [rns_cons]
      rw [List.length_cons] at hn
      have := ih _ (by rw [List.length_drop, List.length_cons]; omega) ((c :: r).drop (Lib.decodeL (c :: r)).2) rfl
      rw [List.length_drop, List.length_cons] at this
      simp only [List.length_cons]
      omega
theorem sz_text (kept : Bool) (rs : List Nat) : ∀ s : Ls, (s.text kept rs).sz ≤ s.sz + 15 * rs.length := by
  induction rs with
  | nil => intro s; simp [Ls.text]
  | cons r rs ih =>
    intro s
    have h1 := ih (s.step kept r)
    have h2 := sz_step kept s r
    rw [text_cons, List.length_cons]
    omega
theorem sz_mark (s : Ls) (m : Bool) : (⟨s.told, s.line, m⟩ : Ls).sz = s.sz := rfl
theorem sz_one (kept : Bool) (nm tx : List UInt8) (F : Bool → Ls → Ls) (n : Nat) (hF : ∀ k t, (F k t).sz ≤ t.sz + 15 * n) (s : Ls) : (oneL kept nm tx F s).sz ≤ s.sz + 15 * (1 + tx.length + n) := by
  unfold oneL
  have h1 := sz_text kept (rns tx) s
  have h2 := rns_le tx
  have h3 := sz_fin s
  have h4 := sz_put s 9
  split
  · omega
  split
  · omega
  simp only
  have g1 : (if linedB nm = true then s.fin else if (nm = [116, 100] ∨ nm = [116, 104]) ∧ s.line ≠ [] then s.put 9 else s).sz ≤ s.sz + 15 := by
    split
    · omega
    · split <;> omega
  generalize (if linedB nm = true then s.fin else if (nm = [116, 100] ∨ nm = [116, 104]) ∧ s.line ≠ [] then s.put 9 else s) = s1 at g1
  have g2 : (if nm = [108, 105] then (⟨s1.told, s1.line, true⟩ : Ls) else s1).sz = s1.sz := by split <;> rfl
  generalize (if nm = [108, 105] then (⟨s1.told, s1.line, true⟩ : Ls) else s1) = s2 at g2
  have g3 : (if nm ∈ rawNames then s2 else F (kept || nm == [112, 114, 101] || nm == [116, 101, 120, 116, 97, 114, 101, 97]) s2).sz ≤ s2.sz + 15 * n := by
    split
    · omega
    · exact hF _ _
  generalize (if nm ∈ rawNames then s2 else F (kept || nm == [112, 114, 101] || nm == [116, 101, 120, 116, 97, 114, 101, 97]) s2) = s3 at g3
  have g4 : (if linedB nm = true then s3.fin else s3).sz ≤ s3.sz := by
    have := sz_fin s3
    split <;> omega
  generalize (if linedB nm = true then s3.fin else s3) = s4 at g4
  split
  · rw [sz_mark]; omega
  · omega
theorem sz_nodes (L : List Nd) : ∀ (kept : Bool) (s : Ls), (nodesL L kept s).sz ≤ s.sz + 15 * wt L := by
  induction L using nds_ind with
  | _ L IH =>
  induction L with
  | nil => intro kept s; rw [nodesL_nil]; omega
  | cons d rest ih =>
    intro kept s
    have h1 := sz_one kept d.name d.text (fun k t => nodesL d.kids k t) (wt d.kids) (fun k t => IH d (by simp) k t) s
    have h2 := ih (fun y hy => IH y (by simp [hy])) kept (oneL kept d.name d.text (fun k t => nodesL d.kids k t) s)
    rw [nodesL_cons, wt_cons]
    omega

set_option maxHeartbeats 1000000 in
set_option maxRecDepth 100000 in
theorem lined_any (nm : List UInt8) (w : World) (hT : Tab w) : Calls Tryd.prog 69 #[.string (str nm)] w fun e w' => e = .returned (.bool (linedB nm)) ∧ Below w.heap.size w w' := by
  have K6 := Lib.hid (in6_any nm w hT)
  have K14 := Lib.hid (fun W (h : Below w.heap.size w W) => in14_any nm W (hT.behind h))
  unfold linedB
  obtain ⟨b6, h6⟩ : ∃ b, decide (nm ∈ setNames6) = b := ⟨_, rfl⟩
  obtain ⟨b14, h14⟩ : ∃ b, decide (nm ∈ setNames14) = b := ⟨_, rfl⟩
  rw [h6] at K6 ⊢
  rw [h14] at K14 ⊢
  obtain ⟨t1, ht1⟩ : ∃ b, (nm == [116, 100]) = b := ⟨_, rfl⟩
  obtain ⟨t2, ht2⟩ : ∃ b, (nm == [116, 104]) = b := ⟨_, rfl⟩
  have hn1 : (nm != [116, 100]) = !t1 := by rw [bne, ht1]
  have hn2 : (nm != [116, 104]) = !t2 := by rw [bne, ht2]
  rw [ht1, ht2]
  clear hT h6 h14
  go_enter Tryd.func69, Tryd.ntmps69
  go_wp2_with fail
  refine K6.out.mono ?_
  rintro e w1 ⟨rfl, hb1⟩
  cases b6 with
  | true =>
    go_wp2
    go_ret
    exact ⟨rfl, hb1⟩
  | false =>
    have B1 := Lib.hid hb1
    clear hb1
    go_wp2_with fail
    refine (K14.out w1 B1.out).mono ?_
    rintro e w2 ⟨rfl, hb2⟩
    have B2 := Lib.hid (B1.out.trans (hb2.mono B1.out.size))
    clear hb2
    cases b14 with
    | false =>
      go_wp2
      go_ret
      exact ⟨rfl, B2.out⟩
    | true =>
      cases t1 with
      | true =>
        go_wp2
        go_ret
        exact ⟨rfl, B2.out⟩
      | false =>
        cases t2 with
        | true =>
          go_wp2
          go_ret
          exact ⟨rfl, B2.out⟩
        | false =>
          go_wp2
          go_ret
          exact ⟨rfl, B2.out⟩
end Go.Proofs.YtcogoiphpfgkdaaDoor
