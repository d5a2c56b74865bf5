/-
  The contracts of the program's sources: is, end, Told, Over, Read.
-/
import Derived.Test.YtadnceiohgjdhaaSource
import Derived.Deep.QuietTactic
import Derived.BigQuiet
namespace Go.Proofs.Ytadnceiohgjdhaa
open Go.RowKit
set_option linter.unusedVariables false

/-! ## Plain -/
/-- The error that stands at the place, 0: none. -/
def Src.endOf (s : Src) : Int :=
  match s.L[s.step]? with
  | none => 21
  | some (d, f) => if f = true ∧ s.frm = d.length then 20 else 0
/-- One read of at most n bytes: what it tells, and the source behind it. -/
def Src.read (s : Src) (n : Nat) : (List UInt8 × Int) × Src :=
  match s.L[s.step]? with
  | none => (([], 21), s)
  | some (d, f) =>
    if f = true ∧ s.frm = d.length then (([], 20), s)
    else if s.frm + min n (d.length - s.frm) = d.length ∧ f = false then (((d.drop s.frm).take (min n (d.length - s.frm)), 0), ⟨s.L, s.step + 1, 0, s.told + min n (d.length - s.frm)⟩)
    else (((d.drop s.frm).take (min n (d.length - s.frm)), 0), ⟨s.L, s.step, s.frm + min n (d.length - s.frm), s.told + min n (d.length - s.frm)⟩)

theorem Src.at_end {s : Src} (h : s.ok) (hs : s.step = s.L.length) (n : Nat) : s.endOf = 21 ∧ s.read n = (([], 21), s) := by
  have : s.L[s.step]? = none := List.getElem?_eq_none (by omega)
  simp [Src.endOf, Src.read, this]
theorem Src.at_fail {s : Src} {d : List UInt8} (hd : s.L[s.step]? = some (d, true)) (hf : s.frm = d.length) (n : Nat) : s.endOf = 20 ∧ s.read n = (([], 20), s) := by
  simp [Src.endOf, Src.read, hd, hf]
theorem Src.endOf_no {s : Src} {d : List UInt8} {f : Bool} (hd : s.L[s.step]? = some (d, f)) (h : ¬ (f = true ∧ s.frm = d.length)) : s.endOf = 0 := by
  simp only [Src.endOf, hd]
  rw [if_neg h]
theorem Src.read_next {s : Src} {d : List UInt8} {n k : Nat} (hd : s.L[s.step]? = some (d, false)) (hk : k = min n (d.length - s.frm)) (h : s.frm + k = d.length) :
    s.read n = (((d.drop s.frm).take k, 0), ⟨s.L, s.step + 1, 0, s.told + k⟩) := by
  subst hk
  simp only [Src.read, hd]
  rw [if_neg (by simp), if_pos ⟨h, trivial⟩]
theorem Src.read_on {s : Src} {d : List UInt8} {f : Bool} {n k : Nat} (hd : s.L[s.step]? = some (d, f)) (hn : ¬ (f = true ∧ s.frm = d.length)) (hk : k = min n (d.length - s.frm)) (h : ¬ (s.frm + k = d.length ∧ f = false)) :
    s.read n = (((d.drop s.frm).take k, 0), ⟨s.L, s.step, s.frm + k, s.told + k⟩) := by
  subst hk
  simp only [Src.read, hd]
  rw [if_neg hn, if_neg h]
theorem Src.read_ok {s : Src} (h : s.ok) (n : Nat) : (s.read n).2.ok := by
  obtain ⟨h1, h2, h3, h4, h5, h6⟩ := h
  cases hd : s.L[s.step]? with
  | none => simp only [Src.read, hd]; exact ⟨h1, h2, h3, h4, h5, h6⟩
  | some x =>
    obtain ⟨d, f⟩ := x
    have hlt := (List.getElem?_eq_some_iff.1 hd).1
    have hfd := h2 d f hd
    by_cases c1 : f = true ∧ s.frm = d.length
    · simp only [Src.read, hd]
      rw [if_pos c1]
      exact ⟨h1, h2, h3, h4, h5, h6⟩
    · by_cases c2 : s.frm + min n (d.length - s.frm) = d.length ∧ f = false
      · obtain ⟨c2, rfl⟩ := c2
        rw [Src.read_next hd rfl c2]
        refine ⟨hlt, fun _ _ _ => Nat.zero_le _, fun _ => rfl, ?_, h5, h6⟩
        simp only [total_take s.L s.step d false hd]
        omega
      · rw [Src.read_on hd c1 rfl c2]
        refine ⟨h1, fun d' f' hd' => ?_, fun h => ?_, ?_, h5, h6⟩
        · rw [hd] at hd'
          injection hd' with hd'
          injection hd' with e1 _
          subst e1
          simp only
          omega
        · simp only at h
          omega
        · simp only
          omega
theorem Src.read_le {s : Src} (h : s.ok) (n : Nat) : (s.read n).1.1.length ≤ n := by
  cases hd : s.L[s.step]? with
  | none => simp [Src.read, hd]
  | some x =>
    obtain ⟨d, f⟩ := x
    by_cases c1 : f = true ∧ s.frm = d.length
    · simp only [Src.read, hd]
      rw [if_pos c1]
      simp
    · by_cases c2 : s.frm + min n (d.length - s.frm) = d.length ∧ f = false
      · obtain ⟨c2, rfl⟩ := c2
        rw [Src.read_next hd rfl c2]
        simp
        omega
      · rw [Src.read_on hd c1 rfl c2]
        simp
        omega

section
variable {S : Nat → Prop} {w : World} {g : Nat} {s : Src}

set_option maxHeartbeats 2000000 in
theorem srcIs_any (h : IsSrc S w g s) : Calls Try.prog 46 #[.pointer (some ⟨g, 0, none⟩)] w fun e w' => e = .returned (.bool true) ∧ w = w' := by
  obtain ⟨A, c, hb, _⟩ := h
  have hc : w.cell? ⟨g, 4, none⟩ = some (.bool true) := hb.cell 4
  have hq : ∀ w : World, (binOp .neq 46 (.pointer (some ⟨g, 0, none⟩)) (.pointer none)).run Try.prog w = .ok (.bool true) w := fun w => by kernel_rfl
  clear hb
  go_enter Try.func46, Try.ntmps46
  go_wp2
  go_ret
  exact ⟨rfl, rfl⟩

set_option maxHeartbeats 4000000 in
set_option maxRecDepth 100000 in
theorem srcEnd_any (h : IsSrc S w g s) : Calls Try.prog 47 #[.pointer (some ⟨g, 0, none⟩)] w fun e w' => e = .returned (.int .i64 s.endOf) ∧ ∃ q, w' = w.drewN q := by
  obtain ⟨A, c, hb, hS, hg, hok⟩ := h
  have x0 : w.cell? ⟨g, 0, none⟩ = some (.slice A s.L.length c) := hb.cell 0
  have x1 : w.cell? ⟨g, 1, none⟩ = some (.int .i64 s.step) := hb.cell 1
  have x2 : w.cell? ⟨g, 2, none⟩ = some (.int .i64 s.frm) := hb.cell 2
  have hle := hok.1
  have i0 : (0 : Int) ≤ (s.step : Int) := by omega
  by_cases hst : s.step = s.L.length
  · have q : ((s.step : Int) == (s.L.length : Int)) = true := by rw [beq_iff_eq]; omega
    rw [(Src.at_end hok hst 0).1]
    clear hst hb hS hok
    go_enter Try.func47, Try.ntmps47
    go_wp2_with fail
    go_quiet (fail)
    go_wp2
    go_ret
    exact ⟨rfl, _, rfl⟩
  · have q : ((s.step : Int) == (s.L.length : Int)) = false := by rw [beq_eq_false_iff_ne]; omega
    have hlt : s.step < s.L.length := by omega
    have i1 : (s.step : Int) < (s.L.length : Int) := by omega
    obtain ⟨ad, Ak, ck, d, f, rfl, _, hdf, e0, e1, _, _, _, _⟩ := hS.get hlt
    have hfd := hok.2.1 d f hdf
    cases f with
    | false =>
      rw [Src.endOf_no hdf (by simp)]
      clear hst hb hS hok hdf
      go_enter Try.func47, Try.ntmps47
      go_wp2_with fail
      go_quiet (fail)
      go_wp2_with fail
      go_quiet (fail)
      go_wp2
      go_ret
      exact ⟨rfl, _, World.drewN_drewN _ _ _⟩
    | true =>
      by_cases hf : s.frm = d.length
      · have q2 : ((s.frm : Int) == (d.length : Int)) = true := by rw [beq_iff_eq]; omega
        rw [(Src.at_fail hdf hf 0).1]
        clear hst hb hS hok hdf hf
        go_enter Try.func47, Try.ntmps47
        go_wp2_with fail
        go_quiet (fail)
        go_wp2_with fail
        go_quiet (fail)
        go_wp2
        go_ret
        exact ⟨rfl, _, World.drewN_drewN _ _ _⟩
      · have q2 : ((s.frm : Int) == (d.length : Int)) = false := by rw [beq_eq_false_iff_ne]; omega
        rw [Src.endOf_no hdf (by simp [hf])]
        clear hst hb hS hok hdf hf
        go_enter Try.func47, Try.ntmps47
        go_wp2_with fail
        go_quiet (fail)
        go_wp2_with fail
        go_quiet (fail)
        go_wp2
        go_ret
        exact ⟨rfl, _, World.drewN_drewN _ _ _⟩

set_option maxHeartbeats 2000000 in
theorem srcTold_any (h : IsSrc S w g s) : Calls Try.prog 30 #[.pointer (some ⟨g, 0, none⟩)] w fun e w' => e = .returned (.int .i64 s.told) ∧ w = w' := by
  have H := Lib.hid h
  obtain ⟨A, c, hb, _⟩ := h
  have hc : w.cell? ⟨g, 3, none⟩ = some (.int .i64 s.told) := hb.cell 3
  clear hb
  go_enter Try.func30, Try.ntmps30
  go_wp2_with (go_at_call 46; refine (srcIs_any H.out).mono ?_; rintro e w1 ⟨rfl, rfl⟩)
  go_ret
  exact ⟨rfl, rfl⟩

set_option maxHeartbeats 2000000 in
theorem srcOver_any (h : IsSrc S w g s) : Calls Try.prog 31 #[.pointer (some ⟨g, 0, none⟩)] w fun e w' => e = .returned (.bool (s.endOf != 0)) ∧ ∃ q, w' = w.drewN q := by
  have H := Lib.hid h
  clear h
  obtain ⟨z, hz⟩ : ∃ z, z = s.endOf := ⟨_, rfl⟩
  have k := srcEnd_any H.out
  rw [← hz] at k ⊢
  have K := Lib.hid k
  clear k hz
  go_enter Try.func31, Try.ntmps31
  go_wp2_with (first
    | (go_at_call 46; refine (srcIs_any H.out).mono ?_; rintro e w1 ⟨rfl, rfl⟩)
    | (go_at_call 47; refine K.out.mono ?_; rintro e w1 ⟨rfl, q, rfl⟩))
  go_ret
  exact ⟨rfl, _, rfl⟩
end

end Go.Proofs.Ytadnceiohgjdhaa
