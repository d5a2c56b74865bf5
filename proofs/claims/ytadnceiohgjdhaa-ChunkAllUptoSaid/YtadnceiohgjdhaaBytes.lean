/-
  The contracts of the library's functions on bytes: Clone, Equal.
-/
import Derived.Test.YtadnceiohgjdhaaBase
import Derived.Test.YtadnceiohgjdhaaProg
import Derived.WalkSpells
import Derived.WalkLawsBesides
import Derived.Outline
import Derived.Laws.BytesArg
import Derived.Laws.IdiomStrings
import Derived.KernelRfl
namespace Go.Proofs.Ytadnceiohgjdhaa
open Go.RowKit
set_option linter.unusedVariables false

/-- The call returns a value of which Q holds. -/
def Gives (Q : Value → World → Prop) (e : Ending) (w' : World) : Prop := ∃ v, e = .returned v ∧ Q v w'

theorem u8info : (Try.prog.info? 5).map (fun i => (i.zero, i.size, i.bytes)) = some (some (.int .u8 0), 1, 1) := by kernel_rfl

theorem row_none {S : Nat → Prop} {w : World} {n : Nat} {xs : List Value} {size : Nat} (h : Row S w size none n xs) : n = 0 ∧ xs = [] := by
  rcases Nat.eq_zero_or_pos n with rfl | h0
  · exact ⟨rfl, List.eq_nil_of_length_eq_zero (by simpa using h.1)⟩
  · obtain ⟨_, e, _⟩ := h.2 h0
    cases e

set_option maxHeartbeats 1000000 in
set_option maxRecDepth 100000 in
/-- bytes.Clone: of nil nil, else a row of the call's own. -/
theorem clone_any (S : Nat → Prop) (A : Option Addr) (n c : Nat) (l : List UInt8) (w : World) (hr : Row S w 1 A n (bv l)) (hn : n ≤ 140737488355328) :
    Calls Try.prog 44 #[.slice A n c] w (Gives fun v w' => w'.ownsRow w.heap.size 5 1 v n (bv l) ∧ Below w.heap.size w w') := by
  obtain ⟨i0, hi, hz0, hz1, hz2⟩ := info_parts u8info
  have q : ∀ (w : World) (a : Option Addr) (n c n' c' : Nat), (binOp .eql 26 (.slice a n c) (.slice none n' c')).run Try.prog w = .ok (.bool a.isNone) w := fun w a n c n' c' => Lib.run_eql_slice_nil w _ _ a n c n' c' Try.underlying26
  rcases A with _ | a
  · obtain ⟨rfl, e⟩ := row_none hr
    have hl : l = [] := by simpa [bv] using e
    subst hl
    clear hr e
    go_enter Try.func44, Try.ntmps44
    go_wp2
    go_ret
    exact ⟨_, rfl, World.ownsRow_nil _ _ _ _, Below.refl _ _⟩
  · have hrr := hr.alloc (.cells #[] 5)
    have H := Lib.hid hrr
    clear hr hrr
    go_enter Try.func44, Try.ntmps44
    go_wp2_with (at_builtin; refine wpList_append_row _ rfl _ _ 26 rfl w.heap.size 5 i0 (.int .u8 0) 1 1 Try.underlying26 hi hz0 hz1 hz2 rfl (by decide) _ _ _ rfl (World.ownsRow_made w #[] 0 (Nat.le_refl _) (Nat.zero_le _) rfl) S (some a) n c (bv l) rfl H.out (bv_one l) ?c1 ?c2 ?c3 ?_)
    case c1 => simp only [maxLen]; omega
    case c2 => omega
    case c3 => simp
    intro v' w1 hown hgrow hat
    go_wp2
    go_ret
    refine ⟨v', rfl, by simpa using hown, ?_⟩
    exact ((Below.refl _ w).alloc (Nat.le_refl _) _).grown hgrow (by simp) (by intro k hk; simp [Value.ownBlock] at hk; omega)

/-- A text, as the model has it. -/
def str (l : List UInt8) : ByteArray := ⟨l.toArray⟩
@[go_sem] theorem str_toList (l : List UInt8) : (str l).toList = l := by
  rw [ByteArray.toList_eq]
  simp [str]

/-- 'string(b)' -/
theorem conv_row {S : Nat → Prop} {w : World} {A : Option Addr} {n : Nat} {l : List UInt8} (hr : Row S w 1 A n (bv l)) (c : Nat) :
    (convert 26 9 (.slice A n c)).run Try.prog w = .ok (.string (str l)) w := by
  have hl : l.length = n := by have := hr.1; rw [bv_length] at this; omega
  subst hl
  rcases A with _ | a
  · obtain ⟨_, e⟩ := row_none hr
    have hl : l = [] := by simpa [bv] using e
    subst hl
    exact run_convert_bytes_nil w 26 5 Try.underlying26 Try.underlying5 _ c 9 Try.underlying9
  · refine run_convert_bytes_back w 26 9 5 a c l Try.underlying26 Try.underlying5 Try.underlying9 fun j hj => ?_
    obtain ⟨ad, e, _, hc⟩ := hr.2 (by omega)
    injection e with e
    subst e
    exact hc j _ (bv_get l j hj)

set_option maxHeartbeats 1000000 in
/-- the law's own num -/
theorem num_any (x : Int) (w : World) : Calls Try.prog 13 #[.int .i64 x] w fun e w' => e = .returned (.int .i64 x) ∧ w = w' := by
  go_enter Try.func13, Try.ntmps13
  go_wp2
  go_ret
  exact ⟨rfl, rfl⟩

set_option maxHeartbeats 1000000 in
/-- bytes.Equal -/
theorem bytesEqual_any (S T : Nat → Prop) (A B : Option Addr) (n c m d : Nat) (x y : List UInt8) (w : World) (hx : Row S w 1 A n (bv x)) (hy : Row T w 1 B m (bv y)) :
    Calls Try.prog 43 #[.slice A n c, .slice B m d] w fun e w' => e = .returned (.bool (x == y)) ∧ w = w' := by
  have h1 := conv_row hx c
  have h2 := conv_row hy d
  clear hx hy
  go_enter Try.func43, Try.ntmps43
  go_wp2
  go_ret
  exact ⟨rfl, rfl⟩

end Go.Proofs.Ytadnceiohgjdhaa
