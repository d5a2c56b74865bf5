/-
  Maps that count keys: how often each one came; the laws of a look-up and of a store, at names and at reasons.
-/
import Derived.Test.YtgkiffodnofggaaGreatDoorAudFind
import Derived.Maps.OwnOps
import Derived.Maps.Views
namespace Go.Proofs.YtgkiffodnofggaaGreatDoor
open Go.RowKit Go.Maps Go.WideMaps
set_option linter.unusedVariables false
set_option linter.unusedSimpArgs false

/-- A kind of key: how it lies in memory, how it reads; the map's and the key's type. -/
structure KK (α : Type) where
  val : α → Value
  lit : α → Lit
  T : TypeId
  K : TypeId
  ok : α → Prop
  law : Keyed Tryz.prog K
  ht : Tryz.prog.underlying T = some (.map K 3)
  hkey : ∀ x, ok x → keyOf Tryz.prog K (val x) = some (lit x)
  inj : ∀ x y, lit x = lit y → x = y
  isKey : ∀ x, WideAt.IsKeyLit (lit x)

theorem zeroI (w : World) : (zeroValue 3).run Tryz.prog w = .ok (.int .i64 0) w := by kernel_rfl

/-- Names. -/
def kName : KK (List UInt8) where
  val l := .string (str l)
  lit l := .string l
  T := 33
  K := 9
  ok l := l.length ≤ maxLen
  law := string_keyed Tryz.underlying9
  ht := Tryz.underlying33
  hkey l h := keyOf_string_mk Tryz.underlying9 (by rw [str_size]; exact h)
  inj x y h := by injection h
  isKey l := trivial
/-- Reasons. -/
def kWhy : KK Int where
  val x := .int .i64 x
  lit x := .int .i64 x
  T := 55
  K := 36
  ok x := -9223372036854775808 ≤ x ∧ x ≤ 9223372036854775807
  law := int_keyed Tryz.underlying36
  ht := Tryz.underlying55
  hkey x h := keyOf_int_mk Tryz.underlying36 (WalkArith.wf_i64 h)
  inj x y h := by injection h
  isKey l := trivial

section
variable {α : Type} [DecidableEq α]
/-- How often a key came. -/
def cnt (ks : List α) (x : α) : Nat := ks.count x
theorem cnt_le (ks : List α) (x : α) : cnt ks x ≤ ks.length := count_le_length ks x
theorem cnt_snoc (ks : List α) (x : α) : cnt (ks ++ [x]) x = cnt ks x + 1 := by
  unfold cnt
  rw [List.count_append, List.count_singleton_self]
theorem cnt_other (ks : List α) {x y : α} (h : y ≠ x) : cnt (ks ++ [x]) y = cnt ks y := by
  unfold cnt
  rw [List.count_append, List.count_singleton, if_neg (by simpa using fun e => h e.symm)]
  rfl
theorem cnt_zero (ks : List α) (x : α) : cnt ks x = 0 ↔ x ∉ ks := List.count_eq_zero
end
section
variable {α : Type} [DecidableEq α] (k : KK α)
/-- Block B is a map of at most n entries that says how often each key of ks comes. -/
def KM (w : World) (B n : Nat) (ks : List α) : Prop :=
  ∃ D : DataW Unit, w.ownsMap Tryz.prog k.K (plainElem Tryz.prog 3) B n D ∧ IsMap D ∧ ∀ x, D.atKey (k.lit x) (.lit (.int .i64 0)) = .lit (.int .i64 (cnt ks x : Nat))
variable {k}
theorem KM.made (w : World) : KM k (w.alloc (.map #[] 0)) w.heap.size 0 [] :=
  ⟨.map [], World.ownsMap_made w _ _ _, isMap_empty, fun x => rfl⟩
theorem KM.kept {w w' : World} {row : Option Nat} {B n : Nat} {ks : List α} (h : KM k w B n ks) (hg : w.grownBy w' row) (hne : some B ≠ row) : KM k w' B n ks := by
  obtain ⟨D, h1, h2, h3⟩ := h
  exact ⟨D, h1.kept hg hne, h2, h3⟩
theorem KM.mono {w : World} {B n m : Nat} {ks : List α} (h : KM k w B n ks) (hn : n ≤ m) : KM k w B m ks := by
  obtain ⟨D, h1, h2, h3⟩ := h
  exact ⟨D, h1.mono hn, h2, h3⟩
theorem KM.lt {w : World} {B n : Nat} {ks : List α} (h : KM k w B n ks) : B < w.heap.size := by
  obtain ⟨D, h1, _⟩ := h
  exact h1.lt
theorem KM.keep {w w' : World} {T : Nat → Prop} {B n : Nat} {ks : List α} (h : KM k w B n ks) (hk : Keep T w w') (hB : ¬ T B) : KM k w' B n ks := by
  obtain ⟨D, ⟨es, clock, hb, F, hs, hD⟩, h2, h3⟩ := h
  exact ⟨D, ⟨es, clock, (hk.block B (lt_of_heap hb) hB).trans hb, F, hs, hD⟩, h2, h3⟩
theorem KM.behind {w w' : World} {B n : Nat} {ks : List α} (h : KM k w B n ks) (hb : Below w.heap.size w w') : KM k w' B n ks := h.keep (Keep.of_below hb (fun _ => False)) id
theorem KM.run {w : World} {B n : Nat} {ks : List α} (h : KM k w B n ks) (x : α) (hx : k.ok x) :
    (Instr.lookup k.T (.map (some B)) (k.val x) false).run Tryz.prog w = .ok (.int .i64 (cnt ks x : Nat)) w := by
  obtain ⟨D, h1, h2, h3⟩ := h
  obtain ⟨c, hrun, hat, _⟩ := h1.lookup_int k.law k.ht Tryz.underlying3 (zeroI w) (k.hkey x hx)
  rw [h3 x] at hat
  simp only [DataW.lit.injEq, Lit.int.injEq, true_and] at hat
  rw [hrun, hat]
theorem KM.put {w : World} {B n : Nat} {ks : List α} (h : KM k w B n ks) (x : α) (hx : k.ok x) (hn : n < maxLen) (hc : ks.length ≤ 1048576) :
    ∃ w', (Instr.mapUpdate k.T (.map (some B)) (k.val x) (.int .i64 ((cnt ks x : Nat) + 1))).run Tryz.prog w = .ok () w' ∧ KM k w' B (n + 1) (ks ++ [x]) ∧ w.grownBy w' (some B) := by
  obtain ⟨D, h1, h2, h3⟩ := h
  have hcl := cnt_le ks x
  have hwf : (Lit.int .i64 (((cnt ks x : Nat) : Int) + 1)).wf = true := WalkArith.wf_i64 (by omega)
  obtain ⟨w', hrun, ho, hg⟩ := h1.update k.law k.ht hn (k.hkey x hx) (plainElem_int Tryz.underlying3 hwf)
  refine ⟨w', hrun, ⟨_, ho, h2.put _ _, fun y => ?_⟩, hg⟩
  by_cases e : y = x
  · subst e
    rw [atKey_put_same h2 (k.isKey y), cnt_snoc]
    rfl
  · rw [atKey_put_other (fun h => e (k.inj _ _ h)), h3 y, cnt_other ks e]
end
end Go.Proofs.YtgkiffodnofggaaGreatDoor
