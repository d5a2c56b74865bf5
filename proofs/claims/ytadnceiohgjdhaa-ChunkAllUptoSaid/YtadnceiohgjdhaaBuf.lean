/-
  Buffers: as plain data, in memory; the small contracts.
-/
import Derived.Test.YtadnceiohgjdhaaROver
import Derived.Test.YtadnceiohgjdhaaWin
namespace Go.Proofs.Ytadnceiohgjdhaa
open Go.RowKit
set_option linter.unusedVariables false
set_option linter.unusedSimpArgs false

/-- A buffer: its source, its size, what is held, how many bytes were taken. -/
structure Buf where
  src : Src
  size : Nat
  held : List UInt8
  taken : Nat
def Buf.ok (x : Buf) : Prop := x.src.ok ∧ 1 ≤ x.size ∧ x.size ≤ 16777216 ∧ x.held.length ≤ x.size ∧ x.taken + x.held.length = x.src.told
/-- One read more: the error, how many reads of nothing there are now, the buffer behind it. -/
def Buf.fill (x : Buf) (em : Nat) : (Int × Nat) × Buf :=
  if (x.src.read (x.size - x.held.length)).1.2 ≠ 0 then (((x.src.read (x.size - x.held.length)).1.2, em), ⟨(x.src.read (x.size - x.held.length)).2, x.size, x.held, x.taken⟩)
  else if 0 < (x.src.read (x.size - x.held.length)).1.1.length then ((0, 0), ⟨(x.src.read (x.size - x.held.length)).2, x.size, x.held ++ (x.src.read (x.size - x.held.length)).1.1, x.taken⟩)
  else ((if em + 1 = 100 then 22 else 0, em + 1), ⟨(x.src.read (x.size - x.held.length)).2, x.size, x.held, x.taken⟩)

/-- A buffer of the program at block b over the source at block g; what is held lies in H. -/
structure IsBuf (H S : Nat → Prop) (w : World) (b g : Nat) (x : Buf) : Prop where
  blk : ∃ A c, Blk w b 77 #[.iface 46 (.pointer (some ⟨g, 0, none⟩)), .int .i64 x.size, .slice A x.held.length c, .int .i64 x.taken] ∧ Win H w A x.held.length c x.held
  src : IsSrc S w g x.src
  ne : b ≠ g
  nS : ¬ S b
  Sl : ∀ k, S k → k < w.heap.size
  held : ∀ k, H k → k < w.heap.size ∧ k ≠ b ∧ k ≠ g ∧ ¬ S k
  ok : x.ok

theorem IsBuf.keep {H S T : Nat → Prop} {w w' : World} {b g : Nat} {x : Buf} (h : IsBuf H S w b g x) (hk : Keep T w w') (hb : ¬ T b) (hg : ¬ T g) (hS : ∀ k, S k → ¬ T k) (hH : ∀ k, H k → ¬ T k) : IsBuf H S w' b g x := by
  obtain ⟨A, c, h1, h2⟩ := h.blk
  exact ⟨⟨A, c, h1.keep hk hb, h2.keep hk hH⟩, h.src.keep hk hg hS, h.ne, h.nS, fun k hs => Nat.lt_of_lt_of_le (h.Sl k hs) hk.size, fun k hk' => ⟨Nat.lt_of_lt_of_le (h.held k hk').1 hk.size, (h.held k hk').2⟩, h.ok⟩
theorem IsBuf.behind {H S : Nat → Prop} {w w' : World} {b g : Nat} {x : Buf} (h : IsBuf H S w b g x) (hb : Below w.heap.size w w') : IsBuf H S w' b g x := h.keep (Keep.of_below hb (fun _ => False)) id id (fun _ _ => id) (fun _ _ => id)

section
variable {H S : Nat → Prop} {w : World} {b g : Nat} {x : Buf}

set_option maxHeartbeats 2000000 in
theorem bufIs_any (h : IsBuf H S w b g x) : Calls Try.prog 53 #[.pointer (some ⟨b, 0, none⟩)] w fun e w' => e = .returned (.bool true) ∧ w = w' := by
  obtain ⟨A, c, hb, _⟩ := h.blk
  have x0 : w.cell? ⟨b, 0, none⟩ = some (.iface 46 (.pointer (some ⟨g, 0, none⟩))) := hb.cell 0
  have hq : ∀ w : World, (binOp .neq 68 (.pointer (some ⟨b, 0, none⟩)) (.pointer none)).run Try.prog w = .ok (.bool true) w := fun w => by kernel_rfl
  clear hb h
  go_enter Try.func53, Try.ntmps53
  go_wp2
  go_ret
  exact ⟨rfl, rfl⟩
set_option maxHeartbeats 2000000 in
theorem bufHas_any (h : IsBuf H S w b g x) : Calls Try.prog 38 #[.pointer (some ⟨b, 0, none⟩)] w fun e w' => e = .returned (.int .i64 x.held.length) ∧ w = w' := by
  have HH := Lib.hid h
  obtain ⟨A, c, hb, _⟩ := h.blk
  have x0 : w.cell? ⟨b, 2, none⟩ = some (.slice A x.held.length c) := hb.cell 2
  clear hb h
  go_enter Try.func38, Try.ntmps38
  go_wp2_with (go_at_call 53; refine (bufIs_any HH.out).mono ?_; rintro e w1 ⟨rfl, rfl⟩)
  go_ret
  exact ⟨rfl, rfl⟩
set_option maxHeartbeats 2000000 in
theorem bufTaken_any (h : IsBuf H S w b g x) : Calls Try.prog 37 #[.pointer (some ⟨b, 0, none⟩)] w fun e w' => e = .returned (.int .i64 x.taken) ∧ w = w' := by
  have HH := Lib.hid h
  obtain ⟨A, c, hb, _⟩ := h.blk
  have x0 : w.cell? ⟨b, 3, none⟩ = some (.int .i64 x.taken) := hb.cell 3
  clear hb h
  go_enter Try.func37, Try.ntmps37
  go_wp2_with (go_at_call 53; refine (bufIs_any HH.out).mono ?_; rintro e w1 ⟨rfl, rfl⟩)
  go_ret
  exact ⟨rfl, rfl⟩
end

end Go.Proofs.Ytadnceiohgjdhaa
