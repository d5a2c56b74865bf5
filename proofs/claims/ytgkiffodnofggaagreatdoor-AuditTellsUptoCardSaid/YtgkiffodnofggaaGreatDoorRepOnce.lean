/-
  A replacer that is built when it is first used: the contracts of its building, of the Once around it, of Replace, of NewReplacer.
-/
import Derived.Test.YtgkiffodnofggaaGreatDoorRepBuild
import Derived.Test.YtgkiffodnofggaaGreatDoorRepWalk
import Derived.Test.YtgkiffodnofggaaGreatDoorLocks
import Derived.Defers
import Derived.Laws.Pointers
import Derived.Laws.LoneSync
import Derived.RegionTactic
import Derived.RegionCalls
import Derived.ChangeAlike
namespace Go.Proofs.YtgkiffodnofggaaGreatDoor
open Go.RowKit Go.MuLone
set_option linter.unusedVariables false
set_option linter.unusedSimpArgs false

set_option maxHeartbeats 8000000 in
set_option maxRecDepth 100000 in
theorem buildOnce_any (S : Nat → Prop) (rb : Nat) (A : Option Addr) (c8 : Nat) (w : World) {d s m : Value} (hb : Blk w rb 98 #[d, s, m, .nilIface, .slice A 8 c8]) (hr : Row S w 1 A 8 olds) (hS : ∀ k, S k → k < w.heap.size) :
    Calls Tryz.prog 53 #[.pointer (some ⟨rb, 0, none⟩)] w fun e w' => e = .returned (.tuple #[]) ∧ ∃ b, Blk w' rb 98 #[d, s, m, .iface 156 (.pointer (some ⟨b, 0, none⟩)), .slice none 0 0] ∧ w.heap.size ≤ b ∧ Bsr w' w.heap.size b ∧ Keep (fun k => k = rb) w w' := by
  have K := Lib.hid (build_any S rb A c8 w (hb.cell 4) hr hS)
  have hrl := hb.lt
  have HB := Lib.hid hb
  clear hb hr hS
  go_enter Tryz.func53, Tryz.ntmps53
  go_wp2_with fail
  refine K.out.mono ?_
  rintro e w1 ⟨b, rfl, hlo, hbs, hb1⟩
  have h1 := HB.out.below hb1 hrl
  have x3 := h1.cell 3
  have f3 := h1.frozen 3
  have x4 := h1.cell 4
  have f4 := h1.frozen 4
  simp only [List.getElem?_toArray, List.getElem?_cons_succ, List.getElem?_cons_zero] at x3 x4
  have H1 := Lib.hid h1
  have HS := Lib.hid hbs
  have HB1 := Lib.hid hb1
  clear h1 hbs hb1
  go_wp2
  go_end0
  have hk : Keep (fun k => k = rb) w1 ((w1.setCell ⟨rb, 3, none⟩ (.iface 156 (.pointer (some ⟨b, 0, none⟩)))).setCell ⟨rb, 4, none⟩ (.slice none 0 0)) := ((Keep.refl (fun k => k = rb) w1).setCell (p := ⟨rb, 3, none⟩) (.inl rfl) _).setCell (p := ⟨rb, 4, none⟩) (.inl rfl) _
  exact ⟨rfl, b, (H1.out.set_ 3 _).set_ 4 _, hlo, HS.out.keep hk (fun k e => by omega) hlo, (Keep.of_below HB1.out _).trans hk⟩

/-- '(*sync/atomic.Bool).Store(true)', entered as a deferred call. -/
theorem store_deferred (a : Addr) (x : Value) (u : FrameMode) (w : World) (hc : w.cell? a = some x) (hz : w.frozen? a = false) :
    CallsD Tryz.prog 94 #[.pointer (some a), .bool true] u w fun e u' w' => u' = u ∧ (e = .returned (.tuple #[]) ∧ w' = w.drew.setCell a (.int .u32 1)) := by
  have hc' : w.drew.cell? a = some x := by go_simp
  have hz' : w.drew.frozen? a = false := by go_simp
  have hst := run_call_store (P := Tryz.prog) Tryz.func107 (by kernel_rfl) (by kernel_rfl) (by kernel_rfl) (by kernel_rfl) (k := .u32) (y := 1) hc' hz'
  go_enter_d Tryz.func94, Tryz.ntmps94
  go_wp2
  go_region_calls
  all_goals (go_end0; exact ⟨rfl, rfl⟩)

set_option maxRecDepth 100000 in
set_option maxHeartbeats 8000000 in
theorem slow_any (S : Nat → Prop) (rb : Nat) (A : Option Addr) (c8 : Nat) (w : World) {m : Value} (hb : Blk w rb 98 #[.int .u32 0, .int .i32 0, m, .nilIface, .slice A 8 c8]) (hr : Row S w 1 A 8 olds) (hS : ∀ k, S k → k < w.heap.size ∧ k ≠ rb) :
    Calls Tryz.prog 76 #[.pointer (some ⟨rb, 0, none⟩), .func (.func 53) #[.pointer (some ⟨rb, 0, none⟩)] #[]] w fun e w' => e = .returned (.tuple #[]) ∧
      ∃ b, Blk w' rb 98 #[.int .u32 1, .int .i32 0, m, .iface 156 (.pointer (some ⟨b, 0, none⟩)), .slice none 0 0] ∧ w.heap.size ≤ b ∧ Bsr w' w.heap.size b ∧ Keep (fun k => k = rb) w w' := by
  have hnot : ∀ (x : Bool) (w : World), (Op.unary .not (.bool x)).run Tryz.prog w = .ok (.bool (!x)) w := fun _ _ => rfl
  have hbl := hb.lt
  have h1 := hb.set_ 1 (.int .i32 1)
  have hk1 : Keep (fun k => k = rb) w (w.setCell ⟨rb, 1, none⟩ (.int .i32 1)) := (Keep.refl (fun k => k = rb) w).setCell (p := ⟨rb, 1, none⟩) (.inl rfl) _
  have hl := run_call_load (P := Tryz.prog) Tryz.func91 (by kernel_rfl) (by kernel_rfl) (by kernel_rfl) .u32 (by kernel_rfl) (w := w.setCell ⟨rb, 1, none⟩ (.int .i32 1)) (a := ⟨rb, 0, none⟩) (x := 0) (h1.cell 0)
  have K := Lib.hid (buildOnce_any S rb A c8 (w.setCell ⟨rb, 1, none⟩ (.int .i32 1)) h1 (hr.keep hk1 (fun k hk e => (hS k hk).2 e)) (fun k hk => by have := (hS k hk).1; simpa [World.setCell] using this))
  have c1 := hb.cell 1
  have z1 := hb.frozen 1
  simp only [List.getElem?_toArray, List.getElem?_cons_succ, List.getElem?_cons_zero] at c1
  have HK1 := Lib.hid hk1
  clear hb h1 hr hS hk1
  go_enter_defers Tryz.func76, Tryz.ntmps76
  go_wp2_with (first | (go_at_call 92; refine (lock_free muLib ⟨rb, 1, none⟩ _ c1 z1).mono ?_; rintro e w' ⟨rfl, rfl⟩) | (go_at_call 75; go_in))
  refine K.out.mono ?_
  rintro e w1 ⟨rfl, b, h2, hlo, hbs, hk2⟩
  have hlo' : w.heap.size ≤ b := by simpa [World.setCell] using hlo
  have hbs' : Bsr w1 w.heap.size b := by simpa [World.setCell] using hbs
  have H2 := Lib.hid h2
  have HS := Lib.hid hbs'
  have HK2 := Lib.hid (HK1.out.trans hk2)
  clear h2 hbs hbs' hk2 hlo K
  go_wp2
  refine leaves_cons (f := 94) (args := #[.pointer (some ⟨rb, 0, none⟩), .bool true]) (by simp) (by simp [go_sem]) ?_
  refine (store_deferred ⟨rb, 0, none⟩ (.int .u32 0) .returning _ (H2.out.cell 0) (H2.out.frozen 0)).mono ?_
  rintro e u' w'' ⟨rfl, rfl, rfl⟩
  have h3 := (Blk.drew H2.out).set_ 0 (.int .u32 1)
  refine leaves_cons (f := 93) (args := #[.pointer (some ⟨rb, 1, none⟩)]) (by simp [settle]) (by simp [go_sem]) ?_
  refine (unlock_deferred muLib ⟨rb, 1, none⟩ _ _ (h3.cell 1) (h3.frozen 1)).mono ?_
  rintro e u' w'' ⟨rfl, rfl, rfl⟩
  have hk3 : Keep (fun k => k = rb) w1 ((w1.drew.setCell ⟨rb, 0, none⟩ (.int .u32 1)).setCell ⟨rb, 1, none⟩ (.int .i32 0)) := (((Keep.refl (fun k => k = rb) w1).drew).setCell (p := ⟨rb, 0, none⟩) (.inl rfl) _).setCell (p := ⟨rb, 1, none⟩) (.inl rfl) _
  have fin : (Ending.returned (.tuple #[]) = Ending.returned (.tuple #[])) ∧ ∃ b, Blk ((w1.drew.setCell ⟨rb, 0, none⟩ (.int .u32 1)).setCell ⟨rb, 1, none⟩ (.int .i32 0)) rb 98 #[.int .u32 1, .int .i32 0, m, .iface 156 (.pointer (some ⟨b, 0, none⟩)), .slice none 0 0] ∧ w.heap.size ≤ b ∧ Bsr ((w1.drew.setCell ⟨rb, 0, none⟩ (.int .u32 1)).setCell ⟨rb, 1, none⟩ (.int .i32 0)) w.heap.size b ∧ Keep (fun k => k = rb) w ((w1.drew.setCell ⟨rb, 0, none⟩ (.int .u32 1)).setCell ⟨rb, 1, none⟩ (.int .i32 0)) :=
    ⟨rfl, b, h3.set_ 1 _, hlo', HS.out.keep hk3 (fun k e => by omega) hlo', HK2.out.trans hk3⟩
  have FIN := Lib.hid fin
  clear fin h3 hk3
  simp [Leaves, settle, results, Tryz.results76]
  exact FIN.out.2

set_option maxRecDepth 100000 in
set_option maxHeartbeats 8000000 in
theorem do_any (S : Nat → Prop) (rb : Nat) (A : Option Addr) (c8 : Nat) (w : World) {m : Value} (hb : Blk w rb 98 #[.int .u32 0, .int .i32 0, m, .nilIface, .slice A 8 c8]) (hr : Row S w 1 A 8 olds) (hS : ∀ k, S k → k < w.heap.size ∧ k ≠ rb) :
    Calls Tryz.prog 52 #[.pointer (some ⟨rb, 0, none⟩), .func (.func 53) #[.pointer (some ⟨rb, 0, none⟩)] #[]] w fun e w' => e = .returned (.tuple #[]) ∧
      ∃ b, Blk w' rb 98 #[.int .u32 1, .int .i32 0, m, .iface 156 (.pointer (some ⟨b, 0, none⟩)), .slice none 0 0] ∧ w.heap.size ≤ b ∧ Bsr w' w.heap.size b ∧ Keep (fun k => k = rb) w w' := by
  have hnot : ∀ (x : Bool) (w : World), (Op.unary .not (.bool x)).run Tryz.prog w = .ok (.bool (!x)) w := fun _ _ => rfl
  have hl := run_call_load (P := Tryz.prog) Tryz.func91 (by kernel_rfl) (by kernel_rfl) (by kernel_rfl) .u32 (by kernel_rfl) (w := w) (a := ⟨rb, 0, none⟩) (x := 0) (hb.cell 0)
  have K := Lib.hid (slow_any S rb A c8 w hb hr hS)
  clear hb hr hS
  go_enter Tryz.func52, Tryz.ntmps52
  go_wp2_with (go_at_call 75; go_in)
  refine K.out.mono ?_
  rintro e w1 ⟨rfl, h⟩
  have H := Lib.hid h
  clear h
  go_wp2
  go_end0
  exact ⟨rfl, H.out⟩

set_option maxRecDepth 100000 in
set_option maxHeartbeats 8000000 in
/-- Replace, by a replacer that was not yet used. -/
theorem replace_any (S : Nat → Prop) (rb : Nat) (A : Option Addr) (c8 : Nat) (l : List UInt8) (w : World) {m : Value} (hb : Blk w rb 98 #[.int .u32 0, .int .i32 0, m, .nilIface, .slice A 8 c8]) (hr : Row S w 1 A 8 olds) (hS : ∀ k, S k → k < w.heap.size ∧ k ≠ rb) (hn : l.length ≤ 1073741824) :
    Calls Tryz.prog 34 #[.pointer (some ⟨rb, 0, none⟩), .string (str l)] w fun e w' => e = .returned (.string (str (escQs l))) ∧ Keep (fun k => k = rb) w w' := by
  have hmf : ∀ (fn : Fn) (first cap : Array Value) (w : World), (Instr.makeFunc fn first cap).run Tryz.prog w = .ok (.func fn first cap) w := fun _ _ _ _ => rfl
  have K := Lib.hid (do_any S rb A c8 w hb hr hS)
  clear hb hr hS
  go_enter Tryz.func34, Tryz.ntmps34
  go_wp2_with fail
  refine K.out.mono ?_
  rintro e w1 ⟨rfl, b, h2, hlo, hbs, hk2⟩
  have x3 := h2.cell 3
  simp only [List.getElem?_toArray, List.getElem?_cons_succ, List.getElem?_cons_zero] at x3
  have HK2 := Lib.hid hk2
  have K2 := Lib.hid (brep_any w.heap.size b l w1 hbs hn)
  clear h2 hbs hk2
  go_wp2_with fail
  refine K2.out.mono ?_
  rintro e w2 ⟨rfl, hb2⟩
  have HB2 := Lib.hid hb2
  clear hb2 x3
  go_wp2
  go_ret
  exact ⟨rfl, HK2.out.then_below HB2.out⟩

theorem str_one_olds : ∀ u ∈ olds, u.oneCell' = true := by
  intro u hu
  obtain ⟨p, _, hp⟩ := List.mem_flatMap.1 hu
  simp only [List.mem_cons, List.not_mem_nil, or_false] at hp
  rcases hp with rfl | rfl <;> rfl

set_option maxRecDepth 100000 in
set_option maxHeartbeats 8000000 in
theorem newReplacer_any (S : Nat → Prop) (A : Option Addr) (c8 : Nat) (w : World) (hr : Row S w 1 A 8 olds) :
    Calls Tryz.prog 33 #[.slice A 8 c8] w fun e w' => ∃ rb A' c', e = .returned (.pointer (some ⟨rb, 0, none⟩)) ∧ Blk w' rb 98 #[.int .u32 0, .int .i32 0, .int .u32 0, .nilIface, .slice A' 8 c'] ∧
      Row (fun k => k < w'.heap.size ∧ k ≠ rb) w' 1 A' 8 olds ∧ w.heap.size ≤ rb ∧ Below w.heap.size w w' := by
  obtain ⟨ti, hi, hz0, hz1, hz2⟩ := info_parts str_info
  have HR := Lib.hid hr
  clear hr
  go_enter Tryz.func33, Tryz.ntmps33
  go_wp2_with (at_builtin; refine wpList_append_out _ rfl _ _ 23 rfl w.heap.size 9 ti _ 1 16 Tryz.underlying23 hi hz0 hz1 hz2 rfl (by decide) (.slice none 0 0) 0 [] rfl (World.ownsRow_nil _ _ _ _) S A 8 c8 olds rfl HR.out str_one_olds (by decide) (by decide) (Nat.le_refl _) ?_; intro A2 c2 w2 ho2 hg2 hn2 hm2; rw [Nat.zero_add] at ho2 hn2 ⊢; rw [List.nil_append] at ho2; have HO2 := Lib.hid ho2; have HB2 := Lib.hid (show Below w.heap.size w w2 from (Below.refl _ w).grown hg2 (Nat.le_refl _) (fun k e => by simp [Value.ownBlock] at e)); clear ho2 hg2)
  go_ret
  have hs := HB2.out.size
  refine ⟨w2.heap.size, A2, c2, rfl, Blk.new _ _ _, ?_, hs, HB2.out.alloc hs _⟩
  exact (((Row.of_own HO2.out).more (T := fun k => k < w2.heap.size) (fun k hk _ => hk) (by decide)).alloc _).more (fun k hk h => ⟨hk, by omega⟩) (by decide)

set_option maxRecDepth 100000 in
set_option maxHeartbeats 8000000 in
theorem quoted_any (l : List UInt8) (w : World) (hn : l.length ≤ 1073741824) :
    Calls Tryz.prog 19 #[.string (str l)] w fun e w' => e = .returned (.string (str (quoteB l))) ∧ Below w.heap.size w w' := by
  have hrow := Row.new w 9 #[.string ⟨#[92]⟩, .string ⟨#[92, 92]⟩, .string ⟨#[34]⟩, .string ⟨#[92, 34]⟩, .string ⟨#[10]⟩, .string ⟨#[92, 110]⟩, .string ⟨#[9]⟩, .string ⟨#[92, 116]⟩] 1 8 rfl
  have K := Lib.hid (newReplacer_any (fun k => k = w.heap.size) (some ⟨w.heap.size, 0, none⟩) 8 _ hrow)
  have hz := str_size (escQs l)
  have hle := escQs_le l
  have a1 : (⟨#[34]⟩ : ByteArray) ++ str (escQs l) = str (34 :: escQs l) := str_append [34] _
  have a2 : str (34 :: escQs l) ++ (⟨#[34]⟩ : ByteArray) = str (quoteB l) := str_append _ [34]
  have hz2 := str_size (34 :: escQs l)
  rw [List.length_cons] at hz2
  clear hrow
  go_enter Tryz.func19, Tryz.ntmps19
  go_wp2_with fail
  refine K.out.mono ?_
  rintro e w1 ⟨rb, A', c', rfl, hb1, hr1, hlo, hb⟩
  have hlo2 : w.heap.size ≤ rb := by rw [World.size_alloc] at hlo; omega
  have hb0 : Below w.heap.size w w1 := ((Below.refl _ w).alloc (Nat.le_refl _) _).trans (hb.mono (by simp))
  have K2 := Lib.hid (replace_any _ rb A' c' l w1 hb1 hr1 (fun k h => h) hn)
  have HB0 := Lib.hid hb0
  have l1 := hb0.size
  clear hb1 hr1 hlo hb hb0 K
  go_wp2_with fail
  refine K2.out.mono ?_
  rintro e w2 ⟨rfl, hk2⟩
  have HB2 := Lib.hid (HB0.out.trans (hk2.below (B := w.heap.size) l1 (fun i hi e => by omega)))
  clear hk2
  go_wp2
  go_ret
  exact ⟨rfl, HB2.out⟩
end Go.Proofs.YtgkiffodnofggaaGreatDoor
