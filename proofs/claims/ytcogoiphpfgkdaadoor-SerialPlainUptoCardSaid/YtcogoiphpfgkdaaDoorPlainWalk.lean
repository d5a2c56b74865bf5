/-
  SerialPlain: the walk.
-/
import Derived.Test.YtcogoiphpfgkdaaDoorRPlain
import Derived.Test.YtcogoiphpfgkdaaDoorRMay
namespace Go.Proofs.YtcogoiphpfgkdaaDoor
open Go.RowKit
set_option linter.unusedVariables false
set_option linter.unusedSimpArgs false

set_option maxHeartbeats 1000000 in
set_option maxRecDepth 100000 in
theorem serialPlain_walk (S : Nat → Prop) (L : List Nd) (A : Option Addr) (c : Nat) (w : World) (hT : Tab w) (hRT : RawTab w) (hw : wt L ≤ 1048576) (hN : Ns S w A L.length L) (hS : ∀ k, S k → k < w.heap.size) :
    Calls Tryd.prog 9 #[.slice A L.length c] w fun e w' => e = .returned (.bool true) ∧ Below w.heap.size w w' := by
  have KA := Lib.hid (fun (W : World) (h : Below w.heap.size w W) => awake_any W (hT.behind h) (hRT.behind h))
  have KG := Lib.hid (great_any S L hw w A c hN hS)
  have KS := Lib.hid (fun (W : World) (h : Below w.heap.size w W) => plain_any S L W A c (hT.behind h) (hRT.behind h) (fun k hk => Nat.lt_of_lt_of_le (hS k hk) h.size) hw (hN.behind h))
  have KM := Lib.hid (fun (W : World) (h : Below w.heap.size w W) => rmay_any S L hw W A c (hN.behind h) (fun k hk => Nat.lt_of_lt_of_le (hS k hk) h.size))
  have KR := Lib.hid (fun (hm : mayB L = true) (W : World) (h : Below w.heap.size w W) => rplain_any S L W A c (fun k hk => Nat.lt_of_lt_of_le (hS k hk) h.size) hw hm (hN.behind h))
  have hso : plainOut L = if mayB L = true then plainB L else [] := rfl
  have hle := plainB_le L
  obtain ⟨y, hy⟩ : ∃ y, plainB L = y := ⟨_, rfl⟩
  rw [hy] at hso hle KR
  obtain ⟨m, hm⟩ : ∃ m, mayB L = m := ⟨_, rfl⟩
  rw [hm] at hso KS KM KR
  have hyl : y.length ≤ 15728640 := by omega
  clear hT hRT hw hN hS hy hm hle
  cases m with
  | true =>
    rw [if_pos rfl] at hso
    rw [hso] at KS
    have h1 : errN true = 0 := rfl
    rw [h1] at KS
    have hz := str_size y
    clear hso h1
    go_enter Tryd.func9, Tryd.ntmps9
    go_wp2_with fail
    refine KG.out.mono ?_
    rintro e w1 ⟨⟨b, rfl⟩, hb1⟩
    have B1 := Lib.hid hb1
    clear hb1
    cases b with
    | true =>
      go_wp2_with (go_at_call 11; refine (KA.out w1 B1.out).mono ?_; rintro e w3 ⟨rfl, hb3⟩)
      go_ret
      exact ⟨rfl, B1.out.trans (hb3.mono B1.out.size)⟩
    | false =>
      go_wp2_with fail
      refine (KS.out w1 B1.out).mono ?_
      rintro e w2 ⟨rfl, hb2⟩
      have B2 := Lib.hid (B1.out.trans (hb2.mono B1.out.size))
      clear hb2
      go_wp2_with fail
      refine (KM.out w2 B2.out).mono ?_
      rintro e w4 ⟨rfl, hb4⟩
      have B4 := Lib.hid (B2.out.trans (hb4.mono B2.out.size))
      clear hb4
      go_wp2_with (go_at_call 10; refine (num_any _ _).mono ?_; rintro e w6 ⟨rfl, rfl⟩)
      refine (KR.out (by trivial) w4 B4.out).mono ?_
      rintro e w5 ⟨rfl, hb5⟩
      have B5 := Lib.hid (B4.out.trans (hb5.mono B4.out.size))
      clear hb5
      go_wp2_with (first | (go_at_call 10; refine (num_any _ _).mono ?_; rintro e w6 ⟨rfl, rfl⟩) | (go_at_call 11; refine (KA.out _ B5.out).mono ?_; rintro e w7 ⟨rfl, hb7⟩))
      go_ret
      exact ⟨rfl, B5.out.trans (hb7.mono B5.out.size)⟩
  | false =>
    rw [if_neg (by decide)] at hso
    rw [hso] at KS
    have h1 : errN false = 210 := rfl
    rw [h1] at KS
    clear hso h1 KR
    go_enter Tryd.func9, Tryd.ntmps9
    go_wp2_with fail
    refine KG.out.mono ?_
    rintro e w1 ⟨⟨b, rfl⟩, hb1⟩
    have B1 := Lib.hid hb1
    clear hb1
    cases b with
    | true =>
      go_wp2_with (go_at_call 11; refine (KA.out w1 B1.out).mono ?_; rintro e w3 ⟨rfl, hb3⟩)
      go_ret
      exact ⟨rfl, B1.out.trans (hb3.mono B1.out.size)⟩
    | false =>
      go_wp2_with fail
      refine (KS.out w1 B1.out).mono ?_
      rintro e w2 ⟨rfl, hb2⟩
      have B2 := Lib.hid (B1.out.trans (hb2.mono B1.out.size))
      clear hb2
      go_wp2_with fail
      refine (KM.out w2 B2.out).mono ?_
      rintro e w4 ⟨rfl, hb4⟩
      have B4 := Lib.hid (B2.out.trans (hb4.mono B2.out.size))
      clear hb4
      go_wp2_with (first | (go_at_call 10; refine (num_any _ _).mono ?_; rintro e w6 ⟨rfl, rfl⟩) | (go_at_call 11; refine (KA.out _ B4.out).mono ?_; rintro e w7 ⟨rfl, hb7⟩))
      go_ret
      exact ⟨rfl, B4.out.trans (hb7.mono B4.out.size)⟩
end Go.Proofs.YtcogoiphpfgkdaaDoor
