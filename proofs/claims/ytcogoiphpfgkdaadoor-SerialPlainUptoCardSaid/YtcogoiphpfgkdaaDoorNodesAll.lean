/-
  Trees: as plain data, and in memory.
  The contract of token.attrs: a map of the names that were seen.
  Which trees may be, and how great they are, as plain data.
  Trees in memory: of more blocks; one tree in a new block; none.
  The model's decoding of a text, at a good beginning.
-/
import Derived.Test.YtcogoiphpfgkdaaDoorCommon
import Derived.Test.YtcogoiphpfgkdaaDoorRunesAll
import Derived.Test.YtcogoiphpfgkdaaDoorUtfAll
import Derived.Maps.OwnOps
import Derived.Maps.Views
import Derived.Test.YtcogoiphpfgkdaaDoorSets
import Derived.Lib.TrimUEq
namespace Go.Proofs.YtcogoiphpfgkdaaDoor
open Go.RowKit
set_option linter.unusedVariables false

structure At where
  name : List UInt8
  value : List UInt8
def atCells (a : At) : List Value := [.string (str a.name), .string (str a.value)]
theorem atCells_length (a : At) : (atCells a).length = 2 := rfl
inductive Nd where
  | mk (name text : List UInt8) (attrs : List At) (kids : List Nd)
def Nd.name : Nd → List UInt8 | .mk n _ _ _ => n
def Nd.text : Nd → List UInt8 | .mk _ t _ _ => t
def Nd.attrs : Nd → List At | .mk _ _ a _ => a
def Nd.kids : Nd → List Nd | .mk _ _ _ k => k
theorem Nd.kids_lt (d : Nd) : SizeOf.sizeOf d.kids < SizeOf.sizeOf d := by cases d; simp [Nd.kids]; omega

/-- Lists of trees, each with its kids. -/
theorem nds_ind {P : List Nd → Prop} (h : ∀ L, (∀ d ∈ L, P d.kids) → P L) (L : List Nd) : P L := by
  generalize hn : SizeOf.sizeOf L = n
  induction n using Nat.strongRecOn generalizing L with
  | _ n ih =>
    refine h L (fun d hd => ih _ ?_ d.kids rfl)
    have := List.sizeOf_lt_of_mem hd
    have := d.kids_lt
    omega

/-- The trees L lie from element k of the array at ad on; all that they lead to lies in blocks of S. -/
def NodesAt (S : Nat → Prop) (w : World) (ad : Addr) (k : Nat) (L : List Nd) : Prop :=
  match L with
  | [] => True
  | .mk nm tx ats kids :: rest =>
    (∃ (Aa : Option Addr) (ca : Nat) (Ak : Option Addr) (ck : Nat), w.cell? (ad.add (k * 4)) = some (.string (str nm)) ∧ w.cell? (ad.add (k * 4 + 1)) = some (.string (str tx)) ∧
      w.cell? (ad.add (k * 4 + 2)) = some (.slice Aa ats.length ca) ∧ w.cell? (ad.add (k * 4 + 3)) = some (.slice Ak kids.length ck) ∧ Row S w 2 Aa ats.length (ats.flatMap atCells) ∧
      (kids ≠ [] → ∃ ak, Ak = some ak ∧ S ak.block ∧ NodesAt S w ak 0 kids)) ∧ NodesAt S w ad (k + 1) rest
termination_by SizeOf.sizeOf L
decreasing_by all_goals (simp; omega)
/-- A slice of trees. -/
def Ns (S : Nat → Prop) (w : World) (A : Option Addr) (n : Nat) (L : List Nd) : Prop :=
  L.length = n ∧ (L ≠ [] → ∃ ad, A = some ad ∧ S ad.block ∧ NodesAt S w ad 0 L)

section
variable {S T : Nat → Prop} {w w' : World}
theorem cells_same (hS : ∀ p : Addr, S p.block → p.block < w.heap.size → w'.cell? p = w.cell? p) {p : Addr} {v : Value} (hs : S p.block) (h : w.cell? p = some v) : w'.cell? p = some v := by
  rw [hS p hs (World.block_lt_of_cell? w _ h)]
  exact h
theorem NodesAt.same (hk : ∀ p : Addr, S p.block → p.block < w.heap.size → w'.cell? p = w.cell? p) (L : List Nd) : ∀ (ad : Addr) (k : Nat), S ad.block → NodesAt S w ad k L → NodesAt S w' ad k L := by
  generalize hn : SizeOf.sizeOf L = n
  induction n using Nat.strongRecOn generalizing L with
  | _ n ih =>
    intro ad k hs h
    cases L with
    | nil => rw [NodesAt]; trivial
    | cons d rest =>
      obtain ⟨nm, tx, ats, kids⟩ := d
      rw [NodesAt] at h ⊢
      obtain ⟨⟨Aa, ca, Ak, ck, h0, h1, h2, h3, h4, h5⟩, h6⟩ := h
      have hb : ∀ j, S (ad.add j).block := fun j => by rw [addr_block]; exact hs
      refine ⟨⟨Aa, ca, Ak, ck, cells_same hk (hb _) h0, cells_same hk (hb _) h1, cells_same hk (hb _) h2, cells_same hk (hb _) h3, h4.same hk, fun hne => ?_⟩, ?_⟩
      · obtain ⟨ak, e, hs2, h7⟩ := h5 hne
        exact ⟨ak, e, hs2, ih _ (by simp at hn; omega) kids rfl ak 0 hs2 h7⟩
      · exact ih _ (by simp at hn; omega) rest rfl ad (k + 1) hs h6
theorem Ns.same {A : Option Addr} {n : Nat} {L : List Nd} (h : Ns S w A n L) (hk : ∀ p : Addr, S p.block → p.block < w.heap.size → w'.cell? p = w.cell? p) : Ns S w' A n L :=
  ⟨h.1, fun hne => by obtain ⟨ad, e, hs, h1⟩ := h.2 hne; exact ⟨ad, e, hs, NodesAt.same hk L ad 0 hs h1⟩⟩
theorem Ns.keep {A : Option Addr} {n : Nat} {L : List Nd} (h : Ns S w A n L) (hk : Keep T w w') (hST : ∀ k, S k → ¬ T k) : Ns S w' A n L := h.same fun p hs hl => hk.cell hl (hST _ hs)
theorem Ns.behind {A : Option Addr} {n : Nat} {L : List Nd} (h : Ns S w A n L) (hb : Below w.heap.size w w') : Ns S w' A n L := h.same fun p _ hl => hb.cell hl
theorem Ns.drewN {A : Option Addr} {n : Nat} {L : List Nd} (h : Ns S w A n L) (q : Nat) : Ns S (w.drewN q) A n L := h.same fun p _ _ => rfl
theorem NodesAt.get {ad : Addr} (L : List Nd) : ∀ (j k : Nat), NodesAt S w ad j L → ∀ d, L[k]? = some d →
    ∃ (Aa : Option Addr) (ca : Nat) (Ak : Option Addr) (ck : Nat), w.cell? (ad.add ((j + k) * 4)) = some (.string (str d.name)) ∧ w.cell? (ad.add ((j + k) * 4 + 1)) = some (.string (str d.text)) ∧
      w.cell? (ad.add ((j + k) * 4 + 2)) = some (.slice Aa d.attrs.length ca) ∧ w.cell? (ad.add ((j + k) * 4 + 3)) = some (.slice Ak d.kids.length ck) ∧ Row S w 2 Aa d.attrs.length (d.attrs.flatMap atCells) ∧ Ns S w Ak d.kids.length d.kids := by
  induction L with
  | nil => intro j k _ d hd; simp at hd
  | cons x rest ih =>
    intro j k h d hd
    obtain ⟨nm, tx, ats, kids⟩ := x
    rw [NodesAt] at h
    obtain ⟨⟨Aa, ca, Ak, ck, h0, h1, h2, h3, h4, h5⟩, h6⟩ := h
    cases k with
    | zero =>
      simp only [List.getElem?_cons_zero] at hd
      obtain rfl := Option.some.inj hd
      exact ⟨Aa, ca, Ak, ck, h0, h1, h2, h3, h4, rfl, h5⟩
    | succ k =>
      have := ih (j + 1) k h6 d (by simpa using hd)
      rw [show j + 1 + k = j + (k + 1) by omega] at this
      exact this
/-- Tree k, in the walk's own spelling. -/
theorem Ns.get {A : Option Addr} {n : Nat} {L : List Nd} (h : Ns S w A n L) {k : Nat} {d : Nd} (hd : L[k]? = some d) :
    ∃ (ad : Addr) (Aa : Option Addr) (ca : Nat) (Ak : Option Addr) (ck : Nat), A = some ad ∧ S ad.block ∧ S (ad.add (k * 4)).block ∧ w.cell? (ad.add (k * 4)) = some (.string (str d.name)) ∧
      w.cell? ⟨(ad.add (k * 4)).block, (ad.add (k * 4)).off + 1, none⟩ = some (.string (str d.text)) ∧ w.cell? ⟨(ad.add (k * 4)).block, (ad.add (k * 4)).off + 2, none⟩ = some (.slice Aa d.attrs.length ca) ∧
      w.cell? ⟨(ad.add (k * 4)).block, (ad.add (k * 4)).off + 3, none⟩ = some (.slice Ak d.kids.length ck) ∧ Row S w 2 Aa d.attrs.length (d.attrs.flatMap atCells) ∧ Ns S w Ak d.kids.length d.kids := by
  have hne : L ≠ [] := by rintro rfl; simp at hd
  obtain ⟨ad, e, hs, h1⟩ := h.2 hne
  obtain ⟨Aa, ca, Ak, ck, h0, h1, h2, h3, h4, h5⟩ := NodesAt.get L 0 k h1 d hd
  rw [Nat.zero_add] at h0 h1 h2 h3
  have sp : ∀ j, ad.add (k * 4 + (j + 1)) = ⟨(ad.add (k * 4)).block, (ad.add (k * 4)).off + (j + 1), none⟩ := fun j => by
    rw [← addr_add]
    generalize ad.add (k * 4) = p
    unfold Addr.add
    rw [if_neg (by omega)]
  rw [sp] at h1 h2 h3
  exact ⟨ad, Aa, ca, Ak, ck, e, hs, by rw [addr_block]; exact hs, h0, h1, h2, h3, h4, h5⟩
theorem Ns.more {A : Option Addr} {n : Nat} {L : List Nd} (h : Ns S w A n L) : Ns S w A n L := h
end
end Go.Proofs.YtcogoiphpfgkdaaDoor
namespace Go.Proofs.YtcogoiphpfgkdaaDoor
open Go.RowKit
set_option linter.unusedVariables false
set_option linter.unusedSimpArgs false

/-- May attributes be? -/
def attrsFrom (seen : List (List UInt8)) : List At → Bool
  | [] => true
  | a :: r => nameB true a.name && validB a.value && !decide (a.name ∈ seen) && attrsFrom (seen ++ [a.name]) r
def attrsB (l : List At) : Bool := attrsFrom [] l

abbrev seenSet (names : List (List UInt8)) : DataW Unit := Maps.setOf (.lit (.bool true)) (names.map Lit.string)
theorem seen_snoc (names : List (List UInt8)) (x : List UInt8) : seenSet (names ++ [x]) = (seenSet names).put (.string x) (.lit (.bool true)) := by
  unfold seenSet
  rw [List.map_append, List.map_singleton, Maps.setOf_snoc]
theorem seen_isMap (names : List (List UInt8)) : Maps.IsMap (seenSet names) := (Maps.tidy_setOf _ _ (fun x hx => by obtain ⟨a, _, rfl⟩ := List.mem_map.1 hx; trivial)).isMap
theorem seen_at (x : List UInt8) (names : List (List UInt8)) : (seenSet names).atKey (.string x) (.lit (.bool false)) = .lit (.bool (decide (x ∈ names))) := by
  generalize hn : names.length = n
  induction n generalizing names with
  | zero =>
    obtain rfl := List.eq_nil_of_length_eq_zero hn
    rfl
  | succ n ih =>
    obtain ⟨m, y, rfl⟩ : ∃ m y, names = m ++ [y] := by
      rcases List.eq_nil_or_concat names with rfl | ⟨m, y, h⟩
      · simp at hn
      · exact ⟨m, y, by rw [h, List.concat_eq_append]⟩
    rw [seen_snoc]
    by_cases hxy : x = y
    · subst hxy
      rw [Maps.atKey_put_same (seen_isMap m) (show WideAt.IsKeyLit (Lit.string x) from trivial)]
      simp
    · rw [Maps.atKey_put_other (by intro e; injection e with e; exact hxy e), ih m (by simpa using hn)]
      simp [hxy]
/-- Block b is the map of the names that were seen. -/
def SeenAt (w : World) (b : Nat) (names : List (List UInt8)) : Prop := w.ownsMap Tryd.prog 9 (plainElem Tryd.prog 4) b names.length (seenSet names)
theorem key_str (x : List UInt8) (h : x.length ≤ maxLen) : keyOf Tryd.prog 9 (.string (str x)) = some (.string x) := by
  have := WideMaps.keyOf_string_mk (P := Tryd.prog) (k := 9) (s := str x) Tryd.underlying9 (by rw [str_size]; exact h)
  simpa [str] using this
theorem SeenAt.lt {w : World} {b : Nat} {names : List (List UInt8)} (h : SeenAt w b names) : b < w.heap.size := World.ownsMap.lt h
theorem SeenAt.behind {w w' : World} {b : Nat} {names : List (List UInt8)} (h : SeenAt w b names) (hb : Below w.heap.size w w') : SeenAt w' b names := by
  obtain ⟨es, clock, h1, rest⟩ := h
  exact ⟨es, clock, (hb.block b (lt_of_heap h1)).trans h1, rest⟩
set_option maxRecDepth 100000 in
theorem SeenAt.look {w : World} {b : Nat} {names : List (List UInt8)} (h : SeenAt w b names) (x : List UInt8) (hx : x.length ≤ maxLen) :
    (Instr.lookup 140 (.map (some b)) (.string (str x)) false).run Tryd.prog w = .ok (.bool (decide (x ∈ names))) w := by
  obtain ⟨v, ps, hrun, hv⟩ := World.ownsMap.lookup h (Maps.string_keyed Tryd.underlying9) Tryd.underlying140 (z := .bool false) (by kernel_rfl) (plainElem_bool Tryd.underlying4 false) (key_str x hx)
  rw [hrun]
  rw [seen_at] at hv
  congr 1
  unfold plainElem at hv
  rw [Tryd.underlying4] at hv
  cases v <;> simp_all

set_option maxHeartbeats 8000000 in
set_option maxRecDepth 100000 in
theorem tattrs_any (S : Nat → Prop) (A : Option Addr) (n c : Nat) (L : List At) (w : World) (hr : Row S w 2 A n (L.flatMap atCells)) (hl : L.length = n) (hn : n ≤ 1073741824) (hS : ∀ k, S k → k < w.heap.size)
    (hb : ∀ a ∈ L, a.name.length ≤ 1073741824 ∧ a.value.length ≤ 1073741824) :
    Calls Tryd.prog 96 #[.slice A n c] w fun e w' => e = .returned (.bool (attrsB L)) ∧ Below w.heap.size w w' := by
  have K1 := Lib.hid (fun (W : World) (x : List UInt8) (h : x.length ≤ 1073741824) => tname_any true x W (by omega))
  have K2 := Lib.hid (fun (W : World) (x : List UInt8) (h : x.length ≤ 1073741824) => tvalid_any x W (by omega))
  have HB := Lib.hid hb
  have HS := Lib.hid hS
  have HR := Lib.hid hr
  obtain ⟨R, hR⟩ : ∃ R, attrsB L = R := ⟨_, rfl⟩
  rw [hR]
  unfold attrsB at hR
  have HV := Lib.hid hR
  subst hl
  have hmm := @run_makeMap Tryd.prog
  clear hb hS hr hR
  go_enter Tryd.func96, Tryd.ntmps96
  go_wp2
  obtain ⟨W0, hW0⟩ : ∃ W0, w.alloc (Obj.map #[] 0) = W0 := ⟨_, rfl⟩
  rw [hW0]
  have hs0 : SeenAt W0 w.heap.size [] := by rw [← hW0]; exact World.ownsMap_made w _ _ _
  have B0 : Below w.heap.size w W0 := by rw [← hW0]; exact (Below.refl _ w).alloc (Nat.le_refl _) _
  clear hW0
  go_loopw [9] (fun i wr => ∃ (k : Nat) (seen : List (List UInt8)), k ≤ L.length ∧ i = .int .i64 k ∧ seen.length ≤ k ∧ Hid (SeenAt wr w.heap.size seen) ∧ Hid (Below w.heap.size w wr) ∧ Hid (attrsFrom seen (L.drop k) = R)) (fun i _ => L.length - (intOf i).toNat)
  case atStart => exact ⟨0, [], Nat.zero_le _, rfl, Nat.zero_le _, hs0, B0, HV.out⟩
  case round =>
    clear hs0 B0
    obtain ⟨k, seen, hk, rfl, hsl, HM, HW, HK⟩ := hrel
    by_cases hlt : k < L.length
    · obtain ⟨a, ha⟩ : ∃ a, L[k]? = some a := ⟨L[k], List.getElem?_eq_getElem hlt⟩
      obtain ⟨ad, rfl, hsa, hsa2, c0, cj⟩ := (HR.out.behind HW.out).walk atCells_length (by omega) rfl ha
      have x0 := c0 _ rfl
      have x1 := cj 0 _ rfl
      have hdk : L.drop k = a :: L.drop (k + 1) := by
        rw [List.drop_eq_getElem_cons hlt]
        rw [List.getElem?_eq_getElem hlt] at ha
        rw [Option.some.inj ha]
      have hab := HB.out a (List.mem_of_getElem? ha)
      have hv := HK.out
      rw [hdk, attrsFrom] at hv
      have HVV := Lib.hid hv
      have i0 : (0 : Int) ≤ (k : Int) := by omega
      have i1 : (k : Int) < (L.length : Int) := by omega
      have lw := HW.out.size
      have lb := HM.out.lt
      have hblt := HS.out _ hsa
      have hblt2 := HS.out _ hsa2
      clear c0 cj ha hdk hv HK
      go_wp2_with fail
      obtain ⟨W1, hW1⟩ : ∃ W1, wr.alloc (.cells #[.string (str a.name), .string (str a.value)] 63) = W1 := ⟨_, rfl⟩
      rw [hW1]
      have HM1 := Lib.hid (show SeenAt W1 w.heap.size seen by rw [← hW1]; exact HM.out.behind ((Below.refl _ wr).alloc (Nat.le_refl _) _))
      have HW1 := Lib.hid (show Below w.heap.size w W1 by rw [← hW1]; exact HW.out.alloc lw _)
      have hb1 : Blk W1 wr.heap.size 63 #[.string (str a.name), .string (str a.value)] := by rw [← hW1]; exact Blk.new _ _ _
      clear hW1 HM HW x0 x1
      have hl1 := hb1.lt
      refine (K1.out W1 a.name hab.1).mono ?_
      rintro e w2 ⟨rfl, hb2⟩
      have HM2 := Lib.hid (HM1.out.behind hb2)
      have l1 := HW1.out.size
      have l2 := hb2.size
      have HW2 := Lib.hid (HW1.out.trans (hb2.mono l1))
      have y2 := hb1.below hb2 hl1
      have z0 := y2.cell 0
      have z1 := y2.cell 1
      simp only [List.getElem?_toArray, List.getElem?_cons_zero, List.getElem?_cons_succ] at z0 z1
      clear HM1 HW1 hb1 hb2
      obtain ⟨nb, hnb⟩ : ∃ nb, nameB true a.name = nb := ⟨_, rfl⟩
      obtain ⟨vb, hvb⟩ : ∃ vb, validB a.value = vb := ⟨_, rfl⟩
      obtain ⟨sb, hsb⟩ : ∃ sb, decide (a.name ∈ seen) = sb := ⟨_, rfl⟩
      have hv := HVV.out
      rw [hnb, hvb, hsb] at hv
      rw [hnb]
      have HVV2 := Lib.hid hv
      have HVB := Lib.hid hvb
      have HSB := Lib.hid hsb
      clear hv HVV hnb hvb hsb
      cases nb with
      | false =>
        go_wp2
        go_ret
        exact ⟨retb (by rw [← HVV2.out]; rfl), HW2.out⟩
      | true =>
        go_wp2_with fail
        refine (K2.out w2 a.value hab.2).mono ?_
        rintro e w3 ⟨rfl, hb3⟩
        rw [HVB.out]
        have HM3 := Lib.hid (HM2.out.behind hb3)
        have l3 := hb3.size
        have lw2 := HW2.out.size
        have HW3 := Lib.hid (HW2.out.trans (hb3.mono lw2))
        have y3 := y2.below hb3 y2.lt
        have u0 := y3.cell 0
        have u1 := y3.cell 1
        simp only [List.getElem?_toArray, List.getElem?_cons_zero, List.getElem?_cons_succ] at u0 u1
        have hlk := HM3.out.look a.name (by simp only [maxLen]; omega)
        rw [HSB.out] at hlk
        clear z0 z1 hb3 HM2 HW2
        cases vb with
        | false =>
          go_wp2
          go_ret
          exact ⟨retb (by rw [← HVV2.out]; rfl), HW3.out⟩
        | true =>
          cases sb with
          | true =>
            go_wp2
            go_ret
            exact ⟨retb (by rw [← HVV2.out]; rfl), HW3.out⟩
          | false =>
            go_wp2_with (at_mapUpdate; refine wpList_mapUpdate_own _ rfl _ _ _ 140 rfl 9 4 (Maps.string_keyed Tryd.underlying9) Tryd.underlying140 _ w.heap.size seen.length (seenSet seen) rfl HM3.out (by simp only [maxLen]; omega) _ _ (.string a.name) rfl rfl (key_str a.name (by simp only [maxLen]; omega)) (.lit (.bool true)) [] (plainElem_bool Tryd.underlying4 true) ?_; intro w4 hown4 hg4; have HM4 := Lib.hid hown4; have HG4 := Lib.hid hg4; clear hown4 hg4)
            go_roundw
            case rel =>
              refine ⟨k + 1, seen ++ [a.name], by omega, by go_num, by simp; omega, ?_, ?_, ?_⟩
              · show SeenAt _ _ _
                unfold SeenAt
                rw [seen_snoc, List.length_append]
                exact HM4.out
              · exact HW3.out.grown HG4.out (by omega) (fun j e => by cases e; exact Nat.le_refl _)
              · show _ = R
                rw [← HVV2.out]
                rfl
            case measure => simp [intOf]; omega
    · have hfin : R = true := by
        have := HK.out
        rw [List.drop_eq_nil_of_le (by omega), attrsFrom] at this
        exact this.symm
      subst hfin
      go_wp2
      go_ret
      exact ⟨rfl, HW.out⟩
end Go.Proofs.YtcogoiphpfgkdaaDoor
namespace Go.Proofs.YtcogoiphpfgkdaaDoor
open Go.RowKit
set_option linter.unusedVariables false

/-- May a node be, its kids being so? -/
def mayF (nm tx : List UInt8) (ats : List At) (kids : List Nd) (kidsOk : Bool) : Bool :=
  if nm = [] then !tx.isEmpty && validB tx && ats.isEmpty && kids.isEmpty
  else tx.isEmpty && (nameB false nm && attrsB ats) && !(decide (nm ∈ setNames0) && !kids.isEmpty) && kidsOk
theorem mayF_text {nm tx : List UInt8} {ats : List At} {kids : List Nd} {kb : Bool} (h : nm = []) : mayF nm tx ats kids kb = (!tx.isEmpty && validB tx && ats.isEmpty && kids.isEmpty) := by
  unfold mayF
  rw [if_pos h]
theorem mayF_elem {nm tx : List UInt8} {ats : List At} {kids : List Nd} {kb : Bool} (h : nm ≠ []) : mayF nm tx ats kids kb = (tx.isEmpty && (nameB false nm && attrsB ats) && !(decide (nm ∈ setNames0) && !kids.isEmpty) && kb) := by
  unfold mayF
  rw [if_neg h]
def mayOne (d : Nd) (kidsOk : Bool) : Bool := mayF d.name d.text d.attrs d.kids kidsOk
/-- May trees be? -/
def mayB (L : List Nd) : Bool :=
  match L with
  | [] => true
  | d :: rest => mayOne d (mayB d.kids) && mayB rest
termination_by SizeOf.sizeOf L
decreasing_by
  · have := d.kids_lt
    simp
    omega
  · simp
    omega
theorem mayB_nil : mayB [] = true := by rw [mayB]
theorem mayB_cons (d : Nd) (rest : List Nd) : mayB (d :: rest) = (mayOne d (mayB d.kids) && mayB rest) := by rw [mayB]

def awt (l : List At) : Nat := (l.map fun a => 1 + a.name.length + a.value.length).sum
/-- How great trees are. -/
def wt (L : List Nd) : Nat :=
  match L with
  | [] => 0
  | d :: rest => 1 + d.name.length + d.text.length + awt d.attrs + wt d.kids + wt rest
termination_by SizeOf.sizeOf L
decreasing_by
  · have := d.kids_lt
    simp
    omega
  · simp
    omega
theorem wt_nil : wt [] = 0 := by rw [wt]
theorem wt_cons (d : Nd) (rest : List Nd) : wt (d :: rest) = 1 + d.name.length + d.text.length + awt d.attrs + wt d.kids + wt rest := by rw [wt]
theorem awt_mem {l : List At} {a : At} (h : a ∈ l) : 1 + a.name.length + a.value.length ≤ awt l := by
  induction l with
  | nil => cases h
  | cons x l ih =>
    simp only [awt, List.map_cons, List.sum_cons] at ih ⊢
    rcases List.mem_cons.1 h with rfl | h
    · omega
    · have := ih h
      omega
theorem awt_length (l : List At) : l.length ≤ awt l := by
  induction l with
  | nil => simp
  | cons a l ih => simp only [awt, List.map_cons, List.sum_cons, List.length_cons] at ih ⊢; omega
theorem wt_mem {L : List Nd} {d : Nd} (h : d ∈ L) : 1 + d.name.length + d.text.length + awt d.attrs + wt d.kids ≤ wt L := by
  induction L with
  | nil => cases h
  | cons x rest ih =>
    rw [wt_cons]
    rcases List.mem_cons.1 h with rfl | h
    · omega
    · have := ih h
      omega
theorem wt_length (L : List Nd) : L.length ≤ wt L := by
  induction L with
  | nil => simp
  | cons x rest ih => rw [wt_cons, List.length_cons]; omega
theorem wt_drop (L : List Nd) (k : Nat) : wt (L.drop k) ≤ wt L := by
  induction L generalizing k with
  | nil => simp
  | cons x rest ih =>
    cases k with
    | zero => simp
    | succ k => rw [List.drop_succ_cons, wt_cons]; have := ih k; omega
end Go.Proofs.YtcogoiphpfgkdaaDoor
namespace Go.Proofs.YtcogoiphpfgkdaaDoor
open Go.RowKit
set_option linter.unusedVariables false
variable {S T : Nat → Prop} {w w' : World}

theorem NodesAt.wide (hk : ∀ k, k < w.heap.size → S k → T k) (L : List Nd) : ∀ (ad : Addr) (k : Nat), T ad.block → NodesAt S w ad k L → NodesAt T w ad k L := by
  generalize hn : SizeOf.sizeOf L = n
  induction n using Nat.strongRecOn generalizing L with
  | _ n ih =>
    intro ad k hs h
    cases L with
    | nil => rw [NodesAt]; trivial
    | cons d rest =>
      obtain ⟨nm, tx, ats, kids⟩ := d
      rw [NodesAt] at h ⊢
      obtain ⟨⟨Aa, ca, Ak, ck, h0, h1, h2, h3, h4, h5⟩, h6⟩ := h
      refine ⟨⟨Aa, ca, Ak, ck, h0, h1, h2, h3, h4.more hk (by decide), fun hne => ?_⟩, ?_⟩
      · obtain ⟨ak, e, hs2, h7⟩ := h5 hne
        have hlt : ak.block < w.heap.size := by
          cases kids with
          | nil => exact absurd rfl hne
          | cons x r =>
            obtain ⟨_, _, _, _⟩ := x
            rw [NodesAt] at h7
            obtain ⟨⟨_, _, _, _, g0, _⟩, _⟩ := h7
            have := World.block_lt_of_cell? w _ g0
            rwa [addr_block] at this
        exact ⟨ak, e, hk _ hlt hs2, ih _ (by simp at hn; omega) kids rfl ak 0 (hk _ hlt hs2) h7⟩
      · exact ih _ (by simp at hn; omega) rest rfl ad (k + 1) hs h6
theorem Ns.wide {A : Option Addr} {n : Nat} {L : List Nd} (h : Ns S w A n L) (hk : ∀ k, k < w.heap.size → S k → T k) : Ns T w A n L :=
  ⟨h.1, fun hne => by
    obtain ⟨ad, e, hs, h1⟩ := h.2 hne
    have hlt : ad.block < w.heap.size := by
      cases L with
      | nil => exact absurd rfl hne
      | cons x r =>
        obtain ⟨_, _, _, _⟩ := x
        rw [NodesAt] at h1
        obtain ⟨⟨_, _, _, _, g0, _⟩, _⟩ := h1
        have := World.block_lt_of_cell? w _ g0
        rwa [addr_block] at this
    exact ⟨ad, e, hk _ hlt hs, NodesAt.wide hk L ad 0 (hk _ hlt hs) h1⟩⟩
theorem Ns.nil : Ns S w none 0 [] := ⟨rfl, fun h => absurd rfl h⟩
/-- One tree in a block. -/
theorem Ns.one {b : Nat} {nm tx : List UInt8} {ats : List At} {kids : List Nd} {Aa Ak : Option Addr} {ca ck : Nat} (hb : Blk w b 41 #[.string (str nm), .string (str tx), .slice Aa ats.length ca, .slice Ak kids.length ck]) (hs : S b)
    (hr : Row S w 2 Aa ats.length (ats.flatMap atCells)) (hk : Ns S w Ak kids.length kids) : Ns S w (some ⟨b, 0, none⟩) 1 [.mk nm tx ats kids] := by
  refine ⟨rfl, fun _ => ⟨_, rfl, hs, ?_⟩⟩
  rw [NodesAt]
  refine ⟨⟨Aa, ca, Ak, ck, ?_, ?_, ?_, ?_, hr, hk.2⟩, by rw [NodesAt]; trivial⟩
  · exact hb.cell 0
  · exact hb.cell 1
  · exact hb.cell 2
  · exact hb.cell 3
/-- Two trees in a block. -/
theorem Ns.two {b : Nat} {nm tx nm' tx' : List UInt8} {ats ats' : List At} {kids kids' : List Nd} {Aa Ak Aa' Ak' : Option Addr} {ca ck ca' ck' : Nat}
    (hb : Blk w b 41 #[.string (str nm), .string (str tx), .slice Aa ats.length ca, .slice Ak kids.length ck, .string (str nm'), .string (str tx'), .slice Aa' ats'.length ca', .slice Ak' kids'.length ck']) (hs : S b)
    (hr : Row S w 2 Aa ats.length (ats.flatMap atCells)) (hk : Ns S w Ak kids.length kids) (hr' : Row S w 2 Aa' ats'.length (ats'.flatMap atCells)) (hk' : Ns S w Ak' kids'.length kids') : Ns S w (some ⟨b, 0, none⟩) 2 [.mk nm tx ats kids, .mk nm' tx' ats' kids'] := by
  refine ⟨rfl, fun _ => ⟨_, rfl, hs, ?_⟩⟩
  rw [NodesAt, NodesAt, NodesAt]
  refine ⟨⟨Aa, ca, Ak, ck, ?_, ?_, ?_, ?_, hr, hk.2⟩, ⟨Aa', ca', Ak', ck', ?_, ?_, ?_, ?_, hr', hk'.2⟩, trivial⟩
  · exact hb.cell 0
  · exact hb.cell 1
  · exact hb.cell 2
  · exact hb.cell 3
  · exact hb.cell 4
  · exact hb.cell 5
  · exact hb.cell 6
  · exact hb.cell 7
end Go.Proofs.YtcogoiphpfgkdaaDoor
namespace Go.Proofs.YtcogoiphpfgkdaaDoor
set_option linter.unusedVariables false

theorem uRun_step {c : UInt8} {n k : Nat} {d : UInt8} {r : List UInt8} (h : k < uRun c n k (d :: r)) : k < n ∧ uAt c k d = true := by
  rw [uRun] at h
  split at h
  · assumption
  · omega
theorem uRun_next {c : UInt8} {n k : Nat} {d : UInt8} {r : List UInt8} (h : k < n ∧ uAt c k d = true) : uRun c n k (d :: r) = uRun c n (k + 1) r := by rw [uRun, if_pos h]
theorem run_cons {c : UInt8} {n k : Nat} {r : List UInt8} (h : uRun c n k r = n) (hk : k < n) : ∃ d r', r = d :: r' ∧ uAt c k d = true ∧ uRun c n (k + 1) r' = n := by
  cases r with
  | nil => rw [uRun] at h; omega
  | cons d r' =>
    have hs := uRun_step (by omega : k < uRun c n k (d :: r'))
    rw [uRun_next hs] at h
    exact ⟨d, r', rfl, hs.2, h⟩

theorem uAt_one {c d : UInt8} (h : uAt c 1 d = true) : 128 ≤ d.toNat ∧ d.toNat ≤ 191 ∧ (c.toNat = 224 → 160 ≤ d.toNat) ∧ (c.toNat = 240 → 144 ≤ d.toNat) ∧ (c.toNat = 237 → d.toNat ≤ 159) ∧ (c.toNat = 244 → d.toNat ≤ 143) := by
  rw [uAt, if_pos rfl] at h
  have h := of_decide_eq_true h
  unfold uLo uHi at h
  repeat' split at h
  all_goals omega
theorem uAt_more {c d : UInt8} {k : Nat} (hk : k ≠ 1) (h : uAt c k d = true) : 128 ≤ d.toNat ∧ d.toNat ≤ 191 := by
  rw [uAt, if_neg hk] at h
  exact of_decide_eq_true h
theorem decode_good (l : List UInt8) (pos : Nat) (c : UInt8) (r : List UInt8) (h : l.drop pos = c :: r) (hg : uLen c ≠ 0 ∧ uGood c r = uLen c) : Utf8.decode (str l) pos = (uVal c r, uLen c) := by
  have hlen : l.length - pos = r.length + 1 := by have := congrArg List.length h; simpa using this
  have hget : ∀ j, l.getD (pos + j) 0 = (c :: r).getD j 0 := fun j => by
    rw [← h]
    simp [List.getD_eq_getElem?_getD, List.getElem?_drop]
  have h0 := hget 0
  have h1 := hget 1
  have h2 := hget 2
  have h3 := hget 3
  rw [Nat.add_zero] at h0
  rw [Lib.decode_N]
  have hd : (str l).data.toList = l := by simp [str]
  rw [hd, hlen, h0, h1, h2, h3]
  obtain ⟨hn, hr⟩ := hg
  rw [uGood, if_neg hn] at hr
  have hc : c.toNat < 256 := c.toNat_lt
  have hlc : (c.toNat < 128 ∧ uLen c = 1) ∨ (194 ≤ c.toNat ∧ c.toNat ≤ 223 ∧ uLen c = 2) ∨ (224 ≤ c.toNat ∧ c.toNat ≤ 239 ∧ uLen c = 3) ∨ (240 ≤ c.toNat ∧ c.toNat ≤ 244 ∧ uLen c = 4) := by
    unfold uLen at hn ⊢
    repeat' split
    all_goals simp_all
  rcases hlc with ⟨hc1, hl⟩ | ⟨hc1, hc2, hl⟩ | ⟨hc1, hc2, hl⟩ | ⟨hc1, hc2, hl⟩
  · rw [uVal, uBase, hl]
    simp only [Nat.sub_self, List.take_zero, uMore, List.foldl_nil, List.getD_cons_zero]
    rw [Lib.decodeN, if_pos hc1]
    simp
  · rw [hl] at hr
    obtain ⟨d, r1, rfl, a1, hr1⟩ := run_cons hr (by omega)
    have a1 := uAt_one a1
    rw [uVal, uBase, hl]
    simp only [List.getD_cons_zero, List.getD_cons_succ, uMore, List.length_cons, Nat.reduceSub, List.take_succ_cons, List.take_zero, List.foldl_cons, List.foldl_nil, if_true]
    generalize d.toNat = x at a1 ⊢
    generalize c.toNat = y at a1 hc hc1 hc2 ⊢
    rw [Lib.decodeN, if_neg (by omega), if_pos ⟨by omega, by omega, by omega⟩, if_pos (by omega)]
  · rw [hl] at hr
    obtain ⟨d, r1, rfl, a1, hr1⟩ := run_cons hr (by omega)
    obtain ⟨d2, r2, rfl, a2, hr2⟩ := run_cons hr1 (by omega)
    have a1 := uAt_one a1
    have a2 := uAt_more (by omega) a2
    rw [uVal, uBase, hl]
    simp only [List.getD_cons_zero, List.getD_cons_succ, uMore, List.length_cons, Nat.reduceSub, List.take_succ_cons, List.take_zero, List.foldl_cons, List.foldl_nil, if_true, Nat.reduceEqDiff, if_false]
    generalize d.toNat = x at a1 ⊢
    generalize d2.toNat = x2 at a2 ⊢
    generalize c.toNat = y at a1 hc hc1 hc2 ⊢
    rw [Lib.decodeN, if_neg (by omega), if_neg (by omega), if_pos ⟨by omega, ⟨by omega, by omega⟩, by omega, by omega⟩]
    have e : y % 16 * 4096 + x % 64 * 64 + x2 % 64 = (y % 16 * 64 + x % 64) * 64 + x2 % 64 := by omega
    rw [if_pos (by omega), e]
  · rw [hl] at hr
    obtain ⟨d, r1, rfl, a1, hr1⟩ := run_cons hr (by omega)
    obtain ⟨d2, r2, rfl, a2, hr2⟩ := run_cons hr1 (by omega)
    obtain ⟨d3, r3, rfl, a3, hr3⟩ := run_cons hr2 (by omega)
    have a1 := uAt_one a1
    have a2 := uAt_more (by omega) a2
    have a3 := uAt_more (by omega) a3
    rw [uVal, uBase, hl]
    simp only [List.getD_cons_zero, List.getD_cons_succ, uMore, List.length_cons, Nat.reduceSub, List.take_succ_cons, List.take_zero, List.foldl_cons, List.foldl_nil, if_true, Nat.reduceEqDiff, if_false]
    generalize d.toNat = x at a1 ⊢
    generalize d2.toNat = x2 at a2 ⊢
    generalize d3.toNat = x3 at a3 ⊢
    generalize c.toNat = y at a1 hc hc1 hc2 ⊢
    rw [Lib.decodeN, if_neg (by omega), if_neg (by omega), if_neg (by omega), if_pos ⟨by omega, ⟨by omega, by omega⟩, ⟨by omega, by omega⟩, by omega, by omega⟩]
    have e : y % 8 * 262144 + x % 64 * 4096 + x2 % 64 * 64 + x3 % 64 = ((y % 8 * 64 + x % 64) * 64 + x2 % 64) * 64 + x3 % 64 := by omega
    rw [if_pos (by omega), e]
end Go.Proofs.YtcogoiphpfgkdaaDoor
