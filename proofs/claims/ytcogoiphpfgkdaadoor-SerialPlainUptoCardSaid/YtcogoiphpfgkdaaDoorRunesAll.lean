/-
  The reference's pieces of bytes, as plain data.
  Rows of structs: the cells of a list, so many for each element.
  The contract of the reference's Pieces of bytes.
  The contracts of the reference's Valid, Runes of bytes.
-/
import Derived.Test.YtcogoiphpfgkdaaDoorUtfAll
import Derived.Test.YtcogoiphpfgkdaaDoorBase
namespace Go.Proofs.YtcogoiphpfgkdaaDoor
set_option linter.unusedVariables false

/-- A rune of bytes, where it begins, how many bytes it was made of, whether it is right. -/
structure Pc where
  r : Nat
  at_ : Nat
  size : Nat
  right : Bool
/-- What the first byte gives of a rune. -/
def uBase (c : UInt8) : Nat := if uLen c = 2 then c.toNat % 32 else if uLen c = 3 then c.toNat % 16 else if uLen c = 4 then c.toNat % 8 else c.toNat
def uMore (a : Nat) (l : List UInt8) : Nat := l.foldl (fun a d => a * 64 + d.toNat % 64) a
/-- The rune of a good beginning. -/
def uVal (c : UInt8) (r : List UInt8) : Nat := uMore (uBase c) (r.take (uLen c - 1))
def pcOf (at_ : Nat) (c : UInt8) (r : List UInt8) : Pc :=
  if uLen c ≠ 0 ∧ uGood c r = uLen c then ⟨uVal c r, at_, uLen c, true⟩ else ⟨65533, at_, if uGood c r = 0 then 1 else uGood c r, false⟩
theorem pcOf_size (at_ : Nat) (c : UInt8) (r : List UInt8) : 1 ≤ (pcOf at_ c r).size ∧ (pcOf at_ c r).size ≤ 1 + r.length := by
  have h := (uRun_le c (uLen c) r 1).2
  have h1 := (uRun_le c (uLen c) r 1).1
  unfold pcOf
  split
  · rename_i hg
    obtain ⟨h2, h3⟩ := hg
    rw [uGood, if_neg h2] at h3
    simp only
    omega
  · simp only
    unfold uGood
    repeat' split
    all_goals omega
/-- All pieces. -/
def pieces (at_ : Nat) : List UInt8 → List Pc
  | [] => []
  | c :: r => pcOf at_ c r :: pieces (at_ + (pcOf at_ c r).size) (r.drop ((pcOf at_ c r).size - 1))
termination_by l => l.length
decreasing_by simp; omega
theorem pieces_cons (at_ : Nat) (c : UInt8) (r : List UInt8) : pieces at_ (c :: r) = pcOf at_ c r :: pieces (at_ + (pcOf at_ c r).size) (r.drop ((pcOf at_ c r).size - 1)) := by rw [pieces]
theorem pieces_nil (at_ : Nat) : pieces at_ [] = [] := by rw [pieces]
theorem pieces_length (l : List UInt8) : ∀ at_, (pieces at_ l).length ≤ l.length := by
  generalize hn : l.length = n
  induction n using Nat.strongRecOn generalizing l with
  | _ n ih =>
    intro at_
    cases l with
    | nil => rw [pieces_nil]; simp
    | cons c r =>
      rw [pieces_cons, List.length_cons]
      have h := pcOf_size at_ c r
      have := ih _ (by simp at hn ⊢; omega) (r.drop ((pcOf at_ c r).size - 1)) rfl (at_ + (pcOf at_ c r).size)
      simp at hn this ⊢
      omega
/-- Valid bytes are those whose pieces are all right. -/
theorem validB_pieces (l : List UInt8) : ∀ at_, validB l = (pieces at_ l).all (·.right) := by
  generalize hn : l.length = n
  induction n using Nat.strongRecOn generalizing l with
  | _ n ih =>
    intro at_
    cases l with
    | nil => rw [pieces_nil, validB]; rfl
    | cons c r =>
      rw [pieces_cons, validB, List.all_cons]
      by_cases hg : uLen c ≠ 0 ∧ uGood c r = uLen c
      · have hp : pcOf at_ c r = ⟨uVal c r, at_, uLen c, true⟩ := by rw [pcOf, if_pos hg]
        rw [if_pos hg, hp]
        simp only [Bool.true_and]
        exact ih _ (by simp at hn ⊢; omega) _ rfl _
      · have hp : (pcOf at_ c r).right = false := by rw [pcOf, if_neg hg]
        rw [if_neg hg, hp]
        rfl
theorem uMore_snoc (a : Nat) (l : List UInt8) (d : UInt8) : uMore a (l ++ [d]) = uMore a l * 64 + d.toNat % 64 := by simp [uMore]
theorem uBase_lt (c : UInt8) (h : 2 ≤ uLen c) : uBase c < 32 := by
  have h4 : uLen c ≤ 4 := by
    unfold uLen
    repeat' split
    all_goals omega
  unfold uBase
  repeat' split
  all_goals omega
theorem uMore_lt (a : Nat) (ha : a < 32) : ∀ (l : List UInt8), uMore a l < 32 * 64 ^ l.length := by
  intro l
  generalize hn : l.length = n
  induction n generalizing l with
  | zero =>
    obtain rfl := List.eq_nil_of_length_eq_zero hn
    simpa [uMore] using ha
  | succ n ih =>
    rcases List.eq_nil_or_concat l with rfl | ⟨m, d, rfl⟩
    · simp at hn
    · rw [List.concat_eq_append] at hn ⊢
      rw [List.length_append, List.length_singleton] at hn
      have := ih m (by omega)
      rw [uMore_snoc, Nat.pow_succ]
      omega
end Go.Proofs.YtcogoiphpfgkdaaDoor
namespace Go.Proofs.YtcogoiphpfgkdaaDoor
open Go.RowKit
set_option linter.unusedVariables false

section
variable {α : Type} {f : α → List Value} {s : Nat}
theorem fm_length (hf : ∀ x, (f x).length = s) (L : List α) : (L.flatMap f).length = L.length * s := by
  induction L with
  | nil => simp
  | cons x L ih => rw [List.flatMap_cons, List.length_append, ih, hf, List.length_cons, Nat.succ_mul]; omega
theorem fm_get (hf : ∀ x, (f x).length = s) (L : List α) (k j : Nat) (x : α) (hk : L[k]? = some x) (hj : j < s) : (L.flatMap f)[k * s + j]? = (f x)[j]? := by
  induction L generalizing k with
  | nil => simp at hk
  | cons y L ih =>
    rw [List.flatMap_cons]
    cases k with
    | zero =>
      simp at hk
      subst hk
      rw [Nat.zero_mul, Nat.zero_add, List.getElem?_append_left (by rw [hf]; exact hj)]
    | succ k =>
      rw [List.getElem?_append_right (by rw [hf, Nat.succ_mul]; omega), hf]
      rw [show (k + 1) * s + j - s = k * s + j by rw [Nat.succ_mul]; omega]
      exact ih k (by simpa using hk)
theorem fm_one (h1 : ∀ x, ∀ u ∈ f x, u.oneCell' = true) (L : List α) : ∀ u ∈ L.flatMap f, u.oneCell' = true := by
  intro u hu
  obtain ⟨x, _, hx⟩ := List.mem_flatMap.1 hu
  exact h1 x u hx
theorem fm_snoc (L : List α) (x : α) : (L ++ [x]).flatMap f = L.flatMap f ++ f x := by simp
/-- Element k of a slice of structs: its cells. -/
theorem Row.struct {S : Nat → Prop} {w : World} {A : Option Addr} {n : Nat} {L : List α} (hf : ∀ x, (f x).length = s) (h : Row S w s A n (L.flatMap f)) (hs : 0 < s) (hl : L.length = n) {k : Nat} {x : α} (hk : L[k]? = some x) :
    ∃ ad, A = some ad ∧ S ad.block ∧ ∀ j v, (f x)[j]? = some v → w.cell? (ad.add (k * s + j)) = some v := by
  have hkn := (List.getElem?_eq_some_iff.1 hk).1
  obtain ⟨ad, e, hb, hc⟩ := h.2 (by omega)
  refine ⟨ad, e, hb, fun j v hv => hc _ v ?_⟩
  have hj : j < s := by have := (List.getElem?_eq_some_iff.1 hv).1; rw [hf] at this; exact this
  rw [fm_get hf L k j x hk hj, hv]
/-- Element k of a slice of structs, in the walk's own spelling. -/
theorem Row.walk {S : Nat → Prop} {w : World} {A : Option Addr} {n : Nat} {L : List α} (hf : ∀ x, (f x).length = s) (h : Row S w s A n (L.flatMap f)) (hs : 0 < s) (hl : L.length = n) {k : Nat} {x : α} (hk : L[k]? = some x) :
    ∃ ad, A = some ad ∧ S ad.block ∧ S (ad.add (k * s)).block ∧ (∀ v, (f x)[0]? = some v → w.cell? (ad.add (k * s)) = some v) ∧ ∀ j v, (f x)[j + 1]? = some v → w.cell? ⟨(ad.add (k * s)).block, (ad.add (k * s)).off + (j + 1), none⟩ = some v := by
  obtain ⟨ad, e, hb, hc⟩ := h.struct hf hs hl hk
  refine ⟨ad, e, hb, by rw [addr_block]; exact hb, fun v hv => hc 0 v hv, fun j v hv => ?_⟩
  have := hc (j + 1) v hv
  rw [← addr_add] at this
  have e : (ad.add (k * s)).add (j + 1) = ⟨(ad.add (k * s)).block, (ad.add (k * s)).off + (j + 1), none⟩ := by
    generalize ad.add (k * s) = p
    unfold Addr.add
    rw [if_neg (by omega)]
  rwa [e] at this
end
end Go.Proofs.YtcogoiphpfgkdaaDoor
namespace Go.Proofs.YtcogoiphpfgkdaaDoor
open Go.RowKit
set_option linter.unusedVariables false
set_option linter.unusedSimpArgs false

theorem piece_info : (Tryd.prog.info? 90).map (fun i => (i.zero, i.size, i.bytes)) = some (some (.agg #[.int .i32 0, .int .i64 0, .int .i64 0, .bool false]), 4, 32) := by kernel_rfl
/-- A piece's cells. -/
def pcCells (p : Pc) : List Value := [.int .i32 p.r, .int .i64 p.at_, .int .i64 p.size, .bool p.right]
theorem pcCells_length (p : Pc) : (pcCells p).length = 4 := rfl
theorem pcCells_one (p : Pc) : ∀ u ∈ pcCells p, u.oneCell' = true := by simp [pcCells, Value.oneCell']

set_option maxHeartbeats 16000000 in
set_option maxRecDepth 100000 in
theorem rpieces_any (S : Nat → Prop) (A : Option Addr) (n cp : Nat) (l : List UInt8) (w : World) (hr : Row S w 1 A n (bv l)) (hn : n ≤ 1073741824) (hnc : n ≤ cp) (hS : ∀ k, S k → k < w.heap.size) :
    Calls Tryd.prog 59 #[.slice A n cp] w (Gives fun v w' => w'.ownsRow w.heap.size 90 4 v (pieces 0 l).length ((pieces 0 l).flatMap pcCells) ∧ Below w.heap.size w w') := by
  obtain ⟨i0', hi, hz0, hz1, hz2⟩ := info_parts piece_info
  have hl : l.length = n := by have := hr.1; rw [bv_length] at this; omega
  have hpl := pieces_length l 0
  have HR := Lib.hid hr
  obtain ⟨R, hR⟩ : ∃ R, pieces 0 l = R := ⟨_, rfl⟩
  rw [hR] at hpl ⊢
  have HV := Lib.hid hR
  have HS := Lib.hid hS
  clear hr hR hS
  go_enter Tryd.func59, Tryd.ntmps59
  go_wp2
  go_loopw [3, 4] (fun v i wr => ∃ (k : Nat) (P : List Pc), k ≤ n ∧ i = .int .i64 k ∧ Hid (wr.ownsRow w.heap.size 90 4 v P.length (P.flatMap pcCells)) ∧ Hid (Below w.heap.size w wr) ∧ Hid (P ++ pieces k (l.drop k) = R)) (fun _ i _ => n - (intOf i).toNat)
  case atStart => exact ⟨0, [], Nat.zero_le _, rfl, World.ownsRow_nil _ _ _ _, Below.refl _ _, HV.out⟩
  case round =>
    obtain ⟨k, P, hk, rfl, HO, HB, HK⟩ := hrel
    obtain ⟨Av, cv, rfl, _, _⟩ := own_slice HO.out
    have hPl : P.length ≤ R.length := by have := congrArg List.length HK.out; rw [List.length_append] at this; omega
    by_cases hlt : k < n
    · obtain ⟨c, r, hcr⟩ : ∃ c r, l.drop k = c :: r := by
        cases h : l.drop k with
        | nil => have := congrArg List.length h; simp at this; omega
        | cons c r => exact ⟨c, r, rfl⟩
      obtain ⟨A', hA'⟩ : ∃ A', Option.map (fun x => x.add k) A = A' := ⟨_, rfl⟩
      have hrw := HR.out.below HB.out HS.out
      have hrow := hrw.cut hk hnc
      rw [Nat.mul_one, if_neg (by omega), hA', ← bv_drop, hcr] at hrow
      have HW := Lib.hid hrow
      have HRW := Lib.hid hrw
      have hlr : r.length + 1 + k = n := by have := congrArg List.length hcr; simp at this; omega
      have hv := HK.out
      rw [hcr, pieces_cons] at hv
      have hps := pcOf_size k c r
      have HCR := Lib.hid hcr
      have HVV := Lib.hid hv
      have i0 : (0 : Int) ≤ (k : Int) := by omega
      have i1 : (k : Int) < (n : Int) := by omega
      have i2 : (k : Int) ≤ (cp : Int) := by omega
      have hlb := HB.out.size
      clear hrow hcr hv hrw
      go_wp2_with fail
      refine (rgood_any S A' (n - k) (cp - k) c r _ HW.out (by omega)).mono ?_
      rintro e w1 ⟨rfl, q, rfl⟩
      obtain ⟨wd, hwd⟩ : ∃ wd, wr.drewN q = wd := ⟨_, rfl⟩
      rw [hwd]
      have hszd : wd.heap.size = wr.heap.size := by rw [← hwd]; rfl
      have O1 := Lib.hid (show wd.ownsRow w.heap.size 90 4 (.slice Av P.length cv) P.length (P.flatMap pcCells) by rw [← hwd]; exact own_drewN HO.out q)
      have B1 := Lib.hid (show Below w.heap.size w wd by rw [← hwd]; exact below_drewN HB.out q)
      have R1 := Lib.hid (show Row S wd 1 A n (bv l) by rw [← hwd]; exact HRW.out.drewN q)
      have hlb2 : w.heap.size ≤ wd.heap.size := by omega
      clear hwd hszd HO HB HRW HW
      by_cases hg : uLen c ≠ 0 ∧ uGood c r = uLen c
      · have hp : pcOf k c r = ⟨uVal c r, k, uLen c, true⟩ := by rw [pcOf, if_pos hg]
        rw [show decide (uLen c ≠ 0 ∧ uGood c r = uLen c) = true by simpa using hg, hg.2]
        obtain ⟨ad, u, rfl, hsa, hu, e1⟩ := R1.out.at_ hlt
        have hab : ad.block < wd.heap.size := by have := HS.out _ hsa; omega
        have hab2 : (ad.add k).block < wd.heap.size := by rw [addr_block]; exact hab
        rw [bv_get _ _ (by omega)] at hu
        obtain rfl := Option.some.inj hu
        have hck : l[k]'(by omega) = c := by
          have := congrArg List.head? HCR.out
          rw [List.head?_drop] at this
          simpa [List.getElem?_eq_getElem (show k < l.length by omega)] using this
        rw [hck] at e1
        have cl : c.toNat < 256 := c.toNat_lt
        rw [hp] at HVV hps
        simp only at HVV hps
        obtain ⟨N, hN⟩ : ∃ N, uLen c = N := ⟨_, rfl⟩
        have hN4 : 1 ≤ N ∧ N ≤ 4 := by rcases uLen_cases c with h | h | h <;> omega
        have hval : uVal c r = uMore (uBase c) (r.take (N - 1)) := by rw [uVal, hN]
        rw [hval] at HVV
        have hbl : uBase c < 32 ∨ N = 1 := by
          by_cases h2 : 2 ≤ uLen c
          · exact .inl (uBase_lt c h2)
          · exact .inr (by omega)
        have hub : uBase c = if N = 2 then c.toNat % 32 else if N = 3 then c.toNat % 16 else if N = 4 then c.toNat % 8 else c.toNat := by rw [uBase, hN]
        rw [hN] at HVV hps ⊢
        clear hu hck hg hval hN hp
        obtain ⟨N0, N4⟩ := hN4
        rcases (show N = 1 ∨ N = 2 ∨ N = 3 ∨ N = 4 by omega) with rfl | rfl | rfl | rfl
        · have hb0 : uBase c = c.toNat := by rw [hub]; rfl
          have HB0 := Lib.hid hb0
          have HBL := Lib.hid hbl
          clear hub hbl hb0
          go_wp2_with fail
          go_loop [8, 9] (fun rv i => ∃ j z : Nat, 1 ≤ j ∧ j ≤ 1 ∧ i = .int .i64 j ∧ rv = .int .i32 z ∧ Hid (uMore (uBase c) (r.take (j - 1)) = z)) (fun _ i => 1 - (intOf i).toNat)
          case atStart => exact ⟨1, c.toNat, Nat.le_refl _, by omega, rfl, by first | rfl | (simp; done) | go_num, HB0.out⟩
          case round =>
            obtain ⟨j, z, j1, j2, rfl, rfl, HZ⟩ := hrel
            by_cases hj : j < 1
            · omega
            · have hj1 : j = 1 := by omega
              subst hj1
              have h1 := HVV.out
              rw [HZ.out] at h1
              have HVZ := Lib.hid h1
              clear h1
              go_wp2_with (at_builtin; refine wpList_append_row _ rfl _ _ 87 rfl w.heap.size 90 i0' _ 4 32 Tryd.underlying87 hi hz0 hz1 hz2 rfl (by decide) _ P.length (P.flatMap pcCells) rfl ((O1.out.alloc _).alloc _) (fun j => j = wd.heap.size + 1) (some ⟨wd.heap.size + 1, 0, none⟩) 1 1 [.int .i32 z, .int .i64 k, .int .i64 1, .bool true] rfl (by have h := Row.new (wd.alloc (.cells #[.int .i32 z, .int .i64 k, .int .i64 1, .bool true] 90)) 90 #[.int .i32 z, .int .i64 k, .int .i64 1, .bool true] 4 1 rfl; rw [World.size_alloc] at h; exact h) (by simp [Value.oneCell']) (by simp only [maxLen]; omega) (by omega) (by simp; omega) ?_; intro v2 w2 ho2 hg2 hat2; obtain ⟨A2, c2, rfl, _, _⟩ := own_slice ho2; have x2 : w2.cell? ⟨wd.heap.size, 2, none⟩ = some (.int .i64 1) := hg2.cell (cell_alloc_keep (cell_alloc_at wd #[.int .i32 z, .int .i64 k, .int .i64 1, .bool true] _ 2 _ rfl) _) (own_block_lt O1.out); have HB2 := Lib.hid (((B1.out.alloc B1.out.size (.cells #[.int .i32 z, .int .i64 k, .int .i64 1, .bool true] 90)).alloc (by simp; omega) (.cells #[.int .i32 z, .int .i64 k, .int .i64 1, .bool true] 90)).grown hg2 (by simp; omega) (fun j e => (O1.out.lt j e).1)); have HO2 := Lib.hid ho2; clear ho2 hg2 hat2)
              go_roundw
              case rel =>
                refine ⟨k + 1, P ++ [⟨z, k, 1, true⟩], by omega, by go_num, ?_, HB2.out, ?_⟩
                · show w2.ownsRow _ _ _ _ _ _
                  rw [List.length_append, fm_snoc]
                  exact HO2.out
                · show _ = R
                  have h1 := HVZ.out
                  rw [← List.drop_drop, HCR.out, List.append_assoc, List.singleton_append]
                  simpa using h1
              case measure => simp [intOf]; omega
        · have hb0 : uBase c = c.toNat % 32 := by rw [hub]; rfl
          have HB0 := Lib.hid hb0
          have HBL := Lib.hid hbl
          clear hub hbl hb0
          go_wp2_with fail
          go_loop [8, 9] (fun rv i => ∃ j z : Nat, 1 ≤ j ∧ j ≤ 2 ∧ i = .int .i64 j ∧ rv = .int .i32 z ∧ Hid (uMore (uBase c) (r.take (j - 1)) = z)) (fun _ i => 2 - (intOf i).toNat)
          case atStart => exact ⟨1, c.toNat % 32, Nat.le_refl _, by omega, rfl, by first | rfl | (simp; done) | go_num, HB0.out⟩
          case round =>
            obtain ⟨j, z, j1, j2, rfl, rfl, HZ⟩ := hrel
            by_cases hj : j < 2
            · obtain ⟨ad', u, ea, _, hu, e2⟩ := R1.out.at_ (k := k + j) (by omega)
              injection ea with ea
              subst ea
              rw [bv_get _ _ (by omega)] at hu
              obtain rfl := Option.some.inj hu
              have hjr : j - 1 < r.length := by omega
              have hd : l[k + j]'(by omega) = r[j - 1] := by
                have h1 : (l.drop k)[j]? = (c :: r)[j]? := by rw [HCR.out]
                rw [List.getElem?_drop, List.getElem?_eq_getElem (show k + j < l.length by omega)] at h1
                obtain ⟨i, rfl⟩ : ∃ i, j = i + 1 := ⟨j - 1, by omega⟩
                simp only [List.getElem?_cons_succ, Nat.add_sub_cancel] at h1 hjr ⊢
                rw [List.getElem?_eq_getElem hjr] at h1
                exact Option.some.inj h1
              have htk : r.take j = r.take (j - 1) ++ [r[j - 1]] := by
                obtain ⟨i, rfl⟩ : ∃ i, j = i + 1 := ⟨j - 1, by omega⟩
                rw [List.take_succ_eq_append_getElem (by omega)]
                rfl
              have hst : uMore (uBase c) (r.take j) = z * 64 + (r[j - 1]).toNat % 64 := by rw [htk, uMore_snoc, HZ.out]
              have hzb : z < 32 * 64 ^ (j - 1) := by
                have h1 := uMore_lt (uBase c) (by have := HBL.out; omega) (r.take (j - 1))
                rw [HZ.out, List.length_take, Nat.min_eq_left (by omega)] at h1
                exact h1
              have hzc : z < 131073 := by
                have : 64 ^ (j - 1) ≤ 64 ^ 2 := Nat.pow_le_pow_right (by omega) (by omega)
                omega
              rw [hd] at e2
              generalize r[j - 1] = d at e2 hst
              have dl : d.toNat < 256 := d.toNat_lt
              have hab3 : (ad.add (k + j)).block < wd.heap.size := by rw [addr_block]; exact hab
              have i3 : (0 : Int) ≤ (k : Int) + (j : Int) := by omega
              have i4 : (k : Int) + (j : Int) < (n : Int) := by omega
              have HST := Lib.hid hst
              clear hst htk hd hu hzb
              go_wp2
              go_round
              case rel => exact ⟨j + 1, z * 64 + d.toNat % 64, by omega, by omega, by go_num, by go_num, HST.out⟩
              case measure => simp [intOf]; omega
            · have hj1 : j = 2 := by omega
              subst hj1
              have h1 := HVV.out
              rw [HZ.out] at h1
              have HVZ := Lib.hid h1
              clear h1
              go_wp2_with (at_builtin; refine wpList_append_row _ rfl _ _ 87 rfl w.heap.size 90 i0' _ 4 32 Tryd.underlying87 hi hz0 hz1 hz2 rfl (by decide) _ P.length (P.flatMap pcCells) rfl ((O1.out.alloc _).alloc _) (fun j => j = wd.heap.size + 1) (some ⟨wd.heap.size + 1, 0, none⟩) 1 1 [.int .i32 z, .int .i64 k, .int .i64 2, .bool true] rfl (by have h := Row.new (wd.alloc (.cells #[.int .i32 z, .int .i64 k, .int .i64 2, .bool true] 90)) 90 #[.int .i32 z, .int .i64 k, .int .i64 2, .bool true] 4 1 rfl; rw [World.size_alloc] at h; exact h) (by simp [Value.oneCell']) (by simp only [maxLen]; omega) (by omega) (by simp; omega) ?_; intro v2 w2 ho2 hg2 hat2; obtain ⟨A2, c2, rfl, _, _⟩ := own_slice ho2; have x2 : w2.cell? ⟨wd.heap.size, 2, none⟩ = some (.int .i64 2) := hg2.cell (cell_alloc_keep (cell_alloc_at wd #[.int .i32 z, .int .i64 k, .int .i64 2, .bool true] _ 2 _ rfl) _) (own_block_lt O1.out); have HB2 := Lib.hid (((B1.out.alloc B1.out.size (.cells #[.int .i32 z, .int .i64 k, .int .i64 2, .bool true] 90)).alloc (by simp; omega) (.cells #[.int .i32 z, .int .i64 k, .int .i64 2, .bool true] 90)).grown hg2 (by simp; omega) (fun j e => (O1.out.lt j e).1)); have HO2 := Lib.hid ho2; clear ho2 hg2 hat2)
              go_roundw
              case rel =>
                refine ⟨k + 2, P ++ [⟨z, k, 2, true⟩], by omega, by go_num, ?_, HB2.out, ?_⟩
                · show w2.ownsRow _ _ _ _ _ _
                  rw [List.length_append, fm_snoc]
                  exact HO2.out
                · show _ = R
                  have h1 := HVZ.out
                  rw [← List.drop_drop, HCR.out, List.append_assoc, List.singleton_append]
                  simpa using h1
              case measure => simp [intOf]; omega
        · have hb0 : uBase c = c.toNat % 16 := by rw [hub]; rfl
          have HB0 := Lib.hid hb0
          have HBL := Lib.hid hbl
          clear hub hbl hb0
          go_wp2_with fail
          go_loop [8, 9] (fun rv i => ∃ j z : Nat, 1 ≤ j ∧ j ≤ 3 ∧ i = .int .i64 j ∧ rv = .int .i32 z ∧ Hid (uMore (uBase c) (r.take (j - 1)) = z)) (fun _ i => 3 - (intOf i).toNat)
          case atStart => exact ⟨1, c.toNat % 16, Nat.le_refl _, by omega, rfl, by first | rfl | (simp; done) | go_num, HB0.out⟩
          case round =>
            obtain ⟨j, z, j1, j2, rfl, rfl, HZ⟩ := hrel
            by_cases hj : j < 3
            · obtain ⟨ad', u, ea, _, hu, e2⟩ := R1.out.at_ (k := k + j) (by omega)
              injection ea with ea
              subst ea
              rw [bv_get _ _ (by omega)] at hu
              obtain rfl := Option.some.inj hu
              have hjr : j - 1 < r.length := by omega
              have hd : l[k + j]'(by omega) = r[j - 1] := by
                have h1 : (l.drop k)[j]? = (c :: r)[j]? := by rw [HCR.out]
                rw [List.getElem?_drop, List.getElem?_eq_getElem (show k + j < l.length by omega)] at h1
                obtain ⟨i, rfl⟩ : ∃ i, j = i + 1 := ⟨j - 1, by omega⟩
                simp only [List.getElem?_cons_succ, Nat.add_sub_cancel] at h1 hjr ⊢
                rw [List.getElem?_eq_getElem hjr] at h1
                exact Option.some.inj h1
              have htk : r.take j = r.take (j - 1) ++ [r[j - 1]] := by
                obtain ⟨i, rfl⟩ : ∃ i, j = i + 1 := ⟨j - 1, by omega⟩
                rw [List.take_succ_eq_append_getElem (by omega)]
                rfl
              have hst : uMore (uBase c) (r.take j) = z * 64 + (r[j - 1]).toNat % 64 := by rw [htk, uMore_snoc, HZ.out]
              have hzb : z < 32 * 64 ^ (j - 1) := by
                have h1 := uMore_lt (uBase c) (by have := HBL.out; omega) (r.take (j - 1))
                rw [HZ.out, List.length_take, Nat.min_eq_left (by omega)] at h1
                exact h1
              have hzc : z < 131073 := by
                have : 64 ^ (j - 1) ≤ 64 ^ 2 := Nat.pow_le_pow_right (by omega) (by omega)
                omega
              rw [hd] at e2
              generalize r[j - 1] = d at e2 hst
              have dl : d.toNat < 256 := d.toNat_lt
              have hab3 : (ad.add (k + j)).block < wd.heap.size := by rw [addr_block]; exact hab
              have i3 : (0 : Int) ≤ (k : Int) + (j : Int) := by omega
              have i4 : (k : Int) + (j : Int) < (n : Int) := by omega
              have HST := Lib.hid hst
              clear hst htk hd hu hzb
              go_wp2
              go_round
              case rel => exact ⟨j + 1, z * 64 + d.toNat % 64, by omega, by omega, by go_num, by go_num, HST.out⟩
              case measure => simp [intOf]; omega
            · have hj1 : j = 3 := by omega
              subst hj1
              have h1 := HVV.out
              rw [HZ.out] at h1
              have HVZ := Lib.hid h1
              clear h1
              go_wp2_with (at_builtin; refine wpList_append_row _ rfl _ _ 87 rfl w.heap.size 90 i0' _ 4 32 Tryd.underlying87 hi hz0 hz1 hz2 rfl (by decide) _ P.length (P.flatMap pcCells) rfl ((O1.out.alloc _).alloc _) (fun j => j = wd.heap.size + 1) (some ⟨wd.heap.size + 1, 0, none⟩) 1 1 [.int .i32 z, .int .i64 k, .int .i64 3, .bool true] rfl (by have h := Row.new (wd.alloc (.cells #[.int .i32 z, .int .i64 k, .int .i64 3, .bool true] 90)) 90 #[.int .i32 z, .int .i64 k, .int .i64 3, .bool true] 4 1 rfl; rw [World.size_alloc] at h; exact h) (by simp [Value.oneCell']) (by simp only [maxLen]; omega) (by omega) (by simp; omega) ?_; intro v2 w2 ho2 hg2 hat2; obtain ⟨A2, c2, rfl, _, _⟩ := own_slice ho2; have x2 : w2.cell? ⟨wd.heap.size, 2, none⟩ = some (.int .i64 3) := hg2.cell (cell_alloc_keep (cell_alloc_at wd #[.int .i32 z, .int .i64 k, .int .i64 3, .bool true] _ 2 _ rfl) _) (own_block_lt O1.out); have HB2 := Lib.hid (((B1.out.alloc B1.out.size (.cells #[.int .i32 z, .int .i64 k, .int .i64 3, .bool true] 90)).alloc (by simp; omega) (.cells #[.int .i32 z, .int .i64 k, .int .i64 3, .bool true] 90)).grown hg2 (by simp; omega) (fun j e => (O1.out.lt j e).1)); have HO2 := Lib.hid ho2; clear ho2 hg2 hat2)
              go_roundw
              case rel =>
                refine ⟨k + 3, P ++ [⟨z, k, 3, true⟩], by omega, by go_num, ?_, HB2.out, ?_⟩
                · show w2.ownsRow _ _ _ _ _ _
                  rw [List.length_append, fm_snoc]
                  exact HO2.out
                · show _ = R
                  have h1 := HVZ.out
                  rw [← List.drop_drop, HCR.out, List.append_assoc, List.singleton_append]
                  simpa using h1
              case measure => simp [intOf]; omega
        · have hb0 : uBase c = c.toNat % 8 := by rw [hub]; rfl
          have HB0 := Lib.hid hb0
          have HBL := Lib.hid hbl
          clear hub hbl hb0
          go_wp2_with fail
          go_loop [8, 9] (fun rv i => ∃ j z : Nat, 1 ≤ j ∧ j ≤ 4 ∧ i = .int .i64 j ∧ rv = .int .i32 z ∧ Hid (uMore (uBase c) (r.take (j - 1)) = z)) (fun _ i => 4 - (intOf i).toNat)
          case atStart => exact ⟨1, c.toNat % 8, Nat.le_refl _, by omega, rfl, by first | rfl | (simp; done) | go_num, HB0.out⟩
          case round =>
            obtain ⟨j, z, j1, j2, rfl, rfl, HZ⟩ := hrel
            by_cases hj : j < 4
            · obtain ⟨ad', u, ea, _, hu, e2⟩ := R1.out.at_ (k := k + j) (by omega)
              injection ea with ea
              subst ea
              rw [bv_get _ _ (by omega)] at hu
              obtain rfl := Option.some.inj hu
              have hjr : j - 1 < r.length := by omega
              have hd : l[k + j]'(by omega) = r[j - 1] := by
                have h1 : (l.drop k)[j]? = (c :: r)[j]? := by rw [HCR.out]
                rw [List.getElem?_drop, List.getElem?_eq_getElem (show k + j < l.length by omega)] at h1
                obtain ⟨i, rfl⟩ : ∃ i, j = i + 1 := ⟨j - 1, by omega⟩
                simp only [List.getElem?_cons_succ, Nat.add_sub_cancel] at h1 hjr ⊢
                rw [List.getElem?_eq_getElem hjr] at h1
                exact Option.some.inj h1
              have htk : r.take j = r.take (j - 1) ++ [r[j - 1]] := by
                obtain ⟨i, rfl⟩ : ∃ i, j = i + 1 := ⟨j - 1, by omega⟩
                rw [List.take_succ_eq_append_getElem (by omega)]
                rfl
              have hst : uMore (uBase c) (r.take j) = z * 64 + (r[j - 1]).toNat % 64 := by rw [htk, uMore_snoc, HZ.out]
              have hzb : z < 32 * 64 ^ (j - 1) := by
                have h1 := uMore_lt (uBase c) (by have := HBL.out; omega) (r.take (j - 1))
                rw [HZ.out, List.length_take, Nat.min_eq_left (by omega)] at h1
                exact h1
              have hzc : z < 131073 := by
                have : 64 ^ (j - 1) ≤ 64 ^ 2 := Nat.pow_le_pow_right (by omega) (by omega)
                omega
              rw [hd] at e2
              generalize r[j - 1] = d at e2 hst
              have dl : d.toNat < 256 := d.toNat_lt
              have hab3 : (ad.add (k + j)).block < wd.heap.size := by rw [addr_block]; exact hab
              have i3 : (0 : Int) ≤ (k : Int) + (j : Int) := by omega
              have i4 : (k : Int) + (j : Int) < (n : Int) := by omega
              have HST := Lib.hid hst
              clear hst htk hd hu hzb
              go_wp2
              go_round
              case rel => exact ⟨j + 1, z * 64 + d.toNat % 64, by omega, by omega, by go_num, by go_num, HST.out⟩
              case measure => simp [intOf]; omega
            · have hj1 : j = 4 := by omega
              subst hj1
              have h1 := HVV.out
              rw [HZ.out] at h1
              have HVZ := Lib.hid h1
              clear h1
              go_wp2_with (at_builtin; refine wpList_append_row _ rfl _ _ 87 rfl w.heap.size 90 i0' _ 4 32 Tryd.underlying87 hi hz0 hz1 hz2 rfl (by decide) _ P.length (P.flatMap pcCells) rfl ((O1.out.alloc _).alloc _) (fun j => j = wd.heap.size + 1) (some ⟨wd.heap.size + 1, 0, none⟩) 1 1 [.int .i32 z, .int .i64 k, .int .i64 4, .bool true] rfl (by have h := Row.new (wd.alloc (.cells #[.int .i32 z, .int .i64 k, .int .i64 4, .bool true] 90)) 90 #[.int .i32 z, .int .i64 k, .int .i64 4, .bool true] 4 1 rfl; rw [World.size_alloc] at h; exact h) (by simp [Value.oneCell']) (by simp only [maxLen]; omega) (by omega) (by simp; omega) ?_; intro v2 w2 ho2 hg2 hat2; obtain ⟨A2, c2, rfl, _, _⟩ := own_slice ho2; have x2 : w2.cell? ⟨wd.heap.size, 2, none⟩ = some (.int .i64 4) := hg2.cell (cell_alloc_keep (cell_alloc_at wd #[.int .i32 z, .int .i64 k, .int .i64 4, .bool true] _ 2 _ rfl) _) (own_block_lt O1.out); have HB2 := Lib.hid (((B1.out.alloc B1.out.size (.cells #[.int .i32 z, .int .i64 k, .int .i64 4, .bool true] 90)).alloc (by simp; omega) (.cells #[.int .i32 z, .int .i64 k, .int .i64 4, .bool true] 90)).grown hg2 (by simp; omega) (fun j e => (O1.out.lt j e).1)); have HO2 := Lib.hid ho2; clear ho2 hg2 hat2)
              go_roundw
              case rel =>
                refine ⟨k + 4, P ++ [⟨z, k, 4, true⟩], by omega, by go_num, ?_, HB2.out, ?_⟩
                · show w2.ownsRow _ _ _ _ _ _
                  rw [List.length_append, fm_snoc]
                  exact HO2.out
                · show _ = R
                  have h1 := HVZ.out
                  rw [← List.drop_drop, HCR.out, List.append_assoc, List.singleton_append]
                  simpa using h1
              case measure => simp [intOf]; omega
      · have hp : pcOf k c r = ⟨65533, k, if uGood c r = 0 then 1 else uGood c r, false⟩ := by rw [pcOf, if_neg hg]
        rw [show decide (uLen c ≠ 0 ∧ uGood c r = uLen c) = false by simpa using hg]
        rw [hp] at HVV hps
        simp only at HVV hps
        obtain ⟨G, hG⟩ : ∃ G, uGood c r = G := ⟨_, rfl⟩
        rw [hG] at HVV hps ⊢
        by_cases hG0 : G = 0
        · subst hG0
          rw [if_pos rfl] at HVV hps
          clear hg hp hG
          go_wp2_with (at_builtin; refine wpList_append_row _ rfl _ _ 87 rfl w.heap.size 90 i0' _ 4 32 Tryd.underlying87 hi hz0 hz1 hz2 rfl (by decide) _ P.length (P.flatMap pcCells) rfl ((O1.out.alloc _).alloc _) (fun j => j = wd.heap.size + 1) (some ⟨wd.heap.size + 1, 0, none⟩) 1 1 [.int .i32 65533, .int .i64 k, .int .i64 1, .bool false] rfl (by have h := Row.new (wd.alloc (.cells #[.int .i32 65533, .int .i64 k, .int .i64 1, .bool false] 90)) 90 #[.int .i32 65533, .int .i64 k, .int .i64 1, .bool false] 4 1 rfl; rw [World.size_alloc] at h; exact h) (by simp [Value.oneCell']) (by simp only [maxLen]; omega) (by omega) (by simp; omega) ?_; intro v2 w2 ho2 hg2 hat2; obtain ⟨A2, c2, rfl, _, _⟩ := own_slice ho2; have x2 : w2.cell? ⟨wd.heap.size, 2, none⟩ = some (.int .i64 1) := hg2.cell (cell_alloc_keep (cell_alloc_at wd #[.int .i32 65533, .int .i64 k, .int .i64 1, .bool false] _ 2 _ rfl) _) (own_block_lt O1.out); have HB2 := Lib.hid (((B1.out.alloc B1.out.size (.cells #[.int .i32 65533, .int .i64 k, .int .i64 1, .bool false] 90)).alloc (by simp; omega) (.cells #[.int .i32 65533, .int .i64 k, .int .i64 1, .bool false] 90)).grown hg2 (by simp; omega) (fun j e => (O1.out.lt j e).1)); have HO2 := Lib.hid ho2; clear ho2 hg2 hat2)
          go_roundw
          case rel =>
            refine ⟨k + 1, P ++ [⟨65533, k, 1, false⟩], by omega, by go_num, ?_, HB2.out, ?_⟩
            · show w2.ownsRow _ _ _ _ _ _
              rw [List.length_append, fm_snoc]
              exact HO2.out
            · show _ = R
              have h1 := HVV.out
              rw [← List.drop_drop, HCR.out, List.append_assoc, List.singleton_append]
              simpa using h1
          case measure => simp [intOf]; omega
        · rw [if_neg hG0] at HVV hps
          have q0 : ((G : Int) == 0) = false := by rw [beq_eq_false_iff_ne]; omega
          clear hg hp hG hG0
          go_wp2_with (at_builtin; refine wpList_append_row _ rfl _ _ 87 rfl w.heap.size 90 i0' _ 4 32 Tryd.underlying87 hi hz0 hz1 hz2 rfl (by decide) _ P.length (P.flatMap pcCells) rfl ((O1.out.alloc _).alloc _) (fun j => j = wd.heap.size + 1) (some ⟨wd.heap.size + 1, 0, none⟩) 1 1 [.int .i32 65533, .int .i64 k, .int .i64 G, .bool false] rfl (by have h := Row.new (wd.alloc (.cells #[.int .i32 65533, .int .i64 k, .int .i64 G, .bool false] 90)) 90 #[.int .i32 65533, .int .i64 k, .int .i64 G, .bool false] 4 1 rfl; rw [World.size_alloc] at h; exact h) (by simp [Value.oneCell']) (by simp only [maxLen]; omega) (by omega) (by simp; omega) ?_; intro v2 w2 ho2 hg2 hat2; obtain ⟨A2, c2, rfl, _, _⟩ := own_slice ho2; have x2 : w2.cell? ⟨wd.heap.size, 2, none⟩ = some (.int .i64 G) := hg2.cell (cell_alloc_keep (cell_alloc_at wd #[.int .i32 65533, .int .i64 k, .int .i64 G, .bool false] _ 2 _ rfl) _) (own_block_lt O1.out); have HB2 := Lib.hid (((B1.out.alloc B1.out.size (.cells #[.int .i32 65533, .int .i64 k, .int .i64 G, .bool false] 90)).alloc (by simp; omega) (.cells #[.int .i32 65533, .int .i64 k, .int .i64 G, .bool false] 90)).grown hg2 (by simp; omega) (fun j e => (O1.out.lt j e).1)); have HO2 := Lib.hid ho2; clear ho2 hg2 hat2)
          go_roundw
          case rel =>
            refine ⟨k + G, P ++ [⟨65533, k, G, false⟩], by omega, by go_num, ?_, HB2.out, ?_⟩
            · show w2.ownsRow _ _ _ _ _ _
              rw [List.length_append, fm_snoc]
              exact HO2.out
            · show _ = R
              have h1 := HVV.out
              rw [← List.drop_drop, HCR.out, List.append_assoc, List.singleton_append]
              obtain ⟨j, rfl⟩ : ∃ j, G = j + 1 := ⟨G - 1, by omega⟩
              simpa using h1
          case measure => simp [intOf]; omega
    · have hfin : P = R := by
        have := HK.out
        rw [List.drop_eq_nil_of_le (by omega), pieces_nil, List.append_nil] at this
        exact this
      subst hfin
      go_wp2
      go_ret
      exact ⟨_, rfl, HO.out, HB.out⟩
end Go.Proofs.YtcogoiphpfgkdaaDoor
namespace Go.Proofs.YtcogoiphpfgkdaaDoor
open Go.RowKit
set_option linter.unusedVariables false
set_option linter.unusedSimpArgs false

theorem own_lower {W : World} {lo lo' size n : Nat} {t : TypeId} {v : Value} {xs : List Value} (h : W.ownsRow lo t size v n xs) (hl : lo' ≤ lo) : W.ownsRow lo' t size v n xs :=
  ⟨h.1, h.2.imp id (fun ⟨g, cap, cur, e, hb, rest⟩ => ⟨g, cap, cur, e, Nat.le_trans hl hb, rest⟩)⟩

set_option maxHeartbeats 8000000 in
set_option maxRecDepth 100000 in
theorem rvalid_any (S : Nat → Prop) (A : Option Addr) (n cp : Nat) (l : List UInt8) (w : World) (hr : Row S w 1 A n (bv l)) (hn : n ≤ 1073741824) (hnc : n ≤ cp) (hS : ∀ k, S k → k < w.heap.size) :
    Calls Tryd.prog 35 #[.slice A n cp] w fun e w' => e = .returned (.bool (validB l)) ∧ Below w.heap.size w w' := by
  have hp := rpieces_any S A n cp l w hr hn hnc hS
  have hl : l.length = n := by have := hr.1; rw [bv_length] at this; omega
  have hpl := pieces_length l 0
  have hv := validB_pieces l 0
  obtain ⟨R, hR⟩ : ∃ R, validB l = R := ⟨_, rfl⟩
  rw [hR] at hv ⊢
  generalize pieces 0 l = Ps at hp hpl hv
  have K := Lib.hid hp
  have HV := Lib.hid hv
  clear hp hv hR hr
  go_enter Tryd.func35, Tryd.ntmps35
  go_wp2_with fail
  refine K.out.mono ?_
  rintro e w1 ⟨v, rfl, ho, hb⟩
  obtain ⟨A1, c1, rfl, _, _⟩ := own_slice ho
  have HO := Lib.hid (Row.of_own ho)
  have B1 := Lib.hid hb
  have l1 := hb.size
  clear ho hb
  go_wp2_with fail
  go_loopw [8] (fun i wr => ∃ k : Nat, k ≤ Ps.length ∧ i = .int .i64 k ∧ Hid (R = (Ps.drop k).all (·.right)) ∧ Hid (Below w1.heap.size w1 wr)) (fun i _ => Ps.length - (intOf i).toNat)
  case atStart => exact ⟨0, Nat.zero_le _, rfl, HV.out, Below.refl _ _⟩
  case round =>
    obtain ⟨k, hk, rfl, HK, HB⟩ := hrel
    by_cases hlt : k < Ps.length
    · obtain ⟨p, hp⟩ : ∃ p, Ps[k]? = some p := ⟨Ps[k], List.getElem?_eq_getElem hlt⟩
      obtain ⟨ad, rfl, hsa, hsa2, c0, cj⟩ := (HO.out.behind HB.out).walk pcCells_length (by omega) rfl hp
      have x0 := c0 _ rfl
      have x1 := cj 0 _ rfl
      have x2 := cj 1 _ rfl
      have x3 := cj 2 _ rfl
      have hdk : Ps.drop k = p :: Ps.drop (k + 1) := by
        rw [List.drop_eq_getElem_cons hlt]
        rw [List.getElem?_eq_getElem hlt] at hp
        rw [Option.some.inj hp]
      have hv := HK.out
      rw [hdk, List.all_cons] at hv
      have HVK := Lib.hid hv
      have i0 : (0 : Int) ≤ (k : Int) := by omega
      have i1 : (k : Int) < (Ps.length : Int) := by omega
      have l2 := HB.out.size
      clear c0 cj hp hdk hv HK
      cases hpr : p.right with
      | true =>
        rw [hpr] at x3
        go_wp2
        go_roundw
        case rel => exact ⟨k + 1, by omega, by go_num, by have := HVK.out; rw [hpr, Bool.true_and] at this; exact this, HB.out.alloc l2 _⟩
        case measure => simp [intOf]; omega
      | false =>
        rw [hpr] at x3
        go_wp2
        go_ret
        exact ⟨retb (by have := HVK.out; rw [hpr, Bool.false_and] at this; exact this.symm), B1.out.trans ((HB.out.alloc l2 _).mono l1)⟩
    · have hfin : R = true := by
        have := HK.out
        rw [List.drop_eq_nil_of_le (by omega)] at this
        exact this
      subst hfin
      go_wp2
      go_ret
      exact ⟨rfl, B1.out.trans (HB.out.mono l1)⟩
theorem i32info : (Tryd.prog.info? 21).map (fun i => (i.zero, i.size, i.bytes)) = some (some (.int .i32 0), 1, 4) := by kernel_rfl
/-- Runes, as cells. -/
def rv (l : List Nat) : List Value := l.map fun (r : Nat) => .int .i32 r
theorem rv_length (l : List Nat) : (rv l).length = l.length := by simp [rv]
/-- The runes of bytes. -/
def runesOf (l : List UInt8) : List Nat := (pieces 0 l).map (·.r)
theorem runesOf_length (l : List UInt8) : (runesOf l).length ≤ l.length := by
  unfold runesOf
  rw [List.length_map]
  exact pieces_length l 0

set_option maxHeartbeats 8000000 in
set_option maxRecDepth 100000 in
theorem rrunes_any (S : Nat → Prop) (A : Option Addr) (n cp : Nat) (l : List UInt8) (w : World) (hr : Row S w 1 A n (bv l)) (hn : n ≤ 1073741824) (hnc : n ≤ cp) (hS : ∀ k, S k → k < w.heap.size) :
    Calls Tryd.prog 65 #[.slice A n cp] w (Gives fun v w' => w'.ownsRow w.heap.size 21 1 v (runesOf l).length (rv (runesOf l)) ∧ Below w.heap.size w w') := by
  obtain ⟨i0', hi, hz0, hz1, hz2⟩ := info_parts i32info
  have hp := rpieces_any S A n cp l w hr hn hnc hS
  have hl : l.length = n := by have := hr.1; rw [bv_length] at this; omega
  have hpl := pieces_length l 0
  unfold runesOf
  generalize pieces 0 l = Ps at hp hpl ⊢
  have K := Lib.hid hp
  clear hp hr
  go_enter Tryd.func65, Tryd.ntmps65
  go_wp2_with fail
  refine K.out.mono ?_
  rintro e w1 ⟨v, rfl, ho, hb⟩
  obtain ⟨A1, c1, rfl, _, _⟩ := own_slice ho
  have HO := Lib.hid (Row.of_own ho)
  have B1 := Lib.hid hb
  have l1 := hb.size
  clear ho hb
  go_wp2_with fail
  go_loopw [3, 9] (fun v i wr => ∃ k : Nat, k ≤ Ps.length ∧ i = .int .i64 k ∧ Hid (wr.ownsRow w1.heap.size 21 1 v k (rv ((Ps.take k).map (·.r)))) ∧ Hid (Below w1.heap.size w1 wr)) (fun _ i _ => Ps.length - (intOf i).toNat)
  case atStart => exact ⟨0, Nat.zero_le _, rfl, World.ownsRow_nil _ _ _ _, Below.refl _ _⟩
  case round =>
    obtain ⟨k, hk, rfl, HV, HB⟩ := hrel
    obtain ⟨Av, cv, rfl, _, _⟩ := own_slice HV.out
    by_cases hlt : k < Ps.length
    · obtain ⟨p, hp⟩ : ∃ p, Ps[k]? = some p := ⟨Ps[k], List.getElem?_eq_getElem hlt⟩
      obtain ⟨ad, rfl, hsa, hsa2, c0, cj⟩ := (HO.out.behind HB.out).walk pcCells_length (by omega) rfl hp
      have x0 := c0 _ rfl
      have x1 := cj 0 _ rfl
      have x2 := cj 1 _ rfl
      have x3 := cj 2 _ rfl
      have htk : Ps.take (k + 1) = Ps.take k ++ [p] := by
        rw [List.take_succ_eq_append_getElem hlt]
        rw [List.getElem?_eq_getElem hlt] at hp
        rw [Option.some.inj hp]
      have HT := Lib.hid htk
      have i0 : (0 : Int) ≤ (k : Int) := by omega
      have i1 : (k : Int) < (Ps.length : Int) := by omega
      have l2 := HB.out.size
      clear c0 cj hp htk
      go_wp2_with (at_builtin; refine wpList_append_row _ rfl _ _ 69 rfl w1.heap.size 21 i0' _ 1 4 Tryd.underlying69 hi hz0 hz1 hz2 rfl (by decide) _ k (rv ((Ps.take k).map (·.r))) rfl ((HV.out.alloc _).alloc _) (fun j => j = wr.heap.size + 1) (some ⟨wr.heap.size + 1, 0, none⟩) 1 1 [.int .i32 p.r] rfl (by have h := Row.new (wr.alloc (.cells #[.int .i32 p.r, .int .i64 p.at_, .int .i64 p.size, .bool p.right] 90)) 21 #[.int .i32 p.r] 1 1 rfl; rw [World.size_alloc] at h; exact h) (by simp [Value.oneCell']) (by simp only [maxLen]; omega) (by omega) (by simp; omega) ?_; intro v2 w2 ho2 hg2 hat2; have HB2 := Lib.hid (((HB.out.alloc l2 (.cells #[.int .i32 p.r, .int .i64 p.at_, .int .i64 p.size, .bool p.right] 90)).alloc (by simp; omega) (.cells #[.int .i32 p.r] 21)).grown hg2 (by simp; omega) (fun j e => (HV.out.lt j e).1)); have HO2 := Lib.hid ho2; clear ho2 hg2 hat2)
      go_roundw
      case rel =>
        refine ⟨k + 1, by omega, by go_num, ?_, HB2.out⟩
        show w2.ownsRow _ _ _ _ _ _
        rw [HT.out, List.map_append, rv, List.map_append]
        exact HO2.out
      case measure => simp [intOf]; omega
    · have hfin : k = Ps.length := by omega
      subst hfin
      go_wp2
      go_ret
      refine ⟨_, rfl, ?_, B1.out.trans (HB.out.mono l1)⟩
      have := HV.out
      rw [List.take_length] at this
      rw [List.length_map]
      exact own_lower this l1
end Go.Proofs.YtcogoiphpfgkdaaDoor
