/-
  The walk of ChunkScripts.
-/
import Derived.Test.YtadnceiohgjdhaaAwake
import Derived.Test.YtadnceiohgjdhaaAlike
import Derived.Test.YtadnceiohgjdhaaRCut
import Derived.Test.YtadnceiohgjdhaaMkSteps
import Derived.Test.YtadnceiohgjdhaaAppendText
import Derived.Test.YtadnceiohgjdhaaOpenSteps
namespace Go.Proofs.Ytadnceiohgjdhaa
open Go.RowKit
set_option linter.unusedVariables false

theorem cutTo_part (data : List UInt8) (cs : List Int) : ∀ s ∈ (cutTo data cs).1, s.1.length ≤ data.length := by
  induction h : cs.length generalizing cs with
  | zero =>
    have : cs = [] := List.eq_nil_of_length_eq_zero h
    subst this
    simp [cutTo]
  | succ n ih =>
    rcases List.eq_nil_or_concat cs with rfl | ⟨l, c, rfl⟩
    · simp at h
    · rw [List.concat_eq_append] at h ⊢
      rw [cutTo_snoc]
      intro s hs
      rcases List.mem_append.1 hs with hs | hs
      · exact ih l (by simpa using h) s hs
      · simp at hs
        rw [hs]
        simp
        omega
theorem cut_part (data : List UInt8) (cs : List Int) (fail : Bool) : ∀ s ∈ cut data cs fail, s.1.length ≤ data.length := by
  intro s hs
  rcases List.mem_append.1 hs with hs | hs
  · exact cutTo_part data cs s hs
  · simp at hs
    rw [hs]
    simp
theorem cut_len (data : List UInt8) (cs : List Int) (fail : Bool) : (cut data cs fail).length = cs.length + 1 := by simp [cut, cutTo_length]

/-- A slice of steps of the call's own, its array and its bytes in blocks of S, each step's bytes at most B. -/
def Roomy (S : Nat → Prop) (T : TypeId) (w : World) (A : Option Addr) (n c B : Nat) : Prop :=
  ∃ g cur, A = some ⟨g, 0, none⟩ ∧ S g ∧ Blk w g T cur ∧ cur.size = c * 2 ∧ n ≤ c ∧ c ≤ maxLen ∧
    ∀ j, j < n → ∃ p m f, cur[j * 2]? = some p ∧ cur[j * 2 + 1]? = some (.bool f) ∧ Room S w p m ∧ m ≤ B
theorem OwnSteps.rooms {T : TypeId} {lo : Nat} {w : World} {A : Option Addr} {n c : Nat} {L : List Stp} (h : OwnSteps T lo w (.slice A n c) L) (h0 : 0 < n) (B : Nat) (hB : ∀ s ∈ L, s.1.length ≤ B) :
    Roomy (fun k => lo ≤ k ∧ k < w.heap.size) T w A n c B := by
  have hn := h.steps.1
  obtain ⟨vs, h1, h2, h3⟩ := h
  rcases own_form h1 with ⟨e, _⟩ | ⟨g, cap, cur, e, hb, hl, hg, hnc, hm, hs, ht⟩
  · injection e; omega
  · injection e with e1 e2 e3
    subst e1 e3
    refine ⟨g, cur, rfl, ⟨hb, hl⟩, hg, hs, by omega, hm, fun j hj => ?_⟩
    have hjv : j < vs.length := by omega
    obtain ⟨e, h4, _⟩ := h3.1 j vs[j] L[j] (List.getElem?_eq_getElem hjv) (List.getElem?_eq_getElem (by omega))
    obtain ⟨c0, c1⟩ := stepCells_get vs j vs[j] (List.getElem?_eq_getElem hjv)
    rw [← ht, List.getElem?_take, if_pos (by omega)] at c0 c1
    refine ⟨_, L[j].1.length, _, by simpa using c0, by simpa using c1, ?_, hB _ (List.getElem_mem _)⟩
    rcases own_form h4 with ⟨e0, h0, _⟩ | ⟨g', cap', cur', e0, hb', hl', hg', hn', hm', hs', _⟩
    · exact .inl ⟨e0, h0⟩
    · exact .inr ⟨g', cap', cur', e0, ⟨hb', hl'⟩, hg', by omega, hn', hm'⟩
theorem Room.more {S R : Nat → Prop} {w : World} {v : Value} {n : Nat} (h : Room S w v n) (hR : ∀ k, S k → R k) : Room R w v n := by
  rcases h with h | ⟨g, cap, cur, rfl, hs, rest⟩
  · exact .inl h
  · exact .inr ⟨g, cap, cur, rfl, hR _ hs, rest⟩
theorem Room.shape {S : Nat → Prop} {w w' : World} {v : Value} {n : Nat} (h : Room S w v n) (hs : ∀ k cs, Blk w k 5 cs → ∃ cs', Blk w' k 5 cs' ∧ cs'.size = cs.size) : Room S w' v n := by
  rcases h with h | ⟨g, cap, cur, rfl, hS, hb, h1, rest⟩
  · exact .inl h
  · obtain ⟨cs', h2, h3⟩ := hs _ _ hb
    exact .inr ⟨g, cap, cs', rfl, hS, h2, h3.trans h1, rest⟩
theorem Room.bare {S : Nat → Prop} {w : World} {v : Value} {n : Nat} (h : Room S w v n) : (v = .slice none 0 0 ∧ n = 0) ∨ ∃ g cap cur, v = .slice (some ⟨g, 0, none⟩) n cap ∧ Blk w g 5 cur ∧ cur.size = cap ∧ n ≤ cap ∧ cap ≤ maxLen := by
  rcases h with h | ⟨g, cap, cur, e, _, rest⟩
  · exact .inl h
  · exact .inr ⟨g, cap, cur, e, rest⟩
theorem Room.owns {S : Nat → Prop} {w : World} {v : Value} {n : Nat} (h : Room S w v n) : ∀ k, v.ownBlock = some k → S k ∧ k < w.heap.size := by
  intro k hk
  rcases h with ⟨rfl, _⟩ | ⟨g, cap, cur, rfl, hS, hb, _⟩
  · simp [Value.ownBlock] at hk
  · simp [Value.ownBlock] at hk
    subst hk
    exact ⟨hS, hb.lt⟩
theorem Room.not_ {S : Nat → Prop} {w : World} {v : Value} {n : Nat} {g : Nat} {T : TypeId} {cs : Array Value} (h : Room S w v n) (hg : Blk w g T cs) (hT : T ≠ 5) : some g ≠ v.ownBlock := by
  intro e
  rcases h with ⟨rfl, _⟩ | ⟨g', cap, cur, rfl, hS, hb, _⟩
  · simp [Value.ownBlock] at e
  · simp [Value.ownBlock] at e
    subst e
    exact Blk.ne_ hg hb hT rfl
theorem Room.of_own {lo : Nat} {w : World} {A : Option Addr} {n c : Nat} {xs : List Value} (h : w.ownsRow lo 5 1 (.slice A n c) n xs) : Room (fun k => lo ≤ k ∧ k < w.heap.size) w (.slice A n c) n := by
  rcases own_form h with ⟨e, h0, _⟩ | ⟨g, cap, cur, e, hb, hl, hg, hnc, hm, hs, _⟩
  · exact .inl ⟨e, h0⟩
  · exact .inr ⟨g, cap, cur, e, ⟨hb, hl⟩, hg, by omega, hnc, hm⟩
theorem Room.of_own12 {lo hi : Nat} {w w' : World} {A : Option Addr} {n c : Nat} {xs : List Value} {q : Nat} (h : w.ownsRow lo 5 1 (.slice A n c) n xs) (hl : ∀ k, (Value.slice A n c).ownBlock = some k → lo ≤ k ∧ k < hi) (hb : Below w.heap.size w w') : Room (fun k => lo ≤ k ∧ k < hi) (w'.drewN q) (.slice A n c) n := by
  rcases own_form h with ⟨e, h0, _⟩ | ⟨g, cap, cur, e, hlo, hg1, hg, hnc, hm, hs, _⟩
  · exact .inl ⟨e, h0⟩
  · exact .inr ⟨g, cap, cur, e, hl g (by rw [e]; rfl), (hg.below hb hg1).drewN q, by omega, hnc, hm⟩
theorem Roomy.keep {S R : Nat → Prop} {T : TypeId} {w w' : World} {A : Option Addr} {n c B : Nat} (h : Roomy S T w A n c B) (hk : Keep R w w') (hR : ∀ k, S k → ¬ R k) : Roomy S T w' A n c B := by
  obtain ⟨g, cur, e, hs, hb, h1, h2, h3, h4⟩ := h
  refine ⟨g, cur, e, hs, hb.keep hk (hR _ hs), h1, h2, h3, fun j hj => ?_⟩
  obtain ⟨p, m, f, a, b, r, l⟩ := h4 j hj
  exact ⟨p, m, f, a, b, r.keep hk hR, l⟩

theorem intinfo : (Try.prog.info? 3).map (fun i => (i.zero, i.size, i.bytes)) = some (some (.int .i64 0), 1, 8) := by kernel_rfl
theorem alikeB_refl (e : Int) (l : List UInt8) : alikeB e l e l = true := by simp [alikeB]

set_option maxHeartbeats 8000000 in
set_option maxRecDepth 100000 in
theorem chunkScripts_walk (A B C D : Option Addr) (na ca nb cb n c m d : Nat) (L M : List Stp) (data : List UInt8) (cs : List Int) (fail : Bool) (w : World)
    (hA : Steps (fun k => k < w.heap.size) w A na L) (hB : Steps (fun k => k < w.heap.size) w B nb M) (hd : Row (fun k => k < w.heap.size) w 1 C n (bv data)) (hc : Row (fun k => k < w.heap.size) w 1 D m (iv cs))
    (hnc : n ≤ c) (ha : na ≤ 1048576) (hb : nb ≤ 1048576) (hn : n ≤ 1048576) (hm : m ≤ 1048576) (hta : total L ≤ 1048576) (htb : total M ≤ 1048576) :
    Calls Try.prog 4 #[.slice A na ca, .slice B nb cb, .agg #[.slice C n c, .slice D m d, .bool fail]] w fun e w' => e = .returned (.bool true) ∧ Below w.heap.size w w' := by
  obtain ⟨X, hX⟩ : ∃ X, X = (bytesOf L).1 := ⟨_, rfl⟩
  obtain ⟨F, hF⟩ : ∃ F, F = (bytesOf L).2 := ⟨_, rfl⟩
  obtain ⟨sb, hsb⟩ : ∃ sb, sb = sameB L M := ⟨_, rfl⟩
  obtain ⟨N, hN⟩ : ∃ N, N = cut data cs fail := ⟨_, rfl⟩
  have hdl : data.length = n := by have := hd.1; rw [bv_length] at this; omega
  have hcl : cs.length = m := by have := hc.1; rw [iv_length] at this; omega
  have hNl : N.length = m + 1 := by rw [hN, cut_len, hcl]
  have hNp : ∀ s ∈ N, s.1.length ≤ n := by rw [hN, ← hdl]; exact cut_part _ _ _
  have hbl := bytesOf_le L
  have hbm := bytesOf_le M
  have k1 := fun (S : Nat → Prop) W h => steps_any S A na ca L W h (by omega)
  have k2 := fun (S : Nat → Prop) W h => steps_any S B nb cb M W h (by omega)
  have k3 := fun (S : Nat → Prop) A c W h => bytes_any S A na c L W h (by omega) (by omega)
  have k4 := fun (S : Nat → Prop) W h => rbytes_any S A na ca L W h (by omega) (by omega)
  have k5 := fun (S T : Nat → Prop) A B c d W h1 h2 => same_any S T A B na c nb d L M W h1 h2 (by omega) (by omega) (by omega) (by omega)
  have k6 := fun (S T : Nat → Prop) W h1 h2 => rsame_any S T A B na ca nb cb L M W h1 h2 (by omega) (by omega) (by omega) (by omega)
  have k7 := fun (S T : Nat → Prop) A' c W h1 h2 => lsame_any S T A' A na c na ca L L W h1 h2 (by omega) (by omega)
  have k8 := fun (S T : Nat → Prop) A' c W h1 h2 => lsame_any S T A' B nb c nb cb M M W h1 h2 (by omega) (by omega)
  have k9 := fun (S : Nat → Prop) A' B' c' d' W h1 h2 h3 => cut_any S A' B' n c' m d' data cs fail W h1 h2 h3 (by omega) (by omega)
  have k10 := fun (S : Nat → Prop) W h1 h2 => rcut_any S C D n c m d data cs fail W h1 h2 hnc (by omega) (by omega)
  have k11 := fun (S T : Nat → Prop) A' B' c d W h1 h2 => lsame_any S T A' B' (m + 1) c (m + 1) d N N W h1 h2 (by omega) (by omega)
  have k12 := fun (lo : Nat) (T : Nat → Prop) v B d W h1 h2 => alike_any lo T v B X.length X.length d X X 0 0 W h1 h2
  have eL : decide (L = L) = true := by simp
  have eM : decide (M = M) = true := by simp
  have eN : decide (N = N) = true := by simp
  rw [← hX, ← hF] at k3 k4
  rw [← hsb] at k5 k6
  rw [eL] at k7
  rw [eM] at k8
  rw [← hN] at k9 k10
  rw [eN] at k11
  rw [alikeB_refl] at k12
  have K1 := Lib.hid k1
  have K2 := Lib.hid k2
  have K3 := Lib.hid k3
  have K4 := Lib.hid k4
  have K5 := Lib.hid k5
  have K6 := Lib.hid k6
  have K7 := Lib.hid k7
  have K8 := Lib.hid k8
  have K9 := Lib.hid k9
  have K10 := Lib.hid k10
  have K11 := Lib.hid k11
  have K12 := Lib.hid k12
  have HA := Lib.hid hA
  have HB := Lib.hid hB
  have HD := Lib.hid hd
  have HC := Lib.hid hc
  have X0 := Lib.hid (Blk.new w 29 #[.slice C n c, .slice D m d, .bool fail])
  have Z0 := Lib.hid ((Below.refl w.heap.size w).alloc (Nat.le_refl _) (.cells #[.slice C n c, .slice D m d, .bool fail] 29))
  have HLn := Lib.hid hA.1
  have HMn := Lib.hid hB.1
  have HNn := Lib.hid hNl
  have HcL := Lib.hid hcl
  have HNp := Lib.hid hNp
  obtain ⟨j0, hj, hy0, hy1, hy2⟩ := info_parts u8info
  obtain ⟨i0, hi, hz0, hz1, hz2⟩ := info_parts intinfo
  clear k1 k2 k3 k4 k5 k6 k7 k8 k9 k10 k11 k12 hA hB hd hc hbl hbm hta htb hX hF hsb hN hdl hcl hNl hNp eL eM eN
  go_enter Try.func4, Try.ntmps4
  have a0 := X0.out.cell 0
  go_wp2_with fail
  clear a0
  -- steps(a), steps(b)
  refine (K1.out _ _ (HA.out.behind Z0.out)).mono ?_
  rintro e w1 ⟨vx, rfl, hx, hb1⟩
  obtain ⟨Ax, cx, hvx, _, _⟩ := hx.form
  rw [HLn.out] at hvx
  subst hvx
  have Hx := Lib.hid hx
  have B1 := Lib.hid hb1
  have Z1 := Lib.hid (Z0.out.trans (hb1.mono Z0.out.size))
  have X1 := Lib.hid (X0.out.below hb1 X0.out.lt)
  clear hx hb1
  go_wp2_with fail
  refine (K2.out _ _ (HB.out.behind Z1.out)).mono ?_
  rintro e w2 ⟨vy, rfl, hy, hb2⟩
  obtain ⟨Ay, cy, hvy, _, _⟩ := hy.form
  rw [HMn.out] at hvy
  subst hvy
  have Hy := Lib.hid hy
  have Hx2 := Lib.hid (Hx.out.behind hb2)
  have Z2 := Lib.hid (Z1.out.trans (hb2.mono Z1.out.size))
  have X2 := Lib.hid (X1.out.below hb2 X1.out.lt)
  clear hy hb2 Hx B1 Z1 X1
  -- Bytes(x), Bytes(x), Bytes(a)
  have V2 := Lib.hid (Below.refl w2.heap.size w2)
  go_wp2_with fail
  refine (K3.out _ _ _ _ Hx2.out.steps).mono ?_
  rintro e w3 ⟨v3, rfl, bp, rfl, hp, hb3⟩
  obtain ⟨Ap, cp, rfl, _, _⟩ := own_slice hp
  have Hp := Lib.hid hp
  have V3 := Lib.hid (V2.out.trans (hb3.mono V2.out.size))
  have l23 := hb3.size
  clear hp hb3 V2
  go_wp2_with fail
  refine (K3.out _ _ _ _ (Hx2.out.behind V3.out).steps).mono ?_
  rintro e w4 ⟨v4, rfl, bq, rfl, hq, hb4⟩
  obtain ⟨Aq, cq, rfl, _, _⟩ := own_slice hq
  have Hq := Lib.hid hq
  have Hp4 := Lib.hid (own_behind Hp.out hb4)
  have V4 := Lib.hid (V3.out.trans (hb4.mono V3.out.size))
  have l34 := hb4.size
  clear hq hb4 V3
  go_wp2_with fail
  refine (K4.out _ _ ((HA.out.behind Z2.out).behind V4.out)).mono ?_
  rintro e w5 ⟨v5, rfl, bw, rfl, hw, hb5⟩
  obtain ⟨Aw, cw, rfl, _, _⟩ := own_slice hw
  have Hw := Lib.hid hw
  have Hq5 := Lib.hid (own_behind Hq.out hb5)
  have Hp5 := Lib.hid (own_behind Hp4.out hb5)
  have V5 := Lib.hid (V4.out.trans (hb5.mono V4.out.size))
  have l45 := hb5.size
  clear hw hb5 V4 Hp4
  -- alike(p), alike(q)
  go_wp2_with fail
  refine (K12.out _ _ _ _ _ _ Hp5.out (Row.of_own Hw.out)).mono ?_
  rintro e w6 ⟨rfl, hk6⟩
  have V6 := Lib.hid (V5.out.trans (hk6.below V5.out.size (fun i hi e => by have := (Hp5.out.lt i e).1; omega)))
  have Hq6 := Lib.hid (own_keep Hq5.out hk6 (fun k e1 e2 => by have := (Hq5.out.lt k e1).1; have := (Hp.out.lt k e2).2; omega))
  have Hw6 := Lib.hid (own_keep Hw.out hk6 (fun k e1 e2 => by have := (Hw.out.lt k e1).1; have := (Hp.out.lt k e2).2; omega))
  clear hk6 V5 Hp Hp5 Hq5
  go_wp2_with fail
  refine (K12.out _ _ _ _ _ _ Hq6.out (Row.of_own Hw6.out)).mono ?_
  rintro e w7 ⟨rfl, hk7⟩
  have V7 := Lib.hid (V6.out.trans (hk7.below V6.out.size (fun i hi e => by have := (Hq6.out.lt i e).1; omega)))
  clear hk7 V6 Hq Hq6 Hw Hw6
  -- Same(x, y), Same(a, b), same(x, a), same(y, b)
  go_wp2_with fail
  refine (K5.out _ _ _ _ _ _ _ (Hx2.out.behind V7.out).steps (Hy.out.behind V7.out).steps).mono ?_
  rintro e w8 ⟨rfl, hb8⟩
  have V8 := Lib.hid (V7.out.trans (hb8.mono V7.out.size))
  clear hb8 V7
  go_wp2_with fail
  refine (K6.out _ _ _ ((HA.out.behind Z2.out).behind V8.out) ((HB.out.behind Z2.out).behind V8.out)).mono ?_
  rintro e w9 ⟨rfl, hb9⟩
  have V9 := Lib.hid (V8.out.trans (hb9.mono V8.out.size))
  clear hb9 V8
  go_wp2_with fail
  refine (K7.out _ _ _ _ _ (Hx2.out.behind V9.out).steps ((HA.out.behind Z2.out).behind V9.out)).mono ?_
  rintro e w10 ⟨rfl, hb10⟩
  have V10 := Lib.hid (V9.out.trans (hb10.mono V9.out.size))
  clear hb10 V9
  go_wp2_with fail
  refine (K8.out _ _ _ _ _ (Hy.out.behind V10.out).steps ((HB.out.behind Z2.out).behind V10.out)).mono ?_
  rintro e w11 ⟨rfl, hb11⟩
  have V11 := Lib.hid (V10.out.trans (hb11.mono V10.out.size))
  have Z11 := Lib.hid (Z2.out.trans (V11.out.mono Z2.out.size))
  have X11 := Lib.hid (X2.out.below V11.out X2.out.lt)
  clear hb11 V10 V11 Z2 X2 Hx2 Hy K1 K2 K3 K4 K5 K6 K7 K8 K12 HA HB
  -- own, places
  have a1 := X11.out.cell 1
  go_wp2_with (first
    | (at_builtin; refine wpList_append_copy w11 rfl _ _ 26 rfl 5 j0 _ 1 1 Try.underlying26 hj hy0 hy1 hy2 rfl (by decide) rfl _ C n c (bv data) rfl (HD.out.behind Z11.out) (bv_one _) (by simp only [maxLen]; omega) (by omega) ?_; intro Ao co w12 hown hb12 hco _; have a1' := (X11.out.below hb12 X11.out.lt).cell 1; have s12 := Nat.lt_of_lt_of_le X11.out.lt hb12.size)
    | (at_builtin; refine wpList_append_copy w12 rfl _ _ 27 rfl 3 i0 _ 1 8 Try.underlying27 hi hz0 hz1 hz2 rfl (by decide) rfl _ D m d (iv cs) rfl ((HC.out.behind Z11.out).behind hb12) (iv_one _) (by simp only [maxLen]; omega) (by omega) ?_; intro Ap' cp' w13 hpl hb13 hcp _; have a2' := ((X11.out.below hb12 X11.out.lt).below hb13 (Nat.lt_of_lt_of_le X11.out.lt hb12.size)).cell 2)
    | fail)
  have Ho := Lib.hid (own_behind hown hb13)
  have HoL := Lib.hid (hown.lt)
  have Hpl := Lib.hid hpl
  have Z13 := Lib.hid ((Z11.out.trans (hb12.mono Z11.out.size)).trans (hb13.mono (Nat.le_trans Z11.out.size hb12.size)))
  have X13 := Lib.hid ((X11.out.below hb12 X11.out.lt).below hb13 (Nat.lt_of_lt_of_le X11.out.lt hb12.size))
  have l1 := Z11.out.size
  have l2 := hb12.size
  have l3 := hb13.size
  clear hown hpl hb12 hb13 a1 a1' X11 Z11
  -- Cut, Cut, the reference's Cut
  refine (K9.out (fun _ => True) _ _ _ _ _ ((Row.of_own Ho.out).more (fun _ _ _ => trivial) (by omega)) ((Row.of_own Hpl.out).more (fun _ _ _ => trivial) (by omega)) hco).mono ?_
  rintro e w14 ⟨v14, rfl, hl, hb14⟩
  obtain ⟨Al, cl, hvl, _, _⟩ := hl.form
  rw [HNn.out] at hvl
  subst hvl
  have Hl := Lib.hid hl
  have V14 := Lib.hid hb14
  have HR := Lib.hid (hl.rooms (by omega) n HNp.out)
  have a2 := (X13.out.below hb14 X13.out.lt).cell 2
  have l4 := hb14.size
  clear hl hb14 a2'
  go_wp2_with fail
  refine (K9.out (fun _ => True) _ _ _ _ _ ((Row.of_own (own_behind Ho.out V14.out)).more (fun _ _ _ => trivial) (by omega)) ((Row.of_own (own_behind Hpl.out V14.out)).more (fun _ _ _ => trivial) (by omega)) hco).mono ?_
  rintro e w15 ⟨v15, rfl, hm15, hb15⟩
  obtain ⟨Am, cm, hvm, _, _⟩ := hm15.form
  rw [HNn.out] at hvm
  subst hvm
  have Hm := Lib.hid hm15
  have V15 := Lib.hid (V14.out.trans (hb15.mono V14.out.size))
  have U15 := Lib.hid hb15
  clear a2
  have a1 := (X13.out.below V15.out X13.out.lt).cell 1
  have a2 := (X13.out.below V15.out X13.out.lt).cell 2
  have l5 := hb15.size
  clear hm15 hb15 V14
  go_wp2_with fail
  refine (K10.out _ _ ((HD.out.behind Z13.out).behind V15.out) ((HC.out.behind Z13.out).behind V15.out)).mono ?_
  rintro e w16 ⟨v16, rfl, hcu, hb16⟩
  obtain ⟨Ac, cc, hvc, _, _⟩ := hcu.form
  rw [HNn.out] at hvc
  subst hvc
  have Hcu := Lib.hid hcu
  have V16 := Lib.hid (V15.out.trans (hb16.mono V15.out.size))
  have U16 := Lib.hid (U15.out.trans (hb16.mono U15.out.size))
  have T16 := Lib.hid hb16
  have l6 := hb16.size
  clear hcu hb16 V15 U15 a1 a2
  -- same(l, cut)
  go_wp2_with fail
  refine (K11.out _ _ _ _ _ _ _ (Hl.out.behind U16.out).steps Hcu.out.steps).mono ?_
  rintro e w17 ⟨rfl, hb17⟩
  have V17 := Lib.hid (V16.out.trans (hb17.mono V16.out.size))
  have HR17 := Lib.hid (HR.out.keep (Keep.of_below (U16.out.trans (hb17.mono U16.out.size)) (fun _ => False)) (fun _ _ => id))
  have Hm17 := Lib.hid ((Hm.out.behind T16.out).behind hb17)
  have Hcu17 := Lib.hid (Hcu.out.behind hb17)
  have l7 := hb17.size
  have a1 := (X13.out.below V17.out X13.out.lt).cell 1
  have r1 := conv_row (Row.of_own (own_behind Ho.out V17.out)) co
  have r2 := conv_row ((HD.out.behind Z13.out).behind V17.out) c
  clear hb17 V16 U16 T16 Hl Hm Hcu HR K9 K10
  have b1 := X13.out.below V17.out X13.out.lt |>.lt
  go_wp2_with fail
  clear r1 r2
  have HPL := Lib.hid (own_behind Hpl.out V17.out)
  have HAT := Lib.hid ((HC.out.behind Z13.out).behind V17.out)
  -- the places are as they were
  go_loopw [130] (fun i wr => ∃ (k q : Nat), k ≤ m ∧ i = .int .i64 k ∧ wr = w17.drewN q) (fun i _ => m - (intOf i).toNat)
  case atStart => exact ⟨0, 0, Nat.zero_le _, rfl, rfl⟩
  case round =>
    obtain ⟨k, q, hk, rfl, rfl⟩ := hrel
    by_cases hlt : k < m
    · obtain ⟨ad, u, rfl, _, hu, e1⟩ := HPL.out |> Row.of_own |>.at_ hlt
      obtain ⟨bd, u', rfl, _, hu', e2⟩ := HAT.out.at_ hlt
      rw [hu] at hu'
      obtain rfl := Option.some.inj hu'
      rw [iv_get _ _ (by rw [← HcL.out] at hlt; exact hlt)] at hu
      obtain rfl := Option.some.inj hu
      generalize cs[k]'(by rw [← HcL.out] at hlt; exact hlt) = z at e1 e2
      clear hu hu'
      have i0 : (0 : Int) ≤ (k : Int) := by omega
      have i1 : (k : Int) < (m : Int) := by omega
      go_wp2_with fail
      go_quiet (fail)
      go_wp2
      go_roundw
      case rel => exact ⟨k + 1, _, by omega, by go_num, rfl⟩
      case measure => simp [intOf]; omega
    · clear HPL HAT a1
      go_wp2_with fail
      obtain ⟨gl, cu0, rfl, hgl, hblk, hcs, hlc, hlm, hel⟩ := HR17.out
      obtain ⟨W, hW⟩ : ∃ W, Hid (W = w17.drewN q) := ⟨_, rfl⟩
      rw [← hW.out]
      have HGL := Lib.hid (show Blk W gl 42 cu0 by rw [hW.out]; exact hblk.drewN q)
      have HEL := Lib.hid (show ∀ j, j < m + 1 → ∃ p q f, cu0[j * 2]? = some p ∧ cu0[j * 2 + 1]? = some (.bool f) ∧ Room (fun k => (w13.heap.size ≤ k ∧ k < w14.heap.size) ∨ W.heap.size ≤ k) W p q ∧ (0 ≤ j → q ≤ n) by
        intro j hj
        obtain ⟨p, q', f, x, y, z, l⟩ := hel j hj
        refine ⟨p, q', f, x, y, ?_, fun _ => l⟩
        rw [hW.out]
        exact Room.more (w := w17.drewN q) z (fun _ h => .inl h))
      have HmW := Lib.hid (show OwnSteps 42 w14.heap.size W (.slice Am (m + 1) cm) N by rw [hW.out]; exact Hm17.out)
      have HcW := Lib.hid (show OwnSteps 93 w15.heap.size W (.slice Ac (m + 1) cc) N by rw [hW.out]; exact Hcu17.out)
      have HoW := Lib.hid (show Room (fun k => w11.heap.size ≤ k ∧ k < w12.heap.size) W (.slice Ao n co) n by rw [hW.out]; exact Room.of_own12 Ho.out HoL.out V17.out)
      have VW := Lib.hid (show Below w13.heap.size w13 W by rw [hW.out]; exact below_drewN V17.out q)
      have CS := Lib.hid hcs
      have lW : w16.heap.size ≤ W.heap.size := by rw [hW.out]; exact l7
      clear hblk hcs hel hW Hm17 Hcu17 Ho HoL V17 HR17
      unfold maxLen at hlm
      -- each step's bytes are appended to
      go_loopw [146] (fun i wr => ∃ (k : Nat) (cu : Array Value), k ≤ m + 1 ∧ i = .int .i64 k ∧ Hid (Blk wr gl 42 cu) ∧ Hid (cu.size = cl * 2) ∧
          Hid (∀ j, j < m + 1 → ∃ p q f, cu[j * 2]? = some p ∧ cu[j * 2 + 1]? = some (.bool f) ∧ Room (fun k => (w13.heap.size ≤ k ∧ k < w14.heap.size) ∨ W.heap.size ≤ k) wr p q ∧ (k ≤ j → q ≤ n)) ∧
          Keep (fun k => (w13.heap.size ≤ k ∧ k < w14.heap.size) ∨ W.heap.size ≤ k) W wr) (fun i _ => m + 1 - (intOf i).toNat)
      case atStart => exact ⟨0, cu0, Nat.zero_le _, rfl, HGL.out, CS.out, HEL.out, Keep.refl _ _⟩
      case round =>
        clear hlt hk
        obtain ⟨k, cu, hk, rfl, HB', HCU, HE, hkeep⟩ := hrel
        by_cases hlt : k < m + 1
        · obtain ⟨p, q', f, hp, hf, hroom, hq⟩ := HE.out k hlt
          have hq' := hq (Nat.le_refl _)
          have e0 := (HB'.out.cell (k * 2)).trans hp
          have HP := Lib.hid hp
          have HRO := Lib.hid hroom
          obtain ⟨Ap2, cp2, hpv, hcp2⟩ := hroom.form
          subst hpv
          clear hp hf hroom hq
          unfold maxLen at hcp2
          go_wp2_with (at_builtin; refine wpList_append_text wr rfl _ _ 26 9 rfl 5 j0 Try.underlying26 Try.underlying9 hj hy0 hy1 hy2 ⟨#[109, 111, 114, 101]⟩ (by decide) (.slice Ap2 q' cp2) q' rfl rfl HRO.out.bare (by have : ByteArray.size ⟨#[109, 111, 114, 101]⟩ = 4 := rfl; omega) ?_; intro g2 c2 w2' hsh hc2 hm2 hat hgrow hshape; have hne := HRO.out.not_ HB'.out (by decide); have e0' := hgrow.cell e0 hne; have HB2 := Lib.hid (show Blk w2' gl 42 cu from (hgrow.block gl HB'.out.lt hne).trans HB'.out); have f0' := HB2.out.frozen (k * 2); have SH := Lib.hid hsh; have AT := Lib.hid hat; have SP := Lib.hid hshape; have GR := Lib.hid hgrow; clear hsh hat hshape hgrow e0 hne)
          go_roundw
          case rel =>
            have hS2 : (w13.heap.size ≤ g2 ∧ g2 < w14.heap.size) ∨ W.heap.size ≤ g2 := by
              rcases AT.out with h | h
              · exact (HRO.out.owns g2 h).1
              · have := hkeep.size; omega
            have hk2 := hkeep.grown GR.out (fun k e => .inl (HRO.out.owns k e).1)
            refine ⟨k + 1, _, by omega, by go_num, HB2.out.set_ (k * 2) _, ?_, ?_, hk2.setCell (p := ⟨gl, k * 2, none⟩) (.inl (.inl hgl)) _⟩
            · show Array.size _ = _
              simpa using HCU.out
            · intro j hj'
              obtain ⟨p, q2, f2, hp, hf, hr, hq⟩ := HE.out j hj'
              by_cases hjk : j = k
              · subst hjk
                obtain ⟨cur', hb', hs'⟩ := SH.out
                refine ⟨.slice (some ⟨g2, 0, none⟩) (q' + 4) c2, q' + 4, f2, ?_, ?_, ?_, by intro h; omega⟩
                · rw [Array.getElem?_setIfInBounds_self_of_lt (by have := HCU.out; omega)]
                · rw [Array.getElem?_setIfInBounds_ne (by omega)]; exact hf
                · exact .inr ⟨g2, c2, cur', rfl, hS2, hb'.far (p := ⟨gl, j * 2, none⟩) (Blk.ne_ hb' HB2.out (by decide)) _, hs', hc2, hm2⟩
              · refine ⟨p, q2, f2, ?_, ?_, (hr.shape SP.out).setFar HB2.out (by decide) _ _, fun h => hq (by omega)⟩
                · rw [Array.getElem?_setIfInBounds_ne (by omega)]; exact hp
                · rw [Array.getElem?_setIfInBounds_ne (by omega)]; exact hf
          case measure => simp [intOf]; omega
        · have hkm : k = m + 1 := by omega
          subst hkm
          -- l is spoilt
          have HO : Hid (OwnIn (fun k => (w13.heap.size ≤ k ∧ k < w14.heap.size) ∨ W.heap.size ≤ k) 42 wr (.slice (some ⟨gl, 0, none⟩) (m + 1) cl) (m + 1)) :=
            .inr ⟨gl, cl, cu, rfl, .inl hgl, HB'.out, HCU.out, hlc, hlm, fun j hj => by obtain ⟨p, q, f, a, b, c, _⟩ := HE.out j hj; exact ⟨p, q, f, a, b, c⟩⟩
          clear HB' HCU HE HGL HEL CS
          go_wp2_with fail
          refine (spoil_any _ _ _ wr HO.out).mono ?_
          rintro e w18 ⟨rfl, hk18⟩
          have K18 := Lib.hid (hkeep.trans hk18)
          have HoS := Lib.hid (HoW.out.keep K18.out (fun k hk => by omega))
          clear HO hkeep hk18 HoW
          go_wp2_with fail
          -- own is written over
          obtain ⟨c3, hc3⟩ : ∃ c3, c3 = co := ⟨_, rfl⟩
          go_loopw [164] (fun i wr => ∃ (k : Nat), k ≤ n ∧ i = .int .i64 k ∧ Hid (Room (fun k => w11.heap.size ≤ k ∧ k < w12.heap.size) wr (.slice Ao n co) n) ∧ Keep (fun k => w11.heap.size ≤ k ∧ k < w12.heap.size) w18 wr) (fun i _ => n - (intOf i).toNat)
          case atStart => exact ⟨0, Nat.zero_le _, rfl, HoS.out, Keep.refl _ _⟩
          case round =>
            clear hlt hk
            obtain ⟨k, hk, rfl, HR3, hk3⟩ := hrel
            by_cases hlt : k < n
            · rcases HR3.out with ⟨e, h0⟩ | ⟨go, capo, curo, e, hSo, hbo, hco2, hno, hmo⟩
              · omega
              · injection e with e1 e2 e3
                subst e1 e3
                have x0 := hbo.cell k
                have x1 := hbo.frozen k
                rw [Array.getElem?_eq_getElem (show k < curo.size by omega)] at x0
                generalize curo[k]'(by omega) = u0 at x0
                clear hbo hco2 hmo hno
                go_wp2_with fail
                go_roundw
                case rel => exact ⟨k + 1, by omega, by go_num, HR3.out.setByte k _, hk3.setCell (p := ⟨go, k, none⟩) (.inl hSo) _⟩
                case measure => simp [intOf]; omega
            · have M3 := Lib.hid (((HmW.out.keep K18.out (fun k h1 h2 => by omega)).keep hk3 (fun k h1 h2 => by omega)).steps)
              have C3 := Lib.hid (((HcW.out.keep K18.out (fun k h1 h2 => by omega)).keep hk3 (fun k h1 h2 => by omega)).steps)
              have Z3 := Lib.hid (((Z13.out.trans (VW.out.mono Z13.out.size)).trans (K18.out.below (B := w.heap.size) (by have := Z13.out.size; omega) (fun i hi e => by have := Z13.out.size; omega))).trans (hk3.below (B := w.heap.size) (by have := Z13.out.size; have := K18.out.size; omega) (fun i hi e => by omega)))
              clear HR3 hk3 HoS HmW HcW VW K18
              go_wp2_with (first
                | (go_at_call 21; refine (K11.out _ _ _ _ _ _ _ M3.out C3.out).mono ?_; rintro e w19 ⟨rfl, hb19⟩)
                | (go_at_call 14; refine (awake_any _).mono ?_; rintro e w20 ⟨rfl, hb20⟩))
              go_ret
              exact ⟨rfl, (Z3.out.trans (hb19.mono Z3.out.size)).trans (hb20.mono (Nat.le_trans Z3.out.size hb19.size))⟩

end Go.Proofs.Ytadnceiohgjdhaa
