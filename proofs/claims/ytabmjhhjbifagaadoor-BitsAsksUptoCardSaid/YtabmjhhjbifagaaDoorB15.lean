/- Part of a proof of laws of the seat YtabmjhhjbifagaaDoor: functions' weakest preconditions, each checked by the kernel, and contracts out of them; no conditions. -/
import Derived.Test.YtabmjhhjbifagaaDoorB14
import Derived.Test.YtabmjhhjbifagaaDoorBM6
import Derived.Test.YtabmjhhjbifagaaDoorBM7
set_option linter.unusedVariables false
set_option linter.unusedSimpArgs false
namespace Go.Mir
open Go Go.E Go.RowKit Go.Bt
section
variable {w : World} {a b : Option Addr} {n c m d g : Nat} {xs ys : W} {i : Int}
/-- The law BitsWords. -/
theorem bitsWords_law (hT : Tab w) (hx : Sl enW w a n xs) (hy : Sl enW w b m ys) (hm : n ≤ 16777216) (hm2 : m ≤ 16777216) : Pure Go.Proofs.Tryd.prog 6 #[.slice a n c, .slice b m d] w (.bool true) := by
  refine thicketlaw05_BitsWords.calls (R := fun v' u => v' = _ ∧ Below w.heap.size w u) ?_
  unfold thicketlaw05_BitsWords thicketlaw05_BitsWords.g0
  have hxl := hx.len
  have hyl := hy.len
  refine E.CallsD.mono (And_c hx hy hm) fun v u1 ⟨a1, n1, c1, hv, s1⟩ => ⟨_, _, _, _, hv, ?_⟩
  have k1 := s1.kept
  refine E.CallsD.mono (Or_c (hx.keep k1) (hy.keep k1) hm) fun v u2 ⟨a2, n2, c2, hv, s2⟩ => ⟨_, _, _, _, hv, ?_⟩
  have k2 := Kept.trans k1 s2.kept
  refine E.CallsD.mono (Xor_c (hx.keep k2) (hy.keep k2) hm) fun v u3 ⟨a3, n3, c3, hv, s3⟩ => ⟨_, _, _, _, hv, ?_⟩
  have k3 := Kept.trans k2 s3.kept
  refine E.CallsD.mono (Do1_c (hx.keep k3) (hy.keep k3) hm) fun v u4 ⟨a4, n4, c4, hv, s4⟩ => ⟨_, _, _, _, hv, ?_⟩
  have k4 := Kept.trans k3 s4.kept
  refine E.CallsD.mono (Do2_c (hx.keep k4) (hy.keep k4) hm) fun v u5 ⟨a5, n5, c5, hv, s5⟩ => ⟨_, _, _, _, hv, ?_⟩
  have k5 := Kept.trans k4 s5.kept
  refine E.CallsD.mono (Do3_c (hx.keep k5) (hy.keep k5) hm) fun v u6 ⟨a6, n6, c6, hv, s6⟩ => ⟨_, _, _, _, hv, ?_⟩
  have k6 := Kept.trans k5 s6.kept
  have f1 : ∀ {b : Bool} {t f : Prop}, b = true → f → onBool (!b) t f := fun hb hf => by subst hb; exact hf
  refine E.CallsD.mono (lives_c (hT.kept k6)) fun v u7 ⟨hv, q7⟩ => ⟨_, hv, f1 rfl ?_⟩
  have k47 := Kept.trans s5.kept (Kept.trans s6.kept q7)
  have k37 := Kept.trans s4.kept k47
  have k27 := Kept.trans s3.kept k37
  refine E.CallsD.mono (Same_yes (s1.sl.keep (Kept.trans s2.kept k27)) (s4.sl.keep k47) (by rw [s1.len]; exact zipA_len _ _ _ (by omega))) fun v u8 ⟨hv, q8⟩ => ⟨_, hv, f1 rfl ?_⟩
  have k78 := Kept.trans q7 q8
  refine E.CallsD.mono (Same_yes (s2.sl.keep (Kept.trans k27 q8)) (s5.sl.keep (Kept.trans s6.kept k78)) (by rw [s2.len]; exact zipA_len _ _ _ (by omega))) fun v u9 ⟨hv, q9⟩ => ⟨_, hv, f1 rfl ?_⟩
  have k79 := Kept.trans k78 q9
  refine E.CallsD.mono (Same_yes (s3.sl.keep (Kept.trans k37 (Kept.trans q8 q9))) (s6.sl.keep k79) (by rw [s3.len]; exact zipA_len _ _ _ (by omega))) fun v u10 ⟨hv, q10⟩ => ⟨_, hv, f1 rfl ?_⟩
  have k710 := Kept.trans k79 q10
  have k10 := Kept.trans k6 k710
  have err : ∀ f h : BitVec 64 → BitVec 64 → BitVec 64, (zipA f xs ys).2 = (zipA h xs ys).2 := fun f h => by unfold zipA; split <;> rfl
  refine onNe_f (by omega) ?_
  refine onNe_f (by omega) ?_
  refine onNe_f (by omega) ?_
  refine E.CallsD.mono (copied_c (hx.keep k10) hm) fun v u11 ⟨ac, cc, hv, s11⟩ => ⟨_, _, _, hv, ?_⟩
  have k11 := Kept.trans k10 s11.kept
  refine E.CallsD.mono (copied_c (hy.keep k11) hm2) fun v u12 ⟨ad, cd, hv, s12⟩ => ⟨_, _, _, hv, ?_⟩
  have k12 := Kept.trans k11 s12.kept
  by_cases hne : n = m
  · subst hne
    obtain ⟨gc, hac, hgc, _⟩ := s11
    obtain ⟨gd, had, hgd, q12⟩ := s12
    have hle := hac.le
    refine E.CallsD.mono (Meet_c (hac.kept q12) (fun u ho => (had.mod ho fun k h4 h5 => by omega).sl) hm) fun v u13 ⟨hv, hb, ho⟩ => ⟨_, hv, ?_⟩
    have q1013 : Kept u10 u13 := by
      rcases hgc with h | h
      · exact Kept.only (Kept.trans (by assumption) q12) ho h
      · exact Kept.trans (Kept.trans (by assumption) q12) (ho.kept fun k h5 h6 => by omega)
    have k13 := Kept.trans k10 q1013
    have z0 : (zipA (fun x y => x &&& y) xs ys) = (xs.zipWith (fun x y => x &&& y) ys, 0) := by unfold zipA; rw [if_pos (by omega)]
    have e0 : (zipA (fun x y => x &&& y) xs ys).2 = 0 := by rw [z0]
    refine onNe_f (by omega) ?_
    refine onEq_t (by omega) ?_
    have s4' := s4.sl.keep (Kept.trans k47 (Kept.trans (Kept.trans q8 (Kept.trans q9 q10)) q1013))
    rw [z0] at s4'
    refine E.CallsD.mono (Same_yes hb.sl s4' hm) fun v u14 ⟨hv, q14⟩ => ⟨_, hv, ?_⟩
    rw [onBool_t]
    refine E.CallsD.mono (Same_yes ((had.mod ho fun k h4 h5 => by omega).sl.keep q14) (hy.keep (Kept.trans k13 q14)) hm) fun v u15 ⟨hv, q15⟩ => ⟨_, hv, rfl, Kept.trans k13 (Kept.trans q14 q15)⟩
  · refine E.CallsD.mono (Meet_no hne) fun v u13 ⟨hv, q13⟩ => ⟨_, hv, ?_⟩
    have k13 := Kept.trans k12 q13
    have e6 : (zipA (fun x y => x &&& y) xs ys).2 = 6 := by unfold zipA; rw [if_neg (by omega)]
    refine onNe_t (by omega) ?_
    refine onEq_t (by omega) ?_
    refine E.CallsD.mono (Same_yes (s11.sl.keep (Kept.trans s12.kept q13)) (hx.keep k13) hm) fun v u14 ⟨hv, q14⟩ => ⟨_, hv, ?_⟩
    rw [onBool_t]
    refine E.CallsD.mono (Same_yes (s12.sl.keep (Kept.trans q13 q14)) (hy.keep (Kept.trans k13 q14)) hm2) fun v u15 ⟨hv, q15⟩ => ⟨_, hv, rfl, Kept.trans k13 (Kept.trans q14 q15)⟩

/-! ### With, Less, Put -/
def inW (xs : W) (i : Int) : Bool := decide (0 ≤ i) && decide (i / 64 < xs.length)
def withA (xs : W) (i : Int) : W × Int := if inW xs i then (ofB xs.length (fun j => bit xs j || decide (j = i.toNat)), 0) else ([], 2)
def lessA (xs : W) (i : Int) : W × Int := if inW xs i then (ofB xs.length (fun j => bit xs j && !decide (j = i.toNat)), 0) else ([], 2)
theorem set_with {xs : W} {i : Nat} {x : BitVec 64} (hx : xs[i / 64]? = some x) : xs.set (i / 64) (x ||| BitVec.twoPow 64 (i % 64)) = ofB xs.length (fun j => bit xs j || decide (j = i)) := by
  apply ext (by simp)
  intro j hj
  simp at hj
  rw [put_in hx (by omega), bit_ofB, Nat.div_add_mod]
  simp [hj]
theorem set_less {xs : W} {i : Nat} {x : BitVec 64} (hx : xs[i / 64]? = some x) : xs.set (i / 64) (x &&& ~~~BitVec.twoPow 64 (i % 64)) = ofB xs.length (fun j => bit xs j && !decide (j = i)) := by
  apply ext (by simp)
  intro j hj
  simp at hj
  rw [put_out hx (by omega), bit_ofB, Nat.div_add_mod]
  simp [hj]
theorem With_c (hx : Sl enW w a n xs) (hm : n ≤ 16777216) (hi : i ≤ 9223372036854775807) : E.CallsD Go.Proofs.Tryd.prog 39 #[.slice a n c, .int .i64 i] w fun v u => ∃ a' n' c', v = .tuple #[.slice a' n' c', .int .i64 (withA xs i).2] ∧ New enW 56 w u a' n' c' (withA xs i).1 := by
  refine bits_With.calls ?_
  unfold bits_With bits_With.g0
  have hl := hx.len
  refine E.CallsD.mono (within_c hi) fun v u ⟨hv, hu⟩ => ⟨_, hv, ?_⟩
  have e : (decide (0 ≤ i) && decide (i / 64 < n)) = inW xs i := by unfold inW; rw [hl]
  rw [e]
  unfold withA
  cases hin : inW xs i with
  | false =>
    show onBool true _ _
    rw [onBool_t]
    exact ⟨none, 0, 0, rfl, 0, Arr.nil _ _ _, .inr rfl, hu⟩
  | true =>
    show onBool false _ _
    rw [onBool_f]
    unfold inW at hin
    simp only [Bool.and_eq_true, decide_eq_true_eq] at hin
    obtain ⟨h0, h1⟩ := hin
    refine Arr.pushes S_W (Arr.nil enW _ u) (fun _ => rfl) (hx.keep hu) (by simp only [maxLen]; omega) (by omega) fun a' c' g' u2 ha hg ho => ⟨_, _, _, rfl, ?_⟩
    rw [Nat.zero_add, List.nil_append] at ha
    rw [Nat.zero_add]
    obtain ⟨q, hq⟩ : ∃ q : Nat, i = q := ⟨i.toNat, by omega⟩
    subst hq
    refine putP ha (by omega) (by omega) fun u3 x hx3 hu3 ho3 => ?_
    rw [set_with hx3] at hu3
    refine ⟨_, _, _, rfl, g', by simpa using hu3, by have := hu.size; omega, ?_⟩
    have k2 : Kept u u2 := ho.kept fun k _ hk => by omega
    have hsz := hu.size
    exact Kept.own (Kept.trans hu k2) ho3 (by omega)
theorem Less_c (hx : Sl enW w a n xs) (hm : n ≤ 16777216) (hi : i ≤ 9223372036854775807) : E.CallsD Go.Proofs.Tryd.prog 41 #[.slice a n c, .int .i64 i] w fun v u => ∃ a' n' c', v = .tuple #[.slice a' n' c', .int .i64 (lessA xs i).2] ∧ New enW 56 w u a' n' c' (lessA xs i).1 := by
  refine bits_Less.calls ?_
  unfold bits_Less bits_Less.g0
  refine E.CallsD.mono (With_c hx hm hi) fun v u ⟨a', n', c', hv, g, ha, hg, hk⟩ => ⟨_, _, _, _, hv, ?_⟩
  unfold withA at ha ⊢
  unfold lessA
  cases hin : inW xs i with
  | false =>
    rw [hin] at ha
    simp only [Bool.false_eq_true, if_false] at ha ⊢
    refine onEq_f (by omega) ?_
    exact ⟨_, _, _, rfl, g, ha, hg, hk⟩
  | true =>
    rw [hin] at ha
    simp only [if_true] at ha ⊢
    refine onEq_t (by omega) ?_
    unfold inW at hin
    simp only [Bool.and_eq_true, decide_eq_true_eq] at hin
    obtain ⟨h0, h1⟩ := hin
    have hln := ha.len
    rw [ofB_length] at hln
    have hl := hx.len
    obtain ⟨q, hq⟩ : ∃ q : Nat, i = q := ⟨i.toNat, by omega⟩
    subst hq
    refine nv_div (by omega) (by omega) (by omega) ?_
    refine Sl.rdW ha.sl (fun _ => rfl) (by omega) (by omega) fun x hx2 => ?_
    refine nv_mod (by omega) ?_
    refine nchk_mk (by omega) ?_
    rw [shl1]
    refine nv_mk rfl ?_
    rw [andNot64]
    refine nv_mk rfl ?_
    refine Arr.wr ha (by omega) (by omega) (x := x &&& ~~~BitVec.twoPow 64 (((q : Int) % 64).toNat)) rfl fun u2 hu ho => ?_
    rw [show ((q : Int) / 64).toNat = q / 64 from by omega] at hx2 hu
    rw [show ((q : Int) % 64).toNat = q % 64 from by omega, set_less hx2] at hu
    refine ⟨_, _, _, rfl, g, ?_, hg, Kept.own hk ho hg⟩
    have e : ofB (ofB xs.length fun j => bit xs j || decide (j = (q : Int).toNat)).length (fun j => bit (ofB xs.length fun j => bit xs j || decide (j = (q : Int).toNat)) j && !decide (j = q)) = ofB xs.length fun j => bit xs j && !decide (j = (q : Int).toNat) := by
      rw [ofB_length]
      apply ofB_ext
      intro j hj
      rw [bit_ofB, decide_eq_true hj, Int.toNat_natCast]
      by_cases hjq : j = q
      · simp [hjq]
      · simp [hjq]
    rw [← e]
    exact hu
theorem Put_c (q : Bool) (hx : Sl enW w a n xs) (hm : n ≤ 16777216) (hi : i ≤ 9223372036854775807) : E.CallsD Go.Proofs.Tryd.prog 40 #[.slice a n c, .int .i64 i, .bool q] w fun v u => ∃ a' n' c', v = .tuple #[.slice a' n' c', .int .i64 (bif q then withA xs i else lessA xs i).2] ∧ New enW 56 w u a' n' c' (bif q then withA xs i else lessA xs i).1 := by
  refine thicketref05_Put.calls ?_
  unfold thicketref05_Put thicketref05_Put.g0
  have hl := hx.len
  have no : inW xs i = false → (∃ a' n' c', Value.tuple #[.slice none 0 0, .int .i64 2] = .tuple #[.slice a' n' c', .int .i64 (bif q then withA xs i else lessA xs i).2] ∧ New enW 56 w w a' n' c' (bif q then withA xs i else lessA xs i).1) := fun h => by
    have e : (bif q then withA xs i else lessA xs i) = ([], 2) := by unfold withA lessA; rw [h]; cases q <;> rfl
    rw [e]
    exact ⟨none, 0, 0, rfl, 0, Arr.nil _ _ _, .inr rfl, Kept.refl _⟩
  refine onDec (fun h0 => no (by unfold inW; rw [decide_eq_false (by omega)]; rfl)) fun h0 => ?_
  refine nv_div (by omega) (by omega) (by omega) ?_
  refine onDec (fun h1 => no (by unfold inW; rw [decide_eq_false (show ¬ i / 64 < xs.length by omega), Bool.and_false])) fun h1 => ?_
  have hin : inW xs i = true := by unfold inW; rw [decide_eq_true (show 0 ≤ i by omega), decide_eq_true (show i / 64 < xs.length by omega)]; rfl
  refine Arr.pushes S_W (Arr.nil enW _ w) (fun _ => rfl) hx (by simp only [maxLen]; omega) (by omega) fun a' c' g' u2 ha hg ho => ⟨_, _, _, rfl, ?_⟩
  rw [Nat.zero_add, List.nil_append] at ha
  rw [Nat.zero_add]
  have k2 : Kept w u2 := ho.kept fun k _ hk => by omega
  obtain ⟨z, hz⟩ : ∃ z : Nat, i = z := ⟨i.toNat, by omega⟩
  subst hz
  refine nv_div (by omega) (by omega) (by omega) ?_
  refine nv_div (by omega) (by omega) (by omega) ?_
  refine Sl.rdW ha.sl (fun _ => rfl) (by omega) (by omega) fun x hx2 => ?_
  refine nv_mod (by omega) ?_
  refine nv_u64 (by omega) (by omega) ?_
  refine nchk_mk (by omega) ?_
  rw [shl1]
  refine nv_mk rfl ?_
  rw [andNot64]
  refine nv_mk rfl ?_
  refine Arr.wr ha (by omega) (by omega) (x := x &&& ~~~BitVec.twoPow 64 (((z : Int) % 64).toNat)) rfl fun u3 hu3 ho3 => ?_
  rw [show ((z : Int) / 64).toNat = z / 64 from by omega] at hx2 hu3
  rw [show ((z : Int) % 64).toNat = z % 64 from by omega, set_less hx2] at hu3
  have k3 := Kept.own k2 ho3 (show w.heap.size < g' ∨ g' = 0 by omega)
  cases q with
  | false =>
    rw [onBool_f]
    have e : (bif false then withA xs z else lessA xs z) = (ofB xs.length (fun j => bit xs j && !decide (j = z)), 0) := by unfold lessA; rw [hin]; rfl
    rw [e]
    exact ⟨_, _, _, rfl, g', hu3, by omega, k3⟩
  | true =>
    rw [onBool_t]
    have e : (bif true then withA xs z else lessA xs z) = (ofB xs.length (fun j => bit xs j || decide (j = z)), 0) := by unfold withA; rw [hin]; rfl
    rw [e]
    refine putR hu3 (by omega) (by omega) fun u4 x4 hx4 hu4 ho4 => ?_
    rw [set_with hx4] at hu4
    refine ⟨_, _, _, rfl, g', ?_, by omega, Kept.own k3 ho4 (by omega)⟩
    have e : ofB (ofB xs.length fun j => bit xs j && !decide (j = z)).length (fun j => bit (ofB xs.length fun j => bit xs j && !decide (j = z)) j || decide (j = z)) = ofB xs.length fun j => bit xs j || decide (j = z) := by
      rw [ofB_length]
      apply ofB_ext
      intro j hj
      rw [bit_ofB, decide_eq_true hj]
      by_cases hjq : j = z
      · simp [hjq]
      · simp [hjq]
    rw [e] at hu4
    exact hu4
end
end Go.Mir
