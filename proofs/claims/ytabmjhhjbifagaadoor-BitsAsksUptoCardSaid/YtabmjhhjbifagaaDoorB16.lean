/- Part of a proof of laws of the seat YtabmjhhjbifagaaDoor: functions' weakest preconditions, each checked by the kernel, and contracts out of them; no conditions. -/
import Derived.Test.YtabmjhhjbifagaaDoorB15
import Derived.Test.YtabmjhhjbifagaaDoorBS4
import Derived.Test.YtabmjhhjbifagaaDoorBM8
set_option linter.unusedVariables false
set_option linter.unusedSimpArgs false
namespace Go.Mir
open Go Go.E Go.RowKit Go.Bt
section
variable {w : World} {a b : Option Addr} {n c m d g : Nat} {xs ys : W} {i : Int}
theorem Sl.take {α : Type} {en : α → Value} {xs : List α} (h : Sl en w a n xs) {q : Nat} (hq : q ≤ n) : Sl en w a q (xs.take q) :=
  ⟨by have := h.len; simp; omega, fun i x hi => h.get i x (by rw [List.getElem?_take] at hi; split at hi <;> simp_all)⟩
theorem slA_zero (a : Option Addr) (m sz : Nat) : slA a m 0 sz = a := by
  unfold slA
  split
  · rfl
  · cases a <;> simp [Addr.add]
theorem maskI {r : Nat} (h : r < 64) : IntKind.u64.wrap (((BitVec.twoPow 64 r).toNat : Int) - 1) = ((maskW r).toNat : Int) := by
  have hp : 0 < 2 ^ r := Nat.pow_pos (by omega)
  have hlt : 2 ^ r < 2 ^ 64 := Nat.pow_lt_pow_right (by omega) h
  have e1 : (BitVec.twoPow 64 r).toNat = 2 ^ r := by rw [BitVec.toNat_twoPow]; exact Nat.mod_eq_of_lt hlt
  unfold maskW
  rw [e1, BitVec.toNat_ofNat, Nat.mod_eq_of_lt (by omega), u64_id (by omega) (by omega)]
  omega
theorem Rank_c (hx : Sl enW w a n xs) (hm : n ≤ 16777216) (hn : n ≤ c) (hi : i ≤ 9223372036854775807) : Pure Go.Proofs.Tryd.prog 48 #[.slice a n c, .int .i64 i] w (.int .i64 (rank xs i : Nat)) := by
  refine bits_Rank.calls (R := fun v' u => v' = _ ∧ Below w.heap.size w u) ?_
  unfold bits_Rank bits_Rank.g0
  have hl := hx.len
  refine onDec (fun h0 => ⟨by rw [rank_neg h0]; rfl, Below.refl _ _⟩) fun h0 => ?_
  refine nv_div (by omega) (by omega) (by omega) ?_
  refine onDec (fun h1 => ?_) fun h1 => ?_
  · rw [rank_out (by omega)]
    exact E.CallsD.mono (Count_c hx hm) fun v u ⟨hv, hk⟩ => ⟨_, hv, rfl, hk⟩
  · obtain ⟨q, hq⟩ : ∃ q : Nat, i = q := ⟨i.toNat, by omega⟩
    subst hq
    refine nv_div (by omega) (by omega) (by omega) ?_
    refine chk_mk (by omega) ?_
    rw [slA_zero, show ((q : Int) / 64).toNat = q / 64 from by omega]
    have ht := Sl.take hx (q := q / 64) (by omega)
    have hct := count_le (xs.take (q / 64))
    have hc2 : (xs.take (q / 64)).length ≤ xs.length := by simp; omega
    refine ⟨_, fun u hu => (Count_c (c := c) (ht.keep hu) (by omega)).quiet hu, ?_⟩
    refine nv_div (by omega) (by omega) (by omega) ?_
    refine Sl.rdW hx (fun _ => rfl) (by omega) (by omega) fun x hx2 => ?_
    refine nv_mod (by omega) ?_
    refine nchk_mk (by omega) ?_
    rw [show ((q : Int) / 64).toNat = q / 64 from by omega] at hx2
    rw [shl1]
    refine nv_mk rfl ?_
    rw [show ((q : Int) % 64).toNat = q % 64 from by omega, maskI (by omega)]
    refine nv_mk rfl ?_
    rw [and64]
    refine nv_mk rfl ?_
    have hp := pop_le (x &&& maskW (q % 64))
    refine ⟨_, fun u hu => (OnesCount64_c (x &&& maskW (q % 64)) u).quiet hu, ?_⟩
    refine nv_mk (y := ((rank xs q : Nat) : Int)) (by rw [rank_at hx2, i64_id (by omega) (by omega)]; omega) ?_
    exact fun u hu => ⟨rfl, hu⟩
theorem refRank_loop {R : Value → World → Prop} {l : List Nat} (hl : Arr enN 3 w a n c l g) (hm : n ≤ 1073741824) (hR : R (.int .i64 ((l.filter fun j : Nat => decide ((j : Int) < i)).length : Nat)) w) :
    ∀ (k j acc : Nat), j + k = n → acc = ((l.take j).filter fun j : Nat => decide ((j : Int) < i)).length → thicketref05_Rank.l8 R (k + 1) i acc a n c n j w
  | 0, j, acc, hj, ha => by
    unfold thicketref05_Rank.l8 thicketref05_Rank.g8
    refine onDec_f (by omega) ?_
    rw [List.take_of_length_le (by have := hl.len; omega)] at ha
    rw [ha]
    exact hR
  | k + 1, j, acc, hj, ha => by
    have hal := List.length_filter_le (fun j : Nat => decide ((j : Int) < i)) (l.take j)
    rw [List.length_take] at hal
    unfold thicketref05_Rank.l8 thicketref05_Rank.g8
    refine onDec_t (by omega) ?_
    refine Sl.rdN hl.sl (by omega) (by omega) fun x hx => ?_
    rw [Int.toNat_natCast] at hx
    have e : (l.take (j + 1)).filter (fun j : Nat => decide ((j : Int) < i)) = (l.take j).filter (fun j : Nat => decide ((j : Int) < i)) ++ if (x : Int) < i then [x] else [] := by
      rw [List.take_add_one, hx, List.filter_append]
      simp only [Option.toList_some, List.filter_cons, List.filter_nil, decide_eq_true_eq]
    refine onDec (fun h => ?_) fun h => ?_
    · rw [if_pos h] at e
      refine nv_mk (y := ((acc + 1 : Nat) : Int)) (by rw [i64_id (by omega) (by omega)]; omega) ?_
      refine nv_succ (by omega) ?_
      exact refRank_loop hl hm hR k (j + 1) (acc + 1) (by omega) (by rw [e, List.length_append, ← ha]; rfl)
    · rw [if_neg h] at e
      refine nv_succ (by omega) ?_
      exact refRank_loop hl hm hR k (j + 1) acc (by omega) (by rw [e, List.append_nil]; exact ha)
theorem refRank_c (hx : Sl enW w a n xs) (hm : n ≤ 16777216) : Pure Go.Proofs.Tryd.prog 49 #[.slice a n c, .int .i64 i] w (.int .i64 (rank xs i : Nat)) := by
  refine thicketref05_Rank.calls (R := fun v' u => v' = _ ∧ Below w.heap.size w u) ?_
  unfold thicketref05_Rank thicketref05_Rank.g0
  have hl := hx.len
  have hc := count_le xs
  refine E.CallsD.mono (All_c hx hm) fun v u ⟨a', c', hv, g, ha, _, hk⟩ => ⟨_, _, _, hv, ?_⟩
  exact ⟨count xs + 1, refRank_loop ha (by omega) ⟨rfl, hk⟩ (count xs) 0 0 (by omega) rfl⟩
theorem refSelect_c (hx : Sl enW w a n xs) (hm : n ≤ 16777216) : Pure Go.Proofs.Tryd.prog 51 #[.slice a n c, .int .i64 i] w (.int .i64 (sel xs i)) := by
  refine thicketref05_Select.calls (R := fun v' u => v' = _ ∧ Below w.heap.size w u) ?_
  unfold thicketref05_Select thicketref05_Select.g0
  have hl := hx.len
  have hc := count_le xs
  refine E.CallsD.mono (All_c hx hm) fun v u ⟨a', c', hv, hn⟩ => ⟨_, _, _, hv, ?_⟩
  refine onDec (fun h => ⟨by unfold sel; rw [if_pos h], hn.kept⟩) fun h => onDec (fun h2 => ⟨?_, hn.kept⟩) fun h2 => ?_
  · have := sel_out (a := xs) (k := i.toNat) (by omega)
    rw [show ((i.toNat : Nat) : Int) = i from by omega] at this
    rw [this]
  · refine Sl.rdN hn.sl (by omega) (by omega) fun x hx2 => ⟨?_, hn.kept⟩
    unfold sel
    rw [if_neg h, hx2]
/-- The lowest bit goes. -/
theorem clear_one {x : BitVec 64} (h : x.toNat ≠ 0) : ∃ l, bitsOf x = Lib.ctz 64 x.toNat :: l ∧ bitsOf (x &&& BitVec.ofNat 64 (x.toNat - 1)) = l := by
  obtain ⟨c1, c2, c3⟩ := ctz_low x.isLt h
  obtain ⟨l, h1, h2⟩ := bitsOf_low (x := x) (c := Lib.ctz 64 x.toNat) c2 c3
  refine ⟨l, h1, h2 _ fun j hj => ?_⟩
  obtain ⟨k, hk, _⟩ := Lib.ctzFrom_spec 64 x.toNat (by omega) x.isLt
  have e : Lib.ctz 64 x.toNat = Lib.ctzFrom 64 x.toNat := by simp [Lib.ctz, h]
  rw [← e] at hk
  rw [BitVec.getLsbD_and, BitVec.getLsbD_ofNat]
  have := clear_low (m := k) (c := Lib.ctz 64 x.toNat) j
  rw [← hk, Nat.testBit_and] at this
  simp only [hj, decide_true, Bool.true_and]
  exact this
theorem bitsOf_ne {x : BitVec 64} {d p : Nat} (h : (bitsOf x)[d]? = some p) : x.toNat ≠ 0 := by
  intro h0
  have : bitsOf x = [] := by
    unfold bitsOf
    exact filter_none fun j hj => zero_word.1 h0 j (by simpa using hj)
  rw [this] at h
  cases h
theorem Select_in {R : Value → World → Prop} {b14 : Int → Option Addr → Nat → Nat → Int → Int → World → Prop} (hT : Tab w) {q : Nat} (hq : q ≤ 16777216) (K : Nat) (hK : K ≤ 64) (p : Nat) (hR : ∀ u, Kept w u → R (.int .i64 (64 * q + p : Nat)) u) :
    ∀ (d j : Nat) (x : BitVec 64), j + d = K → (bitsOf x)[d]? = some p → bits_Select.l39 R b14 (d + 1) q x.toNat K j w
  | 0, j, x, hj, hp => by
    have hx0 := bitsOf_ne hp
    obtain ⟨l, h1, _⟩ := clear_one hx0
    rw [h1] at hp
    have hp : Lib.ctz 64 x.toNat = p := Option.some.inj hp
    have hlt := (ctz_low x.isLt hx0).1
    unfold bits_Select.l39 bits_Select.g39
    refine onDec_f (by omega) ?_
    refine nv_i64 (by omega) (by omega) ?_
    refine E.CallsD.mono (tz64 x.toNat x.isLt hx0 hT) fun v u ⟨hv, hu⟩ => ⟨_, hv, ?_⟩
    refine nv_mk (y := ((64 * q + p : Nat) : Int)) (by rw [hp, i64_id (by omega) (by omega)]; omega) ?_
    exact hR u hu
  | d + 1, j, x, hj, hp => by
    have hx0 := bitsOf_ne hp
    obtain ⟨l, h1, h2⟩ := clear_one hx0
    have hlt := x.isLt
    unfold bits_Select.l39 bits_Select.g39
    refine onDec_t (by omega) ?_
    refine nv_mk (y := ((BitVec.ofNat 64 (x.toNat - 1)).toNat : Int)) (by rw [u64_id (by omega) (by omega), BitVec.toNat_ofNat, Nat.mod_eq_of_lt (by omega)]; omega) ?_
    rw [and64]
    refine nv_mk rfl ?_
    refine nv_succ (by omega) ?_
    refine Select_in hT hq K hK p hR d (j + 1) _ (by omega) ?_
    rw [h2]
    rw [h1] at hp
    simpa using hp
theorem Select_loop {R : Value → World → Prop} {w0 : World} {k0 : Nat} (hT : Tab w0) (hx : Sl enW w0 a n xs) (hm : n ≤ 16777216) (hR : ∀ u, Kept w0 u → R (.int .i64 (sel xs k0)) u) :
    ∀ (k q kk : Nat) (w : World), q + k = n → count (xs.take q) + kk = k0 → kk ≤ 9223372036854775807 → Kept w0 w → bits_Select.l14 R (k + 1) kk a n c n q w
  | 0, q, kk, w, hq, hk, hb, hkw => by
    have hl := hx.len
    unfold bits_Select.l14 bits_Select.g14
    refine onDec_f (by omega) ?_
    rw [List.take_of_length_le (by omega)] at hk
    have := hR w hkw
    rw [sel_out (by omega)] at this
    exact this
  | k + 1, q, kk, w, hq, hk, hb, hkw => by
    have hl := hx.len
    unfold bits_Select.l14 bits_Select.g14
    refine onDec_t (by omega) ?_
    refine Sl.rdW (hx.keep hkw) (fun _ => rfl) (by omega) (by omega) fun x hx2 => ?_
    rw [Int.toNat_natCast] at hx2
    refine E.CallsD.mono (OnesCount64_c x w) fun v u ⟨hv, hu⟩ => ⟨_, hv, ?_⟩
    have hct := count_take hx2
    have hp64 := pop_le x
    refine onDec (fun hge => ?_) fun hlt => ?_
    · refine nv_mk (y := ((kk - pop x : Nat) : Int)) (by rw [i64_id (by omega) (by omega)]; omega) ?_
      refine nv_succ (by omega) ?_
      exact Select_loop hT hx hm hR k (q + 1) (kk - pop x) u (by omega) (by omega) (by omega) (Kept.trans hkw hu)
    · have hpl : kk < (bitsOf x).length := by unfold bitsOf; unfold pop at hlt; omega
      have hp := List.getElem?_eq_getElem hpl
      have e := sel_at hx2 hp
      rw [hk] at e
      refine ⟨_, Select_in (hT.kept (Kept.trans hkw hu)) (by omega) kk (by omega) _ (fun u' hu' => ?_) kk 0 x (by omega) hp⟩
      have := hR u' (Kept.trans (Kept.trans hkw hu) hu')
      rwa [e] at this
theorem Select_c (hT : Tab w) (hx : Sl enW w a n xs) (hm : n ≤ 16777216) (hi : i ≤ 9223372036854775807) : Pure Go.Proofs.Tryd.prog 50 #[.slice a n c, .int .i64 i] w (.int .i64 (sel xs i)) := by
  refine bits_Select.calls (R := fun v' u => v' = _ ∧ Below w.heap.size w u) ?_
  unfold bits_Select bits_Select.g0
  refine onDec (fun h => ⟨by unfold sel; rw [if_pos h], Below.refl _ _⟩) fun h => ?_
  obtain ⟨q, hq⟩ : ∃ q : Nat, i = q := ⟨i.toNat, by omega⟩
  subst hq
  exact ⟨n + 1, Select_loop (k0 := q) hT hx hm (fun u hu => ⟨rfl, hu⟩) n 0 q w (by omega) (by simp [count, all]) (by omega) (Kept.refl _)⟩

/-- The law BitsAsks. -/
theorem bitsAsks_law {k : Int} (hT : Tab w) (hx : Sl enW w a n xs) (hm : n ≤ 16777216) (hn : n ≤ c) (hi : i ≤ 9223372036854775807) (hk : k ≤ 9223372036854775807) : Pure Go.Proofs.Tryd.prog 8 #[.slice a n c, .int .i64 i, .int .i64 k] w (.bool true) := by
  refine thicketlaw05_BitsAsks.calls (R := fun v' u => v' = _ ∧ Below w.heap.size w u) ?_
  unfold thicketlaw05_BitsAsks thicketlaw05_BitsAsks.g0
  have f1 : ∀ {b : Bool} {t f : Prop}, b = true → f → onBool (!b) t f := fun hb hf => by subst hb; exact hf
  have wl : (withA xs i).1.length ≤ 16777216 := by have := hx.len; unfold withA; split <;> simp; omega
  have ll : (lessA xs i).1.length ≤ 16777216 := by have := hx.len; unfold lessA; split <;> simp; omega
  refine E.CallsD.mono (With_c hx hm hi) fun v u1 ⟨a1, n1, c1, hv, s1⟩ => ⟨_, _, _, _, hv, ?_⟩
  have k1 := s1.kept
  refine E.CallsD.mono (Put_c true (hx.keep k1) hm hi) fun v u2 ⟨a2, n2, c2, hv, s2⟩ => ⟨_, _, _, _, hv, ?_⟩
  have k2 := Kept.trans k1 s2.kept
  refine E.CallsD.mono (Less_c (hx.keep k2) hm hi) fun v u3 ⟨a3, n3, c3, hv, s3⟩ => ⟨_, _, _, _, hv, ?_⟩
  have k3 := Kept.trans k2 s3.kept
  refine E.CallsD.mono (Put_c false (hx.keep k3) hm hi) fun v u4 ⟨a4, n4, c4, hv, s4⟩ => ⟨_, _, _, _, hv, ?_⟩
  have k4 := Kept.trans k3 s4.kept
  refine E.CallsD.mono (lives_c (hT.kept k4)) fun v u5 ⟨hv, q5⟩ => ⟨_, hv, f1 rfl ?_⟩
  have k5 := Kept.trans k4 q5
  have q24 := Kept.trans s3.kept (Kept.trans s4.kept q5)
  refine E.CallsD.mono (Same_yes (s1.sl.keep (Kept.trans s2.kept q24)) (s2.sl.keep q24) (by rw [s1.len]; exact wl)) fun v u6 ⟨hv, q6⟩ => ⟨_, hv, f1 rfl ?_⟩
  refine onNe_f rfl ?_
  have q46 := Kept.trans q5 q6
  refine E.CallsD.mono (Same_yes (s3.sl.keep (Kept.trans s4.kept q46)) (s4.sl.keep q46) (by rw [s3.len]; exact ll)) fun v u7 ⟨hv, q7⟩ => ⟨_, hv, f1 rfl ?_⟩
  refine onNe_f rfl ?_
  have k7 := Kept.trans k4 (Kept.trans q46 q7)
  refine E.CallsD.mono (Has_c (hx.keep k7) hi) fun v u8 ⟨hv, q8⟩ => ⟨_, hv, ?_⟩
  have k8 := Kept.trans k7 q8
  refine E.CallsD.mono (refHas_c (hx.keep k8) hi) fun v u9 ⟨hv, q9⟩ => ⟨_, hv, ?_⟩
  have k9 := Kept.trans k8 q9
  rw [show ∀ b : Bool, (b == b) = true from fun b => by simp, onBool_t]
  refine E.CallsD.mono (Lowest_c (hT.kept k9) (hx.keep k9) hm) fun v u10 ⟨hv, q10⟩ => ⟨_, hv, ?_⟩
  have k10 := Kept.trans k9 q10
  refine E.CallsD.mono (refLowest_c (hx.keep k10) hm) fun v u11 ⟨hv, q11⟩ => ⟨_, hv, ?_⟩
  have k11 := Kept.trans k10 q11
  refine onEq_t (by omega) ?_
  refine E.CallsD.mono (Highest_c (hx.keep k11) hm) fun v u12 ⟨hv, q12⟩ => ⟨_, hv, ?_⟩
  have k12 := Kept.trans k11 q12
  refine E.CallsD.mono (refHighest_c (hx.keep k12) hm) fun v u13 ⟨hv, q13⟩ => ⟨_, hv, ?_⟩
  have k13 := Kept.trans k12 q13
  refine onEq_t (by omega) ?_
  refine E.CallsD.mono (Count_c (hx.keep k13) hm) fun v u14 ⟨hv, q14⟩ => ⟨_, hv, ?_⟩
  have k14 := Kept.trans k13 q14
  refine E.CallsD.mono (All_c (hx.keep k14) hm) fun v u15 ⟨a15, c15, hv, s15⟩ => ⟨_, _, _, hv, ?_⟩
  have k15 := Kept.trans k14 s15.kept
  refine onEq_t (by omega) ?_
  refine E.CallsD.mono (Rank_c (hx.keep k15) hm hn hi) fun v u16 ⟨hv, q16⟩ => ⟨_, hv, ?_⟩
  have k16 := Kept.trans k15 q16
  refine E.CallsD.mono (refRank_c (hx.keep k16) hm) fun v u17 ⟨hv, q17⟩ => ⟨_, hv, ?_⟩
  have k17 := Kept.trans k16 q17
  refine onEq_t (by omega) ?_
  refine E.CallsD.mono (Select_c (hT.kept k17) (hx.keep k17) hm hk) fun v u18 ⟨hv, q18⟩ => ⟨_, hv, ?_⟩
  have k18 := Kept.trans k17 q18
  refine E.CallsD.mono (refSelect_c (hx.keep k18) hm) fun v u19 ⟨hv, q19⟩ => ⟨_, hv, by simp, Kept.trans k18 q19⟩
end
end Go.Mir
