/- Part of a proof of laws of the seat YtpllehijaidinaaDoor: functions' weakest preconditions, each checked by the kernel, contracts out of them, plain lemmas; no conditions. -/
import Derived.Test.YtpllehijaidinaaDoorBA
import Derived.Test.YtpllehijaidinaaDoorBSA
set_option linter.unusedVariables false
set_option linter.unusedSimpArgs false
namespace Go.Bi
open Go Go.E Go.RowKit Go.Bt Go.Mir
section
variable {w : World} {a b : Option Addr} {n c m d g : Nat} {xs ys : W} {i : Int}
def inW (xs : W) (i : Int) : Bool := decide (0 ≤ i) && decide (i / 64 < xs.length)
def withA (xs : W) (i : Int) : W × Int := if inW xs i then (ofB xs.length (fun j => bit xs j || decide (j = i.toNat)), 0) else ([], 2)
def lessA (xs : W) (i : Int) : W × Int := if inW xs i then (ofB xs.length (fun j => bit xs j && !decide (j = i.toNat)), 0) else ([], 2)
theorem set_with {xs : W} {i : Nat} {x : BitVec 64} (hx : xs[i / 64]? = some x) : xs.set (i / 64) (x ||| BitVec.twoPow 64 (i % 64)) = ofB xs.length (fun j => bit xs j || decide (j = i)) := by
  apply ext (by simp)
  intro j hj
  simp at hj
  rw [put_in hx (by omega), bit_ofB, Nat.div_add_mod]
  simp [hj]
theorem set_less {xs : W} {i : Nat} {x : BitVec 64} (hx : xs[i / 64]? = some x) : xs.set (i / 64) (x &&& ~~~BitVec.twoPow 64 (i % 64)) = ofB xs.length (fun j => bit xs j && !decide (j = i)) := by
  apply ext (by simp)
  intro j hj
  simp at hj
  rw [put_out hx (by omega), bit_ofB, Nat.div_add_mod]
  simp [hj]
theorem Put_c (q : Bool) (hx : Sl enW w a n xs) (hm : n ≤ 16777216) (hi : i ≤ 9223372036854775807) : E.CallsD Go.Proofs.Tryd.prog 40 #[.slice a n c, .int .i64 i, .bool q] w fun v u => ∃ a' n' c', v = .tuple #[.slice a' n' c', .int .i64 (bif q then withA xs i else lessA xs i).2] ∧ New enW 58 w u a' n' c' (bif q then withA xs i else lessA xs i).1 := by
  refine thicketref05_Put.calls ?_
  unfold thicketref05_Put thicketref05_Put.g0
  have hl := hx.len
  have no : inW xs i = false → (∃ a' n' c', Value.tuple #[.slice none 0 0, .int .i64 2] = .tuple #[.slice a' n' c', .int .i64 (bif q then withA xs i else lessA xs i).2] ∧ New enW 58 w w a' n' c' (bif q then withA xs i else lessA xs i).1) := fun h => by
    have e : (bif q then withA xs i else lessA xs i) = ([], 2) := by unfold withA lessA; rw [h]; cases q <;> rfl
    rw [e]
    exact ⟨none, 0, 0, rfl, 0, Arr.nil _ _ _, .inr rfl, Kept.refl _⟩
  refine onDec (fun h0 => no (by unfold inW; rw [decide_eq_false (by omega)]; rfl)) fun h0 => ?_
  refine nv_div (by omega) (by omega) (by omega) ?_
  refine onDec (fun h1 => no (by unfold inW; rw [decide_eq_false (show ¬ i / 64 < xs.length by omega), Bool.and_false])) fun h1 => ?_
  have hin : inW xs i = true := by unfold inW; rw [decide_eq_true (show 0 ≤ i by omega), decide_eq_true (show i / 64 < xs.length by omega)]; rfl
  refine Arr.pushes S_W (Arr.nil enW _ w) (fun _ => rfl) hx (by simp only [maxLen]; omega) (by omega) fun a' c' g' u2 ha hg ho => ⟨_, _, _, rfl, ?_⟩
  rw [Nat.zero_add, List.nil_append] at ha
  rw [Nat.zero_add]
  have k2 : Kept w u2 := ho.kept fun k _ hk => by omega
  obtain ⟨z, hz⟩ : ∃ z : Nat, i = z := ⟨i.toNat, by omega⟩
  subst hz
  refine nv_div (by omega) (by omega) (by omega) ?_
  refine nv_div (by omega) (by omega) (by omega) ?_
  refine Sl.rdW ha.sl (fun _ => rfl) (by omega) (by omega) fun x hx2 => ?_
  refine nv_mod (by omega) ?_
  refine nv_u64 (by omega) (by omega) ?_
  refine nchk_mk (by omega) ?_
  rw [shl1]
  refine nv_mk rfl ?_
  rw [andNot64]
  refine nv_mk rfl ?_
  refine Arr.wr ha (by omega) (by omega) (x := x &&& ~~~BitVec.twoPow 64 (((z : Int) % 64).toNat)) rfl fun u3 hu3 ho3 => ?_
  rw [show ((z : Int) / 64).toNat = z / 64 from by omega] at hx2 hu3
  rw [show ((z : Int) % 64).toNat = z % 64 from by omega, set_less hx2] at hu3
  have k3 := Kept.own k2 ho3 (show w.heap.size < g' ∨ g' = 0 by omega)
  cases q with
  | false =>
    rw [onBool_f]
    have e : (bif false then withA xs z else lessA xs z) = (ofB xs.length (fun j => bit xs j && !decide (j = z)), 0) := by unfold lessA; rw [hin]; rfl
    rw [e]
    exact ⟨_, _, _, rfl, g', hu3, by omega, k3⟩
  | true =>
    rw [onBool_t]
    have e : (bif true then withA xs z else lessA xs z) = (ofB xs.length (fun j => bit xs j || decide (j = z)), 0) := by unfold withA; rw [hin]; rfl
    rw [e]
    refine putR hu3 (by omega) (by omega) fun u4 x4 hx4 hu4 ho4 => ?_
    rw [set_with hx4] at hu4
    refine ⟨_, _, _, rfl, g', ?_, by omega, Kept.own k3 ho4 (by omega)⟩
    have e : ofB (ofB xs.length fun j => bit xs j && !decide (j = z)).length (fun j => bit (ofB xs.length fun j => bit xs j && !decide (j = z)) j || decide (j = z)) = ofB xs.length fun j => bit xs j || decide (j = z) := by
      rw [ofB_length]
      apply ofB_ext
      intro j hj
      rw [bit_ofB, decide_eq_true hj]
      by_cases hjq : j = z
      · simp [hjq]
      · simp [hjq]
    rw [e] at hu4
    exact hu4
theorem Sl.take {α : Type} {en : α → Value} {xs : List α} (h : Sl en w a n xs) {q : Nat} (hq : q ≤ n) : Sl en w a q (xs.take q) :=
  ⟨by have := h.len; simp; omega, fun i x hi => h.get i x (by rw [List.getElem?_take] at hi; split at hi <;> simp_all)⟩
theorem slA_zero (a : Option Addr) (m sz : Nat) : slA a m 0 sz = a := by
  unfold slA
  split
  · rfl
  · cases a <;> simp [Addr.add]
theorem maskI {r : Nat} (h : r < 64) : IntKind.u64.wrap (((BitVec.twoPow 64 r).toNat : Int) - 1) = ((maskW r).toNat : Int) := by
  have hp : 0 < 2 ^ r := Nat.pow_pos (by omega)
  have hlt : 2 ^ r < 2 ^ 64 := Nat.pow_lt_pow_right (by omega) h
  have e1 : (BitVec.twoPow 64 r).toNat = 2 ^ r := by rw [BitVec.toNat_twoPow]; exact Nat.mod_eq_of_lt hlt
  unfold maskW
  rw [e1, BitVec.toNat_ofNat, Nat.mod_eq_of_lt (by omega), u64_id (by omega) (by omega)]
  omega
theorem Rank_c (hx : Sl enW w a n xs) (hm : n ≤ 16777216) (hn : n ≤ c) (hi : i ≤ 9223372036854775807) : Pure Go.Proofs.Tryd.prog 33 #[.slice a n c, .int .i64 i] w (.int .i64 (rank xs i : Nat)) := by
  refine bits_Rank.calls (R := fun v' u => v' = _ ∧ Below w.heap.size w u) ?_
  unfold bits_Rank bits_Rank.g0
  have hl := hx.len
  refine onDec (fun h0 => ⟨by rw [rank_neg h0]; rfl, Below.refl _ _⟩) fun h0 => ?_
  refine nv_div (by omega) (by omega) (by omega) ?_
  refine onDec (fun h1 => ?_) fun h1 => ?_
  · rw [rank_out (by omega)]
    exact E.CallsD.mono (Count_c hx hm) fun v u ⟨hv, hk⟩ => ⟨_, hv, rfl, hk⟩
  · obtain ⟨q, hq⟩ : ∃ q : Nat, i = q := ⟨i.toNat, by omega⟩
    subst hq
    refine nv_div (by omega) (by omega) (by omega) ?_
    refine chk_mk (by omega) ?_
    rw [slA_zero, show ((q : Int) / 64).toNat = q / 64 from by omega]
    have ht := Sl.take hx (q := q / 64) (by omega)
    have hct := count_le (xs.take (q / 64))
    have hc2 : (xs.take (q / 64)).length ≤ xs.length := by simp; omega
    refine ⟨_, fun u hu => (Count_c (c := c) (ht.keep hu) (by omega)).quiet hu, ?_⟩
    refine nv_div (by omega) (by omega) (by omega) ?_
    refine Sl.rdW hx (fun _ => rfl) (by omega) (by omega) fun x hx2 => ?_
    refine nv_mod (by omega) ?_
    refine nchk_mk (by omega) ?_
    rw [show ((q : Int) / 64).toNat = q / 64 from by omega] at hx2
    rw [shl1]
    refine nv_mk rfl ?_
    rw [show ((q : Int) % 64).toNat = q % 64 from by omega, maskI (by omega)]
    refine nv_mk rfl ?_
    rw [and64]
    refine nv_mk rfl ?_
    have hp := pop_le (x &&& maskW (q % 64))
    refine ⟨_, fun u hu => (OnesCount64_c (x &&& maskW (q % 64)) u).quiet hu, ?_⟩
    refine nv_mk (y := ((rank xs q : Nat) : Int)) (by rw [rank_at hx2, i64_id (by omega) (by omega)]; omega) ?_
    exact fun u hu => ⟨rfl, hu⟩
end
end Go.Bi
