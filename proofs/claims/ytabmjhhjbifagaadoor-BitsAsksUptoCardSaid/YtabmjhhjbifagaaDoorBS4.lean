/- Part of a proof of laws of the seat YtabmjhhjbifagaaDoor: functions' weakest preconditions, each checked by the kernel, and contracts out of them; no conditions. -/
import Derived.Test.YtabmjhhjbifagaaDoorBS2
set_option linter.unusedVariables false
set_option linter.unusedSimpArgs false
/-! Ranks: plain lemmas. -/
namespace Go.Bt
def bitsOf (x : BitVec 64) : List Nat := (List.range 64).filter x.getLsbD
theorem all_append : ∀ (a b : W), all (a ++ b) = all a ++ (all b).map (64 * a.length + ·)
  | [], b => by simp [all]
  | x :: a, b => by
    rw [List.cons_append, all_cons, all_append a b, all_cons, List.map_append, List.append_assoc, List.map_map]
    congr 2
    apply List.map_congr_left
    intro j _
    simp only [Function.comp, List.length_cons]
    omega
theorem all_split {a : W} {q : Nat} {x : BitVec 64} (hx : a[q]? = some x) : all a = all (a.take q) ++ ((bitsOf x).map (64 * q + ·) ++ (all (a.drop (q + 1))).map (64 * (q + 1) + ·)) := by
  obtain ⟨hlt, rfl⟩ := List.getElem?_eq_some_iff.1 hx
  have e : a = a.take q ++ a[q] :: a.drop (q + 1) := by rw [← List.drop_eq_getElem_cons hlt, List.take_append_drop]
  conv => lhs; rw [e]
  rw [all_append, all_cons, List.map_append, List.map_map, List.length_take, Nat.min_eq_left (by omega)]
  congr 2
  apply List.map_congr_left
  intro j _
  simp only [Function.comp]
  omega
theorem count_take {a : W} {q : Nat} {x : BitVec 64} (hx : a[q]? = some x) : count (a.take (q + 1)) = count (a.take q) + pop x := by
  rw [List.take_add_one, hx]
  unfold count
  rw [all_append, List.length_append, List.length_map]
  show _ + count [x] = _
  rw [count_cons]
  rfl
theorem all_lt' {a : W} {j : Nat} (h : j ∈ all a) : j < 64 * a.length := by
  unfold all at h
  exact List.mem_range.1 (List.mem_filter.1 h).1
theorem filter_none {α : Type} {p : α → Bool} {l : List α} (h : ∀ x ∈ l, p x = false) : l.filter p = [] := by
  rw [List.filter_eq_nil_iff]
  intro x hx
  rw [h x hx]
  simp
theorem filter_all {α : Type} {p : α → Bool} {l : List α} (h : ∀ x ∈ l, p x = true) : l.filter p = l := List.filter_eq_self.2 h
theorem rank_neg {a : W} {i : Int} (h : i < 0) : rank a i = 0 := by
  unfold rank
  rw [filter_none (fun x _ => decide_eq_false (by omega))]
  rfl
theorem rank_out {a : W} {i : Int} (h : 64 * (a.length : Int) ≤ i) : rank a i = count a := by
  unfold rank count
  rw [filter_all (fun x hx => decide_eq_true (by have := all_lt' hx; omega))]
def maskW (r : Nat) : BitVec 64 := BitVec.ofNat 64 (2 ^ r - 1)
theorem maskW_get (r j : Nat) (hj : j < 64) : (maskW r).getLsbD j = decide (j < r) := by
  unfold maskW
  rw [BitVec.getLsbD_ofNat, Nat.testBit_two_pow_sub_one]
  simp [hj]
theorem rank_at {a : W} {i : Nat} {x : BitVec 64} (hx : a[i / 64]? = some x) : rank a i = count (a.take (i / 64)) + pop (x &&& maskW (i % 64)) := by
  unfold rank
  rw [all_split hx, List.filter_append, List.filter_append, List.length_append, List.length_append]
  have hlt : i / 64 < a.length := getD_lt hx
  rw [filter_all (l := all (a.take (i / 64))) (fun j hj => decide_eq_true (by have := all_lt' hj; rw [List.length_take] at this; omega))]
  rw [filter_none (l := (all (a.drop (i / 64 + 1))).map (64 * (i / 64 + 1) + ·)) (fun j hj => decide_eq_false (by obtain ⟨y, _, rfl⟩ := List.mem_map.1 hj; omega))]
  have e : (((bitsOf x).map (64 * (i / 64) + ·)).filter fun j : Nat => decide ((j : Int) < (i : Int))).length = pop (x &&& maskW (i % 64)) := by
    rw [List.filter_map, List.length_map]
    unfold bitsOf pop
    rw [List.filter_filter]
    congr 1
    apply List.filter_congr
    intro j hj
    have hj : j < 64 := by simpa using hj
    rw [BitVec.getLsbD_and, maskW_get _ _ hj, Bool.and_comm]
    congr 1
    show decide (((64 * (i / 64) + j : Nat) : Int) < (i : Int)) = _
    exact decide_eq_decide.2 (by omega)
  rw [e]
  unfold count
  simp
/-! ### the k-th bit -/
theorem sel_out {a : W} {k : Nat} (h : count a ≤ k) : sel a k = -1 := by
  unfold sel
  rw [if_neg (by omega), Int.toNat_natCast, List.getElem?_eq_none (by unfold count at h; omega)]
theorem sel_at {a : W} {q k p : Nat} {x : BitVec 64} (hx : a[q]? = some x) (hp : (bitsOf x)[k]? = some p) : sel a (count (a.take q) + k : Nat) = (64 * q + p : Nat) := by
  unfold sel
  rw [if_neg (by omega), Int.toNat_natCast, all_split hx, List.getElem?_append_right (by unfold count; omega)]
  have e : count (List.take q a) + k - (all (List.take q a)).length = k := by unfold count; omega
  rw [e, List.getElem?_append_left (by rw [List.length_map]; exact (List.getElem?_eq_some_iff.1 hp).1), List.getElem?_map, hp]
  rfl
theorem bitsOf_sorted (x : BitVec 64) : (bitsOf x).Pairwise (· < ·) := List.Pairwise.filter _ List.pairwise_lt_range
theorem mem_bitsOf {x : BitVec 64} {j : Nat} : j ∈ bitsOf x ↔ x.getLsbD j = true := by
  unfold bitsOf
  rw [List.mem_filter, List.mem_range]
  refine ⟨fun h => h.2, fun h => ⟨?_, h⟩⟩
  apply Nat.lt_of_not_le
  intro hle
  rw [BitVec.getLsbD_of_ge _ _ hle] at h
  cases h
/-- The lowest bit, and the word without it. -/
theorem bitsOf_low {x : BitVec 64} {c : Nat} (hc : x.getLsbD c = true) (hl : ∀ j, j < c → x.getLsbD j = false) : ∃ l, bitsOf x = c :: l ∧ ∀ y : BitVec 64, (∀ j, j < 64 → y.getLsbD j = (x.getLsbD j && !decide (j = c))) → bitsOf y = l := by
  have hm := mem_bitsOf.2 hc
  have hs := bitsOf_sorted x
  cases he : bitsOf x with
  | nil => rw [he] at hm; cases hm
  | cons p l =>
    rw [he] at hm hs
    have hp : p = c := by
      rcases List.mem_cons.1 hm with h | h
      · exact h.symm
      · have h2 : p < c := (List.pairwise_cons.1 hs).1 c h
        have h3 : x.getLsbD p = true := mem_bitsOf.1 (by rw [he]; simp)
        rw [hl p h2] at h3
        cases h3
    subst hp
    refine ⟨l, rfl, fun y hy => ?_⟩
    have e : bitsOf y = (bitsOf x).filter fun j => !decide (j = p) := by
      unfold bitsOf
      rw [List.filter_filter]
      apply List.filter_congr
      intro j hj
      rw [hy j (by simpa using hj), Bool.and_comm]
    rw [e, he, List.filter_cons]
    simp only [decide_true, Bool.not_true, Bool.false_eq_true, if_false]
    exact filter_all fun j hj => by
      have := (List.pairwise_cons.1 hs).1 j hj
      simp; omega
theorem clear_low {m c : Nat} (j : Nat) : ((2 ^ c * (2 * m + 1)) &&& (2 ^ c * (2 * m + 1) - 1)).testBit j = ((2 ^ c * (2 * m + 1)).testBit j && !decide (j = c)) := by
  have hp : 0 < 2 ^ c := Nat.pow_pos (by omega)
  have e1 : 2 ^ c * (2 * m + 1) - 1 = 2 ^ c * (2 * m) + (2 ^ c - 1) := by rw [Nat.mul_add]; omega
  have e2 : 2 ^ c * (2 * m + 1) = 2 ^ c * (2 * m + 1) + 0 := by omega
  rw [Nat.testBit_and, e1, Nat.testBit_two_pow_mul_add _ (by omega)]
  rw [e2, Nat.testBit_two_pow_mul_add _ (by omega)]
  by_cases hj : j < c
  · simp [hj]
  · rw [if_neg hj, if_neg hj]
    by_cases he : j = c
    · subst he
      simp [Nat.testBit_zero]
    · obtain ⟨d, hd⟩ : ∃ d, j - c = d + 1 := ⟨j - c - 1, by omega⟩
      rw [hd, Nat.testBit_succ, Nat.testBit_succ, show (2 * m + 1) / 2 = m from by omega, show 2 * m / 2 = m from by omega]
      simp [he]
end Go.Bt
