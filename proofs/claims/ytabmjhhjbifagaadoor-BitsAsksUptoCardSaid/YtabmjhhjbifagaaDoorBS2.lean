/- Part of a proof of laws of the seat YtabmjhhjbifagaaDoor: functions' weakest preconditions, each checked by the kernel, and contracts out of them; no conditions. -/
import Derived.Test.YtabmjhhjbifagaaDoorBS
import Derived.Test.YtabmjhhjbifagaaDoorBP
set_option linter.unusedVariables false
set_option linter.unusedSimpArgs false
/-! Which bits are in, as lists: plain lemmas. -/
namespace Go.Bt
def pop (x : BitVec 64) : Nat := ((List.range 64).filter x.getLsbD).length
/-- The bits that are in, rising. -/
def all (a : W) : List Nat := (List.range (64 * a.length)).filter (bit a)
def count (a : W) : Nat := (all a).length
def low (a : W) : Int := match all a with
  | [] => -1
  | i :: _ => i
def high (a : W) : Int := match (all a).getLast? with
  | none => -1
  | some i => i
/-- How many of the bits below i are in. -/
def rank (a : W) (i : Int) : Nat := ((all a).filter fun j : Nat => decide ((j : Int) < i)).length
def sel (a : W) (k : Int) : Int := if k < 0 then -1 else match (all a)[k.toNat]? with
  | none => -1
  | some i => i
theorem mem_all {a : W} {i : Nat} : i ∈ all a ↔ bit a i = true := by
  unfold all
  rw [List.mem_filter, List.mem_range]
  refine ⟨fun h => h.2, fun h => ⟨?_, h⟩⟩
  apply Nat.lt_of_not_le
  intro hle
  rw [bit_out hle] at h
  cases h
theorem all_sorted (a : W) : (all a).Pairwise (· < ·) := List.Pairwise.filter _ (List.pairwise_lt_range)
theorem low_at {a : W} {p : Nat} (h : bit a p = true) (hl : ∀ j, j < p → bit a j = false) : low a = p := by
  have hm := mem_all.2 h
  have hs := all_sorted a
  unfold low
  cases he : all a with
  | nil => rw [he] at hm; cases hm
  | cons i l =>
    rw [he] at hm hs
    simp only
    congr 1
    rcases List.mem_cons.1 hm with h1 | h1
    · exact h1.symm
    · have h2 : i < p := (List.pairwise_cons.1 hs).1 p h1
      have h3 : bit a i = true := mem_all.1 (by rw [he]; simp)
      rw [hl i h2] at h3
      cases h3
theorem low_none {a : W} (h : ∀ j, bit a j = false) : low a = -1 := by
  unfold low
  cases he : all a with
  | nil => rfl
  | cons i l =>
    have h3 : bit a i = true := mem_all.1 (by rw [he]; simp)
    rw [h i] at h3
    cases h3
theorem high_at {a : W} {p : Nat} (h : bit a p = true) (hl : ∀ j, p < j → bit a j = false) : high a = p := by
  have hm := mem_all.2 h
  have hs := all_sorted a
  unfold high
  cases he : (all a).getLast? with
  | none => rw [List.getLast?_eq_none_iff] at he; rw [he] at hm; cases hm
  | some i =>
    simp only
    congr 1
    obtain ⟨l, hl2⟩ := List.getLast?_eq_some_iff.1 he
    rw [hl2] at hm hs
    rcases List.mem_append.1 hm with h1 | h1
    · have h2 : p < i := (List.pairwise_append.1 hs).2.2 p h1 i (by simp)
      have h3 : bit a i = true := mem_all.1 (by rw [hl2]; simp)
      rw [hl i h2] at h3
      cases h3
    · exact (List.mem_singleton.1 h1).symm
theorem high_none {a : W} (h : ∀ j, bit a j = false) : high a = -1 := by
  unfold high
  cases he : (all a).getLast? with
  | none => rfl
  | some i =>
    obtain ⟨l, hl2⟩ := List.getLast?_eq_some_iff.1 he
    have h3 : bit a i = true := mem_all.1 (by rw [hl2]; simp)
    rw [h i] at h3
    cases h3
theorem bit_cons_lt {x : BitVec 64} {a : W} {j : Nat} (hj : j < 64) : bit (x :: a) j = x.getLsbD j := by
  have := bit_word (a := x :: a) (k := 0) rfl hj
  simpa using this
theorem bit_cons_ge {x : BitVec 64} {a : W} (j : Nat) : bit (x :: a) (64 + j) = bit a j := by
  unfold bit
  rw [show (64 + j) / 64 = j / 64 + 1 from by omega, show (64 + j) % 64 = j % 64 from by omega]
  rfl
theorem all_cons (x : BitVec 64) (a : W) : all (x :: a) = (List.range 64).filter x.getLsbD ++ (all a).map (64 + ·) := by
  unfold all
  rw [List.length_cons, show 64 * (a.length + 1) = 64 + 64 * a.length from by omega, List.range_add, List.filter_append, List.filter_map]
  rw [List.filter_congr (p := bit (x :: a)) (q := x.getLsbD) (l := List.range 64) (fun j hj => bit_cons_lt (by simpa using hj)),
    List.filter_congr (p := bit (x :: a) ∘ fun x => 64 + x) (q := bit a) (fun j _ => bit_cons_ge j)]
theorem popN_filter : ∀ k x, popN k x = ((List.range k).filter (fun j => x.testBit j)).length
  | 0, x => rfl
  | k + 1, x => by
    rw [popN, popN_filter k, List.range_succ_eq_map, List.filter_cons, List.filter_map]
    have e : ((fun j => x.testBit j) ∘ Nat.succ) = fun j => (x / 2).testBit j := by funext j; simp [Nat.testBit_succ]
    rw [e, Nat.testBit_zero]
    rcases Nat.mod_two_eq_zero_or_one x with h | h <;> simp [h] <;> omega
theorem pop_popN (x : BitVec 64) : popN 64 x.toNat = pop x := by
  unfold pop
  rw [popN_filter]
  rfl
theorem pop_eq (x : BitVec 64) : pop x = ((List.range 64).filter x.getLsbD).length := rfl
theorem count_cons (x : BitVec 64) (a : W) : count (x :: a) = pop x + count a := by
  unfold count
  rw [all_cons, List.length_append, List.length_map, pop_eq]
theorem pop_le (x : BitVec 64) : pop x ≤ 64 := by
  rw [pop_eq]
  exact Nat.le_trans (List.length_filter_le _ _) (by simp)
theorem count_le (a : W) : count a ≤ 64 * a.length := by
  unfold count all
  exact Nat.le_trans (List.length_filter_le _ _) (by simp)
theorem zero_word {x : BitVec 64} : x.toNat = 0 ↔ ∀ j, j < 64 → x.getLsbD j = false := by
  constructor
  · intro h j _
    have : x = 0#64 := BitVec.eq_of_toNat_eq (by simpa using h)
    subst this
    simp
  · intro h
    have : x = 0#64 := BitVec.eq_of_getLsbD_eq fun j hj => by rw [h j hj]; simp
    subst this
    rfl
end Go.Bt
