/- Part of a proof of laws of the seat YtabmjhhjbifagaaDoor: plain lemmas; no conditions. -/
set_option linter.unusedVariables false
set_option linter.unusedSimpArgs false
/-! Sets of bits in words of 64: plain lemmas. -/
namespace Go.Bt

abbrev W := List (BitVec 64)
/-- Is bit i in? -/
def bit (a : W) (i : Nat) : Bool := (a[i / 64]?.getD 0#64).getLsbD (i % 64)
/-- The word of number k of the bits p. -/
def word (p : Nat → Bool) (k : Nat) : BitVec 64 := (BitVec.ofBoolListLE ((List.range 64).map fun j => p (64 * k + j))).cast (by simp)
theorem word_get (p : Nat → Bool) (k j : Nat) : (word p k).getLsbD j = (decide (j < 64) && p (64 * k + j)) := by
  unfold word
  rw [BitVec.getLsbD_cast, BitVec.getLsbD_ofBoolListLE]
  by_cases h : j < 64
  · simp [h]
  · simp [h]
theorem word_eq {x : BitVec 64} {p : Nat → Bool} {k : Nat} (h : ∀ j, j < 64 → x.getLsbD j = p (64 * k + j)) : x = word p k := by
  apply BitVec.eq_of_getLsbD_eq
  intro i hi
  rw [word_get, h i hi]
  simp [hi]
/-- L words of the bits p. -/
def ofB (L : Nat) (p : Nat → Bool) : W := (List.range L).map (word p)
@[simp] theorem ofB_length (L : Nat) (p : Nat → Bool) : (ofB L p).length = L := by simp [ofB]
theorem ofB_get {L k : Nat} (h : k < L) (p : Nat → Bool) : (ofB L p)[k]? = some (word p k) := by simp [ofB, h]
theorem bit_ofB (L : Nat) (p : Nat → Bool) (i : Nat) : bit (ofB L p) i = (decide (i < 64 * L) && p i) := by
  unfold bit
  by_cases h : i / 64 < L
  · rw [ofB_get h, Option.getD_some, word_get]
    have h1 : i % 64 < 64 := Nat.mod_lt _ (by decide)
    have h2 : i < 64 * L := by omega
    simp [h1, h2, Nat.div_add_mod]
  · have h2 : ¬ i < 64 * L := by omega
    rw [List.getElem?_eq_none (by simp; omega)]
    simp [h2]
theorem bit_out {a : W} {i : Nat} (h : 64 * a.length ≤ i) : bit a i = false := by
  unfold bit
  rw [List.getElem?_eq_none (by omega)]
  simp
theorem bit_word {a : W} {k j : Nat} {x : BitVec 64} (h : a[k]? = some x) (hj : j < 64) : bit a (64 * k + j) = x.getLsbD j := by
  unfold bit
  rw [show (64 * k + j) / 64 = k from by omega, show (64 * k + j) % 64 = j from by omega, h]
  rfl
theorem ofB_ext {L : Nat} {p q : Nat → Bool} (h : ∀ i, i < 64 * L → p i = q i) : ofB L p = ofB L q := by
  unfold ofB
  apply List.map_congr_left
  intro k hk
  have hk : k < L := by simpa using hk
  apply word_eq
  intro j hj
  rw [word_get]
  simp [hj, h (64 * k + j) (by omega)]
theorem eq_ofB (a : W) : a = ofB a.length (bit a) := by
  apply List.ext_getElem?
  intro k
  by_cases h : k < a.length
  · rw [ofB_get h, List.getElem?_eq_getElem h]
    congr 1
    apply word_eq
    intro j hj
    exact (bit_word (List.getElem?_eq_getElem h) hj).symm
  · rw [List.getElem?_eq_none (by omega), List.getElem?_eq_none (by simp; omega)]
theorem ext {a b : W} (hl : a.length = b.length) (h : ∀ i, i < 64 * a.length → bit a i = bit b i) : a = b := by
  rw [eq_ofB a, eq_ofB b, ← hl]
  exact ofB_ext h
theorem zeros (L : Nat) : List.replicate L 0#64 = ofB L (fun _ => false) := by
  apply ext (by simp)
  intro i hi
  rw [bit_ofB]
  unfold bit
  simp only [List.length_replicate] at hi
  rw [List.getElem?_replicate, if_pos (by omega)]
  simp
theorem word_or (p q : Nat → Bool) (k : Nat) : word p k ||| word q k = word (fun i => p i || q i) k := word_eq fun j hj => by rw [BitVec.getLsbD_or, word_get, word_get]; simp [hj]
theorem word_and (p q : Nat → Bool) (k : Nat) : word p k &&& word q k = word (fun i => p i && q i) k := word_eq fun j hj => by rw [BitVec.getLsbD_and, word_get, word_get]; simp [hj]
theorem word_xor (p q : Nat → Bool) (k : Nat) : word p k ^^^ word q k = word (fun i => p i ^^ q i) k := word_eq fun j hj => by rw [BitVec.getLsbD_xor, word_get, word_get]; simp [hj]
theorem word_andNot (p q : Nat → Bool) (k : Nat) : word p k &&& ~~~ word q k = word (fun i => p i && !q i) k := word_eq fun j hj => by rw [BitVec.getLsbD_and, BitVec.getLsbD_not, word_get, word_get]; simp [hj]
theorem getD_lt {a : W} {k : Nat} {x : BitVec 64} (h : a[k]? = some x) : k < a.length := (List.getElem?_eq_some_iff.1 h).1
/-- A word of a list of bits. -/
theorem at_ofB {L k : Nat} {p : Nat → Bool} {x : BitVec 64} (h : (ofB L p)[k]? = some x) : k < L ∧ x = word p k := by
  have hk : k < L := by simpa using getD_lt h
  rw [ofB_get hk] at h
  exact ⟨hk, (Option.some.inj h).symm⟩
theorem bit_set {a : W} {k : Nat} (hk : k < a.length) (x : BitVec 64) (i : Nat) : bit (a.set k x) i = if i / 64 = k then x.getLsbD (i % 64) else bit a i := by
  unfold bit
  by_cases h : i / 64 = k
  · subst h
    rw [List.getElem?_set_self hk, if_pos rfl]
    rfl
  · rw [List.getElem?_set_ne (Ne.symm h), if_neg h]
/-- One bit is put in. -/
theorem put_in {a : W} {k j : Nat} {x : BitVec 64} (h : a[k]? = some x) (hj : j < 64) (i : Nat) : bit (a.set k (x ||| BitVec.twoPow 64 j)) i = (bit a i || decide (i = 64 * k + j)) := by
  rw [bit_set (getD_lt h)]
  by_cases hi : i / 64 = k
  · rw [if_pos hi]
    have e : i = 64 * k + i % 64 := by omega
    have hm : i % 64 < 64 := by omega
    have hb : bit a i = x.getLsbD (i % 64) := by rw [e, bit_word h hm]; simp
    rw [hb, BitVec.getLsbD_or, BitVec.getLsbD_twoPow]
    have hd : (decide (j < 64) && decide (j = i % 64)) = decide (i = 64 * k + j) := by
      simp only [hj, decide_true, Bool.true_and]
      apply decide_eq_decide.2
      omega
    rw [hd]
  · rw [if_neg hi, decide_eq_false (by omega)]
    simp
theorem put_out {a : W} {k j : Nat} {x : BitVec 64} (h : a[k]? = some x) (hj : j < 64) (i : Nat) : bit (a.set k (x &&& ~~~ BitVec.twoPow 64 j)) i = (bit a i && !decide (i = 64 * k + j)) := by
  rw [bit_set (getD_lt h)]
  by_cases hi : i / 64 = k
  · rw [if_pos hi]
    have e : i = 64 * k + i % 64 := by omega
    have hm : i % 64 < 64 := by omega
    have hb : bit a i = x.getLsbD (i % 64) := by rw [e, bit_word h hm]; simp
    rw [hb, BitVec.getLsbD_and, BitVec.getLsbD_not, BitVec.getLsbD_twoPow]
    have hd : (decide (j < 64) && decide (j = i % 64)) = decide (i = 64 * k + j) := by
      simp only [hj, decide_true, Bool.true_and]
      apply decide_eq_decide.2
      omega
    rw [hd]
    simp [hm]
  · rw [if_neg hi, decide_eq_false (by omega)]
    simp
/-- A run of ones. -/
theorem ones (lo hi : Nat) (h : lo < hi) (h64 : hi ≤ 64) (j : Nat) (hj : j < 64) : ((BitVec.allOnes 64 >>> (64 - (hi - lo))) <<< lo).getLsbD j = (decide (lo ≤ j) && decide (j < hi)) := by
  rw [BitVec.getLsbD_shiftLeft, BitVec.getLsbD_ushiftRight, BitVec.getLsbD_allOnes]
  by_cases h1 : j < lo
  · simp [h1]; omega
  · by_cases h2 : j < hi
    · simp [h1, h2, hj]; omega
    · simp [h1, h2, hj]; omega
/-- A list that is turned from its head on. -/
def mix {α : Type} (t a : List α) (i : Nat) : List α := t.take i ++ a.drop i
theorem mix_zero {α : Type} (t a : List α) : mix t a 0 = a := by simp [mix]
theorem mix_full {α : Type} {t a : List α} (h : a.length = t.length) : mix t a a.length = t := by unfold mix; rw [h, List.take_length, List.drop_of_length_le (by omega), List.append_nil]
theorem mix_get {α : Type} {t a : List α} (h : a.length = t.length) {i : Nat} (hi : i < a.length) : (mix t a i)[i]? = a[i]? := by
  unfold mix
  rw [List.getElem?_append_right (by simp; omega)]
  simp
  congr 1
  omega
theorem mix_step {α : Type} {t a : List α} (h : a.length = t.length) {i : Nat} {x : α} (hx : t[i]? = some x) : (mix t a i).set i x = mix t a (i + 1) := by
  have hi : i < t.length := (List.getElem?_eq_some_iff.1 hx).1
  unfold mix
  rw [List.set_append_right _ _ (by simp; omega)]
  have e : i - (List.take i t).length = 0 := by simp; omega
  rw [e, List.drop_eq_getElem_cons (by omega : i < a.length), List.set_cons_zero, List.take_add_one, hx]
  simp
theorem mix_length {α : Type} {t a : List α} (h : a.length = t.length) (i : Nat) : (mix t a i).length = a.length := by simp [mix]; omega
end Go.Bt
