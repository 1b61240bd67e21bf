/- Part of a proof of laws of the seat YtpllehijaidinaaDoor: functions' weakest preconditions, each checked by the kernel, contracts out of them, plain lemmas; no conditions. -/
set_option linter.unusedVariables false
set_option linter.unusedSimpArgs false
namespace Go.Bt

abbrev W := List (BitVec 64)
/-- Is bit i in? -/
def bit (a : W) (i : Nat) : Bool := (a[i / 64]?.getD 0#64).getLsbD (i % 64)
/-- The word of number k of the bits p. -/
def word (p : Nat → Bool) (k : Nat) : BitVec 64 := (BitVec.ofBoolListLE ((List.range 64).map fun j => p (64 * k + j))).cast (by simp)
theorem word_get (p : Nat → Bool) (k j : Nat) : (word p k).getLsbD j = (decide (j < 64) && p (64 * k + j)) := by
  unfold word
  rw [BitVec.getLsbD_cast, BitVec.getLsbD_ofBoolListLE]
  by_cases h : j < 64
  · simp [h]
  · simp [h]
theorem word_eq {x : BitVec 64} {p : Nat → Bool} {k : Nat} (h : ∀ j, j < 64 → x.getLsbD j = p (64 * k + j)) : x = word p k := by
  apply BitVec.eq_of_getLsbD_eq
  intro i hi
  rw [word_get, h i hi]
  simp [hi]
/-- L words of the bits p. -/
def ofB (L : Nat) (p : Nat → Bool) : W := (List.range L).map (word p)
@[simp] theorem ofB_length (L : Nat) (p : Nat → Bool) : (ofB L p).length = L := by simp [ofB]
theorem ofB_get {L k : Nat} (h : k < L) (p : Nat → Bool) : (ofB L p)[k]? = some (word p k) := by simp [ofB, h]
theorem bit_ofB (L : Nat) (p : Nat → Bool) (i : Nat) : bit (ofB L p) i = (decide (i < 64 * L) && p i) := by
  unfold bit
  by_cases h : i / 64 < L
  · rw [ofB_get h, Option.getD_some, word_get]
    have h1 : i % 64 < 64 := Nat.mod_lt _ (by decide)
    have h2 : i < 64 * L := by omega
    simp [h1, h2, Nat.div_add_mod]
  · have h2 : ¬ i < 64 * L := by omega
    rw [List.getElem?_eq_none (by simp; omega)]
    simp [h2]
theorem bit_out {a : W} {i : Nat} (h : 64 * a.length ≤ i) : bit a i = false := by
  unfold bit
  rw [List.getElem?_eq_none (by omega)]
  simp
theorem bit_word {a : W} {k j : Nat} {x : BitVec 64} (h : a[k]? = some x) (hj : j < 64) : bit a (64 * k + j) = x.getLsbD j := by
  unfold bit
  rw [show (64 * k + j) / 64 = k from by omega, show (64 * k + j) % 64 = j from by omega, h]
  rfl
theorem ofB_ext {L : Nat} {p q : Nat → Bool} (h : ∀ i, i < 64 * L → p i = q i) : ofB L p = ofB L q := by
  unfold ofB
  apply List.map_congr_left
  intro k hk
  have hk : k < L := by simpa using hk
  apply word_eq
  intro j hj
  rw [word_get]
  simp [hj, h (64 * k + j) (by omega)]
theorem eq_ofB (a : W) : a = ofB a.length (bit a) := by
  apply List.ext_getElem?
  intro k
  by_cases h : k < a.length
  · rw [ofB_get h, List.getElem?_eq_getElem h]
    congr 1
    apply word_eq
    intro j hj
    exact (bit_word (List.getElem?_eq_getElem h) hj).symm
  · rw [List.getElem?_eq_none (by omega), List.getElem?_eq_none (by simp; omega)]
theorem ext {a b : W} (hl : a.length = b.length) (h : ∀ i, i < 64 * a.length → bit a i = bit b i) : a = b := by
  rw [eq_ofB a, eq_ofB b, ← hl]
  exact ofB_ext h
theorem zeros (L : Nat) : List.replicate L 0#64 = ofB L (fun _ => false) := by
  apply ext (by simp)
  intro i hi
  rw [bit_ofB]
  unfold bit
  simp only [List.length_replicate] at hi
  rw [List.getElem?_replicate, if_pos (by omega)]
  simp
theorem word_or (p q : Nat → Bool) (k : Nat) : word p k ||| word q k = word (fun i => p i || q i) k := word_eq fun j hj => by rw [BitVec.getLsbD_or, word_get, word_get]; simp [hj]
theorem word_and (p q : Nat → Bool) (k : Nat) : word p k &&& word q k = word (fun i => p i && q i) k := word_eq fun j hj => by rw [BitVec.getLsbD_and, word_get, word_get]; simp [hj]
theorem word_xor (p q : Nat → Bool) (k : Nat) : word p k ^^^ word q k = word (fun i => p i ^^ q i) k := word_eq fun j hj => by rw [BitVec.getLsbD_xor, word_get, word_get]; simp [hj]
theorem word_andNot (p q : Nat → Bool) (k : Nat) : word p k &&& ~~~ word q k = word (fun i => p i && !q i) k := word_eq fun j hj => by rw [BitVec.getLsbD_and, BitVec.getLsbD_not, word_get, word_get]; simp [hj]
theorem getD_lt {a : W} {k : Nat} {x : BitVec 64} (h : a[k]? = some x) : k < a.length := (List.getElem?_eq_some_iff.1 h).1
/-- A word of a list of bits. -/
theorem at_ofB {L k : Nat} {p : Nat → Bool} {x : BitVec 64} (h : (ofB L p)[k]? = some x) : k < L ∧ x = word p k := by
  have hk : k < L := by simpa using getD_lt h
  rw [ofB_get hk] at h
  exact ⟨hk, (Option.some.inj h).symm⟩
theorem bit_set {a : W} {k : Nat} (hk : k < a.length) (x : BitVec 64) (i : Nat) : bit (a.set k x) i = if i / 64 = k then x.getLsbD (i % 64) else bit a i := by
  unfold bit
  by_cases h : i / 64 = k
  · subst h
    rw [List.getElem?_set_self hk, if_pos rfl]
    rfl
  · rw [List.getElem?_set_ne (Ne.symm h), if_neg h]
/-- One bit is put in. -/
theorem put_in {a : W} {k j : Nat} {x : BitVec 64} (h : a[k]? = some x) (hj : j < 64) (i : Nat) : bit (a.set k (x ||| BitVec.twoPow 64 j)) i = (bit a i || decide (i = 64 * k + j)) := by
  rw [bit_set (getD_lt h)]
  by_cases hi : i / 64 = k
  · rw [if_pos hi]
    have e : i = 64 * k + i % 64 := by omega
    have hm : i % 64 < 64 := by omega
    have hb : bit a i = x.getLsbD (i % 64) := by rw [e, bit_word h hm]; simp
    rw [hb, BitVec.getLsbD_or, BitVec.getLsbD_twoPow]
    have hd : (decide (j < 64) && decide (j = i % 64)) = decide (i = 64 * k + j) := by
      simp only [hj, decide_true, Bool.true_and]
      apply decide_eq_decide.2
      omega
    rw [hd]
  · rw [if_neg hi, decide_eq_false (by omega)]
    simp
theorem put_out {a : W} {k j : Nat} {x : BitVec 64} (h : a[k]? = some x) (hj : j < 64) (i : Nat) : bit (a.set k (x &&& ~~~ BitVec.twoPow 64 j)) i = (bit a i && !decide (i = 64 * k + j)) := by
  rw [bit_set (getD_lt h)]
  by_cases hi : i / 64 = k
  · rw [if_pos hi]
    have e : i = 64 * k + i % 64 := by omega
    have hm : i % 64 < 64 := by omega
    have hb : bit a i = x.getLsbD (i % 64) := by rw [e, bit_word h hm]; simp
    rw [hb, BitVec.getLsbD_and, BitVec.getLsbD_not, BitVec.getLsbD_twoPow]
    have hd : (decide (j < 64) && decide (j = i % 64)) = decide (i = 64 * k + j) := by
      simp only [hj, decide_true, Bool.true_and]
      apply decide_eq_decide.2
      omega
    rw [hd]
    simp [hm]
  · rw [if_neg hi, decide_eq_false (by omega)]
    simp
/-- A run of ones. -/
theorem ones (lo hi : Nat) (h : lo < hi) (h64 : hi ≤ 64) (j : Nat) (hj : j < 64) : ((BitVec.allOnes 64 >>> (64 - (hi - lo))) <<< lo).getLsbD j = (decide (lo ≤ j) && decide (j < hi)) := by
  rw [BitVec.getLsbD_shiftLeft, BitVec.getLsbD_ushiftRight, BitVec.getLsbD_allOnes]
  by_cases h1 : j < lo
  · simp [h1]; omega
  · by_cases h2 : j < hi
    · simp [h1, h2, hj]; omega
    · simp [h1, h2, hj]; omega
/-- A list that is turned from its head on. -/
def mix {α : Type} (t a : List α) (i : Nat) : List α := t.take i ++ a.drop i
theorem mix_zero {α : Type} (t a : List α) : mix t a 0 = a := by simp [mix]
theorem mix_full {α : Type} {t a : List α} (h : a.length = t.length) : mix t a a.length = t := by unfold mix; rw [h, List.take_length, List.drop_of_length_le (by omega), List.append_nil]
theorem mix_get {α : Type} {t a : List α} (h : a.length = t.length) {i : Nat} (hi : i < a.length) : (mix t a i)[i]? = a[i]? := by
  unfold mix
  rw [List.getElem?_append_right (by simp; omega)]
  simp
  congr 1
  omega
theorem mix_step {α : Type} {t a : List α} (h : a.length = t.length) {i : Nat} {x : α} (hx : t[i]? = some x) : (mix t a i).set i x = mix t a (i + 1) := by
  have hi : i < t.length := (List.getElem?_eq_some_iff.1 hx).1
  unfold mix
  rw [List.set_append_right _ _ (by simp; omega)]
  have e : i - (List.take i t).length = 0 := by simp; omega
  rw [e, List.drop_eq_getElem_cons (by omega : i < a.length), List.set_cons_zero, List.take_add_one, hx]
  simp
theorem mix_length {α : Type} {t a : List α} (h : a.length = t.length) (i : Nat) : (mix t a i).length = a.length := by simp [mix]; omega
end Go.Bt

namespace Go.Bt
/-- How many of the k lowest bits are in. -/
def popN : Nat → Nat → Nat
  | 0, _ => 0
  | k + 1, x => x % 2 + popN k (x / 2)
def mk (m b : Nat) : Nat → Nat
  | 0 => 0
  | k + 1 => m + b * mk m b k
theorem and_split (x m n : Nat) (hm : m < 16) : x &&& (m + 16 * n) = (x % 16 &&& m) + 16 * (x / 16 &&& n) := by
  have h : (x % 16 &&& m) < 2 ^ 4 := Nat.and_lt_two_pow _ (by omega)
  apply Nat.eq_of_testBit_eq
  intro i
  have e1 : (x % 16 &&& m) + 16 * (x / 16 &&& n) = 2 ^ 4 * (x / 16 &&& n) + (x % 16 &&& m) := by omega
  have e2 : m + 16 * n = 2 ^ 4 * n + m := by omega
  rw [e1, e2, Nat.testBit_and, Nat.testBit_two_pow_mul_add _ h, Nat.testBit_two_pow_mul_add _ (by omega : m < 2 ^ 4)]
  by_cases hi : i < 4
  · rw [if_pos hi, if_pos hi, Nat.testBit_and]
    congr 1
    rw [show 16 = 2 ^ 4 from rfl, Nat.testBit_mod_two_pow]
    simp [hi]
  · rw [if_neg hi, if_neg hi, Nat.testBit_and]
    congr 1
    rw [show 16 = 2 ^ 4 from rfl, Nat.testBit_div_two_pow]
    congr 1
    omega
def q1 (d : Nat) : Nat := (d / 2 &&& 5) + (d &&& 5)
def q2 (d : Nat) : Nat := (d / 4 &&& 3) + (d &&& 3)
def S1 (k x : Nat) : Nat := (x / 2 &&& mk 5 16 k) + (x &&& mk 5 16 k)
def S2 (k x : Nat) : Nat := (x / 4 &&& mk 3 16 k) + (x &&& mk 3 16 k)
theorem q1_lt : ∀ d, d < 16 → q1 d < 16 := by decide
theorem s1_dig : ∀ d, d < 32 → (d / 2) % 16 &&& 5 = (d % 16) / 2 &&& 5 := by decide
theorem s2_dig : ∀ d, d < 64 → (d / 4) % 16 &&& 3 = (d % 16) / 4 &&& 3 := by decide
theorem S1_step (k x : Nat) : S1 (k + 1) x = q1 (x % 16) + 16 * S1 k (x / 16) := by
  unfold S1 q1
  rw [mk, and_split _ 5 _ (by omega), and_split _ 5 _ (by omega)]
  have h := s1_dig (x % 32) (by omega)
  rw [show x % 32 / 2 % 16 = x / 2 % 16 from by omega, show x % 32 % 16 = x % 16 from by omega] at h
  rw [h, show x / 2 / 16 = x / 16 / 2 from by omega]
  omega
theorem S2_step (k x : Nat) : S2 (k + 1) x = q2 (x % 16) + 16 * S2 k (x / 16) := by
  unfold S2 q2
  rw [mk, and_split _ 3 _ (by omega), and_split _ 3 _ (by omega)]
  have h := s2_dig (x % 64) (by omega)
  rw [show x % 64 / 4 % 16 = x / 4 % 16 from by omega, show x % 64 % 16 = x % 16 from by omega] at h
  rw [h, show x / 4 / 16 = x / 16 / 4 from by omega]
  omega
def p4 (d : Nat) : Nat := q2 (q1 d)
theorem p4_le : ∀ d, d < 16 → p4 d ≤ 4 := by decide
theorem p4_pop : ∀ d, d < 16 → p4 d = popN 4 d := by decide
def P4 : Nat → Nat → Nat
  | 0, _ => 0
  | k + 1, x => p4 (x % 16) + 16 * P4 k (x / 16)
theorem S12 : ∀ k x, S2 k (S1 k x) = P4 k x
  | 0, x => by simp [S2, mk, P4]
  | k + 1, x => by
    have h := q1_lt (x % 16) (by omega)
    rw [S2_step, S1_step, P4, show (q1 (x % 16) + 16 * S1 k (x / 16)) % 16 = q1 (x % 16) from by omega, show (q1 (x % 16) + 16 * S1 k (x / 16)) / 16 = S1 k (x / 16) from by omega, S12 k]
    rfl
theorem popN_split (k x : Nat) : popN (4 + k) x = p4 (x % 16) + popN k (x / 16) := by
  rw [p4_pop _ (by omega), Nat.add_comm 4 k]
  simp only [popN]
  rw [show x / 2 / 2 / 2 / 2 = x / 16 from by omega]
  omega
/-- Each byte's sum of its halves. -/
def E3 : Nat → Nat → Nat
  | 0, _ => 0
  | k + 1, x => x % 16 + 256 * E3 k (x / 256)
theorem and_E3 : ∀ k x, x &&& mk 15 256 k = E3 k x
  | 0, x => by simp [mk, E3]
  | k + 1, x => by
    rw [mk, show 15 + 256 * mk 15 256 k = 15 + 16 * (0 + 16 * mk 15 256 k) from by omega, and_split _ 15 _ (by omega), and_split _ 0 _ (by omega), Nat.and_zero, Nat.zero_add,
      show x / 16 / 16 = x / 256 from by omega, and_E3 k, E3]
    have : x % 16 &&& 15 = x % 16 := by
      have : ∀ d, d < 16 → d &&& 15 = d := by decide
      exact this _ (by omega)
    omega
theorem P16 (x : Nat) (n0 n1 n2 n3 n4 n5 n6 n7 n8 n9 n10 n11 n12 n13 n14 n15 : Nat)
    (h : P4 16 x = n0 + 16 * (n1 + 16 * (n2 + 16 * (n3 + 16 * (n4 + 16 * (n5 + 16 * (n6 + 16 * (n7 + 16 * (n8 + 16 * (n9 + 16 * (n10 + 16 * (n11 + 16 * (n12 + 16 * (n13 + 16 * (n14 + 16 * (n15 + 16 * 0))))))))))))))))
    (l0 : n0 ≤ 4) (l1 : n1 ≤ 4) (l2 : n2 ≤ 4) (l3 : n3 ≤ 4) (l4 : n4 ≤ 4) (l5 : n5 ≤ 4) (l6 : n6 ≤ 4) (l7 : n7 ≤ 4) (l8 : n8 ≤ 4) (l9 : n9 ≤ 4) (l10 : n10 ≤ 4) (l11 : n11 ≤ 4) (l12 : n12 ≤ 4) (l13 : n13 ≤ 4) (l14 : n14 ≤ 4) (l15 : n15 ≤ 4) :
    E3 8 (P4 16 x / 16 + P4 16 x) = (n0 + n1) + 256 * ((n2 + n3) + 256 * ((n4 + n5) + 256 * ((n6 + n7) + 256 * ((n8 + n9) + 256 * ((n10 + n11) + 256 * ((n12 + n13) + 256 * (n14 + n15))))))) := by
  rw [h]
  clear h
  have step : ∀ a b r : Nat, a ≤ 4 → b ≤ 4 → ∀ k, E3 (k + 1) ((a + 16 * (b + 16 * r)) / 16 + (a + 16 * (b + 16 * r))) = (a + b) + 256 * E3 k (((b + 16 * r) + (a + 16 * (b + 16 * r))) / 256) := by
    intro a b r ha hb k
    rw [E3, show (a + 16 * (b + 16 * r)) / 16 = b + 16 * r from by omega]
    congr 1
    omega
  have step2 : ∀ a b r : Nat, a ≤ 4 → b ≤ 4 → ∃ c, r % 16 ≤ 4 → ((b + 16 * r) + (a + 16 * (b + 16 * r))) / 256 = r / 16 + r := fun a b r ha hb => ⟨0, fun h => by omega⟩
  have st : ∀ a b r : Nat, a ≤ 4 → b ≤ 4 → r % 16 ≤ 4 → ∀ k, E3 (k + 1) ((a + 16 * (b + 16 * r)) / 16 + (a + 16 * (b + 16 * r))) = (a + b) + 256 * E3 k (r / 16 + r) := by
    intro a b r ha hb hr k
    rw [step a b r ha hb k]
    obtain ⟨_, h⟩ := step2 a b r ha hb
    rw [h hr]
  rw [st _ _ _ l0 l1 (by omega), st _ _ _ l2 l3 (by omega), st _ _ _ l4 l5 (by omega), st _ _ _ l6 l7 (by omega), st _ _ _ l8 l9 (by omega), st _ _ _ l10 l11 (by omega), st _ _ _ l12 l13 (by omega), st _ _ _ l14 l15 (by omega), E3, Nat.mul_zero, Nat.add_zero]
/-- The last three steps. -/
def fin3 (y : Nat) : Nat :=
  let a := (y + y / 256) % 18446744073709551616
  let b := (a + a / 65536) % 18446744073709551616
  let c := (b + b / 4294967296) % 18446744073709551616
  c % 128
theorem div_lo {a lo B R : Nat} (h : a = lo + B * R) (hl : lo < B) : a / B = R := by
  subst h
  rw [Nat.add_mul_div_left _ _ (by omega), Nat.div_eq_of_lt hl, Nat.zero_add]
theorem fin3_a {a r s0 s1 : Nat} (ha : a = (s0 + 256 * s1) + 65536 * r) (h0 : s0 ≤ 64) (h1 : s1 ≤ 64) (hr : r < 17592186044416) : a % 18446744073709551616 = a ∧ a / 65536 = r := by
  refine ⟨Nat.mod_eq_of_lt (by omega), div_lo ha (by omega)⟩
theorem fin3_b {b s p0 p1 p2 p3 : Nat} (hb : b = (p0 + 256 * p1 + 65536 * p2 + 16777216 * p3) + 4294967296 * s) (h0 : p0 ≤ 64) (h1 : p1 ≤ 64) (h2 : p2 ≤ 64) (h3 : p3 ≤ 64) (hs : s < 268435456) : b % 18446744073709551616 = b ∧ b / 4294967296 = s ∧ b + s < 18446744073709551616 := by
  refine ⟨Nat.mod_eq_of_lt (by omega), div_lo hb (by omega), by omega⟩
theorem fin3_c {b s p0 p1 p2 p3 q0 q1 : Nat} (hb : b = (p0 + 256 * p1 + 65536 * p2 + 16777216 * p3) + 4294967296 * s) (hs : s = q0 + 256 * q1) (h : p0 + q0 < 128) : (b + s) % 128 = p0 + q0 := by
  rw [show b + s = (p0 + q0) + 128 * (2 * p1 + 512 * p2 + 131072 * p3 + 33554432 * s + 2 * q1) from by omega, Nat.add_mul_mod_self_left, Nat.mod_eq_of_lt h]
theorem fin3_1 (c0 c1 c2 c3 c4 c5 c6 c7 : Nat) (h0 : c0 ≤ 8) : (c0 + 256 * (c1 + 256 * (c2 + 256 * (c3 + 256 * (c4 + 256 * (c5 + 256 * (c6 + 256 * c7))))))) / 256 = c1 + 256 * (c2 + 256 * (c3 + 256 * (c4 + 256 * (c5 + 256 * (c6 + 256 * c7))))) := div_lo rfl (by omega)
theorem fin3_2 (c0 c1 c2 c3 c4 c5 c6 c7 : Nat) : c0 + 256 * (c1 + 256 * (c2 + 256 * (c3 + 256 * (c4 + 256 * (c5 + 256 * (c6 + 256 * c7)))))) + (c1 + 256 * (c2 + 256 * (c3 + 256 * (c4 + 256 * (c5 + 256 * (c6 + 256 * c7)))))) =
  ((c0 + c1) + 256 * (c1 + c2)) + 65536 * ((c2 + c3) + 256 * ((c3 + c4) + 256 * ((c4 + c5) + 256 * ((c5 + c6) + 256 * ((c6 + c7) + 256 * c7))))) := by omega
theorem fin3_3 (c2 c3 c4 c5 c6 c7 : Nat) (h2 : c2 ≤ 8) (h3 : c3 ≤ 8) (h4 : c4 ≤ 8) (h5 : c5 ≤ 8) (h6 : c6 ≤ 8) (h7 : c7 ≤ 8) : (c2 + c3) + 256 * ((c3 + c4) + 256 * ((c4 + c5) + 256 * ((c5 + c6) + 256 * ((c6 + c7) + 256 * c7)))) < 17592186044416 := by omega
theorem fin3_4 (c4 c5 c6 c7 : Nat) (h4 : c4 ≤ 8) (h5 : c5 ≤ 8) (h6 : c6 ≤ 8) (h7 : c7 ≤ 8) : (c4 + c5 + c6 + c7) + 256 * ((c5 + c6 + c7) + 256 * ((c6 + c7) + 256 * c7)) < 268435456 := by omega
theorem fin3_5 (c0 c1 c2 c3 c4 c5 c6 c7 : Nat) : ((c0 + c1) + 256 * (c1 + c2)) + 65536 * ((c2 + c3) + 256 * ((c3 + c4) + 256 * ((c4 + c5) + 256 * ((c5 + c6) + 256 * ((c6 + c7) + 256 * c7))))) + ((c2 + c3) + 256 * ((c3 + c4) + 256 * ((c4 + c5) + 256 * ((c5 + c6) + 256 * ((c6 + c7) + 256 * c7))))) =
  ((c0 + c1 + c2 + c3) + 256 * (c1 + c2 + c3 + c4) + 65536 * (c2 + c3 + c4 + c5) + 16777216 * (c3 + c4 + c5 + c6)) + 4294967296 * ((c4 + c5 + c6 + c7) + 256 * ((c5 + c6 + c7) + 256 * ((c6 + c7) + 256 * c7))) := by omega
def fin3' (y d : Nat) : Prop := ∀ a r b s, y / 256 = d → a = y + d → a % 18446744073709551616 = a → a / 65536 = r → b = a + r → b % 18446744073709551616 = b → b / 4294967296 = s → b + s < 18446744073709551616 → fin3 y = (b + s) % 128
theorem fin3_of (y d : Nat) : fin3' y d := by
  intro a r b s h1 h2 h3 h4 h5 h6 h7 h8
  unfold fin3
  simp only
  rw [h1, ← h2, h3, h4, ← h5, h6, h7, Nat.mod_eq_of_lt h8]
theorem fin3_sum (c0 c1 c2 c3 c4 c5 c6 c7 : Nat) (h0 : c0 ≤ 8) (h1 : c1 ≤ 8) (h2 : c2 ≤ 8) (h3 : c3 ≤ 8) (h4 : c4 ≤ 8) (h5 : c5 ≤ 8) (h6 : c6 ≤ 8) (h7 : c7 ≤ 8) :
    fin3 (c0 + 256 * (c1 + 256 * (c2 + 256 * (c3 + 256 * (c4 + 256 * (c5 + 256 * (c6 + 256 * c7))))))) = (c0 + c1 + c2 + c3) + (c4 + c5 + c6 + c7) := by
  obtain ⟨f1, f2⟩ := fin3_a (fin3_2 c0 c1 c2 c3 c4 c5 c6 c7) (by clear h2 h3 h4 h5 h6 h7; omega) (by clear h0 h3 h4 h5 h6 h7; omega) (fin3_3 c2 c3 c4 c5 c6 c7 h2 h3 h4 h5 h6 h7)
  have hb := fin3_5 c0 c1 c2 c3 c4 c5 c6 c7
  rw [← fin3_2] at hb
  obtain ⟨g1, g2, g3⟩ := fin3_b hb (by clear f1 f2 hb; omega) (by clear f1 f2 hb; omega) (by clear f1 f2 hb; omega) (by clear f1 f2 hb; omega) (fin3_4 c4 c5 c6 c7 h4 h5 h6 h7)
  rw [fin3_of _ _ _ _ _ _ (fin3_1 c0 c1 c2 c3 c4 c5 c6 c7 h0) rfl f1 f2 rfl g1 g2 g3]
  exact fin3_c hb rfl (by clear f1 f2 hb g1 g2 g3; omega)
theorem pop_swar (x : Nat) : fin3 (E3 8 (P4 16 x / 16 + P4 16 x)) = popN 64 x := by
  have l : ∀ y : Nat, p4 (y % 16) ≤ 4 := fun y => p4_le _ (by omega)
  rw [P16 x (p4 (x % 16)) (p4 (x / 16 % 16)) (p4 (x / 16 / 16 % 16)) (p4 (x / 16 / 16 / 16 % 16)) (p4 (x / 16 / 16 / 16 / 16 % 16)) (p4 (x / 16 / 16 / 16 / 16 / 16 % 16)) (p4 (x / 16 / 16 / 16 / 16 / 16 / 16 % 16)) (p4 (x / 16 / 16 / 16 / 16 / 16 / 16 / 16 % 16)) (p4 (x / 16 / 16 / 16 / 16 / 16 / 16 / 16 / 16 % 16)) (p4 (x / 16 / 16 / 16 / 16 / 16 / 16 / 16 / 16 / 16 % 16)) (p4 (x / 16 / 16 / 16 / 16 / 16 / 16 / 16 / 16 / 16 / 16 % 16)) (p4 (x / 16 / 16 / 16 / 16 / 16 / 16 / 16 / 16 / 16 / 16 / 16 % 16)) (p4 (x / 16 / 16 / 16 / 16 / 16 / 16 / 16 / 16 / 16 / 16 / 16 / 16 % 16)) (p4 (x / 16 / 16 / 16 / 16 / 16 / 16 / 16 / 16 / 16 / 16 / 16 / 16 / 16 % 16)) (p4 (x / 16 / 16 / 16 / 16 / 16 / 16 / 16 / 16 / 16 / 16 / 16 / 16 / 16 / 16 % 16)) (p4 (x / 16 / 16 / 16 / 16 / 16 / 16 / 16 / 16 / 16 / 16 / 16 / 16 / 16 / 16 / 16 % 16)) (by simp only [P4]) (l _) (l _) (l _) (l _) (l _) (l _) (l _) (l _) (l _) (l _) (l _) (l _) (l _) (l _) (l _) (l _)]
  rw [fin3_sum _ _ _ _ _ _ _ _ (by have := l x; have := l (x / 16); omega) (by have := l (x / 16 / 16); have := l (x / 16 / 16 / 16); omega) (by have := l (x / 16 / 16 / 16 / 16); have := l (x / 16 / 16 / 16 / 16 / 16); omega)
    (by have := l (x / 16 / 16 / 16 / 16 / 16 / 16); have := l (x / 16 / 16 / 16 / 16 / 16 / 16 / 16); omega) (by have := l (x / 16 / 16 / 16 / 16 / 16 / 16 / 16 / 16); have := l (x / 16 / 16 / 16 / 16 / 16 / 16 / 16 / 16 / 16); omega)
    (by have := l (x / 16 / 16 / 16 / 16 / 16 / 16 / 16 / 16 / 16 / 16); have := l (x / 16 / 16 / 16 / 16 / 16 / 16 / 16 / 16 / 16 / 16 / 16); omega)
    (by have := l (x / 16 / 16 / 16 / 16 / 16 / 16 / 16 / 16 / 16 / 16 / 16 / 16); have := l (x / 16 / 16 / 16 / 16 / 16 / 16 / 16 / 16 / 16 / 16 / 16 / 16 / 16); omega)
    (by have := l (x / 16 / 16 / 16 / 16 / 16 / 16 / 16 / 16 / 16 / 16 / 16 / 16 / 16 / 16); have := l (x / 16 / 16 / 16 / 16 / 16 / 16 / 16 / 16 / 16 / 16 / 16 / 16 / 16 / 16 / 16); omega)]
  rw [show 64 = 4 + (4 + (4 + (4 + (4 + (4 + (4 + (4 + (4 + (4 + (4 + (4 + (4 + (4 + (4 + (4 + 0))))))))))))))) from rfl]
  rw [popN_split, popN_split, popN_split, popN_split, popN_split, popN_split, popN_split, popN_split, popN_split, popN_split, popN_split, popN_split, popN_split, popN_split, popN_split, popN_split]
  simp only [popN]
  omega
end Go.Bt

namespace Go.Bt
def pop (x : BitVec 64) : Nat := ((List.range 64).filter x.getLsbD).length
/-- The bits that are in, rising. -/
def all (a : W) : List Nat := (List.range (64 * a.length)).filter (bit a)
def count (a : W) : Nat := (all a).length
def low (a : W) : Int := match all a with
  | [] => -1
  | i :: _ => i
def high (a : W) : Int := match (all a).getLast? with
  | none => -1
  | some i => i
/-- How many of the bits below i are in. -/
def rank (a : W) (i : Int) : Nat := ((all a).filter fun j : Nat => decide ((j : Int) < i)).length
def sel (a : W) (k : Int) : Int := if k < 0 then -1 else match (all a)[k.toNat]? with
  | none => -1
  | some i => i
theorem mem_all {a : W} {i : Nat} : i ∈ all a ↔ bit a i = true := by
  unfold all
  rw [List.mem_filter, List.mem_range]
  refine ⟨fun h => h.2, fun h => ⟨?_, h⟩⟩
  apply Nat.lt_of_not_le
  intro hle
  rw [bit_out hle] at h
  cases h
theorem all_sorted (a : W) : (all a).Pairwise (· < ·) := List.Pairwise.filter _ (List.pairwise_lt_range)
theorem low_at {a : W} {p : Nat} (h : bit a p = true) (hl : ∀ j, j < p → bit a j = false) : low a = p := by
  have hm := mem_all.2 h
  have hs := all_sorted a
  unfold low
  cases he : all a with
  | nil => rw [he] at hm; cases hm
  | cons i l =>
    rw [he] at hm hs
    simp only
    congr 1
    rcases List.mem_cons.1 hm with h1 | h1
    · exact h1.symm
    · have h2 : i < p := (List.pairwise_cons.1 hs).1 p h1
      have h3 : bit a i = true := mem_all.1 (by rw [he]; simp)
      rw [hl i h2] at h3
      cases h3
theorem low_none {a : W} (h : ∀ j, bit a j = false) : low a = -1 := by
  unfold low
  cases he : all a with
  | nil => rfl
  | cons i l =>
    have h3 : bit a i = true := mem_all.1 (by rw [he]; simp)
    rw [h i] at h3
    cases h3
theorem high_at {a : W} {p : Nat} (h : bit a p = true) (hl : ∀ j, p < j → bit a j = false) : high a = p := by
  have hm := mem_all.2 h
  have hs := all_sorted a
  unfold high
  cases he : (all a).getLast? with
  | none => rw [List.getLast?_eq_none_iff] at he; rw [he] at hm; cases hm
  | some i =>
    simp only
    congr 1
    obtain ⟨l, hl2⟩ := List.getLast?_eq_some_iff.1 he
    rw [hl2] at hm hs
    rcases List.mem_append.1 hm with h1 | h1
    · have h2 : p < i := (List.pairwise_append.1 hs).2.2 p h1 i (by simp)
      have h3 : bit a i = true := mem_all.1 (by rw [hl2]; simp)
      rw [hl i h2] at h3
      cases h3
    · exact (List.mem_singleton.1 h1).symm
theorem high_none {a : W} (h : ∀ j, bit a j = false) : high a = -1 := by
  unfold high
  cases he : (all a).getLast? with
  | none => rfl
  | some i =>
    obtain ⟨l, hl2⟩ := List.getLast?_eq_some_iff.1 he
    have h3 : bit a i = true := mem_all.1 (by rw [hl2]; simp)
    rw [h i] at h3
    cases h3
theorem bit_cons_lt {x : BitVec 64} {a : W} {j : Nat} (hj : j < 64) : bit (x :: a) j = x.getLsbD j := by
  have := bit_word (a := x :: a) (k := 0) rfl hj
  simpa using this
theorem bit_cons_ge {x : BitVec 64} {a : W} (j : Nat) : bit (x :: a) (64 + j) = bit a j := by
  unfold bit
  rw [show (64 + j) / 64 = j / 64 + 1 from by omega, show (64 + j) % 64 = j % 64 from by omega]
  rfl
theorem all_cons (x : BitVec 64) (a : W) : all (x :: a) = (List.range 64).filter x.getLsbD ++ (all a).map (64 + ·) := by
  unfold all
  rw [List.length_cons, show 64 * (a.length + 1) = 64 + 64 * a.length from by omega, List.range_add, List.filter_append, List.filter_map]
  rw [List.filter_congr (p := bit (x :: a)) (q := x.getLsbD) (l := List.range 64) (fun j hj => bit_cons_lt (by simpa using hj)),
    List.filter_congr (p := bit (x :: a) ∘ fun x => 64 + x) (q := bit a) (fun j _ => bit_cons_ge j)]
theorem popN_filter : ∀ k x, popN k x = ((List.range k).filter (fun j => x.testBit j)).length
  | 0, x => rfl
  | k + 1, x => by
    rw [popN, popN_filter k, List.range_succ_eq_map, List.filter_cons, List.filter_map]
    have e : ((fun j => x.testBit j) ∘ Nat.succ) = fun j => (x / 2).testBit j := by funext j; simp [Nat.testBit_succ]
    rw [e, Nat.testBit_zero]
    rcases Nat.mod_two_eq_zero_or_one x with h | h <;> simp [h] <;> omega
theorem pop_popN (x : BitVec 64) : popN 64 x.toNat = pop x := by
  unfold pop
  rw [popN_filter]
  rfl
theorem pop_eq (x : BitVec 64) : pop x = ((List.range 64).filter x.getLsbD).length := rfl
theorem count_cons (x : BitVec 64) (a : W) : count (x :: a) = pop x + count a := by
  unfold count
  rw [all_cons, List.length_append, List.length_map, pop_eq]
theorem pop_le (x : BitVec 64) : pop x ≤ 64 := by
  rw [pop_eq]
  exact Nat.le_trans (List.length_filter_le _ _) (by simp)
theorem count_le (a : W) : count a ≤ 64 * a.length := by
  unfold count all
  exact Nat.le_trans (List.length_filter_le _ _) (by simp)
theorem zero_word {x : BitVec 64} : x.toNat = 0 ↔ ∀ j, j < 64 → x.getLsbD j = false := by
  constructor
  · intro h j _
    have : x = 0#64 := BitVec.eq_of_toNat_eq (by simpa using h)
    subst this
    simp
  · intro h
    have : x = 0#64 := BitVec.eq_of_getLsbD_eq fun j hj => by rw [h j hj]; simp
    subst this
    rfl
end Go.Bt

namespace Go.Bt
abbrev Rs := List (Int × Int)
/-- A bit more: the last run grows, or a new one begins. -/
def stepR (out : Rs) (x : Nat) : Rs := match out.getLast? with
  | some r => if r.2 = x then out.dropLast ++ [(r.1, (x : Int) + 1)] else out ++ [((x : Int), (x : Int) + 1)]
  | none => out ++ [((x : Int), (x : Int) + 1)]
/-- The runs of the bits below i. -/
def runsTo (a : W) (i : Nat) : Rs := ((List.range i).filter (bit a)).foldl stepR []
def runsOf (a : W) : Rs := (all a).foldl stepR []
theorem runsOf_to (a : W) : runsOf a = runsTo a (64 * a.length) := rfl
theorem runsTo_no {a : W} {i : Nat} (h : bit a i = false) : runsTo a (i + 1) = runsTo a i := by
  unfold runsTo
  rw [List.range_succ, List.filter_append]
  simp [h]
theorem runsTo_yes {a : W} {i : Nat} (h : bit a i = true) : runsTo a (i + 1) = stepR (runsTo a i) i := by
  unfold runsTo
  rw [List.range_succ, List.filter_append]
  simp [h]
/-- The last run ends where the last bit is. -/
theorem runsTo_last {a : W} : ∀ {i : Nat} {r : Int × Int}, (runsTo a i).getLast? = some r → r.2 ≤ i
  | 0, r, h => by simp [runsTo] at h
  | i + 1, r, h => by
    by_cases hb : bit a i = true
    · rw [runsTo_yes hb] at h
      unfold stepR at h
      split at h
      · split at h <;> simp at h <;> subst h <;> simp
      · simp at h; subst h; simp
    · rw [runsTo_no (by simpa using hb)] at h
      have := runsTo_last h
      omega
/-- A run of ones from f up to j. -/
theorem runsTo_run {a : W} {f : Nat} (hl : ∀ r, (runsTo a f).getLast? = some r → r.2 < f) : ∀ d, 0 < d → (∀ j, f ≤ j → j < f + d → bit a j = true) → runsTo a (f + d) = runsTo a f ++ [((f : Int), ((f + d : Nat) : Int))]
  | 0, h, _ => by omega
  | d + 1, _, hb => by
    rw [← Nat.add_assoc, runsTo_yes (hb (f + d) (by omega) (by omega))]
    cases d with
    | zero =>
      simp only [Nat.add_zero]
      unfold stepR
      split
      · rename_i r hr
        have := hl r hr
        rw [if_neg (by omega)]
        simp
      · simp
    | succ d =>
      rw [runsTo_run hl (d + 1) (by omega) (fun j h1 h2 => hb j h1 (by omega))]
      unfold stepR
      rw [List.getLast?_append]
      simp
theorem runs_len (a : W) : ∀ i, (runsTo a i).length ≤ i
  | 0 => by simp [runsTo]
  | i + 1 => by
    have := runs_len a i
    by_cases hb : bit a i = true
    · rw [runsTo_yes hb]
      unfold stepR
      split
      · split <;> simp <;> omega
      · simp; omega
    · rw [runsTo_no (by simpa using hb)]; omega
end Go.Bt

namespace Go.Bt
def bitsOf (x : BitVec 64) : List Nat := (List.range 64).filter x.getLsbD
theorem all_append : ∀ (a b : W), all (a ++ b) = all a ++ (all b).map (64 * a.length + ·)
  | [], b => by simp [all]
  | x :: a, b => by
    rw [List.cons_append, all_cons, all_append a b, all_cons, List.map_append, List.append_assoc, List.map_map]
    congr 2
    apply List.map_congr_left
    intro j _
    simp only [Function.comp, List.length_cons]
    omega
theorem all_split {a : W} {q : Nat} {x : BitVec 64} (hx : a[q]? = some x) : all a = all (a.take q) ++ ((bitsOf x).map (64 * q + ·) ++ (all (a.drop (q + 1))).map (64 * (q + 1) + ·)) := by
  obtain ⟨hlt, rfl⟩ := List.getElem?_eq_some_iff.1 hx
  have e : a = a.take q ++ a[q] :: a.drop (q + 1) := by rw [← List.drop_eq_getElem_cons hlt, List.take_append_drop]
  conv => lhs; rw [e]
  rw [all_append, all_cons, List.map_append, List.map_map, List.length_take, Nat.min_eq_left (by omega)]
  congr 2
  apply List.map_congr_left
  intro j _
  simp only [Function.comp]
  omega
theorem count_take {a : W} {q : Nat} {x : BitVec 64} (hx : a[q]? = some x) : count (a.take (q + 1)) = count (a.take q) + pop x := by
  rw [List.take_add_one, hx]
  unfold count
  rw [all_append, List.length_append, List.length_map]
  show _ + count [x] = _
  rw [count_cons]
  rfl
theorem all_lt' {a : W} {j : Nat} (h : j ∈ all a) : j < 64 * a.length := by
  unfold all at h
  exact List.mem_range.1 (List.mem_filter.1 h).1
theorem filter_none {α : Type} {p : α → Bool} {l : List α} (h : ∀ x ∈ l, p x = false) : l.filter p = [] := by
  rw [List.filter_eq_nil_iff]
  intro x hx
  rw [h x hx]
  simp
theorem filter_all {α : Type} {p : α → Bool} {l : List α} (h : ∀ x ∈ l, p x = true) : l.filter p = l := List.filter_eq_self.2 h
theorem rank_neg {a : W} {i : Int} (h : i < 0) : rank a i = 0 := by
  unfold rank
  rw [filter_none (fun x _ => decide_eq_false (by omega))]
  rfl
theorem rank_out {a : W} {i : Int} (h : 64 * (a.length : Int) ≤ i) : rank a i = count a := by
  unfold rank count
  rw [filter_all (fun x hx => decide_eq_true (by have := all_lt' hx; omega))]
def maskW (r : Nat) : BitVec 64 := BitVec.ofNat 64 (2 ^ r - 1)
theorem maskW_get (r j : Nat) (hj : j < 64) : (maskW r).getLsbD j = decide (j < r) := by
  unfold maskW
  rw [BitVec.getLsbD_ofNat, Nat.testBit_two_pow_sub_one]
  simp [hj]
theorem rank_at {a : W} {i : Nat} {x : BitVec 64} (hx : a[i / 64]? = some x) : rank a i = count (a.take (i / 64)) + pop (x &&& maskW (i % 64)) := by
  unfold rank
  rw [all_split hx, List.filter_append, List.filter_append, List.length_append, List.length_append]
  have hlt : i / 64 < a.length := getD_lt hx
  rw [filter_all (l := all (a.take (i / 64))) (fun j hj => decide_eq_true (by have := all_lt' hj; rw [List.length_take] at this; omega))]
  rw [filter_none (l := (all (a.drop (i / 64 + 1))).map (64 * (i / 64 + 1) + ·)) (fun j hj => decide_eq_false (by obtain ⟨y, _, rfl⟩ := List.mem_map.1 hj; omega))]
  have e : (((bitsOf x).map (64 * (i / 64) + ·)).filter fun j : Nat => decide ((j : Int) < (i : Int))).length = pop (x &&& maskW (i % 64)) := by
    rw [List.filter_map, List.length_map]
    unfold bitsOf pop
    rw [List.filter_filter]
    congr 1
    apply List.filter_congr
    intro j hj
    have hj : j < 64 := by simpa using hj
    rw [BitVec.getLsbD_and, maskW_get _ _ hj, Bool.and_comm]
    congr 1
    show decide (((64 * (i / 64) + j : Nat) : Int) < (i : Int)) = _
    exact decide_eq_decide.2 (by omega)
  rw [e]
  unfold count
  simp
/-! ### the k-th bit -/
theorem sel_out {a : W} {k : Nat} (h : count a ≤ k) : sel a k = -1 := by
  unfold sel
  rw [if_neg (by omega), Int.toNat_natCast, List.getElem?_eq_none (by unfold count at h; omega)]
theorem sel_at {a : W} {q k p : Nat} {x : BitVec 64} (hx : a[q]? = some x) (hp : (bitsOf x)[k]? = some p) : sel a (count (a.take q) + k : Nat) = (64 * q + p : Nat) := by
  unfold sel
  rw [if_neg (by omega), Int.toNat_natCast, all_split hx, List.getElem?_append_right (by unfold count; omega)]
  have e : count (List.take q a) + k - (all (List.take q a)).length = k := by unfold count; omega
  rw [e, List.getElem?_append_left (by rw [List.length_map]; exact (List.getElem?_eq_some_iff.1 hp).1), List.getElem?_map, hp]
  rfl
theorem bitsOf_sorted (x : BitVec 64) : (bitsOf x).Pairwise (· < ·) := List.Pairwise.filter _ List.pairwise_lt_range
theorem mem_bitsOf {x : BitVec 64} {j : Nat} : j ∈ bitsOf x ↔ x.getLsbD j = true := by
  unfold bitsOf
  rw [List.mem_filter, List.mem_range]
  refine ⟨fun h => h.2, fun h => ⟨?_, h⟩⟩
  apply Nat.lt_of_not_le
  intro hle
  rw [BitVec.getLsbD_of_ge _ _ hle] at h
  cases h
/-- The lowest bit, and the word without it. -/
theorem bitsOf_low {x : BitVec 64} {c : Nat} (hc : x.getLsbD c = true) (hl : ∀ j, j < c → x.getLsbD j = false) : ∃ l, bitsOf x = c :: l ∧ ∀ y : BitVec 64, (∀ j, j < 64 → y.getLsbD j = (x.getLsbD j && !decide (j = c))) → bitsOf y = l := by
  have hm := mem_bitsOf.2 hc
  have hs := bitsOf_sorted x
  cases he : bitsOf x with
  | nil => rw [he] at hm; cases hm
  | cons p l =>
    rw [he] at hm hs
    have hp : p = c := by
      rcases List.mem_cons.1 hm with h | h
      · exact h.symm
      · have h2 : p < c := (List.pairwise_cons.1 hs).1 c h
        have h3 : x.getLsbD p = true := mem_bitsOf.1 (by rw [he]; simp)
        rw [hl p h2] at h3
        cases h3
    subst hp
    refine ⟨l, rfl, fun y hy => ?_⟩
    have e : bitsOf y = (bitsOf x).filter fun j => !decide (j = p) := by
      unfold bitsOf
      rw [List.filter_filter]
      apply List.filter_congr
      intro j hj
      rw [hy j (by simpa using hj), Bool.and_comm]
    rw [e, he, List.filter_cons]
    simp only [decide_true, Bool.not_true, Bool.false_eq_true, if_false]
    exact filter_all fun j hj => by
      have := (List.pairwise_cons.1 hs).1 j hj
      simp; omega
theorem clear_low {m c : Nat} (j : Nat) : ((2 ^ c * (2 * m + 1)) &&& (2 ^ c * (2 * m + 1) - 1)).testBit j = ((2 ^ c * (2 * m + 1)).testBit j && !decide (j = c)) := by
  have hp : 0 < 2 ^ c := Nat.pow_pos (by omega)
  have e1 : 2 ^ c * (2 * m + 1) - 1 = 2 ^ c * (2 * m) + (2 ^ c - 1) := by rw [Nat.mul_add]; omega
  have e2 : 2 ^ c * (2 * m + 1) = 2 ^ c * (2 * m + 1) + 0 := by omega
  rw [Nat.testBit_and, e1, Nat.testBit_two_pow_mul_add _ (by omega)]
  rw [e2, Nat.testBit_two_pow_mul_add _ (by omega)]
  by_cases hj : j < c
  · simp [hj]
  · rw [if_neg hj, if_neg hj]
    by_cases he : j = c
    · subst he
      simp [Nat.testBit_zero]
    · obtain ⟨d, hd⟩ : ∃ d, j - c = d + 1 := ⟨j - c - 1, by omega⟩
      rw [hd, Nat.testBit_succ, Nat.testBit_succ, show (2 * m + 1) / 2 = m from by omega, show 2 * m / 2 = m from by omega]
      simp [he]
end Go.Bt

namespace Go.Bt
theorem countP_sum (p q : Nat → Bool) : ∀ l : List Nat, l.countP (fun i => p i && q i) + l.countP (fun i => p i || q i) = l.countP p + l.countP q
  | [] => rfl
  | x :: l => by
    have ih := countP_sum p q l
    simp only [List.countP_cons]
    cases p x <;> cases q x <;> simp <;> omega
theorem countP_xor (p q : Nat → Bool) : ∀ l : List Nat, l.countP (fun i => p i ^^ q i) + l.countP (fun i => p i && q i) = l.countP (fun i => p i || q i)
  | [] => rfl
  | x :: l => by
    have ih := countP_xor p q l
    simp only [List.countP_cons]
    cases p x <;> cases q x <;> simp <;> omega
theorem count_eq (a : W) : count a = (List.range (64 * a.length)).countP (bit a) := by
  unfold count all; rw [List.countP_eq_length_filter]
theorem bit_zipA {f : BitVec 64 → BitVec 64 → BitVec 64} {h : Bool → Bool → Bool} (hf : ∀ x y j, j < 64 → (f x y).getLsbD j = h (x.getLsbD j) (y.getLsbD j)) (h0 : h false false = false) {xs ys : W} (hl : xs.length = ys.length) (i : Nat) : bit (xs.zipWith f ys) i = h (bit xs i) (bit ys i) := by
  unfold bit
  rw [List.getElem?_zipWith]
  by_cases hi : i / 64 < xs.length
  · rw [List.getElem?_eq_getElem hi, List.getElem?_eq_getElem (hl ▸ hi)]
    exact hf _ _ _ (Nat.mod_lt _ (by omega))
  · rw [List.getElem?_eq_none (by omega), List.getElem?_eq_none (by omega)]
    simp [h0]
theorem count_laws {xs ys : W} (hl : xs.length = ys.length) : count (xs.zipWith (· &&& ·) ys) + count (xs.zipWith (· ||| ·) ys) = count xs + count ys ∧ count (xs.zipWith (· ^^^ ·) ys) + count (xs.zipWith (· &&& ·) ys) = count (xs.zipWith (· ||| ·) ys) := by
  have ba : bit (xs.zipWith (· &&& ·) ys) = fun i => bit xs i && bit ys i := funext fun i => bit_zipA (h := fun a b => a && b) (fun x y j _ => by simp [BitVec.getLsbD_and]) rfl hl i
  have bo : bit (xs.zipWith (· ||| ·) ys) = fun i => bit xs i || bit ys i := funext fun i => bit_zipA (h := fun a b => a || b) (fun x y j _ => by simp [BitVec.getLsbD_or]) rfl hl i
  have bx : bit (xs.zipWith (· ^^^ ·) ys) = fun i => bit xs i ^^ bit ys i := funext fun i => bit_zipA (h := fun a b => a ^^ b) (fun x y j _ => by simp [BitVec.getLsbD_xor]) rfl hl i
  simp only [count_eq, ba, bo, bx, List.length_zipWith, ← hl, Nat.min_self]
  exact ⟨countP_sum _ _ _, countP_xor _ _ _⟩
/-! ### the k-th bit and its rank -/
theorem sel_get {a : W} {k : Nat} (h : k < count a) : ∃ p, (all a)[k]? = some p ∧ sel a k = (p : Int) := by
  refine ⟨(all a)[k]'h, List.getElem?_eq_getElem h, ?_⟩
  unfold sel
  rw [if_neg (by omega), Int.toNat_natCast, List.getElem?_eq_getElem h]
theorem sorted_filter : ∀ {l : List Nat} (_ : l.Pairwise (· < ·)) {k p : Nat}, l[k]? = some p → (l.filter fun j : Nat => decide ((j : Int) < (p : Int))).length = k
  | [], _, k, p, h => by cases h
  | x :: l, hs, 0, p, h => by
    simp only [List.getElem?_cons_zero, Option.some.injEq] at h
    subst h
    rw [filter_none]
    · rfl
    · intro j hj
      rcases List.mem_cons.1 hj with h | h
      · subst h; exact decide_eq_false (by omega)
      · have := (List.pairwise_cons.1 hs).1 j h; exact decide_eq_false (by omega)
  | x :: l, hs, k + 1, p, h => by
    simp only [List.getElem?_cons_succ] at h
    have hx : x < p := (List.pairwise_cons.1 hs).1 p (List.mem_of_getElem? h)
    rw [List.filter_cons, if_pos (decide_eq_true (by omega)), List.length_cons, sorted_filter (List.pairwise_cons.1 hs).2 h]
theorem rank_sel {a : W} {k p : Nat} (h : (all a)[k]? = some p) : rank a p = k := sorted_filter (all_sorted a) h
theorem low_sel {a : W} {p : Nat} (h : (all a)[0]? = some p) : low a = p := by
  unfold low
  cases he : all a with
  | nil => rw [he] at h; cases h
  | cons x l => rw [he] at h; simp only [List.getElem?_cons_zero, Option.some.injEq] at h; subst h; rfl
theorem high_sel {a : W} {p : Nat} (h : (all a)[count a - 1]? = some p) : high a = p := by
  unfold high
  rw [List.getLast?_eq_getElem?]
  unfold count at h
  rw [h]
/-! ### ranks by bits -/
def rk (a : W) (j : Nat) : Nat := ((List.range j).filter (bit a)).length
theorem rk_succ (a : W) (j : Nat) : rk a (j + 1) = rk a j + if bit a j then 1 else 0 := by
  unfold rk
  rw [List.range_succ, List.filter_append, List.length_append]
  cases h : bit a j <;> simp [h]
theorem rk_add {a : W} {f : Nat} : ∀ d, (∀ j, f ≤ j → j < f + d → bit a j = true) → rk a (f + d) = rk a f + d
  | 0, _ => rfl
  | d + 1, h => by rw [← Nat.add_assoc, rk_succ, rk_add d fun j h1 h2 => h j h1 (by omega), h (f + d) (by omega) (by omega)]; simp; omega
theorem rank_rk (a : W) (j : Nat) : rank a j = rk a j := by
  unfold rank rk all
  rw [List.filter_filter]
  by_cases h : j ≤ 64 * a.length
  · obtain ⟨d, hd⟩ : ∃ d, 64 * a.length = j + d := ⟨64 * a.length - j, by omega⟩
    rw [hd, List.range_add, List.filter_append, List.length_append]
    rw [filter_none (l := (List.range d).map (j + ·)) (fun x hx => by obtain ⟨y, _, rfl⟩ := List.mem_map.1 hx; rw [decide_eq_false (by omega), Bool.false_and])]
    rw [List.length_nil, Nat.add_zero]
    congr 1
    apply List.filter_congr
    intro x hx
    have hx : x < j := by simpa using hx
    rw [decide_eq_true (by omega), Bool.true_and]
  · obtain ⟨d, hd⟩ : ∃ d, j = 64 * a.length + d := ⟨j - 64 * a.length, by omega⟩
    subst hd
    rw [List.range_add, List.filter_append, List.length_append]
    rw [filter_none (p := bit a) (l := (List.range d).map (64 * a.length + ·)) (fun x hx => by obtain ⟨y, _, rfl⟩ := List.mem_map.1 hx; exact bit_out (by omega))]
    rw [List.length_nil, Nat.add_zero]
    congr 1
    apply List.filter_congr
    intro x hx
    have hx : x < 64 * a.length := by simpa using hx
    rw [decide_eq_true (by omega), Bool.true_and]
theorem rk_all (a : W) : rk a (64 * a.length) = count a := rfl
/-- Runs that rise with gaps, each of ones alone. -/
def chainR (a : W) : Int → Rs → Prop
  | _, [] => True
  | last, r :: l => (last < r.1 ∧ r.1 < r.2 ∧ (rank a r.2 : Int) - rank a r.1 = r.2 - r.1) ∧ chainR a r.2 l
def sumR : Rs → Int
  | [] => 0
  | r :: l => (r.2 - r.1) + sumR l
def lastEnd (last : Int) (o : Rs) : Int := match o.getLast? with
  | none => last
  | some q => q.2
theorem lastEnd_cons (last : Int) (q : Int × Int) (o : Rs) : lastEnd last (q :: o) = lastEnd q.2 o := by
  unfold lastEnd
  rw [List.getLast?_cons]
  cases o.getLast? <;> rfl
theorem chainR_concat (a : W) (r : Int × Int) : ∀ (o : Rs) (last : Int), chainR a last (o ++ [r]) ↔ chainR a last o ∧ (lastEnd last o < r.1 ∧ r.1 < r.2 ∧ (rank a r.2 : Int) - rank a r.1 = r.2 - r.1)
  | [], last => by simp [chainR, lastEnd]
  | q :: o, last => by
    rw [List.cons_append, chainR, chainR, chainR_concat a r o q.2, lastEnd_cons]
    exact ⟨fun ⟨h1, h2, h3⟩ => ⟨⟨h1, h2⟩, h3⟩, fun ⟨⟨h1, h2⟩, h3⟩ => ⟨h1, h2, h3⟩⟩
theorem sumR_concat (r : Int × Int) : ∀ o : Rs, sumR (o ++ [r]) = sumR o + (r.2 - r.1)
  | [] => by simp [sumR]
  | q :: o => by rw [List.cons_append, sumR, sumR, sumR_concat r o]; omega
theorem runs_chain (a : W) : ∀ i, chainR a (-1) (runsTo a i) ∧ sumR (runsTo a i) = rk a i
  | 0 => ⟨trivial, rfl⟩
  | i + 1 => by
    obtain ⟨h1, h2⟩ := runs_chain a i
    have e := rk_succ a i
    cases hb : bit a i with
    | false =>
      rw [runsTo_no hb, e, hb]
      exact ⟨h1, by simpa using h2⟩
    | true =>
      rw [hb, if_pos rfl] at e
      have hri : rank a ((i : Nat) : Int) = rk a i := rank_rk a i
      have hri1 : rank a ((i : Int) + 1) = rk a (i + 1) := rank_rk a (i + 1)
      rw [runsTo_yes hb]
      unfold stepR
      split
      · rename_i r hr
        have hlast := runsTo_last hr
        split
        · rename_i he
          obtain ⟨o, ho⟩ := List.getLast?_eq_some_iff.1 hr
          rw [ho] at h1 h2 ⊢
          rw [List.dropLast_concat]
          rw [chainR_concat] at h1 ⊢
          rw [sumR_concat] at h2 ⊢
          obtain ⟨h3, h4, h5, h6⟩ := h1
          rw [he, hri] at h6
          refine ⟨⟨h3, h4, by simp only; omega, ?_⟩, by simp only; omega⟩
          simp only
          rw [hri1, e]
          omega
        · rename_i hne
          rw [chainR_concat, sumR_concat]
          refine ⟨⟨h1, by unfold lastEnd; rw [hr]; simp only; omega, by simp only; omega, ?_⟩, by simp only; omega⟩
          simp only
          rw [hri1, hri, e]
          omega
      · rename_i hr
        rw [chainR_concat, sumR_concat]
        refine ⟨⟨h1, by unfold lastEnd; rw [hr]; simp only; omega, by simp only; omega, ?_⟩, by simp only; omega⟩
        simp only
        rw [hri1, hri, e]
        omega
end Go.Bt
