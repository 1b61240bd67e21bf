/- Part of a proof of laws of the seat YtabmjhhjbifagaaDoor: plain lemmas; no conditions. -/
set_option linter.unusedVariables false
set_option linter.unusedSimpArgs false
/-! How many bits are in a word: the sum by halves, plain numbers. -/
namespace Go.Bt
/-- How many of the k lowest bits are in. -/
def popN : Nat → Nat → Nat
  | 0, _ => 0
  | k + 1, x => x % 2 + popN k (x / 2)
def mk (m b : Nat) : Nat → Nat
  | 0 => 0
  | k + 1 => m + b * mk m b k
theorem and_split (x m n : Nat) (hm : m < 16) : x &&& (m + 16 * n) = (x % 16 &&& m) + 16 * (x / 16 &&& n) := by
  have h : (x % 16 &&& m) < 2 ^ 4 := Nat.and_lt_two_pow _ (by omega)
  apply Nat.eq_of_testBit_eq
  intro i
  have e1 : (x % 16 &&& m) + 16 * (x / 16 &&& n) = 2 ^ 4 * (x / 16 &&& n) + (x % 16 &&& m) := by omega
  have e2 : m + 16 * n = 2 ^ 4 * n + m := by omega
  rw [e1, e2, Nat.testBit_and, Nat.testBit_two_pow_mul_add _ h, Nat.testBit_two_pow_mul_add _ (by omega : m < 2 ^ 4)]
  by_cases hi : i < 4
  · rw [if_pos hi, if_pos hi, Nat.testBit_and]
    congr 1
    rw [show 16 = 2 ^ 4 from rfl, Nat.testBit_mod_two_pow]
    simp [hi]
  · rw [if_neg hi, if_neg hi, Nat.testBit_and]
    congr 1
    rw [show 16 = 2 ^ 4 from rfl, Nat.testBit_div_two_pow]
    congr 1
    omega
def q1 (d : Nat) : Nat := (d / 2 &&& 5) + (d &&& 5)
def q2 (d : Nat) : Nat := (d / 4 &&& 3) + (d &&& 3)
def S1 (k x : Nat) : Nat := (x / 2 &&& mk 5 16 k) + (x &&& mk 5 16 k)
def S2 (k x : Nat) : Nat := (x / 4 &&& mk 3 16 k) + (x &&& mk 3 16 k)
theorem q1_lt : ∀ d, d < 16 → q1 d < 16 := by decide
theorem s1_dig : ∀ d, d < 32 → (d / 2) % 16 &&& 5 = (d % 16) / 2 &&& 5 := by decide
theorem s2_dig : ∀ d, d < 64 → (d / 4) % 16 &&& 3 = (d % 16) / 4 &&& 3 := by decide
theorem S1_step (k x : Nat) : S1 (k + 1) x = q1 (x % 16) + 16 * S1 k (x / 16) := by
  unfold S1 q1
  rw [mk, and_split _ 5 _ (by omega), and_split _ 5 _ (by omega)]
  have h := s1_dig (x % 32) (by omega)
  rw [show x % 32 / 2 % 16 = x / 2 % 16 from by omega, show x % 32 % 16 = x % 16 from by omega] at h
  rw [h, show x / 2 / 16 = x / 16 / 2 from by omega]
  omega
theorem S2_step (k x : Nat) : S2 (k + 1) x = q2 (x % 16) + 16 * S2 k (x / 16) := by
  unfold S2 q2
  rw [mk, and_split _ 3 _ (by omega), and_split _ 3 _ (by omega)]
  have h := s2_dig (x % 64) (by omega)
  rw [show x % 64 / 4 % 16 = x / 4 % 16 from by omega, show x % 64 % 16 = x % 16 from by omega] at h
  rw [h, show x / 4 / 16 = x / 16 / 4 from by omega]
  omega
def p4 (d : Nat) : Nat := q2 (q1 d)
theorem p4_le : ∀ d, d < 16 → p4 d ≤ 4 := by decide
theorem p4_pop : ∀ d, d < 16 → p4 d = popN 4 d := by decide
def P4 : Nat → Nat → Nat
  | 0, _ => 0
  | k + 1, x => p4 (x % 16) + 16 * P4 k (x / 16)
theorem S12 : ∀ k x, S2 k (S1 k x) = P4 k x
  | 0, x => by simp [S2, mk, P4]
  | k + 1, x => by
    have h := q1_lt (x % 16) (by omega)
    rw [S2_step, S1_step, P4, show (q1 (x % 16) + 16 * S1 k (x / 16)) % 16 = q1 (x % 16) from by omega, show (q1 (x % 16) + 16 * S1 k (x / 16)) / 16 = S1 k (x / 16) from by omega, S12 k]
    rfl
theorem popN_split (k x : Nat) : popN (4 + k) x = p4 (x % 16) + popN k (x / 16) := by
  rw [p4_pop _ (by omega), Nat.add_comm 4 k]
  simp only [popN]
  rw [show x / 2 / 2 / 2 / 2 = x / 16 from by omega]
  omega
/-- Each byte's sum of its halves. -/
def E3 : Nat → Nat → Nat
  | 0, _ => 0
  | k + 1, x => x % 16 + 256 * E3 k (x / 256)
theorem and_E3 : ∀ k x, x &&& mk 15 256 k = E3 k x
  | 0, x => by simp [mk, E3]
  | k + 1, x => by
    rw [mk, show 15 + 256 * mk 15 256 k = 15 + 16 * (0 + 16 * mk 15 256 k) from by omega, and_split _ 15 _ (by omega), and_split _ 0 _ (by omega), Nat.and_zero, Nat.zero_add,
      show x / 16 / 16 = x / 256 from by omega, and_E3 k, E3]
    have : x % 16 &&& 15 = x % 16 := by
      have : ∀ d, d < 16 → d &&& 15 = d := by decide
      exact this _ (by omega)
    omega
theorem P16 (x : Nat) (n0 n1 n2 n3 n4 n5 n6 n7 n8 n9 n10 n11 n12 n13 n14 n15 : Nat)
    (h : P4 16 x = n0 + 16 * (n1 + 16 * (n2 + 16 * (n3 + 16 * (n4 + 16 * (n5 + 16 * (n6 + 16 * (n7 + 16 * (n8 + 16 * (n9 + 16 * (n10 + 16 * (n11 + 16 * (n12 + 16 * (n13 + 16 * (n14 + 16 * (n15 + 16 * 0))))))))))))))))
    (l0 : n0 ≤ 4) (l1 : n1 ≤ 4) (l2 : n2 ≤ 4) (l3 : n3 ≤ 4) (l4 : n4 ≤ 4) (l5 : n5 ≤ 4) (l6 : n6 ≤ 4) (l7 : n7 ≤ 4) (l8 : n8 ≤ 4) (l9 : n9 ≤ 4) (l10 : n10 ≤ 4) (l11 : n11 ≤ 4) (l12 : n12 ≤ 4) (l13 : n13 ≤ 4) (l14 : n14 ≤ 4) (l15 : n15 ≤ 4) :
    E3 8 (P4 16 x / 16 + P4 16 x) = (n0 + n1) + 256 * ((n2 + n3) + 256 * ((n4 + n5) + 256 * ((n6 + n7) + 256 * ((n8 + n9) + 256 * ((n10 + n11) + 256 * ((n12 + n13) + 256 * (n14 + n15))))))) := by
  rw [h]
  clear h
  have step : ∀ a b r : Nat, a ≤ 4 → b ≤ 4 → ∀ k, E3 (k + 1) ((a + 16 * (b + 16 * r)) / 16 + (a + 16 * (b + 16 * r))) = (a + b) + 256 * E3 k (((b + 16 * r) + (a + 16 * (b + 16 * r))) / 256) := by
    intro a b r ha hb k
    rw [E3, show (a + 16 * (b + 16 * r)) / 16 = b + 16 * r from by omega]
    congr 1
    omega
  have step2 : ∀ a b r : Nat, a ≤ 4 → b ≤ 4 → ∃ c, r % 16 ≤ 4 → ((b + 16 * r) + (a + 16 * (b + 16 * r))) / 256 = r / 16 + r := fun a b r ha hb => ⟨0, fun h => by omega⟩
  have st : ∀ a b r : Nat, a ≤ 4 → b ≤ 4 → r % 16 ≤ 4 → ∀ k, E3 (k + 1) ((a + 16 * (b + 16 * r)) / 16 + (a + 16 * (b + 16 * r))) = (a + b) + 256 * E3 k (r / 16 + r) := by
    intro a b r ha hb hr k
    rw [step a b r ha hb k]
    obtain ⟨_, h⟩ := step2 a b r ha hb
    rw [h hr]
  rw [st _ _ _ l0 l1 (by omega), st _ _ _ l2 l3 (by omega), st _ _ _ l4 l5 (by omega), st _ _ _ l6 l7 (by omega), st _ _ _ l8 l9 (by omega), st _ _ _ l10 l11 (by omega), st _ _ _ l12 l13 (by omega), st _ _ _ l14 l15 (by omega), E3, Nat.mul_zero, Nat.add_zero]
/-- The last three steps. -/
def fin3 (y : Nat) : Nat :=
  let a := (y + y / 256) % 18446744073709551616
  let b := (a + a / 65536) % 18446744073709551616
  let c := (b + b / 4294967296) % 18446744073709551616
  c % 128
theorem div_lo {a lo B R : Nat} (h : a = lo + B * R) (hl : lo < B) : a / B = R := by
  subst h
  rw [Nat.add_mul_div_left _ _ (by omega), Nat.div_eq_of_lt hl, Nat.zero_add]
theorem fin3_a {a r s0 s1 : Nat} (ha : a = (s0 + 256 * s1) + 65536 * r) (h0 : s0 ≤ 64) (h1 : s1 ≤ 64) (hr : r < 17592186044416) : a % 18446744073709551616 = a ∧ a / 65536 = r := by
  refine ⟨Nat.mod_eq_of_lt (by omega), div_lo ha (by omega)⟩
theorem fin3_b {b s p0 p1 p2 p3 : Nat} (hb : b = (p0 + 256 * p1 + 65536 * p2 + 16777216 * p3) + 4294967296 * s) (h0 : p0 ≤ 64) (h1 : p1 ≤ 64) (h2 : p2 ≤ 64) (h3 : p3 ≤ 64) (hs : s < 268435456) : b % 18446744073709551616 = b ∧ b / 4294967296 = s ∧ b + s < 18446744073709551616 := by
  refine ⟨Nat.mod_eq_of_lt (by omega), div_lo hb (by omega), by omega⟩
theorem fin3_c {b s p0 p1 p2 p3 q0 q1 : Nat} (hb : b = (p0 + 256 * p1 + 65536 * p2 + 16777216 * p3) + 4294967296 * s) (hs : s = q0 + 256 * q1) (h : p0 + q0 < 128) : (b + s) % 128 = p0 + q0 := by
  rw [show b + s = (p0 + q0) + 128 * (2 * p1 + 512 * p2 + 131072 * p3 + 33554432 * s + 2 * q1) from by omega, Nat.add_mul_mod_self_left, Nat.mod_eq_of_lt h]
theorem fin3_1 (c0 c1 c2 c3 c4 c5 c6 c7 : Nat) (h0 : c0 ≤ 8) : (c0 + 256 * (c1 + 256 * (c2 + 256 * (c3 + 256 * (c4 + 256 * (c5 + 256 * (c6 + 256 * c7))))))) / 256 = c1 + 256 * (c2 + 256 * (c3 + 256 * (c4 + 256 * (c5 + 256 * (c6 + 256 * c7))))) := div_lo rfl (by omega)
theorem fin3_2 (c0 c1 c2 c3 c4 c5 c6 c7 : Nat) : c0 + 256 * (c1 + 256 * (c2 + 256 * (c3 + 256 * (c4 + 256 * (c5 + 256 * (c6 + 256 * c7)))))) + (c1 + 256 * (c2 + 256 * (c3 + 256 * (c4 + 256 * (c5 + 256 * (c6 + 256 * c7)))))) =
  ((c0 + c1) + 256 * (c1 + c2)) + 65536 * ((c2 + c3) + 256 * ((c3 + c4) + 256 * ((c4 + c5) + 256 * ((c5 + c6) + 256 * ((c6 + c7) + 256 * c7))))) := by omega
theorem fin3_3 (c2 c3 c4 c5 c6 c7 : Nat) (h2 : c2 ≤ 8) (h3 : c3 ≤ 8) (h4 : c4 ≤ 8) (h5 : c5 ≤ 8) (h6 : c6 ≤ 8) (h7 : c7 ≤ 8) : (c2 + c3) + 256 * ((c3 + c4) + 256 * ((c4 + c5) + 256 * ((c5 + c6) + 256 * ((c6 + c7) + 256 * c7)))) < 17592186044416 := by omega
theorem fin3_4 (c4 c5 c6 c7 : Nat) (h4 : c4 ≤ 8) (h5 : c5 ≤ 8) (h6 : c6 ≤ 8) (h7 : c7 ≤ 8) : (c4 + c5 + c6 + c7) + 256 * ((c5 + c6 + c7) + 256 * ((c6 + c7) + 256 * c7)) < 268435456 := by omega
theorem fin3_5 (c0 c1 c2 c3 c4 c5 c6 c7 : Nat) : ((c0 + c1) + 256 * (c1 + c2)) + 65536 * ((c2 + c3) + 256 * ((c3 + c4) + 256 * ((c4 + c5) + 256 * ((c5 + c6) + 256 * ((c6 + c7) + 256 * c7))))) + ((c2 + c3) + 256 * ((c3 + c4) + 256 * ((c4 + c5) + 256 * ((c5 + c6) + 256 * ((c6 + c7) + 256 * c7))))) =
  ((c0 + c1 + c2 + c3) + 256 * (c1 + c2 + c3 + c4) + 65536 * (c2 + c3 + c4 + c5) + 16777216 * (c3 + c4 + c5 + c6)) + 4294967296 * ((c4 + c5 + c6 + c7) + 256 * ((c5 + c6 + c7) + 256 * ((c6 + c7) + 256 * c7))) := by omega
def fin3' (y d : Nat) : Prop := ∀ a r b s, y / 256 = d → a = y + d → a % 18446744073709551616 = a → a / 65536 = r → b = a + r → b % 18446744073709551616 = b → b / 4294967296 = s → b + s < 18446744073709551616 → fin3 y = (b + s) % 128
theorem fin3_of (y d : Nat) : fin3' y d := by
  intro a r b s h1 h2 h3 h4 h5 h6 h7 h8
  unfold fin3
  simp only
  rw [h1, ← h2, h3, h4, ← h5, h6, h7, Nat.mod_eq_of_lt h8]
theorem fin3_sum (c0 c1 c2 c3 c4 c5 c6 c7 : Nat) (h0 : c0 ≤ 8) (h1 : c1 ≤ 8) (h2 : c2 ≤ 8) (h3 : c3 ≤ 8) (h4 : c4 ≤ 8) (h5 : c5 ≤ 8) (h6 : c6 ≤ 8) (h7 : c7 ≤ 8) :
    fin3 (c0 + 256 * (c1 + 256 * (c2 + 256 * (c3 + 256 * (c4 + 256 * (c5 + 256 * (c6 + 256 * c7))))))) = (c0 + c1 + c2 + c3) + (c4 + c5 + c6 + c7) := by
  obtain ⟨f1, f2⟩ := fin3_a (fin3_2 c0 c1 c2 c3 c4 c5 c6 c7) (by clear h2 h3 h4 h5 h6 h7; omega) (by clear h0 h3 h4 h5 h6 h7; omega) (fin3_3 c2 c3 c4 c5 c6 c7 h2 h3 h4 h5 h6 h7)
  have hb := fin3_5 c0 c1 c2 c3 c4 c5 c6 c7
  rw [← fin3_2] at hb
  obtain ⟨g1, g2, g3⟩ := fin3_b hb (by clear f1 f2 hb; omega) (by clear f1 f2 hb; omega) (by clear f1 f2 hb; omega) (by clear f1 f2 hb; omega) (fin3_4 c4 c5 c6 c7 h4 h5 h6 h7)
  rw [fin3_of _ _ _ _ _ _ (fin3_1 c0 c1 c2 c3 c4 c5 c6 c7 h0) rfl f1 f2 rfl g1 g2 g3]
  exact fin3_c hb rfl (by clear f1 f2 hb g1 g2 g3; omega)
theorem pop_swar (x : Nat) : fin3 (E3 8 (P4 16 x / 16 + P4 16 x)) = popN 64 x := by
  have l : ∀ y : Nat, p4 (y % 16) ≤ 4 := fun y => p4_le _ (by omega)
  rw [P16 x (p4 (x % 16)) (p4 (x / 16 % 16)) (p4 (x / 16 / 16 % 16)) (p4 (x / 16 / 16 / 16 % 16)) (p4 (x / 16 / 16 / 16 / 16 % 16)) (p4 (x / 16 / 16 / 16 / 16 / 16 % 16)) (p4 (x / 16 / 16 / 16 / 16 / 16 / 16 % 16)) (p4 (x / 16 / 16 / 16 / 16 / 16 / 16 / 16 % 16)) (p4 (x / 16 / 16 / 16 / 16 / 16 / 16 / 16 / 16 % 16)) (p4 (x / 16 / 16 / 16 / 16 / 16 / 16 / 16 / 16 / 16 % 16)) (p4 (x / 16 / 16 / 16 / 16 / 16 / 16 / 16 / 16 / 16 / 16 % 16)) (p4 (x / 16 / 16 / 16 / 16 / 16 / 16 / 16 / 16 / 16 / 16 / 16 % 16)) (p4 (x / 16 / 16 / 16 / 16 / 16 / 16 / 16 / 16 / 16 / 16 / 16 / 16 % 16)) (p4 (x / 16 / 16 / 16 / 16 / 16 / 16 / 16 / 16 / 16 / 16 / 16 / 16 / 16 % 16)) (p4 (x / 16 / 16 / 16 / 16 / 16 / 16 / 16 / 16 / 16 / 16 / 16 / 16 / 16 / 16 % 16)) (p4 (x / 16 / 16 / 16 / 16 / 16 / 16 / 16 / 16 / 16 / 16 / 16 / 16 / 16 / 16 / 16 % 16)) (by simp only [P4]) (l _) (l _) (l _) (l _) (l _) (l _) (l _) (l _) (l _) (l _) (l _) (l _) (l _) (l _) (l _) (l _)]
  rw [fin3_sum _ _ _ _ _ _ _ _ (by have := l x; have := l (x / 16); omega) (by have := l (x / 16 / 16); have := l (x / 16 / 16 / 16); omega) (by have := l (x / 16 / 16 / 16 / 16); have := l (x / 16 / 16 / 16 / 16 / 16); omega)
    (by have := l (x / 16 / 16 / 16 / 16 / 16 / 16); have := l (x / 16 / 16 / 16 / 16 / 16 / 16 / 16); omega) (by have := l (x / 16 / 16 / 16 / 16 / 16 / 16 / 16 / 16); have := l (x / 16 / 16 / 16 / 16 / 16 / 16 / 16 / 16 / 16); omega)
    (by have := l (x / 16 / 16 / 16 / 16 / 16 / 16 / 16 / 16 / 16 / 16); have := l (x / 16 / 16 / 16 / 16 / 16 / 16 / 16 / 16 / 16 / 16 / 16); omega)
    (by have := l (x / 16 / 16 / 16 / 16 / 16 / 16 / 16 / 16 / 16 / 16 / 16 / 16); have := l (x / 16 / 16 / 16 / 16 / 16 / 16 / 16 / 16 / 16 / 16 / 16 / 16 / 16); omega)
    (by have := l (x / 16 / 16 / 16 / 16 / 16 / 16 / 16 / 16 / 16 / 16 / 16 / 16 / 16 / 16); have := l (x / 16 / 16 / 16 / 16 / 16 / 16 / 16 / 16 / 16 / 16 / 16 / 16 / 16 / 16 / 16); omega)]
  rw [show 64 = 4 + (4 + (4 + (4 + (4 + (4 + (4 + (4 + (4 + (4 + (4 + (4 + (4 + (4 + (4 + (4 + 0))))))))))))))) from rfl]
  rw [popN_split, popN_split, popN_split, popN_split, popN_split, popN_split, popN_split, popN_split, popN_split, popN_split, popN_split, popN_split, popN_split, popN_split, popN_split, popN_split]
  simp only [popN]
  omega
end Go.Bt
