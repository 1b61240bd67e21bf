/- Part of a proof of laws of the seat YtabmjhhjbifagaaDoor: functions' weakest preconditions, each checked by the kernel, and contracts out of them; no conditions. -/
import Derived.Test.YtabmjhhjbifagaaDoorM2
import Derived.Test.YtabmjhhjbifagaaDoorBS
set_option linter.unusedVariables false
set_option linter.unusedSimpArgs false
namespace Go.E
open Go Go.RowKit
theorem or64 (a b : BitVec 64) : bitsI .or .u64 a.toNat b.toNat = (a ||| b).toNat := by
  show IntKind.u64.wrap (((BitVec.ofInt 64 (a.toNat : Int)) ||| (BitVec.ofInt 64 (b.toNat : Int))).toNat : Int) = _
  rw [ofInt_toNat, ofInt_toNat]
  exact u64_wrap_toNat _
theorem and64 (a b : BitVec 64) : bitsI .and .u64 a.toNat b.toNat = (a &&& b).toNat := by
  show IntKind.u64.wrap (((BitVec.ofInt 64 (a.toNat : Int)) &&& (BitVec.ofInt 64 (b.toNat : Int))).toNat : Int) = _
  rw [ofInt_toNat, ofInt_toNat]
  exact u64_wrap_toNat _
theorem xor64 (a b : BitVec 64) : bitsI .xor .u64 a.toNat b.toNat = (a ^^^ b).toNat := by
  show IntKind.u64.wrap (((BitVec.ofInt 64 (a.toNat : Int)) ^^^ (BitVec.ofInt 64 (b.toNat : Int))).toNat : Int) = _
  rw [ofInt_toNat, ofInt_toNat]
  exact u64_wrap_toNat _
theorem andNot64 (a b : BitVec 64) : bitsI .andNot .u64 a.toNat b.toNat = (a &&& ~~~b).toNat := by
  show IntKind.u64.wrap (((BitVec.ofInt 64 (a.toNat : Int)) &&& ~~~(BitVec.ofInt 64 (b.toNat : Int))).toNat : Int) = _
  rw [ofInt_toNat, ofInt_toNat]
  exact u64_wrap_toNat _
theorem shr64 (a : BitVec 64) (s : Nat) : Int.fdiv (a.toNat : Int) (2 ^ (min s 64)) = ((a >>> s).toNat : Int) := by
  have e : (2 : Int) ^ (min s 64) = ((2 ^ (min s 64) : Nat) : Int) := by simp
  rw [e, Int.fdiv_eq_ediv_of_nonneg _ (Int.natCast_nonneg _), ← Int.natCast_ediv, BitVec.toNat_ushiftRight, Nat.shiftRight_eq_div_pow]
  congr 1
  by_cases h : s ≤ 64
  · rw [Nat.min_eq_left h]
  · rw [Nat.min_eq_right (by omega), Nat.div_eq_of_lt a.isLt, Nat.div_eq_of_lt (Nat.lt_of_lt_of_le a.isLt (Nat.pow_le_pow_right (by omega) (by omega)))]
theorem shl64 (a : BitVec 64) (s : Nat) : IntKind.u64.wrap ((a.toNat : Int) * 2 ^ (min s 64)) = ((a <<< s).toNat : Int) := by
  have e : (2 : Int) ^ (min s 64) = ((2 ^ (min s 64) : Nat) : Int) := by simp
  rw [e, IntKind.wrap_u64, BitVec.toNat_shiftLeft, Nat.shiftLeft_eq]
  have e2 : (18446744073709551616 : Int) = ((2 ^ 64 : Nat) : Int) := by decide
  rw [e2, ← Int.natCast_mul, ← Int.natCast_emod]
  congr 1
  by_cases h : s ≤ 64
  · rw [Nat.min_eq_left h]
  · rw [Nat.min_eq_right (by omega), Nat.mul_mod_left]
    obtain ⟨d, rfl⟩ : ∃ d, s = 64 + d := ⟨s - 64, by omega⟩
    rw [Nat.pow_add, Nat.mul_comm (2 ^ 64), ← Nat.mul_assoc, Nat.mul_mod_left]
theorem shl1 {s : Nat} : IntKind.u64.wrap (1 * 2 ^ (min s 64)) = ((BitVec.twoPow 64 s).toNat : Int) := by
  have := shl64 1#64 s
  rw [show ((1#64).toNat : Int) = 1 from rfl] at this
  rw [this, BitVec.twoPow_eq]
/-- 'out[i/64] = out[i/64] | 1<<(i%64)': the parts. -/
theorem ones_shr (s : Nat) : Int.fdiv 18446744073709551615 (2 ^ (min s 64)) = ((BitVec.allOnes 64 >>> s).toNat : Int) := by
  have := shr64 (BitVec.allOnes 64) s
  rwa [show ((BitVec.allOnes 64).toNat : Int) = 18446744073709551615 from by decide] at this
/-- Bit j of a word, as Go asks for it. -/
theorem bit_ask (a : BitVec 64) (j : Nat) : (bitsI .and .u64 ((a >>> j).toNat) 1 == 1) = a.getLsbD j := by
  have h := and64 (a >>> j) 1#64
  rw [show ((1#64).toNat : Int) = 1 from rfl] at h
  rw [h]
  have e : (a >>> j) &&& 1#64 = if (a >>> j).getLsbD 0 then 1#64 else 0#64 := by
    apply BitVec.eq_of_getLsbD_eq
    intro i hi
    rw [BitVec.getLsbD_and, BitVec.getLsbD_one]
    by_cases h0 : i = 0
    · subst h0; cases (a >>> j).getLsbD 0 <;> simp
    · cases (a >>> j).getLsbD 0 <;> simp [h0, BitVec.getLsbD_one]
  rw [e, BitVec.getLsbD_ushiftRight, Nat.add_zero]
  cases a.getLsbD j <;> decide
end Go.E
