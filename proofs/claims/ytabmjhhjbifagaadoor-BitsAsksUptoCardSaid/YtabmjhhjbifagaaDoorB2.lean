/- Part of a proof of laws of the seat YtabmjhhjbifagaaDoor: functions' weakest preconditions, each checked by the kernel, and contracts out of them; no conditions. -/
import Derived.Test.YtabmjhhjbifagaaDoorB1
import Derived.Test.YtabmjhhjbifagaaDoorBM2
import Derived.Test.YtabmjhhjbifagaaDoorBS2
set_option linter.unusedVariables false
set_option linter.unusedSimpArgs false
namespace Go.Mir
open Go Go.E Go.RowKit Go.Bt

/-! ### OnesCount64 -/
theorem andN {a b : Nat} (ha : a < 18446744073709551616) (hb : b < 18446744073709551616) : bitsI .and .u64 (a : Int) (b : Int) = ((a &&& b : Nat) : Int) := by
  have := and64 (BitVec.ofNat 64 a) (BitVec.ofNat 64 b)
  rw [BitVec.toNat_ofNat, BitVec.toNat_ofNat, Nat.mod_eq_of_lt (by omega), Nat.mod_eq_of_lt (by omega), BitVec.toNat_and, BitVec.toNat_ofNat, BitVec.toNat_ofNat, Nat.mod_eq_of_lt (by omega), Nat.mod_eq_of_lt (by omega)] at this
  exact this
theorem fdivN (a b : Nat) : Int.fdiv (a : Int) (b : Int) = ((a / b : Nat) : Int) := by
  rw [Int.fdiv_eq_ediv_of_nonneg _ (Int.natCast_nonneg _), ← Int.natCast_ediv]
theorem and127 {n : Nat} : bitsI .and .i64 (IntKind.i64.wrap (n : Int)) 127 = ((n % 128 : Nat) : Int) := by
  show IntKind.i64.wrap (((BitVec.ofInt 64 (IntKind.i64.wrap (n : Int))) &&& (BitVec.ofInt 64 127)).toNat : Int) = _
  have e1 : BitVec.ofInt 64 (IntKind.i64.wrap (n : Int)) = BitVec.ofNat 64 n := by
    apply BitVec.eq_of_toNat_eq
    rw [BitVec.toNat_ofInt, BitVec.toNat_ofNat, IntKind.wrap_i64]
    omega
  rw [e1, BitVec.toNat_and, BitVec.toNat_ofNat, show (BitVec.ofInt 64 127).toNat = 2 ^ 7 - 1 from rfl, Nat.and_two_pow_sub_one_eq_mod, i64_id (by omega) (by omega)]
  congr 1
  omega
theorem S1_lt : ∀ k x, S1 k x < 16 ^ k
  | 0, x => by simp [S1, mk]
  | k + 1, x => by
    rw [S1_step, Nat.pow_succ]
    have := q1_lt (x % 16) (by omega)
    have := S1_lt k (x / 16)
    omega
theorem P4_le : ∀ k x, P4 k x * 15 + 4 ≤ 4 * 16 ^ k
  | 0, x => by simp [P4]
  | k + 1, x => by
    rw [P4, Nat.pow_succ]
    have := p4_le (x % 16) (by omega)
    have := P4_le k (x / 16)
    omega
theorem E3_lt : ∀ k x, E3 k x < 256 ^ k
  | 0, x => by simp [E3]
  | k + 1, x => by
    rw [E3, Nat.pow_succ]
    have := E3_lt k (x / 256)
    omega
theorem OnesCount64_n (x : Nat) (hx : x < 18446744073709551616) (w : World) : Pure Go.Proofs.Tryd.prog 55 #[.int .u64 x] w (.int .i64 (popN 64 x : Nat)) := by
  refine bits_OnesCount64.calls (R := fun v' u => v' = _ ∧ Below w.heap.size w u) ?_
  unfold bits_OnesCount64 bits_OnesCount64.g0
  have m1 : mk 5 16 16 = 6148914691236517205 := by decide
  have m2 : mk 3 16 16 = 3689348814741910323 := by decide
  have m3 : mk 15 256 8 = 1085102592571150095 := by decide
  have b1 := S1_lt 16 x
  have b2 := P4_le 16 x
  rw [show (16 : Nat) ^ 16 = 18446744073709551616 from by decide] at b1 b2
  have b3 := E3_lt 8 (P4 16 x / 16 + P4 16 x)
  rw [show (256 : Nat) ^ 8 = 18446744073709551616 from by decide] at b3
  have hS1 : S1 16 x = (x / 2 &&& 6148914691236517205) + (x &&& 6148914691236517205) := by unfold S1; rw [m1]
  have hS2 : P4 16 x = (S1 16 x / 4 &&& 3689348814741910323) + (S1 16 x &&& 3689348814741910323) := by rw [← S12]; unfold S2; rw [m2]
  have hE3 := and_E3 8 (P4 16 x / 16 + P4 16 x)
  rw [m3] at hE3
  refine nv_mk (fdivN x 2) ?_
  refine nv_mk (andN (a := x / 2) (b := 6148914691236517205) (by omega) (by decide)) ?_
  refine nv_mk (andN (a := x) (b := 6148914691236517205) (by omega) (by decide)) ?_
  refine nv_mk (y := ((S1 16 x : Nat) : Int)) (by rw [hS1, u64_id (by omega) (by omega)]; rfl) ?_
  refine nv_mk (fdivN (S1 16 x) 4) ?_
  refine nv_mk (andN (a := S1 16 x / 4) (b := 3689348814741910323) (by omega) (by decide)) ?_
  refine nv_mk (andN (a := S1 16 x) (b := 3689348814741910323) (by omega) (by decide)) ?_
  refine nv_mk (y := ((P4 16 x : Nat) : Int)) (by rw [hS2, u64_id (by omega) (by omega)]; rfl) ?_
  clear hS1 hS2 m1 m2 m3
  refine nv_mk (fdivN (P4 16 x) 16) ?_
  refine nv_mk (y := ((P4 16 x / 16 + P4 16 x : Nat) : Int)) (by rw [u64_id (by omega) (by omega)]; rfl) ?_
  refine nv_mk (y := ((E3 8 (P4 16 x / 16 + P4 16 x) : Nat) : Int)) (by rw [← hE3]; exact andN (b := 1085102592571150095) (by omega) (by decide)) ?_
  have hsw := pop_swar x
  unfold fin3 at hsw
  simp only at hsw
  generalize E3 8 (P4 16 x / 16 + P4 16 x) = y at hsw b3 ⊢
  have wn : ∀ n : Nat, IntKind.u64.wrap (n : Int) = ((n % 18446744073709551616 : Nat) : Int) := fun n => by rw [IntKind.wrap_u64]; omega
  refine nv_mk (fdivN y 256) ?_
  refine nv_mk (wn (y + y / 256)) ?_
  generalize (y + y / 256) % 18446744073709551616 = a at hsw ⊢
  refine nv_mk (fdivN a 65536) ?_
  refine nv_mk (wn (a + a / 65536)) ?_
  generalize (a + a / 65536) % 18446744073709551616 = b at hsw ⊢
  refine nv_mk (fdivN b 4294967296) ?_
  refine nv_mk (wn (b + b / 4294967296)) ?_
  refine nv_mk rfl ?_
  refine nv_mk and127 ?_
  exact ⟨by rw [hsw], Below.refl _ _⟩
end Go.Mir
