/- Part of a proof of laws of the seat YtabmjhhjbifagaaDoor: functions' weakest preconditions, each checked by the kernel, and contracts out of them; no conditions. -/
import Derived.Test.YtabmjhhjbifagaaDoorB2
import Derived.Test.YtabmjhhjbifagaaDoorBM3
import Derived.WalkKit
import Derived.Laws.Bits64b
import Derived.Lib.TrailingZeros
set_option linter.unusedVariables false
set_option linter.unusedSimpArgs false
namespace Go.Mir
open Go Go.E Go.RowKit Go.Bt

/-! ### TrailingZeros64 -/
/-- The table of math/bits lies in its variable. -/
def Tab (w : World) : Prop := ∀ j, j < 64 → w.cell? ⟨0, j, none⟩ = some (.int .u8 (Lib.deBruijn64tab.getD j 0 : Nat))
theorem Tab.kept {w u : World} (h : Tab w) (hk : Kept w u) : Tab u := fun j hj => bkeep hk (h j hj)
theorem Tab.lt {w : World} (h : Tab w) : 0 < w.heap.size := block_lt_of_cell (h 0 (by omega))
theorem Tab.mod {w u : World} {S : Nat → Prop} (h : Tab w) (hm : Mod S w u) (hn : ¬ S 0) : Tab u := fun j hj => hm.cell (a := ⟨0, j, none⟩) hn (h j hj)
set_option maxHeartbeats 1000000 in
theorem tz64_core (x k idx : Nat) (w : World) (hx0 : ((x : Int) == 0) = false)
    (key : IntKind.u64.wrap (Go.bits BinOp.and IntKind.u64 (x : Int) (IntKind.u64.wrap (-(x : Int))) * 285870213051353865) / 288230376151711744 = (idx : Int))
    (hi : idx < 64) (hk : k < 64) (hcell : w.cell? ⟨0, idx, none⟩ = some (.int .u8 k)) :
    Calls Go.Proofs.Tryd.prog 60 #[.int .u64 x] w fun e w' => e = .returned (.int .i64 k) ∧ w' = w := by
  go_enter Go.Proofs.Tryd.func60, Go.Proofs.Tryd.ntmps60
  go_wp2_with (simp only [key])
  go_ret
  exact ⟨rfl, rfl⟩
theorem tz64_zero (w : World) : Calls Go.Proofs.Tryd.prog 60 #[.int .u64 0] w fun e w' => e = .returned (.int .i64 64) ∧ w' = w := by
  go_enter Go.Proofs.Tryd.func60, Go.Proofs.Tryd.ntmps60
  go_wp2
  go_ret
  exact ⟨rfl, rfl⟩
theorem tz64_key (x a : Nat) (hx : x < 18446744073709551616) (hx0 : x ≠ 0) (hlow : x &&& (18446744073709551616 - x) = a) :
    IntKind.u64.wrap (Go.bits BinOp.and IntKind.u64 (x : Int) (IntKind.u64.wrap (-(x : Int))) * 285870213051353865) / 288230376151711744 = ((a * 285870213051353865 % 18446744073709551616 / 288230376151711744 : Nat) : Int) := by
  have e1 : IntKind.u64.wrap (-(x : Int)) = ((18446744073709551616 - x : Nat) : Int) := by rw [IntKind.wrap_u64]; omega
  rw [e1, bits_and_u64_nat x _ hx (by omega), hlow, IntKind.wrap_u64]
  omega
theorem tz64 (x : Nat) (hx : x < 18446744073709551616) (hx0 : x ≠ 0) {w : World} (hT : Tab w) : Pure Go.Proofs.Tryd.prog 60 #[.int .u64 x] w (.int .i64 (Lib.ctz 64 x)) := by
  intro d
  obtain ⟨hlow, hk⟩ := Lib.lowest_bit 64 x hx0 hx
  obtain ⟨hi, htab⟩ := Lib.deBruijn64_at _ hk
  have hcell := hT _ hi
  rw [htab] at hcell
  refine (tz64_core x _ _ (dr w d) (by simp; omega) (tz64_key x _ hx hx0 hlow) hi hk hcell).mono fun e w' ⟨he, hw⟩ => ?_
  exact ⟨_, w, d, he, hw, rfl, Below.refl _ _⟩
/-- The lowest bit. -/
theorem ctz_low {x : Nat} (hx : x < 18446744073709551616) (hx0 : x ≠ 0) : Lib.ctz 64 x < 64 ∧ x.testBit (Lib.ctz 64 x) = true ∧ ∀ j, j < Lib.ctz 64 x → x.testBit j = false := by
  have e : Lib.ctz 64 x = Lib.ctzFrom 64 x := by simp [Lib.ctz, hx0]
  obtain ⟨m, hm, hk⟩ := Lib.ctzFrom_spec 64 x (by omega) hx
  rw [e]
  generalize Lib.ctzFrom 64 x = c at hm hk ⊢
  subst hm
  refine ⟨hk, ?_, fun j hj => ?_⟩
  · rw [Nat.mul_comm, Nat.testBit_mul_two_pow]
    simp
  · rw [Nat.mul_comm, Nat.testBit_mul_two_pow]
    simp; omega

/-! ### Len64 -/
def bl (x : Nat) : Nat := if x = 0 then 0 else x.log2 + 1
theorem bl_lt (x : Nat) : x < 2 ^ bl x := by
  unfold bl
  split
  · subst_vars; decide
  · exact Nat.lt_log2_self
theorem bl_ge {x : Nat} (h : x ≠ 0) : 2 ^ bl x ≤ 2 * x := by
  unfold bl
  rw [if_neg h, Nat.pow_succ]
  have := Nat.log2_self_le h
  omega
theorem bl_uniq {x L : Nat} (h0 : x ≠ 0) (h1 : x < 2 ^ L) (h2 : 2 ^ L ≤ 2 * x) : bl x = L := by
  have a := bl_lt x
  have b := bl_ge h0
  rcases Nat.lt_trichotomy (bl x) L with h | h | h
  · have : 2 ^ (bl x + 1) ≤ 2 ^ L := Nat.pow_le_pow_right (by omega) h
    rw [Nat.pow_succ] at this
    omega
  · exact h
  · have : 2 ^ (L + 1) ≤ 2 ^ bl x := Nat.pow_le_pow_right (by omega) h
    rw [Nat.pow_succ] at this
    omega
theorem bl_div {x k : Nat} (h : 2 ^ k ≤ x) : bl x = k + bl (x / 2 ^ k) := by
  have hp : 0 < 2 ^ k := Nat.pow_pos (by omega)
  have hq : x / 2 ^ k ≠ 0 := by have := Nat.div_le_div_right (c := 2 ^ k) h; rw [Nat.div_self hp] at this; omega
  have a := bl_lt (x / 2 ^ k)
  have b := bl_ge hq
  refine bl_uniq (by omega) ?_ ?_
  · rw [Nat.pow_add]
    have := (Nat.div_lt_iff_lt_mul hp).1 a
    rwa [Nat.mul_comm] at this
  · rw [Nat.pow_add]
    have := Nat.mul_le_mul_left (2 ^ k) b
    have h3 := Nat.mul_div_le x (2 ^ k)
    rw [← Nat.mul_assoc, Nat.mul_comm (2 ^ k) 2, Nat.mul_assoc] at this
    omega
theorem bl_le {x n : Nat} (h : x < 2 ^ n) : bl x ≤ n := by
  by_cases h0 : x = 0
  · subst h0; simp [bl]
  · have b := bl_ge h0
    apply Nat.le_of_not_lt
    intro hlt
    have : 2 ^ (n + 1) ≤ 2 ^ bl x := Nat.pow_le_pow_right (by omega) hlt
    rw [Nat.pow_succ] at this
    omega
def tabOk (t : ByteArray) : Bool := (List.range 256).all fun i => match t[i]? with
  | some c => c.toNat == bl i
  | none => false
theorem tab_step {t : ByteArray} {i : Nat} {K : UInt8 → Prop} (h : tabOk t = true) (hi : i < 256) (hk : ∀ c : UInt8, c.toNat = bl i → K c) : ∃ c : UInt8, t[i]? = some c ∧ K c := by
  unfold tabOk at h
  have := List.all_eq_true.1 h i (by simpa using hi)
  split at this
  · rename_i c hc
    exact ⟨c, hc, hk c (by simpa using this)⟩
  · cases this
set_option maxRecDepth 100000 in
theorem Len64_18 {R : Value → World → Prop} {n : Nat} {k : Nat} {w : World} (hn : n < 65536) (hk : k ≤ 64) (h : R (.int .i64 (k + bl n : Nat)) w) : bits_Len64.j18 R n k w := by
  unfold bits_Len64.j18 bits_Len64.g18
  have w8 : ∀ m : Nat, m < 256 → IntKind.u8.wrap (m : Int) = m := fun m hm => by rw [IntKind.wrap_u8]; omega
  refine onDec (fun hge => ?_) (fun hlt => ?_)
  · refine nv_mk (fdivN n 256) ?_
    refine nv_mk (y := ((k + 8 : Nat) : Int)) (i64_id (by omega) (by omega)) ?_
    refine nv_mk (w8 (n / 256) (by omega)) ?_
    refine chk_mk (by omega) (tab_step (by decide +kernel) (by omega) fun c h2 => ?_)
    rw [Int.toNat_natCast] at h2
    have hb : bl n = 8 + bl (n / 256) := bl_div (k := 8) (by omega)
    refine nv_mk (y := ((bl (n / 256) : Nat) : Int)) (by rw [h2]; exact i64_id (by omega) (by have := bl_le (x := n / 256) (n := 8) (by omega); omega)) ?_
    refine nv_mk (y := ((k + bl n : Nat) : Int)) (by rw [hb, i64_id (by omega) (by have := bl_le (x := n / 256) (n := 8) (by omega); omega)]; omega) ?_
    exact h
  · refine nv_mk (w8 n (by omega)) ?_
    refine chk_mk (by omega) (tab_step (by decide +kernel) (by omega) fun c h2 => ?_)
    rw [Int.toNat_natCast] at h2
    have := bl_le (x := n) (n := 8) (by omega)
    refine nv_mk (y := ((bl n : Nat) : Int)) (by rw [h2]; exact i64_id (by omega) (by omega)) ?_
    refine nv_mk (y := ((k + bl n : Nat) : Int)) (by rw [i64_id (by omega) (by omega)]; omega) ?_
    exact h
theorem Len64_10 {R : Value → World → Prop} {n : Nat} {k : Nat} {w : World} (hn : n < 4294967296) (hk : k ≤ 32) (h : R (.int .i64 (k + bl n : Nat)) w) : bits_Len64.j10 R n k w := by
  unfold bits_Len64.j10 bits_Len64.g10
  refine onDec (fun hge => ?_) (fun hlt => ?_)
  · refine nv_mk (fdivN n 65536) ?_
    refine nv_mk (y := ((k + 16 : Nat) : Int)) (i64_id (by omega) (by omega)) ?_
    refine Len64_18 (by omega) (by omega) ?_
    rwa [Nat.add_assoc, ← bl_div (k := 16) (by omega)]
  · exact Len64_18 (by omega) (by omega) h
theorem Len64 (n : Nat) (hn : n < 18446744073709551616) (w : World) : Pure Go.Proofs.Tryd.prog 61 #[.int .u64 n] w (.int .i64 (bl n : Nat)) := by
  refine bits_Len64.calls (R := fun v' u => v' = _ ∧ Below w.heap.size w u) ?_
  unfold bits_Len64 bits_Len64.g0
  refine onDec (fun hge => ?_) (fun hlt => ?_)
  · refine nv_mk (fdivN n 4294967296) ?_
    refine Len64_10 (k := 32) (by omega) (by omega) ?_
    exact ⟨by rw [bl_div (x := n) (k := 32) (by omega)], Below.refl _ _⟩
  · exact Len64_10 (k := 0) (by omega) (by omega) ⟨by rw [Nat.zero_add], Below.refl _ _⟩
/-- The highest bit. -/
theorem bl_high {x : Nat} (h : x ≠ 0) : x.testBit (bl x - 1) = true ∧ ∀ j, bl x ≤ j → x.testBit j = false := by
  have a := bl_lt x
  have b := bl_ge h
  have c : 0 < bl x := by unfold bl; rw [if_neg h]; omega
  obtain ⟨m, hm⟩ : ∃ m, bl x = m + 1 := ⟨bl x - 1, by omega⟩
  rw [hm] at a b ⊢
  rw [Nat.pow_succ] at a b
  refine ⟨?_, fun j hj => Nat.testBit_lt_two_pow ?_⟩
  · rw [Nat.add_sub_cancel, Nat.testBit_eq_decide_div_mod_eq]
    have hp : 0 < 2 ^ m := Nat.pow_pos (by omega)
    have : x / 2 ^ m = 1 := by
      apply Nat.le_antisymm
      · have := (Nat.div_lt_iff_lt_mul hp (x := x) (y := 2)).2 (by omega); omega
      · exact (Nat.le_div_iff_mul_le hp).2 (by omega)
    rw [this]
    decide
  · refine Nat.lt_of_lt_of_le a ?_
    rw [← Nat.pow_succ]
    exact Nat.pow_le_pow_right (by omega) hj
end Go.Mir
