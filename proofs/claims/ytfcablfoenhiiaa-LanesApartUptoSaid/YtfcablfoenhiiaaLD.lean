/- Part of a proof of laws of the seat Ytfcablfoenhiiaa: functions' weakest preconditions, each checked by the kernel, and contracts out of them; no conditions. -/
import Derived.Test.YtfcablfoenhiiaaLC
set_option linter.unusedVariables false
set_option linter.unusedSimpArgs false
namespace Go.Mir
open Go Go.E Go.RowKit

/-! ### numbers' order, once more -/
theorem cmp_gt (a b : Int) : (compare a b = .gt) ↔ b < a := by
  unfold compare instOrdInt compareOfLessAndEq
  simp only
  split
  · simp; omega
  · split
    · simp; omega
    · simp; omega
theorem cmp_eq (a b : Int) : (compare a b = .eq) ↔ a = b := by
  unfold compare instOrdInt compareOfLessAndEq
  simp only
  split
  · simp; omega
  · split
    · simp; omega
    · simp; omega
theorem signed_up (s : Bool) (m k c : Nat) : Ieee.signed s m (k + c) = Ieee.signed s m k * 2 ^ c := by
  unfold Ieee.signed
  have : ((m <<< (k + c) : Nat) : Int) = ((m <<< k : Nat) : Int) * 2 ^ c := by
    rw [Nat.shiftLeft_eq, Nat.shiftLeft_eq, Nat.pow_add]
    push_cast
    rw [Int.mul_assoc]
  cases s
  · simpa using this
  · simp only [if_true, this, Int.neg_mul]
/-- Two numbers, at whatever place below both. -/
theorem order_at (s t : Bool) (m n : Nat) (i j b : Int) (hi : b ≤ i) (hj : b ≤ j) :
    (Ieee.Datum.order (.number s m i) (.number t n j) = some .gt) ↔ Ieee.signed t n (j - b).toNat < Ieee.signed s m (i - b).toNat := by
  simp only [Ieee.Datum.order, Option.some.injEq, cmp_gt]
  obtain ⟨c, hc⟩ : ∃ c : Nat, (min i j - b).toNat = c := ⟨_, rfl⟩
  rw [show (i - b).toNat = (i - min i j).toNat + c by omega, show (j - b).toNat = (j - min i j).toNat + c by omega, signed_up, signed_up]
  have hp : (0 : Int) < 2 ^ c := Int.pow_pos (by decide)
  constructor
  · intro h; exact Int.mul_lt_mul_of_pos_right h hp
  · intro h; exact Int.lt_of_mul_lt_mul_right h (Int.le_of_lt hp)

theorem order_gt_trans (x h l : Ieee.Datum) (hl : l.order l ≠ none) (h1 : l.order h ≠ some .gt) (h2 : x.order h = some .gt) : x.order l = some .gt := by
  cases x with
  | nan s f => simp [Ieee.Datum.order] at h2
  | infinity s =>
    cases l with
    | nan t f => simp [Ieee.Datum.order] at hl
    | infinity t =>
      cases h with
      | nan t f => simp [Ieee.Datum.order] at h2
      | infinity u => revert h1 h2; cases s <;> cases t <;> cases u <;> decide
      | number u n j => revert h1 h2; cases s <;> cases t <;> simp [Ieee.Datum.order] <;> decide
    | number t n j =>
      cases h with
      | nan t f => simp [Ieee.Datum.order] at h2
      | infinity u => revert h1 h2; cases s <;> cases u <;> simp [Ieee.Datum.order] <;> decide
      | number u n j => revert h1 h2; cases s <;> simp [Ieee.Datum.order]
  | number s m i =>
    cases l with
    | nan t f => simp [Ieee.Datum.order] at hl
    | infinity t =>
      cases h with
      | nan t f => simp [Ieee.Datum.order] at h2
      | infinity u => revert h1 h2; cases t <;> cases u <;> simp [Ieee.Datum.order] <;> decide
      | number u n j => revert h1 h2; cases t <;> simp [Ieee.Datum.order]
    | number t n j =>
      cases h with
      | nan t f => simp [Ieee.Datum.order] at h2
      | infinity u => revert h1 h2; cases u <;> simp [Ieee.Datum.order]
      | number u q k =>
        obtain ⟨b, hb⟩ : ∃ b : Int, b = min i (min j k) := ⟨_, rfl⟩
        rw [order_at _ _ _ _ _ _ b (by omega) (by omega)] at h2 ⊢
        rw [Ne, order_at _ _ _ _ _ _ b (by omega) (by omega)] at h1
        omega

theorem nan_none (a : Nat) : nan a = true ↔ (FloatKind.f64.format.order a a = none) := by
  unfold nan Ieee.Format.order
  cases hx : FloatKind.f64.format.read a with
  | nan s f => simp [Ieee.Datum.order]
  | infinity s => cases s <;> simp [Ieee.Datum.order]
  | number s m i => simp [Ieee.Datum.order]
theorem feq_nan {a b : Nat} (h : feq a b = true) : nan a = false := by
  cases hn : nan a with
  | false => rfl
  | true =>
    rw [nan_none] at hn
    unfold Ieee.Format.order at hn
    unfold feq Ieee.Format.order at h
    cases hx : FloatKind.f64.format.read a with
    | nan s f => rw [hx] at h; simp [Ieee.Datum.order] at h
    | infinity s => rw [hx] at hn; simp [Ieee.Datum.order] at hn
    | number s m i => rw [hx] at hn; simp [Ieee.Datum.order] at hn
theorem fgt_trans {x h l : Nat} (hl : nan l = false) (h1 : fgt l h = false) (h2 : fgt x h = true) : fgt x l = true := by
  unfold fgt at *
  simp only [beq_iff_eq] at h2 ⊢
  refine order_gt_trans _ _ _ (fun hn => ?_) (fun hg => ?_) h2
  · have := (nan_none l).2 hn
    rw [hl] at this; cases this
  · have : (FloatKind.f64.format.order l h == some Ordering.gt) = true := by
      rw [show FloatKind.f64.format.order l h = some Ordering.gt from hg]
      rfl
    rw [h1] at this; cases this
theorem isCat_nan {cs : List Int} {v : Nat} (h : isCat cs v = true) : nan v = false := by
  unfold isCat at h
  obtain ⟨c, _, hc⟩ := List.any_eq_true.1 h
  exact feq_nan hc
end Go.Mir
