/- Slices as they read, and the order of floating numbers; no conditions. -/
import Derived.Test.YtabmjhhjbifagaaDoorE5
set_option linter.unusedVariables false
set_option linter.unusedSimpArgs false
namespace Go.E
open Go Go.RowKit

/-- A slice whose elements are one cell each, as it reads. -/
structure Sl {α : Type} (enc : α → Value) (w : World) (a : Option Addr) (n : Nat) (xs : List α) : Prop where
  len : n = xs.length
  get : ∀ i x, xs[i]? = some x → ∃ p, a = some p ∧ w.cell? (p.add i) = some (enc x)

section
variable {α : Type} {enc : α → Value} {w u : World} {a : Option Addr} {n : Nat} {xs : List α}
theorem Sl.keep (h : Sl enc w a n xs) (hb : Below w.heap.size w u) : Sl enc u a n xs :=
  ⟨h.len, fun i x hi => let ⟨p, ha, hc⟩ := h.get i x hi; ⟨p, ha, bkeep hb hc⟩⟩
theorem Sl.at (h : Sl enc w a n xs) {i : Nat} (hi : i < n) : ∃ p, a = some p ∧ w.cell? (p.add i) = some (enc (xs[i]'(h.len ▸ hi))) :=
  h.get i _ (List.getElem?_eq_getElem _)
/-- The next element is read (a bound that the evaluator asks, an index as the evaluator types it). -/
theorem Sl.read {K : Addr → Prop} (h : Sl enc w a n xs) {i : Nat} (hi : i < n) (hk : ∀ p, w.cell? (p.add i) = some (enc (xs[i]'(h.len ▸ hi))) → K p) : optN a K := by
  obtain ⟨p, rfl, hc⟩ := h.at hi
  exact hk p hc
end

/-! ### numbers' order -/
theorem order_swap (x y : Ieee.Datum) : y.order x = (x.order y).map Ordering.swap := by
  cases x with
  | nan s f => cases y <;> rfl
  | infinity s => cases y with
    | nan t f => rfl
    | infinity t => simp only [Ieee.Datum.order, Option.map_some]; rw [Std.OrientedCmp.eq_swap (cmp := compare)]
    | number t m j => cases s <;> rfl
  | number s m i => cases y with
    | nan t f => rfl
    | infinity t => cases t <;> rfl
    | number t n j =>
      simp only [Ieee.Datum.order, Option.map_some]
      rw [Std.OrientedCmp.eq_swap (cmp := compare), Int.min_comm]

theorem feq_comm (a b : Nat) : (FloatKind.f64.format.order a b == some .eq) = (FloatKind.f64.format.order b a == some .eq) := by
  unfold Ieee.Format.order
  rw [order_swap]
  cases (Ieee.Datum.order (FloatKind.f64.format.read b) (FloatKind.f64.format.read a)) with
  | none => rfl
  | some o => cases o <;> rfl
theorem fgt_flt (a b : Nat) : (FloatKind.f64.format.order a b == some .gt) = (FloatKind.f64.format.order b a == some .lt) := by
  unfold Ieee.Format.order
  rw [order_swap]
  cases (Ieee.Datum.order (FloatKind.f64.format.read b) (FloatKind.f64.format.read a)) with
  | none => rfl
  | some o => cases o <;> rfl
end Go.E
