/- Part of a proof of laws of the seat YtabmjhhjbifagaaDoor: functions' weakest preconditions, each checked by the kernel, and contracts out of them; no conditions. -/
import Derived.Test.YtabmjhhjbifagaaDoorM5
set_option linter.unusedVariables false
set_option linter.unusedSimpArgs false
namespace Go.E
open Go Go.RowKit Go.ChangeShapes
section
variable {α : Type} {en : α → Value} {w : World} {a : Option Addr} {n c g e : Nat} {xs : List α}
/-- A write at the end of a region in whatever order. -/
theorem Arr.wrD (h : Arr en e w a n c xs g) {i : Int} {K : World → Prop} {Fact : World → Prop} (h0 : 0 ≤ i) (hi : i < n) {v : Value} {x : α} (hv : v = en x) (hk : ∀ u u', Kept w u → Fact u → Arr en e u' a n c (xs.set i.toNat x) g → Only g u u' → K u') :
    optN a fun q => chk (0 ≤ i ∧ i < (n : Int)) (∀ u : World, Below w.heap.size w u → Fact u → okSt u ((q.add (i.toNat * 1)).add 0) ∧ nw (u.setCell ((q.add (i.toNat * 1)).add 0) v) K) := by
  obtain ⟨b, rfl, rfl, _⟩ := Row.set h (i := i.toNat) (by omega) v
  refine chk_mk ⟨h0, hi⟩ fun u hu hF => ?_
  have := Arr.wr (h.kept hu) (K := K) h0 hi hv (fun u' h1 h2 => hk u u' hu hF h1 h2)
  exact (chk_iff.1 this).2
/-- What is known of a new slice of one element. -/
def PF (v : Value) : Nat → Value → World → Prop := fun _ x u => ∃ q, x = .slice (some q) 1 1 ∧ u.cell? q = some v
theorem PF.keep {v : Value} (i : Nat) (x : Value) (u u' : World) (h : PF v i x u) (hk : Below u.heap.size u u') : PF v i x u' := by
  obtain ⟨q, h1, h2⟩ := h
  exact ⟨q, h1, bkeep hk h2⟩
/-- An append of one element at the end of a region in whatever order. -/
theorem Arr.pushD {P : Program} {t ty by_ j : Nat} (hT : SliceT P t e 1 by_) (h : Arr en e w a n c xs g) {v : Value} {x : α} (hv : v = en x) (h1 : (en x).oneCell' = true) (h63 : n + 1 ≤ maxLen) (hb : (n + 1) * by_ ≤ 140737488355328) {K : Value → World → Prop}
    (hk : ∀ a' c' g' u u', Kept w u → Arr en e u' a' (n + 1) c' (xs ++ [x]) g' → (g' = g ∨ w.heap.size < g') → g' ≠ 0 → Only g u u' → K (.slice a' (n + 1) c') u') :
    (∀ u : World, Below w.heap.size w u → PF v j (.slice (some (na u)) 1 1) (u.alloc (.cells #[v] e))) ∧
      (∀ q : Addr, (∃ u, Below w.heap.size w u ∧ PF v j (.slice (some q) 1 1) u) → ∀ u : World, Below w.heap.size w u → PF v j (.slice (some q) 1 1) u → rawN P (Builtin.append_ #[t, t] ty #[.slice a n c, .slice (some q) 1 1]) u K) := by
  subst hv
  refine ⟨fun u hu => ⟨_, rfl, by rw [cell_new0]; rfl⟩, fun q _ u hu hF => ?_⟩
  obtain ⟨q', hq, hc⟩ := hF
  simp only [Value.slice.injEq, Option.some.injEq] at hq
  obtain ⟨rfl, _⟩ := hq
  refine rawN_row hT (by omega) (Row.kept h hu) (news := [en x]) (by simp) (fun j u hj => ?_) (fun h => by cases h) (by simpa using h1) h63 hb fun a' c' g' u' hr hg ho => ?_
  · cases j with
    | zero => cases hj; exact ⟨_, rfl, by simpa [add_zero] using hc⟩
    | succ j => cases hj
  · refine hk a' c' g' u u' hu (by unfold Arr; simpa using hr) (by have := hu.size; omega) ?_ ho
    rcases hr.2 with ⟨_, _, h0, _⟩ | ⟨b, _, rfl, _⟩ <;> omega
end
end Go.E
