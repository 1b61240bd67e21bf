/- Part of a proof of laws of the seat YtabmjhhjbifagaaDoor: functions' weakest preconditions, each checked by the kernel, and contracts out of them; no conditions. -/
import Derived.Test.YtabmjhhjbifagaaDoorM1
set_option linter.unusedVariables false
set_option linter.unusedSimpArgs false
namespace Go.E
open Go Go.RowKit Go.ChangeShapes

section
variable {α β : Type} {en : α → Value} {w u : World} {a : Option Addr} {n c g e : Nat} {xs : List α} {F S : Nat → Prop}
/-- A row of one's own, of one-cell elements. -/
def Arr (en : α → Value) (e : Nat) (w : World) (a : Option Addr) (n c : Nat) (xs : List α) (g : Nat) : Prop := Row w e 1 a n c (xs.map en) g
theorem Arr.len (h : Arr en e w a n c xs g) : n = xs.length := by have := h.1; simp at this; omega
theorem Arr.sl (h : Arr en e w a n c xs g) : Sl en w a n xs := by
  refine ⟨h.len, fun i x hi => ?_⟩
  obtain ⟨b, rfl, rfl, hc⟩ := Row.cell (i := i) h (v := en x) (by simp [hi])
  exact ⟨_, rfl, by rw [addr_add, Nat.zero_add]; exact hc⟩
theorem Arr.ls {h1 : ∀ x, (en x).oneCell' = true} (h : Arr en e w a n c xs g) : Ls (Ty.flat en h1) (fun b => b + 1 = g) w a n c xs := by
  refine ⟨h.len, h.cap, fun i x hi => ?_⟩
  obtain ⟨b, rfl, rfl, hc⟩ := Row.cell (i := i) h (v := en x) (by simp [hi])
  refine ⟨_, _, rfl, rfl, rfl, fun j y hj => ?_⟩
  cases j with
  | zero => cases hj; rw [addr_add]; simpa [Ty.flat] using hc
  | succ j => cases hj
theorem Arr.mod (h : Arr en e w a n c xs g) (hm : Mod S w u) (hn : ∀ k, k + 1 = g → ¬ S k) : Arr en e u a n c xs g := Row.mod h hm hn
theorem Arr.kept (h : Arr en e w a n c xs g) (hm : Kept w u) : Arr en e u a n c xs g := Row.kept h hm
theorem Arr.nil (en : α → Value) (e : Nat) (w : World) : Arr en e w none 0 0 [] 0 := Row.nil w e 1
theorem Arr.le (h : Arr en e w a n c xs g) : g ≤ w.heap.size := Row.le h
theorem Arr.capLe (h : Arr en e w a n c xs g) : n ≤ c := Row.cap h
theorem Ls.sl {h1 : ∀ x, (en x).oneCell' = true} (h : Ls (Ty.flat en h1) F w a n c xs) : Sl en w a n xs :=
  ⟨h.len, fun i x hi => by
    obtain ⟨p, cs, h1, _, h3, h4⟩ := h.get i x hi
    obtain rfl : cs = [en x] := h3
    exact ⟨p, h1, by simpa [Ty.flat] using h4 0 _ rfl⟩⟩

/-! ### reading -/
theorem Sl.rd (h : Sl en w a n xs) {f : β → Value} {sel : α → β} (hf : ∀ x, en x = f (sel x)) {i : Int} {K : β → Prop} (h0 : 0 ≤ i) (hi : i < n) (hk : ∀ x, xs[i.toNat]? = some x → K (sel x)) :
    optN a fun q => chk (0 ≤ i ∧ i < (n : Int)) (∃ y : β, w.cell? (q.add (i.toNat * 1)) = some (f y) ∧ K y) := by
  have hi' : i.toNat < n := by omega
  refine h.read hi' fun p hp => chk_mk ⟨h0, hi⟩ ⟨sel (xs[i.toNat]'(h.len ▸ hi')), ?_, hk _ (List.getElem?_eq_getElem _)⟩
  rw [← hf, Nat.mul_one]; exact hp
theorem Sl.rdW {en : BitVec 64 → Value} {xs : List (BitVec 64)} (h : Sl en w a n xs) (hf : ∀ x, en x = enW x) {i : Int} {K : Int → Prop} (h0 : 0 ≤ i) (hi : i < n) (hk : ∀ x : BitVec 64, xs[i.toNat]? = some x → K (x.toNat : Int)) :
    optN a fun q => chk (0 ≤ i ∧ i < (n : Int)) (∃ y : Int, w.cell? (q.add (i.toNat * 1)) = some (.int .u64 y) ∧ K y) := h.rd (f := fun y => .int .u64 y) (sel := fun x => (x.toNat : Int)) hf h0 hi hk
theorem Sl.rdI {k : IntKind} {xs : List Int} (h : Sl (fun x => .int k x) w a n xs) {i : Int} {K : Int → Prop} (h0 : 0 ≤ i) (hi : i < n) (hk : ∀ x : Int, xs[i.toNat]? = some x → K x) :
    optN a fun q => chk (0 ≤ i ∧ i < (n : Int)) (∃ y : Int, w.cell? (q.add (i.toNat * 1)) = some (.int k y) ∧ K y) := h.rd (sel := fun x => x) (fun _ => rfl) h0 hi hk

/-! ### writing -/
theorem Arr.wr (h : Arr en e w a n c xs g) {i : Int} {K : World → Prop} (h0 : 0 ≤ i) (hi : i < n) {v : Value} {x : α} (hv : v = en x) (hk : ∀ u, Arr en e u a n c (xs.set i.toNat x) g → Only g w u → K u) :
    optN a fun q => chk (0 ≤ i ∧ i < (n : Int)) (okSt w ((q.add (i.toNat * 1)).add 0) ∧ nw (w.setCell ((q.add (i.toNat * 1)).add 0) v) K) := by
  obtain ⟨b, rfl, rfl, hok, hr, ho⟩ := Row.set h (i := i.toNat) (by omega) v
  refine chk_mk ⟨h0, hi⟩ ?_
  simp only [addr_add, Nat.mul_one, Nat.zero_add, Nat.add_zero]
  refine ⟨hok, hk _ ?_ ho⟩
  subst hv
  unfold Arr
  rw [List.map_set]
  exact hr

/-! ### making -/
theorem madeCells_one (v : Value) (n : Nat) : madeCells #[v] n = (List.replicate n v).toArray := by
  apply Array.ext
  · simp [madeCells]
  · intro i h1 h2
    simp [madeCells, Nat.mod_one]
theorem Arr.make {K : World → Prop} {v : Value} {x : α} (hv : v = en x) {l : Int} {by_ : Nat} (h0 : 0 ≤ l) (hb : (by_ : Int) * l ≤ 281474976710656) (hm : l ≤ 9223372036854775807)
    (hk : ∀ u, Arr en e u (some (na w)) l.toNat l.toNat (List.replicate l.toNat x) (w.heap.size + 1) → Kept w u → K u) :
    chk ((0 : Int) ≤ l ∧ l ≤ l ∧ (by_ : Int) * l ≤ 281474976710656 ∧ l ≤ 9223372036854775807) (nw (w.alloc (.cells (madeCells #[v] (l.toNat * 1)) e)) K) := by
  refine chk_mk ⟨h0, Int.le_refl _, hb, hm⟩ (hk _ ?_ (Kept.new w _))
  refine ⟨by simp, .inr ⟨w.heap.size, _, rfl, rfl, Blk.new w _ e, Nat.le_refl _, by simp only [maxLen]; omega, by simp [size_madeCells], ?_⟩⟩
  subst hv
  rw [Nat.mul_one, madeCells_one, List.map_replicate]
  simp

/-! ### append -/
theorem Arr.push {P : Program} {t ty by_ : Nat} (hT : SliceT P t e 1 by_) (h : Arr en e w a n c xs g) {v : Value} {x : α} (hv : v = en x) (h1 : (en x).oneCell' = true) (h63 : n + 1 ≤ maxLen) (hb : (n + 1) * by_ ≤ 140737488355328) {K : Value → World → Prop}
    (hk : ∀ a' c' g' u, Arr en e u a' (n + 1) c' (xs ++ [x]) g' → (g' = g ∨ w.heap.size < g') → g' ≠ 0 → Only g w u → K (.slice a' (n + 1) c') u) :
    nw (w.alloc (.cells #[v] e)) fun w' => rawN P (Builtin.append_ #[t, t] ty #[.slice a n c, .slice (some (na w)) 1 1]) w' K := by
  subst hv
  have hn := Kept.new w (.cells #[en x] e)
  refine rawN_row hT (by omega) (Row.kept h hn) (news := [en x]) (by simp) (fun j u hj => ⟨_, rfl, by rw [cell_new]; simpa using hj⟩) (fun h => by cases h) (by simpa using h1) h63 hb fun a' c' g' u hr hg ho => ?_
  refine hk a' c' g' u (by unfold Arr; simpa using hr) (by rcases hg with h | h <;> simp_all; omega) ?_ ?_
  · rcases hr.2 with ⟨_, _, h0, _⟩ | ⟨b, _, rfl, _⟩ <;> omega
  · exact (Kept.mod (S := fun k => k + 1 = g) hn).trans ho (fun _ _ h => h) (fun _ _ h => h)
theorem Arr.pushes {P : Program} {t ty by_ : Nat} (hT : SliceT P t e 1 by_) (h : Arr en e w a n c xs g) (h1 : ∀ x, (en x).oneCell' = true) {s : Option Addr} {m d : Nat} {ys : List α} (hs : Sl en w s m ys) (h63 : n + m ≤ maxLen) (hb : (n + m) * by_ ≤ 140737488355328) {K : Value → World → Prop}
    (hk : ∀ a' c' g' u, Arr en e u a' (n + m) c' (xs ++ ys) g' → (g' = g ∨ w.heap.size < g') → Only g w u → K (.slice a' (n + m) c') u) :
    rawN P (Builtin.append_ #[t, t] ty #[.slice a n c, .slice s m d]) w K := by
  refine rawN_row hT (by omega) h (news := ys.map en) (by simp [hs.len]) (fun j u hj => ?_) (fun h0 => ?_) (by simpa using fun x _ => h1 x) h63 hb fun a' c' g' u hr hg ho => ?_
  · obtain ⟨y, hy, rfl⟩ := Option.map_eq_some_iff.1 (by simpa using hj)
    exact hs.get j y hy
  · rcases Nat.eq_zero_or_pos m with hm | hm
    · exact hm
    · obtain ⟨q, hq, _⟩ := hs.at (i := 0) hm
      rw [h0] at hq; cases hq
  · exact hk a' c' g' u (by unfold Arr; simpa using hr) (by omega) ho
end
end Go.E
