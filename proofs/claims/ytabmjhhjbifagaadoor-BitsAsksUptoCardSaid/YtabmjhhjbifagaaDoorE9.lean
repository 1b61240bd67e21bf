/- Part of a proof of laws of the seat YtabmjhhjbifagaaDoor: functions' weakest preconditions, each checked by the kernel, and contracts out of them; no conditions. -/
import Derived.Test.YtabmjhhjbifagaaDoorE8
set_option linter.unusedVariables false
set_option linter.unusedSimpArgs false
namespace Go.E
open Go Go.RowKit Go.ChangeShapes

/-! ### slices of slices -/
/-- A slice of slices of cells, as it reads. -/
structure Sl2 {α : Type} (en : α → Value) (w : World) (a : Option Addr) (n : Nat) (xss : List (List α)) : Prop where
  len : n = xss.length
  get : ∀ i xs, xss[i]? = some xs → ∃ p, a = some p ∧ ∃ a' n' c', w.cell? (p.add i) = some (.slice a' n' c') ∧ Sl en w a' n' xs
theorem Sl2.keep {α : Type} {en : α → Value} {w u : World} {a : Option Addr} {n : Nat} {xss : List (List α)} (h : Sl2 en w a n xss) (hb : Below w.heap.size w u) : Sl2 en u a n xss :=
  ⟨h.len, fun i x hi => let ⟨p, ha, a', n', c', hc, hs⟩ := h.get i x hi; ⟨p, ha, a', n', c', bkeep hb hc, hs.keep hb⟩⟩
theorem Sl2.read {α : Type} {en : α → Value} {w : World} {a : Option Addr} {n : Nat} {xss : List (List α)} {K : Addr → Prop} (h : Sl2 en w a n xss) {i : Nat} (hi : i < n)
    (hk : ∀ p a' n' c', w.cell? (p.add i) = some (.slice a' n' c') → Sl en w a' n' (xss[i]'(h.len ▸ hi)) → K p) : optN a K := by
  obtain ⟨p, rfl, a', n', c', hc, hs⟩ := h.get i _ (List.getElem?_eq_getElem (h.len ▸ hi))
  exact hk p a' n' c' hc hs

/-- A slice whose elements are k cells each, as it reads. -/
structure SlK {α : Type} (k : Nat) (en : α → List Value) (w : World) (a : Option Addr) (n : Nat) (xs : List α) : Prop where
  len : n = xs.length
  get : ∀ i x, xs[i]? = some x → ∃ p, a = some p ∧ ∀ j v, (en x)[j]? = some v → w.cell? (p.add (i * k + j)) = some v
theorem SlK.keep {α : Type} {k : Nat} {en : α → List Value} {w u : World} {a : Option Addr} {n : Nat} {xs : List α} (h : SlK k en w a n xs) (hb : Below w.heap.size w u) : SlK k en u a n xs :=
  ⟨h.len, fun i x hi => let ⟨p, ha, hc⟩ := h.get i x hi; ⟨p, ha, fun j v hj => bkeep hb (hc j v hj)⟩⟩

/-- A slice of slices each of which reads as I says. -/
structure SlP {α : Type} (I : World → Option Addr → Nat → α → Prop) (w : World) (a : Option Addr) (n : Nat) (xss : List α) : Prop where
  len : n = xss.length
  get : ∀ i x, xss[i]? = some x → ∃ p, a = some p ∧ ∃ a' n' c', w.cell? (p.add i) = some (.slice a' n' c') ∧ I w a' n' x
theorem SlP.keep {α : Type} {I : World → Option Addr → Nat → α → Prop} {w u : World} {a : Option Addr} {n : Nat} {xss : List α} (hI : ∀ a' n' x, I w a' n' x → I u a' n' x) (h : SlP I w a n xss) (hb : Below w.heap.size w u) : SlP I u a n xss :=
  ⟨h.len, fun i x hi => let ⟨p, ha, a', n', c', hc, hs⟩ := h.get i x hi; ⟨p, ha, a', n', c', bkeep hb hc, hI _ _ _ hs⟩⟩
theorem SlP.read {α : Type} {I : World → Option Addr → Nat → α → Prop} {w : World} {a : Option Addr} {n : Nat} {xss : List α} {K : Addr → Prop} (h : SlP I w a n xss) {i : Nat} (hi : i < n)
    (hk : ∀ p a' n' c', w.cell? (p.add i) = some (.slice a' n' c') → I w a' n' (xss[i]'(h.len ▸ hi)) → K p) : optN a K := by
  obtain ⟨p, rfl, a', n', c', hc, hs⟩ := h.get i _ (List.getElem?_eq_getElem (h.len ▸ hi))
  exact hk p a' n' c' hc hs
theorem SlK.read {α : Type} {k : Nat} {en : α → List Value} {w : World} {a : Option Addr} {n : Nat} {xs : List α} {K : Addr → Prop} (h : SlK k en w a n xs) {i : Nat} (hi : i < n)
    (hk : ∀ p, (∀ j v, (en (xs[i]'(h.len ▸ hi)))[j]? = some v → w.cell? (p.add (i * k + j)) = some v) → K p) : optN a K := by
  obtain ⟨p, rfl, hc⟩ := h.get i _ (List.getElem?_eq_getElem (h.len ▸ hi))
  exact hk p hc

theorem flatMap_at {α : Type} {k : Nat} {en : α → List Value} : ∀ (xs : List α) (hk : ∀ x ∈ xs, (en x).length = k) (i : Nat) (x : α), xs[i]? = some x → ∀ j v, (en x)[j]? = some v → (xs.flatMap en)[i * k + j]? = some v
  | [], _, _, _, h, _, _, _ => by cases h
  | y :: ys, hk, 0, x, h, j, v, hj => by
    simp only [List.getElem?_cons_zero, Option.some.injEq] at h
    subst h
    rw [List.flatMap_cons, Nat.zero_mul, Nat.zero_add, List.getElem?_append_left (List.getElem?_eq_some_iff.1 hj).1]
    exact hj
  | y :: ys, hk, i + 1, x, h, j, v, hj => by
    simp only [List.getElem?_cons_succ] at h
    have hl := hk y (by simp)
    rw [List.flatMap_cons, List.getElem?_append_right (by rw [hl, Nat.add_mul]; omega), hl, show (i + 1) * k + j - k = i * k + j from by rw [Nat.add_mul]; omega]
    exact flatMap_at ys (fun z hz => hk z (by simp [hz])) i x h j v hj
theorem flatMap_length {α : Type} {k : Nat} {en : α → List Value} : ∀ (xs : List α) (hk : ∀ x ∈ xs, (en x).length = k), (xs.flatMap en).length = xs.length * k
  | [], _ => by simp
  | y :: ys, hk => by
    rw [List.flatMap_cons, List.length_append, hk y (by simp), flatMap_length ys (fun z hz => hk z (by simp [hz])), List.length_cons, Nat.add_mul]
    omega

/-- A new row of k cells an element, as it reads. -/
theorem own_slk {α : Type} {k : Nat} {en : α → List Value} {w : World} {base : Nat} {e : TypeId} {v : Value} {n : Nat} {xs : List α} (hk : ∀ x ∈ xs, (en x).length = k) (h0 : 0 < k) (h : w.ownsRow base e k v n (xs.flatMap en)) :
    ∃ a c, v = .slice a n c ∧ SlK k en w a n xs ∧ n ≤ c := by
  have hl : n = xs.length := by
    have := h.1
    rw [flatMap_length xs hk] at this
    exact (Nat.eq_of_mul_eq_mul_right h0 this).symm
  rcases h.2 with ⟨rfl, rfl⟩ | ⟨g, cap, cur, rfl, _, hg, h1, h2, _, _⟩
  · exact ⟨none, 0, rfl, ⟨hl, fun i x hi => by
      have : xs = [] := List.eq_nil_of_length_eq_zero hl.symm
      subst this
      simp at hi⟩, Nat.le_refl _⟩
  · exact ⟨_, cap, rfl, ⟨hl, fun i x hi => ⟨_, rfl, fun j v hj => h.cells (g := g) rfl _ v (flatMap_at xs hk i x hi j v hj)⟩⟩, h1⟩

/-- A new row whose elements are slices, each of which holds I. -/
def Nest {α : Type} (e1 : TypeId) (I : World → Value → α → Prop) (w : World) (base : Nat) (v : Value) (xss : List α) : Prop :=
  ∃ vals : List Value, w.ownsRow base e1 1 v xss.length vals ∧ ∀ (i : Nat) (x : α), xss[i]? = some x → ∃ vi, vals[i]? = some vi ∧ I w vi x
section
variable {α : Type} {e1 : TypeId} {I : World → Value → α → Prop} {w w' : World} {base : Nat} {v : Value} {xss : List α}
theorem Nest.nil (w : World) : Nest e1 I w base (.slice none 0 0) [] := ⟨[], own_nil _ _ _ _, fun i x h => by simp at h⟩
theorem Nest.to (h : Nest e1 I w base v xss) (hw : ∀ n xs, w.ownsRow base e1 1 v n xs → w'.ownsRow base e1 1 v n xs) (hI : ∀ vi x, I w vi x → I w' vi x) : Nest e1 I w' base v xss := by
  obtain ⟨vals, ho, hv⟩ := h
  exact ⟨vals, hw _ _ ho, fun i x hi => let ⟨vi, h1, h2⟩ := hv i x hi; ⟨vi, h1, hI _ _ h2⟩⟩
theorem Nest.push {P : Program} {t ty : TypeId} {bytes : Nat} {vi : Value} {x : α} (hT : SliceT P t e1 1 bytes) (h : Nest e1 I w base v xss) (hI : I w vi x) (hone : vi.oneCell' = true) (h63 : xss.length + 1 ≤ maxLen) (hbytes : (xss.length + 1) * bytes ≤ 140737488355328)
    (hbase : base ≤ w.heap.size) (hpres : ∀ w' n xs, w.ownsRow base e1 1 v n xs → w.grownBy w' v.ownBlock → ∀ v0 x0, I w v0 x0 → I w' v0 x0) {K : Value → World → Prop}
    (hk : ∀ a c w', Nest e1 I w' base (.slice a (xss.length + 1) c) (xss ++ [x]) → w.grownBy w' v.ownBlock → (∃ n xs, w.ownsRow base e1 1 v n xs) → K (.slice a (xss.length + 1) c) w') :
    rawN P (Builtin.append_ #[t, t] ty #[v, .slice (some (na w)) 1 1]) (w.alloc (.cells #[vi] e1)) K := by
  obtain ⟨vals, ho, hv⟩ := h
  have hlen : vals.length = xss.length := by simpa using ho.1
  refine append_one hT (by omega) ho (cl := #[vi]) rfl (by simpa using hone) h63 hbytes hbase fun v' w' h2 h3 => ?_
  have hform : ∃ a c, v' = .slice a (xss.length + 1) c := by
    rcases h2.2 with ⟨_, h0⟩ | ⟨g, cap, cur, rfl, _⟩
    · omega
    · exact ⟨_, _, rfl⟩
  obtain ⟨a, c, rfl⟩ := hform
  refine hk a c w' ⟨vals ++ [vi], by simpa using h2, fun i y hi => ?_⟩ h3 ⟨_, _, ho⟩
  by_cases hlt : i < xss.length
  · rw [List.getElem?_append_left hlt] at hi
    obtain ⟨u, h4, h5⟩ := hv i y hi
    exact ⟨u, by rw [List.getElem?_append_left (by omega)]; exact h4, hpres w' _ _ ho h3 u y h5⟩
  · rw [List.getElem?_append_right (by omega)] at hi
    have hi0 : i - xss.length = 0 := by
      rcases Nat.eq_zero_or_pos (i - xss.length) with h | h
      · exact h
      · rw [List.getElem?_eq_none (by simp; omega)] at hi; cases hi
    rw [hi0] at hi
    simp only [List.getElem?_cons_zero, Option.some.injEq] at hi
    subst hi
    exact ⟨vi, by rw [List.getElem?_append_right (by omega), hlen, hi0]; rfl, hpres w' _ _ ho h3 vi x hI⟩
/-- How it reads. -/
theorem Nest.reads (h : Nest e1 I w base v xss) : ∃ a c, v = .slice a xss.length c ∧ ∀ i x, xss[i]? = some x → ∃ p, a = some p ∧ ∃ vi, w.cell? (p.add i) = some vi ∧ I w vi x := by
  obtain ⟨vals, ho, hv⟩ := h
  obtain ⟨a, c, rfl, hs, _, _⟩ := own_sl (en := fun x : Value => x) (xs := vals) (by simpa using ho)
  refine ⟨a, c, rfl, fun i x hi => ?_⟩
  obtain ⟨vi, h1, h2⟩ := hv i x hi
  obtain ⟨p, hp, hc⟩ := hs.get i vi h1
  exact ⟨p, hp, vi, hc, h2⟩
end

/-- A row of its own, of one-cell elements. -/
def Own1 {α : Type} (e : TypeId) (en : α → Value) (base : Nat) (w : World) (v : Value) (xs : List α) : Prop := w.ownsRow base e 1 v xs.length (xs.map en)
def OwnK {α : Type} (e : TypeId) (k : Nat) (en : α → List Value) (base : Nat) (w : World) (v : Value) (xs : List α) : Prop := w.ownsRow base e k v xs.length (xs.flatMap en)
theorem Nest.sl2 {α : Type} {e1 e : TypeId} {en : α → Value} {w : World} {base : Nat} {v : Value} {xss : List (List α)} (h : Nest e1 (Own1 e en base) w base v xss) : ∃ a c, v = .slice a xss.length c ∧ Sl2 en w a xss.length xss := by
  obtain ⟨a, c, hv, hr⟩ := h.reads
  refine ⟨a, c, hv, rfl, fun i xs hi => ?_⟩
  obtain ⟨p, hp, vi, hc, hI⟩ := hr i xs hi
  obtain ⟨a', c', rfl, hs, _⟩ := own_sl hI
  exact ⟨p, hp, a', _, c', hc, hs⟩
theorem Nest.slp {α : Type} {e1 e k : Nat} {en : α → List Value} {w : World} {base : Nat} {v : Value} {xss : List (List α)} (hk : ∀ x, (en x).length = k) (h0 : 0 < k) (h : Nest e1 (OwnK e k en base) w base v xss) : ∃ a c, v = .slice a xss.length c ∧ SlP (SlK k en) w a xss.length xss := by
  obtain ⟨a, c, hv, hr⟩ := h.reads
  refine ⟨a, c, hv, rfl, fun i xs hi => ?_⟩
  obtain ⟨p, hp, vi, hc, hI⟩ := hr i xs hi
  obtain ⟨a', c', rfl, hs, _⟩ := own_slk (fun x _ => hk x) h0 hI
  exact ⟨p, hp, a', _, c', hc, hs⟩

theorem cells_at {w : World} {base : Nat} {a : Addr} {n : Nat} {cs : List Value} (h : w.cells? base a n = some cs) (j : Nat) (v : Value) (hj : cs[j]? = some v) : w.cell? (a.add j) = some v := by
  obtain ⟨_, hl, hc⟩ := World.cells?_some h
  rw [hc j (by have := (List.getElem?_eq_some_iff.1 hj).1; omega)]
  exact hj
/-! ### arguments: slices of slices, slices of aggregates -/
section
variable {H : Type} {enc : TypeId × Value → H} {P : Program} {w : World} {t e : TypeId} {cs : List Value} {x : DataW H × List MemPlace}
theorem tr_slp {α : Type} {I : World → Option Addr → Nat → α → Prop} {G : α → Nat → Prop} {B : DataW H → Nat} (hB : Meas B) (ht : P.underlying t = some (.slice e)) (hc : P.cellsOf e = 1)
    (he : ∀ cs y, TR enc P w e cs y → ∃ a n c z, cs = [.slice a n c] ∧ I w a n z ∧ G z (B y.1)) (h : TR enc P w t cs x) :
    ∃ a n c xss, cs = [.slice a n c] ∧ SlP I w a n xss ∧ n ≤ c ∧ n ≤ B x.1 ∧ ∀ z ∈ xss, ∃ b, G z b ∧ b ≤ B x.1 := by
  obtain ⟨a, n, c, rfl, h1, _, h3, h4, h5⟩ := tr_slice hB ht h
  cases a with
  | none =>
    obtain ⟨rfl, rfl⟩ := h4 rfl
    exact ⟨none, 0, 0, [], rfl, ⟨rfl, fun i v hi => by simp at hi⟩, h1, h3, fun v hv => by cases hv⟩
  | some p =>
    have each : ∀ i : Fin n, ∃ z, (∃ a' n' c', w.cell? (p.add i) = some (.slice a' n' c') ∧ I w a' n' z) ∧ ∃ b, G z b ∧ b ≤ B x.1 := by
      intro i
      obtain ⟨cs', y, hc1, hy, hb⟩ := h5 p rfl i i.isLt
      obtain ⟨a', n', c', z, rfl, hI, hG⟩ := he cs' y hy
      rw [hc, Nat.mul_one] at hc1
      exact ⟨z, ⟨a', n', c', by simpa using cell_of_cells?_one hc1, hI⟩, _, hG, hb⟩
    obtain ⟨f, hf⟩ := Classical.axiomOfChoice each
    refine ⟨some p, n, c, List.ofFn f, rfl, ⟨by simp, fun i v hi => ⟨p, rfl, ?_⟩⟩, h1, h3, fun v hv => ?_⟩
    · obtain ⟨hlt, rfl⟩ := List.getElem?_eq_some_iff.1 hi
      simp only [List.length_ofFn] at hlt
      simpa using (hf ⟨i, hlt⟩).1
    · obtain ⟨i, rfl⟩ := List.mem_ofFn.1 hv
      exact (hf i).2
theorem tr_slk {α : Type} {k : Nat} {en : α → List Value} {B : DataW H → Nat} (hB : Meas B) (ht : P.underlying t = some (.slice e)) (hc : P.cellsOf e = k)
    (he : ∀ cs y, TR enc P w e cs y → ∃ z, cs = en z) (h : TR enc P w t cs x) :
    ∃ a n c xs, cs = [.slice a n c] ∧ SlK k en w a n xs ∧ n ≤ c ∧ n ≤ B x.1 := by
  obtain ⟨a, n, c, rfl, h1, _, h3, h4, h5⟩ := tr_slice hB ht h
  cases a with
  | none =>
    obtain ⟨rfl, rfl⟩ := h4 rfl
    exact ⟨none, 0, 0, [], rfl, ⟨rfl, fun i v hi => by simp at hi⟩, h1, h3⟩
  | some p =>
    have each : ∀ i : Fin n, ∃ z, ∀ j v, (en z)[j]? = some v → w.cell? (p.add (i * k + j)) = some v := by
      intro i
      obtain ⟨cs', y, hc1, hy, hb⟩ := h5 p rfl i i.isLt
      obtain ⟨z, rfl⟩ := he cs' y hy
      rw [hc] at hc1
      refine ⟨z, fun j v hj => ?_⟩
      rw [← add_add]
      exact cells_at hc1 j v hj
    obtain ⟨f, hf⟩ := Classical.axiomOfChoice each
    refine ⟨some p, n, c, List.ofFn f, rfl, ⟨by simp, fun i v hi => ⟨p, rfl, ?_⟩⟩, h1, h3⟩
    obtain ⟨hlt, rfl⟩ := List.getElem?_eq_some_iff.1 hi
    simp only [List.length_ofFn] at hlt
    simpa using hf ⟨i, hlt⟩
end
end Go.E
