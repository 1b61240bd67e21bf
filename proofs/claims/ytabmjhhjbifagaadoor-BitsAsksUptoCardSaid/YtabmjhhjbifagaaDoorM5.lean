/- Part of a proof of laws of the seat YtabmjhhjbifagaaDoor: functions' weakest preconditions, each checked by the kernel, and contracts out of them; no conditions. -/
import Derived.Test.YtabmjhhjbifagaaDoorM4
set_option linter.unusedVariables false
set_option linter.unusedSimpArgs false
namespace Go.E
open Go Go.RowKit Go.ChangeShapes
section
variable {α : Type} {k : Nat} {en : α → List Value} {w u : World} {a : Option Addr} {n c g e : Nat} {xs : List α} {F S : Nat → Prop}
/-- A row of one's own, of k cells an element. -/
def ArrK (k : Nat) (en : α → List Value) (e : Nat) (w : World) (a : Option Addr) (n c : Nat) (xs : List α) (g : Nat) : Prop := Row w e k a n c (xs.flatMap en) g
theorem ArrK.len (hl : ∀ x, (en x).length = k) (hk : 0 < k) (h : ArrK k en e w a n c xs g) : n = xs.length := by
  have h1 := h.1
  rw [flatMap_length xs (fun x _ => hl x)] at h1
  exact (Nat.eq_of_mul_eq_mul_right hk h1).symm
theorem ArrK.slk (hl : ∀ x, (en x).length = k) (hk : 0 < k) (h : ArrK k en e w a n c xs g) : SlK k en w a n xs := by
  refine ⟨h.len hl hk, fun i x hi => ?_⟩
  have hf : ∀ j v, (en x)[j]? = some v → (xs.flatMap en)[i * k + j]? = some v := fun j v hj => flatMap_at xs (fun x _ => hl x) i x hi j v hj
  have h0 : ∃ v, (en x)[0]? = some v := ⟨(en x)[0]'(by rw [hl]; omega), List.getElem?_eq_getElem _⟩
  obtain ⟨v0, h0⟩ := h0
  obtain ⟨b, rfl, rfl, _⟩ := Row.cell h (hf 0 v0 h0)
  refine ⟨_, rfl, fun j v hj => ?_⟩
  obtain ⟨b', hb', _, hc⟩ := Row.cell h (hf j v hj)
  obtain rfl : b' = b := by omega
  rw [addr_add, Nat.zero_add]
  exact hc
theorem ArrK.mod (h : ArrK k en e w a n c xs g) (hm : Mod S w u) (hn : ∀ k, k + 1 = g → ¬ S k) : ArrK k en e u a n c xs g := Row.mod h hm hn
theorem ArrK.kept (h : ArrK k en e w a n c xs g) (hm : Kept w u) : ArrK k en e u a n c xs g := Row.kept h hm
theorem ArrK.nil (k : Nat) (en : α → List Value) (e : Nat) (w : World) : ArrK k en e w none 0 0 [] 0 := Row.nil w e k
theorem ArrK.le (h : ArrK k en e w a n c xs g) : g ≤ w.heap.size := Row.le h
theorem ArrK.push {P : Program} {t ty by_ : Nat} (hT : SliceT P t e k by_) (hl : ∀ x, (en x).length = k) (hk0 : 0 < k) (h : ArrK k en e w a n c xs g) {cs : Array Value} {x : α} (hv : cs.toList = en x) (h1 : ∀ v ∈ en x, v.oneCell' = true) (h63 : n + 1 ≤ maxLen) (hb : (n + 1) * by_ ≤ 140737488355328) {K : Value → World → Prop}
    (hk : ∀ a' c' g' u, ArrK k en e u a' (n + 1) c' (xs ++ [x]) g' → (g' = g ∨ w.heap.size < g') → g' ≠ 0 → Only g w u → K (.slice a' (n + 1) c') u) :
    nw (w.alloc (.cells cs e)) fun w' => rawN P (Builtin.append_ #[t, t] ty #[.slice a n c, .slice (some (na w)) 1 1]) w' K := by
  have hn := Kept.new w (.cells cs e)
  refine rawN_row hT hk0 (Row.kept h hn) (news := en x) (by simp [hl]) (fun j u hj => ⟨_, rfl, by rw [cell_new, ← Array.getElem?_toList, hv]; exact hj⟩) (fun h => by cases h) h1 h63 hb fun a' c' g' u hr hg ho => ?_
  refine hk a' c' g' u (by unfold ArrK; simpa using hr) (by rcases hg with h | h <;> simp_all; omega) ?_ ?_
  · rcases hr.2 with ⟨_, _, h0, _⟩ | ⟨b, _, rfl, _⟩ <;> omega
  · exact (Kept.mod (S := fun k => k + 1 = g) hn).trans ho (fun _ _ h => h) (fun _ _ h => h)
theorem flatMap_set (hl : ∀ x, (en x).length = k) : ∀ (xs : List α) (i j : Nat) (x : α) (v : Value), xs[i]? = some x → j < k → ∀ y, en y = (en x).set j v → (xs.set i y).flatMap en = (xs.flatMap en).set (i * k + j) v
  | [], i, j, x, v, h, _, _, _ => by cases h
  | z :: zs, 0, j, x, v, h, hj, y, hy => by
    simp only [List.getElem?_cons_zero, Option.some.injEq] at h
    subst h
    rw [List.set_cons_zero, List.flatMap_cons, List.flatMap_cons, hy, Nat.zero_mul, Nat.zero_add, List.set_append_left _ _ (by rw [hl]; exact hj)]
  | z :: zs, i + 1, j, x, v, h, hj, y, hy => by
    simp only [List.getElem?_cons_succ] at h
    rw [List.set_cons_succ, List.flatMap_cons, List.flatMap_cons, flatMap_set hl zs i j x v h hj y hy, List.set_append_right _ _ (by rw [hl, Nat.add_mul]; omega), hl, show (i + 1) * k + j - k = i * k + j from by rw [Nat.add_mul]; omega]
/-- One cell of an element is written. -/
theorem ArrK.set (hl : ∀ x, (en x).length = k) (h : ArrK k en e w a n c xs g) {i j : Nat} {x y : α} {v : Value} (hx : xs[i]? = some x) (hi : i < n) (hj : j < k) (hy : en y = (en x).set j v) :
    ∃ b, g = b + 1 ∧ a = some ⟨b, 0, none⟩ ∧ okSt w ⟨b, i * k + j, none⟩ ∧ ArrK k en e (w.setCell ⟨b, i * k + j, none⟩ v) a n c (xs.set i y) g ∧ Only g w (w.setCell ⟨b, i * k + j, none⟩ v) := by
  have hlt : i * k + j < n * k := by
    have := Nat.mul_le_mul_right k hi
    rw [Nat.succ_mul] at this
    omega
  obtain ⟨b, h1, h2, h3, h4, h5⟩ := Row.set h hlt v
  refine ⟨b, h1, h2, h3, ?_, h5⟩
  unfold ArrK
  rw [flatMap_set hl xs i j x v hx hj y hy]
  exact h4
end

/-! ### pairs of whole numbers -/
abbrev enR (r : Int × Int) : List Value := [.int .i64 r.1, .int .i64 r.2]
def tR : Ty (Int × Int) := .cells 2 enR (fun _ => rfl) (fun x c hc => by simp only [List.mem_cons, List.not_mem_nil, or_false] at hc; rcases hc with h | h <;> subst h <;> rfl)
section
variable {w u : World} {a : Option Addr} {n c g e : Nat} {xs : List (Int × Int)} {F : Nat → Prop} {i : Int}
theorem Ls.slk2 (h : Ls tR F w a n c xs) : SlK 2 enR w a n xs := ⟨h.len, fun i x hi => by
  obtain ⟨p, cs, h1, _, h3, h4⟩ := h.get i x hi
  obtain rfl : cs = enR x := h3
  exact ⟨p, h1, h4⟩⟩
theorem SlK.rd2 (h : SlK 2 enR w a n xs) {K : Int → Int → Prop} (h0 : 0 ≤ i) (hi : i < n) (hk : ∀ x, xs[i.toNat]? = some x → K x.1 x.2) :
    optN a fun q => chk (0 ≤ i ∧ i < (n : Int)) (∃ y : Int, w.cell? ((q.add (i.toNat * 2)).add 0) = some (.int .i64 y) ∧ (∃ z : Int, w.cell? ((q.add (i.toNat * 2)).add 1) = some (.int .i64 z) ∧ K y z)) := by
  have hi' : i.toNat < n := by omega
  refine h.read hi' fun p hp => chk_mk ⟨h0, hi⟩ ⟨_, ?_, _, ?_, hk _ (List.getElem?_eq_getElem (h.len ▸ hi'))⟩
  · rw [add_add]; exact hp 0 _ rfl
  · rw [add_add]; exact hp 1 _ rfl
theorem SlK.rdSnd (h : SlK 2 enR w a n xs) {K : Int → Prop} (h0 : 0 ≤ i) (hi : i < n) (hk : ∀ x, xs[i.toNat]? = some x → K x.2) :
    optN a fun q => chk (0 ≤ i ∧ i < (n : Int)) (∃ z : Int, w.cell? ((q.add (i.toNat * 2)).add 1) = some (.int .i64 z) ∧ K z) := by
  have hi' : i.toNat < n := by omega
  refine h.read hi' fun p hp => chk_mk ⟨h0, hi⟩ ⟨_, ?_, hk _ (List.getElem?_eq_getElem (h.len ▸ hi'))⟩
  rw [add_add]; exact hp 1 _ rfl
theorem ArrK.slk2 (h : ArrK 2 enR e w a n c xs g) : SlK 2 enR w a n xs := h.slk (fun _ => rfl) (by omega)
theorem ArrK.len2 (h : ArrK 2 enR e w a n c xs g) : n = xs.length := ArrK.len (k := 2) (en := enR) (fun _ => rfl) (by omega) h
theorem ArrK.wrSnd (h : ArrK 2 enR e w a n c xs g) {K : World → Prop} (h0 : 0 ≤ i) (hi : i < n) {v : Int} {x : Int × Int} (hx : xs[i.toNat]? = some x) (hk : ∀ u, ArrK 2 enR e u a n c (xs.set i.toNat (x.1, v)) g → Only g w u → K u) :
    optN a fun q => chk (0 ≤ i ∧ i < (n : Int)) (okSt w (((q.add (i.toNat * 2)).add 1).add 0) ∧ nw (w.setCell (((q.add (i.toNat * 2)).add 1).add 0) (.int .i64 v)) K) := by
  obtain ⟨b, rfl, rfl, h3, h4, h5⟩ := ArrK.set (k := 2) (en := enR) (fun _ => rfl) h (i := i.toNat) (j := 1) (x := x) (y := (x.1, v)) (v := .int .i64 v) hx (by omega) (by omega) rfl
  refine chk_mk ⟨h0, hi⟩ ?_
  simp only [addr_add, Nat.zero_add, Nat.add_zero]
  exact ⟨h3, hk _ h4 h5⟩
/-- A pair in a block of its own, field by field. -/
theorem box2 {x y : Int} {K : World → Prop} (hk : ∀ u, Blk u w.heap.size #[.int .i64 x, .int .i64 y] e → Kept w u → K u) :
    nw (w.alloc (.cells #[.int .i64 0, .int .i64 0] e)) fun w1 => okSt w1 ((na w).add 0) ∧ (nw (w1.setCell ((na w).add 0) (.int .i64 x)) fun w2 => okSt w2 ((na w).add 1) ∧ (nw (w2.setCell ((na w).add 1) (.int .i64 y)) K)) := by
  have b0 := Blk.new w #[.int .i64 0, .int .i64 0] e
  have b1 := b0.set 0 (.int .i64 x)
  have b2 := b1.set 1 (.int .i64 y)
  simp only [na_add]
  refine nw_mk ⟨b0.ok (by simp), nw_mk ⟨b1.ok (by simp), hk _ b2 ?_⟩⟩
  have s1 : From w.heap.size w _ := Kept.mod (Kept.new w (.cells #[.int .i64 0, .int .i64 0] e))
  have s2 := From.then s1 (Only.set _ w.heap.size 0 (.int .i64 x)) fun k h1 h2 => by omega
  exact (From.then s2 (Only.set _ w.heap.size 1 (.int .i64 y)) fun k h1 h2 => by omega).kept
theorem Blk.rd {w : World} {b : World} {cs : Array Value} {i : Nat} {v : Value} (h : Blk w b.heap.size cs e) (hi : cs[i]? = some v) : w.cell? ((na b).add i) = some v := by
  rw [na_add, h.cell, hi]
end
end Go.E
