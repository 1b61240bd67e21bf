/- Nodes, trees and ensembles in memory; no conditions. -/
import Derived.Laws.Strings
import Derived.Test.YtmmomijhlmmjpaaDoorEB
import Derived.Test.YtmmomijhlmmjpaaDoorTPA
set_option linter.unusedVariables false
set_option linter.unusedSimpArgs false
namespace Go.E
open Go Go.RowKit Go.ChangeShapes Go.Tr

/-! ### nodes in memory: eight cells -/
def enN (x : ND) (a : Option Addr) (n c : Nat) : List Value := [.int .u8 x.kind, .int .i64 x.value, .int .i64 x.feature, .float .f64 x.thr, .slice a n c, .int .u8 x.missing, .int .i64 x.left, .int .i64 x.right]
structure At8 (w : World) (p : Addr) (x : ND) (a : Option Addr) (n c : Nat) : Prop where
  c0 : w.cell? (p.add 0) = some (.int .u8 x.kind)
  c1 : w.cell? (p.add 1) = some (.int .i64 x.value)
  c2 : w.cell? (p.add 2) = some (.int .i64 x.feature)
  c3 : w.cell? (p.add 3) = some (.float .f64 x.thr)
  c4 : w.cell? (p.add 4) = some (.slice a n c)
  c5 : w.cell? (p.add 5) = some (.int .u8 x.missing)
  c6 : w.cell? (p.add 6) = some (.int .i64 x.left)
  c7 : w.cell? (p.add 7) = some (.int .i64 x.right)
section
variable {w u : World} {p : Addr} {x : ND} {a a' : Option Addr} {n c n' c' e : Nat} {xs : List ND} {F S : Nat → Prop}
theorem At8.of (h : ∀ j v, (enN x a n c)[j]? = some v → w.cell? (p.add j) = some v) : At8 w p x a n c :=
  ⟨h 0 _ rfl, h 1 _ rfl, h 2 _ rfl, h 3 _ rfl, h 4 _ rfl, h 5 _ rfl, h 6 _ rfl, h 7 _ rfl⟩
theorem At8.mod (h : At8 w p x a n c) (hm : Mod S w u) (hn : ¬ S p.block) : At8 u p x a n c :=
  ⟨hm.cell hn h.c0, hm.cell hn h.c1, hm.cell hn h.c2, hm.cell hn h.c3, hm.cell hn h.c4, hm.cell hn h.c5, hm.cell hn h.c6, hm.cell hn h.c7⟩
theorem At8.kept (h : At8 w p x a n c) (hm : Kept w u) : At8 u p x a n c := h.mod (S := fun _ => False) (Kept.mod hm) (fun h => h)
theorem At8.of_blk {b : World} (h : Blk w b.heap.size (enN x a n c).toArray e) : At8 w (na b) x a n c := .of fun j v hj => h.rd (by simpa using hj)
/-- All eight are read. -/
theorem At8.ld (h : At8 w p x a n c) {K : Int → Int → Int → Nat → Option Addr → Nat → Nat → Int → Int → Int → Prop} (hk : K x.kind x.value x.feature x.thr a n c x.missing x.left x.right) :
    ∃ y0 : Int, w.cell? (p.add 0) = some (.int .u8 y0) ∧ (∃ y1 : Int, w.cell? (p.add 1) = some (.int .i64 y1) ∧ (∃ y2 : Int, w.cell? (p.add 2) = some (.int .i64 y2) ∧ (∃ y3 : Nat, w.cell? (p.add 3) = some (.float .f64 y3) ∧
      (∃ ya : Option Addr, ∃ yn : Nat, ∃ yc : Nat, w.cell? (p.add 4) = some (.slice ya yn yc) ∧ (∃ y5 : Int, w.cell? (p.add 5) = some (.int .u8 y5) ∧ (∃ y6 : Int, w.cell? (p.add 6) = some (.int .i64 y6) ∧ (∃ y7 : Int, w.cell? (p.add 7) = some (.int .i64 y7) ∧
        K y0 y1 y2 y3 ya yn yc y5 y6 y7))))))) :=
  ⟨_, h.c0, _, h.c1, _, h.c2, _, h.c3, _, _, _, h.c4, _, h.c5, _, h.c6, _, h.c7, hk⟩
def tN : Ty ND where
  k := 8
  rd F w x cs := ∃ a n c, cs = enN x a n c ∧ Ls (tInt .i64) F w a n c x.cats
  len := by rintro F w x cs ⟨a, n, c, rfl, _⟩; rfl
  one := by
    rintro F w x cs ⟨a, n, c, rfl, _⟩ v hv
    simp only [enN, List.mem_cons, List.not_mem_nil, or_false] at hv
    rcases hv with h | h | h | h | h | h | h | h <;> subst h <;> rfl
  mono := by rintro F F' w x cs hF ⟨a, n, c, rfl, h⟩; exact ⟨a, n, c, rfl, h.mono hF⟩
  keep := by rintro F w u x cs hu ⟨a, n, c, rfl, h⟩; exact ⟨a, n, c, rfl, h.keep hu⟩
theorem Ls.nd (h : Ls tN F w a n c xs) {i : Nat} (hi : i < n) : ∃ p x a' n' c', a = some p ∧ F p.block ∧ xs[i]? = some x ∧ At8 w (p.add (i * 8)) x a' n' c' ∧ Ls (tInt .i64) F w a' n' c' x.cats := by
  have hi' : i < xs.length := h.len ▸ hi
  obtain ⟨p, cs, rfl, h2, ⟨a', n', c', rfl, h3⟩, h4⟩ := h.get i _ (List.getElem?_eq_getElem hi')
  exact ⟨p, _, a', n', c', rfl, h2, List.getElem?_eq_getElem hi', .of fun j v hj => by rw [add_add]; exact h4 j v hj, h3⟩
/-- A node of a list is read. -/
theorem Ls.rdN (h : Ls tN F w a n c xs) {i : Int} {K : Int → Int → Int → Nat → Option Addr → Nat → Nat → Int → Int → Int → Prop} (h0 : 0 ≤ i) (hi : i < n)
    (hk : ∀ x a' n' c', xs[i.toNat]? = some x → Ls (tInt .i64) F w a' n' c' x.cats → K x.kind x.value x.feature x.thr a' n' c' x.missing x.left x.right) :
    optN a fun q => chk (0 ≤ i ∧ i < (n : Int)) (∃ y0 : Int, w.cell? ((q.add (i.toNat * 8)).add 0) = some (.int .u8 y0) ∧ (∃ y1 : Int, w.cell? ((q.add (i.toNat * 8)).add 1) = some (.int .i64 y1) ∧ (∃ y2 : Int, w.cell? ((q.add (i.toNat * 8)).add 2) = some (.int .i64 y2) ∧ (∃ y3 : Nat, w.cell? ((q.add (i.toNat * 8)).add 3) = some (.float .f64 y3) ∧
      (∃ ya : Option Addr, ∃ yn : Nat, ∃ yc : Nat, w.cell? ((q.add (i.toNat * 8)).add 4) = some (.slice ya yn yc) ∧ (∃ y5 : Int, w.cell? ((q.add (i.toNat * 8)).add 5) = some (.int .u8 y5) ∧ (∃ y6 : Int, w.cell? ((q.add (i.toNat * 8)).add 6) = some (.int .i64 y6) ∧ (∃ y7 : Int, w.cell? ((q.add (i.toNat * 8)).add 7) = some (.int .i64 y7) ∧
        K y0 y1 y2 y3 ya yn yc y5 y6 y7)))))))) := by
  obtain ⟨p, x, a', n', c', rfl, _, hx, h8, hc⟩ := h.nd (i := i.toNat) (by omega)
  exact chk_mk ⟨h0, hi⟩ (h8.ld (hk x a' n' c' hx hc))
/-- One of its fields. -/
theorem Ls.rdF (h : Ls tN F w a n c xs) {i : Int} {K : Addr → Prop} (h0 : 0 ≤ i) (hi : i < n) (hk : ∀ p x a' n' c', xs[i.toNat]? = some x → Ls (tInt .i64) F w a' n' c' x.cats → At8 w (p.add (i.toNat * 8)) x a' n' c' → K p) :
    optN a fun q => chk (0 ≤ i ∧ i < (n : Int)) (K q) := by
  obtain ⟨p, x, a', n', c', rfl, _, hx, h8, hc⟩ := h.nd (i := i.toNat) (by omega)
  exact chk_mk ⟨h0, hi⟩ (hk p x a' n' c' hx hc h8)
/-- A node in a block of its own. -/
theorem box8 {x : ND} {a : Option Addr} {n c : Nat} {K : World → Prop} (hk : ∀ u, Blk u w.heap.size (enN x a n c).toArray e → At8 u (na w) x a n c → Kept w u → K u) :
    nw (w.alloc (.cells #[.int .u8 x.kind, .int .i64 x.value, .int .i64 x.feature, .float .f64 x.thr, .slice a n c, .int .u8 x.missing, .int .i64 x.left, .int .i64 x.right] e)) K :=
  nw_mk (hk _ (Blk.new w _ e) (.of_blk (Blk.new w (enN x a n c).toArray e)) (Kept.new w _))
set_option maxHeartbeats 1000000 in
/-- The same, field by field. -/
theorem box8z {x : ND} {a : Option Addr} {n c : Nat} {K : World → Prop} (hk : ∀ u, Blk u w.heap.size (enN x a n c).toArray e → At8 u (na w) x a n c → Kept w u → K u) :
    nw (w.alloc (.cells #[.int .u8 0, .int .i64 0, .int .i64 0, .float .f64 0, .slice none 0 0, .int .u8 0, .int .i64 0, .int .i64 0] e)) fun w1 => okSt w1 ((na w).add 0) ∧ (nw (w1.setCell ((na w).add 0) (.int .u8 x.kind)) fun w2 => okSt w2 ((na w).add 1) ∧ (nw (w2.setCell ((na w).add 1) (.int .i64 x.value)) fun w3 =>
      okSt w3 ((na w).add 2) ∧ (nw (w3.setCell ((na w).add 2) (.int .i64 x.feature)) fun w4 => okSt w4 ((na w).add 3) ∧ (nw (w4.setCell ((na w).add 3) (.float .f64 x.thr)) fun w5 => okSt w5 ((na w).add 4) ∧ (nw (w5.setCell ((na w).add 4) (.slice a n c)) fun w6 =>
      okSt w6 ((na w).add 5) ∧ (nw (w6.setCell ((na w).add 5) (.int .u8 x.missing)) fun w7 => okSt w7 ((na w).add 6) ∧ (nw (w7.setCell ((na w).add 6) (.int .i64 x.left)) fun w8 => okSt w8 ((na w).add 7) ∧ (nw (w8.setCell ((na w).add 7) (.int .i64 x.right)) K)))))))) := by
  have b0 := Blk.new w #[.int .u8 0, .int .i64 0, .int .i64 0, .float .f64 0, .slice none 0 0, .int .u8 0, .int .i64 0, .int .i64 0] e
  have s0 : From w.heap.size w _ := Kept.mod (Kept.new w (.cells #[.int .u8 0, .int .i64 0, .int .i64 0, .float .f64 0, .slice none 0 0, .int .u8 0, .int .i64 0, .int .i64 0] e))
  have b1 : Blk _ _ #[.int .u8 x.kind, .int .i64 0, .int .i64 0, .float .f64 0, .slice none 0 0, .int .u8 0, .int .i64 0, .int .i64 0] e := b0.set 0 (.int .u8 x.kind)
  have b2 : Blk _ _ #[.int .u8 x.kind, .int .i64 x.value, .int .i64 0, .float .f64 0, .slice none 0 0, .int .u8 0, .int .i64 0, .int .i64 0] e := b1.set 1 (.int .i64 x.value)
  have b3 : Blk _ _ #[.int .u8 x.kind, .int .i64 x.value, .int .i64 x.feature, .float .f64 0, .slice none 0 0, .int .u8 0, .int .i64 0, .int .i64 0] e := b2.set 2 (.int .i64 x.feature)
  have b4 : Blk _ _ #[.int .u8 x.kind, .int .i64 x.value, .int .i64 x.feature, .float .f64 x.thr, .slice none 0 0, .int .u8 0, .int .i64 0, .int .i64 0] e := b3.set 3 (.float .f64 x.thr)
  have b5 : Blk _ _ #[.int .u8 x.kind, .int .i64 x.value, .int .i64 x.feature, .float .f64 x.thr, .slice a n c, .int .u8 0, .int .i64 0, .int .i64 0] e := b4.set 4 (.slice a n c)
  have b6 : Blk _ _ #[.int .u8 x.kind, .int .i64 x.value, .int .i64 x.feature, .float .f64 x.thr, .slice a n c, .int .u8 x.missing, .int .i64 0, .int .i64 0] e := b5.set 5 (.int .u8 x.missing)
  have b7 : Blk _ _ #[.int .u8 x.kind, .int .i64 x.value, .int .i64 x.feature, .float .f64 x.thr, .slice a n c, .int .u8 x.missing, .int .i64 x.left, .int .i64 0] e := b6.set 6 (.int .i64 x.left)
  have b8 : Blk _ _ #[.int .u8 x.kind, .int .i64 x.value, .int .i64 x.feature, .float .f64 x.thr, .slice a n c, .int .u8 x.missing, .int .i64 x.left, .int .i64 x.right] e := b7.set 7 (.int .i64 x.right)
  simp only [na_add]
  have st : ∀ {u : World} (i : Nat) (v : Value), From w.heap.size w u → From w.heap.size w (u.setCell ⟨w.heap.size, i, none⟩ v) := fun i v s => From.then s (Only.set _ w.heap.size i v) fun k h1 h2 => by omega
  refine nw_mk ⟨b0.ok (by simp), nw_mk ⟨b1.ok (by simp), nw_mk ⟨b2.ok (by simp), nw_mk ⟨b3.ok (by simp), nw_mk ⟨b4.ok (by simp), nw_mk ⟨b5.ok (by simp), nw_mk ⟨b6.ok (by simp), nw_mk ⟨b7.ok (by simp), hk _ b8 (.of_blk b8) ?_⟩⟩⟩⟩⟩⟩⟩⟩
  exact (st _ _ (st _ _ (st _ _ (st _ _ (st _ _ (st _ _ (st _ _ (st _ _ s0)))))))).kept

/-! ### trees in memory: two cells -/
structure At2 (w : World) (p : Addr) (o : Int) (a : Option Addr) (n c : Nat) : Prop where
  c0 : w.cell? (p.add 0) = some (.int .i64 o)
  c1 : w.cell? (p.add 1) = some (.slice a n c)
theorem At2.mod {o : Int} (h : At2 w p o a n c) (hm : Mod S w u) (hn : ¬ S p.block) : At2 u p o a n c := ⟨hm.cell hn h.c0, hm.cell hn h.c1⟩
theorem At2.kept {o : Int} (h : At2 w p o a n c) (hm : Kept w u) : At2 u p o a n c := h.mod (S := fun _ => False) (Kept.mod hm) (fun h => h)
def tT : Ty TD where
  k := 2
  rd F w x cs := ∃ a n c, cs = [.int .i64 x.output, .slice a n c] ∧ Ls tN F w a n c x.nodes
  len := by rintro F w x cs ⟨a, n, c, rfl, _⟩; rfl
  one := by
    rintro F w x cs ⟨a, n, c, rfl, _⟩ v hv
    simp only [List.mem_cons, List.not_mem_nil, or_false] at hv
    rcases hv with h | h <;> subst h <;> rfl
  mono := by rintro F F' w x cs hF ⟨a, n, c, rfl, h⟩; exact ⟨a, n, c, rfl, h.mono hF⟩
  keep := by rintro F w u x cs hu ⟨a, n, c, rfl, h⟩; exact ⟨a, n, c, rfl, h.keep hu⟩
theorem Ls.td {xs : List TD} (h : Ls tT F w a n c xs) {i : Nat} (hi : i < n) : ∃ p x a' n' c', a = some p ∧ F p.block ∧ xs[i]? = some x ∧ At2 w (p.add (i * 2)) x.output a' n' c' ∧ Ls tN F w a' n' c' x.nodes := by
  have hi' : i < xs.length := h.len ▸ hi
  obtain ⟨p, cs, rfl, h2, ⟨a', n', c', rfl, h3⟩, h4⟩ := h.get i _ (List.getElem?_eq_getElem hi')
  exact ⟨p, _, a', n', c', rfl, h2, List.getElem?_eq_getElem hi', ⟨by rw [add_add]; exact h4 0 _ rfl, by rw [add_add]; exact h4 1 _ rfl⟩, h3⟩
/-- A tree of a list is read. -/
theorem Ls.rdT {xs : List TD} (h : Ls tT F w a n c xs) {i : Int} {K : Int → Option Addr → Nat → Nat → Prop} (h0 : 0 ≤ i) (hi : i < n) (hk : ∀ x a' n' c', xs[i.toNat]? = some x → Ls tN F w a' n' c' x.nodes → K x.output a' n' c') :
    optN a fun q => chk (0 ≤ i ∧ i < (n : Int)) (∃ y0 : Int, w.cell? ((q.add (i.toNat * 2)).add 0) = some (.int .i64 y0) ∧ (∃ ya : Option Addr, ∃ yn : Nat, ∃ yc : Nat, w.cell? ((q.add (i.toNat * 2)).add 1) = some (.slice ya yn yc) ∧ K y0 ya yn yc)) := by
  obtain ⟨p, x, a', n', c', rfl, _, hx, h2, hc⟩ := h.td (i := i.toNat) (by omega)
  exact chk_mk ⟨h0, hi⟩ ⟨_, h2.c0, _, _, _, h2.c1, hk x a' n' c' hx hc⟩
theorem box2T {o : Int} {a : Option Addr} {n c : Nat} {K : World → Prop} (hk : ∀ u, Blk u w.heap.size #[.int .i64 o, .slice a n c] e → At2 u (na w) o a n c → Kept w u → K u) :
    nw (w.alloc (.cells #[.int .i64 o, .slice a n c] e)) K := by
  have b := Blk.new w #[.int .i64 o, .slice a n c] e
  exact nw_mk (hk _ b ⟨b.rd (by simp), b.rd (by simp)⟩ (Kept.new w _))
end
end Go.E
namespace Go.E
open Go Go.Tr
/-- A node as an argument. -/
abbrev vN (x : ND) (a : Option Addr) (n c : Nat) : Value := .agg #[.int .u8 x.kind, .int .i64 x.value, .int .i64 x.feature, .float .f64 x.thr, .slice a n c, .int .u8 x.missing, .int .i64 x.left, .int .i64 x.right]
/-- A tree as an argument. -/
abbrev vT (o : Int) (a : Option Addr) (n c : Nat) : Value := .agg #[.int .i64 o, .slice a n c]
def nanB (f : Nat) : Bool := FloatKind.f64.format.order f f != some .eq
end Go.E

namespace Go.E
open Go Go.RowKit Go.ChangeShapes Go.Tr
theorem slA_zero (a : Option Addr) (m sz : Nat) : slA a m 0 sz = a := by
  unfold slA
  split
  · rfl
  · cases a with
    | none => rfl
    | some p => simp [add_zero]
section
variable {w u : World} {e size : Nat} {a : Option Addr} {n c g m : Nat} {cs : List Value} {S : Nat → Prop}
theorem Row.take (h : Row w e size a n c cs g) (hm : m ≤ n) : Row w e size a m c (cs.take (m * size)) g := by
  have hle : m * size ≤ n * size := Nat.mul_le_mul_right _ hm
  refine ⟨by rw [List.length_take, h.1]; omega, ?_⟩
  rcases h.2 with ⟨h1, h2, h3, h4⟩ | ⟨b, cur, h1, h2, h3, h4, h5, h6, h7⟩
  · exact .inl ⟨h1, h2, by omega, h4⟩
  · exact .inr ⟨b, cur, h1, h2, h3, by omega, h5, h6, by rw [← h7, List.take_take, Nat.min_eq_left hle]⟩
theorem Row.new (w : World) (e size n : Nat) (cs : Array Value) (hl : cs.size = n * size) (hn : n ≤ maxLen) : Row (w.alloc (.cells cs e)) e size (some (na w)) n n cs.toList (w.heap.size + 1) :=
  ⟨by simpa using hl, .inr ⟨w.heap.size, cs, rfl, rfl, Blk.new w cs e, Nat.le_refl _, hn, hl, by rw [← hl, List.take_of_length_le (by simp)]⟩⟩
end
section
variable {α : Type} {en : α → Value} {w u : World} {a : Option Addr} {n c g e m : Nat} {xs ys : List α} {S : Nat → Prop}
theorem Arr.take (h : Arr en e w a n c xs g) (hm : m ≤ n) : Arr en e w a m c (xs.take m) g := by
  have := Row.take h hm
  rwa [Nat.mul_one, ← List.map_take] at this
/-- A list written out. -/
theorem Arr.new (en : α → Value) (e : Nat) (w : World) (xs : List α) (cs : Array Value) (hc : cs.toList = xs.map en) (hn : xs.length ≤ maxLen) : Arr en e (w.alloc (.cells cs e)) (some (na w)) xs.length xs.length xs (w.heap.size + 1) := by
  have := Row.new w e 1 xs.length cs (by rw [← Array.length_toList, hc]; simp) hn
  rwa [hc] at this
/-- append of elements written out. -/
theorem Arr.pushL {P : Program} {t ty by_ : Nat} (hT : SliceT P t e 1 by_) (h : Arr en e w a n c xs g) (h1 : ∀ x, (en x).oneCell' = true) {cs : Array Value} {m : Nat} {ys : List α} (hc : cs.toList = ys.map en) (hm : m = ys.length) (hm0 : 0 < m) (h63 : n + m ≤ maxLen) (hb : (n + m) * by_ ≤ 140737488355328) {K : Value → World → Prop}
    (hk : ∀ a' c' g' u, Arr en e u a' (n + m) c' (xs ++ ys) g' → (g' = g ∨ w.heap.size < g') → g' ≠ 0 → Only g w u → K (.slice a' (n + m) c') u) :
    nw (w.alloc (.cells cs e)) fun w' => rawN P (Builtin.append_ #[t, t] ty #[.slice a n c, .slice (some (na w)) m m]) w' K := by
  have hn := Kept.new w (.cells cs e)
  refine rawN_row hT (by omega) (Row.kept h hn) (news := ys.map en) (by simp [hm]) (fun j u hj => ⟨_, rfl, by rw [cell_new, ← Array.getElem?_toList, hc]; exact hj⟩) (fun h => by cases h) (by simpa using fun x _ => h1 x) h63 hb fun a' c' g' u hr hg ho => ?_
  refine hk a' c' g' u (by unfold Arr; simpa using hr) (by rcases hg with h | h <;> simp_all; omega) ?_ ?_
  · rcases hr.2 with ⟨_, _, h0, _⟩ | ⟨b, _, rfl, _⟩ <;> omega
  · exact (Kept.mod (S := fun k => k + 1 = g) hn).trans ho (fun _ _ h => h) (fun _ _ h => h)
theorem Arr.pos (h : Arr en e w a n c xs g) (hn : 0 < n) : 0 < g := by
  rcases h.2 with ⟨_, _, h0, _⟩ | ⟨b, _, rfl, _⟩ <;> omega
theorem From.mono {B B' : Nat} (h : From B w u) (hB : B' ≤ B) : From B' w u := h.weak fun k _ hk => by omega
theorem From.only {B : Nat} {x : World} (h : From B w u) (k : Only g u x) (hg : g = 0 ∨ B < g) : From B w x := Mod.trans (S := fun k => B ≤ k) h k (fun _ _ h => h) (fun b _ hb => by show B ≤ b; have hb' : b + 1 = g := hb; omega)
theorem From.refl (B : Nat) (w : World) : From B w w := Mod.refl (S := fun k => B ≤ k) w
theorem From.new {B : Nat} (h : From B w u) (o : Obj) : From B w (u.alloc o) := h.keptThen (Kept.new u o)
theorem From.ls {T : Ty α} {F : Nat → Prop} {B : Nat} (h : Ls T F w a n c xs) (hm : From B w u) (hF : ∀ b, F b → b < B) : Ls T F u a n c xs := h.mod (S := fun k => B ≤ k) hm fun b hb hB => by have := hF b hb; have hB' : B ≤ b := hB; omega
end
section
variable {w u : World} {p : Addr} {a : Option Addr} {n c : Nat} {o : Int}
theorem At2.lt (h : At2 w p o a n c) : p.block < w.heap.size := by have := block_lt_of_cell h.c0; rwa [add_block] at this
theorem At2.from (h : At2 w p o a n c) (hm : From w.heap.size w u) : At2 u p o a n c := h.mod (S := fun k => w.heap.size ≤ k) hm (fun hb => by have := h.lt; have hb' : w.heap.size ≤ p.block := hb; omega)
end
end Go.E
namespace Go.E
open Go Go.RowKit
/-- A new list. -/
def NewA {α : Type} (en : α → Value) (e : Nat) (w u : World) (a : Option Addr) (n c : Nat) (xs : List α) : Prop := ∃ g, Arr en e u a n c xs g ∧ (g = 0 ∨ w.heap.size < g) ∧ Kept w u
section
variable {α : Type} {en : α → Value} {e : Nat} {w u x : World} {a : Option Addr} {n c : Nat} {xs : List α}
theorem NewA.len (h : NewA en e w u a n c xs) : n = xs.length := by obtain ⟨g, h, _⟩ := h; exact h.len
theorem NewA.kept (h : NewA en e w u a n c xs) : Kept w u := by obtain ⟨g, _, _, h⟩ := h; exact h
theorem NewA.sl (h : NewA en e w u a n c xs) : Sl en u a n xs := by obtain ⟨g, h, _⟩ := h; exact h.sl
theorem NewA.then (h : NewA en e w u a n c xs) (hk : Kept u x) : NewA en e w x a n c xs := by
  obtain ⟨g, h1, h2, h3⟩ := h
  exact ⟨g, h1.kept hk, h2, Kept.trans h3 hk⟩
theorem NewA.ahead (h : NewA en e u x a n c xs) (hk : Kept w u) : NewA en e w x a n c xs := by
  obtain ⟨g, h1, h2, h3⟩ := h
  refine ⟨g, h1, h2.imp id (fun h => Nat.lt_of_le_of_lt hk.size h), Kept.trans hk h3⟩
end
end Go.E
namespace Go.E
open Go Go.RowKit
section
variable {α : Type} {k : Nat} {en : α → List Value} {w u : World} {a : Option Addr} {n c g e m : Nat} {xs ys : List α} {S : Nat → Prop}
theorem flatMap_take (hl : ∀ x, (en x).length = k) : ∀ (xs : List α) (m : Nat), (xs.flatMap en).take (m * k) = (xs.take m).flatMap en
  | [], m => by simp
  | x :: xs, 0 => by simp
  | x :: xs, m + 1 => by
    rw [List.take_succ_cons, List.flatMap_cons, List.flatMap_cons, List.take_append, hl, List.take_of_length_le (by rw [hl, Nat.succ_mul]; omega), show (m + 1) * k - k = m * k from by rw [Nat.succ_mul]; omega, flatMap_take hl xs m]
theorem ArrK.take (hl : ∀ x, (en x).length = k) (h : ArrK k en e w a n c xs g) (hm : m ≤ n) : ArrK k en e w a m c (xs.take m) g := by
  have := Row.take h hm
  rwa [flatMap_take hl] at this
theorem ArrK.capLe (h : ArrK k en e w a n c xs g) : n ≤ c := Row.cap h
theorem ArrK.new (hl : ∀ x, (en x).length = k) (e : Nat) (w : World) (xs : List α) (cs : Array Value) (hc : cs.toList = xs.flatMap en) (hn : xs.length ≤ maxLen) : ArrK k en e (w.alloc (.cells cs e)) (some (na w)) xs.length xs.length xs (w.heap.size + 1) := by
  have := Row.new w e k xs.length cs (by rw [← Array.length_toList, hc, flatMap_length xs (fun x _ => hl x)]) hn
  rwa [hc] at this
/-- append of elements written out. -/
theorem ArrK.pushL {P : Program} {t ty by_ : Nat} (hT : SliceT P t e k by_) (hl : ∀ x, (en x).length = k) (hk0 : 0 < k) (h : ArrK k en e w a n c xs g) (h1 : ∀ x, ∀ v ∈ en x, v.oneCell' = true) {cs : Array Value} {m : Nat} {ys : List α} (hc : cs.toList = ys.flatMap en) (hm : m = ys.length) (hm0 : 0 < m) (h63 : n + m ≤ maxLen) (hb : (n + m) * by_ ≤ 140737488355328) {K : Value → World → Prop}
    (hk : ∀ a' c' g' u, ArrK k en e u a' (n + m) c' (xs ++ ys) g' → (g' = g ∨ w.heap.size < g') → g' ≠ 0 → Only g w u → K (.slice a' (n + m) c') u) :
    nw (w.alloc (.cells cs e)) fun w' => rawN P (Builtin.append_ #[t, t] ty #[.slice a n c, .slice (some (na w)) m m]) w' K := by
  have hn := Kept.new w (.cells cs e)
  refine rawN_row hT hk0 (Row.kept h hn) (news := ys.flatMap en) (by rw [flatMap_length ys (fun x _ => hl x), hm]) (fun j u hj => ⟨_, rfl, by rw [cell_new, ← Array.getElem?_toList, hc]; exact hj⟩) (fun h => by cases h) (fun v hv => ?_) h63 hb fun a' c' g' u hr hg ho => ?_
  · obtain ⟨x, _, hx⟩ := List.mem_flatMap.1 hv
    exact h1 x v hx
  refine hk a' c' g' u (by unfold ArrK; simpa using hr) (by rcases hg with h | h <;> simp_all; omega) ?_ ?_
  · rcases hr.2 with ⟨_, _, h0, _⟩ | ⟨b, _, rfl, _⟩ <;> omega
  · exact (Kept.mod (S := fun k => k + 1 = g) hn).trans ho (fun _ _ h => h) (fun _ _ h => h)
end
end Go.E
namespace Go.E
open Go Go.RowKit
theorem Sl.from {α : Type} {en : α → Value} {w u : World} {a : Option Addr} {n : Nat} {xs : List α} (h : Sl en w a n xs) (hm : From w.heap.size w u) : Sl en u a n xs := h.keep (From.kept hm)
end Go.E

namespace Go.E
open Go Go.RowKit Go.ChangeShapes Go.Tr
/-! ### ensembles in memory: five cells -/
structure SH where
  a : Option Addr
  n : Nat
  c : Nat
abbrev SH.v (s : SH) : Value := .slice s.a s.n s.c
def enE (e : ED) (f b t : SH) : List Value := [.string e.name, .slice f.a f.n f.c, .int .i64 e.outputs, .slice b.a b.n b.c, .slice t.a t.n t.c]
abbrev vE (e : ED) (f b t : SH) : Value := .agg #[.string e.name, .slice f.a f.n f.c, .int .i64 e.outputs, .slice b.a b.n b.c, .slice t.a t.n t.c]
structure At5 (w : World) (p : Addr) (e : ED) (f b t : SH) : Prop where
  c0 : w.cell? (p.add 0) = some (.string e.name)
  c1 : w.cell? (p.add 1) = some (.slice f.a f.n f.c)
  c2 : w.cell? (p.add 2) = some (.int .i64 e.outputs)
  c3 : w.cell? (p.add 3) = some (.slice b.a b.n b.c)
  c4 : w.cell? (p.add 4) = some (.slice t.a t.n t.c)
section
variable {w u : World} {p : Addr} {e : ED} {f b t : SH} {S : Nat → Prop} {ty : Nat}
theorem At5.mod (h : At5 w p e f b t) (hm : Mod S w u) (hn : ¬ S p.block) : At5 u p e f b t := ⟨hm.cell hn h.c0, hm.cell hn h.c1, hm.cell hn h.c2, hm.cell hn h.c3, hm.cell hn h.c4⟩
theorem At5.kept (h : At5 w p e f b t) (hm : Kept w u) : At5 u p e f b t := h.mod (S := fun _ => False) (Kept.mod hm) (fun h => h)
theorem At5.lt (h : At5 w p e f b t) : p.block < w.heap.size := by have := block_lt_of_cell h.c0; rwa [add_block] at this
theorem At5.from (h : At5 w p e f b t) (hm : From w.heap.size w u) : At5 u p e f b t := h.kept (From.kept hm)
theorem At5.of_blk {b0 : World} (h : Blk w b0.heap.size (enE e f b t).toArray ty) : At5 w (na b0) e f b t := ⟨h.rd rfl, h.rd rfl, h.rd rfl, h.rd rfl, h.rd rfl⟩
theorem box5 {K : World → Prop} (hk : ∀ u, Blk u w.heap.size (enE e f b t).toArray ty → At5 u (na w) e f b t → Kept w u → K u) :
    nw (w.alloc (.cells #[.string e.name, .slice f.a f.n f.c, .int .i64 e.outputs, .slice b.a b.n b.c, .slice t.a t.n t.c] ty)) K :=
  nw_mk (hk _ (Blk.new w _ ty) (.of_blk (Blk.new w (enE e f b t).toArray ty)) (Kept.new w _))
/-- A tree's two cells, field by field. -/
theorem box2Tz {o : Int} {a : Option Addr} {n c : Nat} {K : World → Prop} (hk : ∀ u, Blk u w.heap.size #[.int .i64 o, .slice a n c] ty → At2 u (na w) o a n c → Kept w u → K u) :
    nw (w.alloc (.cells #[.int .i64 0, .slice none 0 0] ty)) fun w1 => okSt w1 ((na w).add 0) ∧ (nw (w1.setCell ((na w).add 0) (.int .i64 o)) fun w2 => okSt w2 ((na w).add 1) ∧ (nw (w2.setCell ((na w).add 1) (.slice a n c)) K)) := by
  have b0 := Blk.new w #[.int .i64 0, .slice none 0 0] ty
  have b1 : Blk _ _ #[.int .i64 o, .slice none 0 0] ty := b0.set 0 (.int .i64 o)
  have b2 : Blk _ _ #[.int .i64 o, .slice a n c] ty := b1.set 1 (.slice a n c)
  simp only [na_add]
  refine nw_mk ⟨b0.ok (by simp), nw_mk ⟨b1.ok (by simp), hk _ b2 ⟨b2.rd rfl, b2.rd rfl⟩ ?_⟩⟩
  have s1 : From w.heap.size w _ := Kept.mod (Kept.new w (.cells #[.int .i64 0, .slice none 0 0] ty))
  have s2 := From.then s1 (Only.set _ w.heap.size 0 (.int .i64 o)) fun k h1 h2 => by omega
  exact (From.then s2 (Only.set _ w.heap.size 1 (.slice a n c)) fun k h1 h2 => by omega).kept
end
/-- slices.Clone's two ways of an own row of one-cell elements. -/
theorem cloneA {α : Type} {en : α → Value} {P : Program} {w : World} {t ty e by_ : Nat} (hT : SliceT P t e 1 by_) (h1 : ∀ x, (en x).oneCell' = true) {a : Option Addr} {n c : Nat} {xs : List α} (hs : Sl en w a n xs) (h63 : n ≤ maxLen) (hb : n * by_ ≤ 140737488355328) {R : Value → World → Prop} {K : Value → World → Prop}
    (hR : a = none → xs = [] → R (.slice none 0 0) w) (hk : ∀ a' c' u, NewA en e w u a' n c' xs → K (.slice a' n c') u) :
    onBool a.isNone (R (.slice none 0 0) w) (nw (w.alloc (.cells #[] e)) fun w' => rawN P (Builtin.append_ #[t, t] ty #[.slice (some (na w)) 0 0, .slice a n c]) w' K) := by
  refine (onBool_iff _ _ _).2 ⟨fun h => hR (by simpa using h) ?_, fun h => nw_mk ?_⟩
  · have ha : a = none := by simpa using h
    subst ha
    cases xs with
    | nil => rfl
    | cons x xs => obtain ⟨p, hp, _⟩ := hs.get 0 x rfl; cases hp
  · have hk0 := Kept.new w (.cells #[] e)
    have h0 := Arr.new en e w [] #[] rfl (by simp [maxLen])
    refine Arr.pushes hT h0 h1 (hs.keep hk0) (by simpa using h63) (by simpa using hb) fun a' c' g' u ha hg ho => ?_
    simp only [List.length_nil, Nat.zero_add, List.nil_append] at ha ⊢
    refine hk a' c' u ⟨g', ha, ?_, ?_⟩
    · have : w.heap.size < (w.alloc (.cells #[] e)).heap.size := by simp
      rcases hg with h | h
      · exact .inr (by omega)
      · exact .inr (by omega)
    · exact ((Kept.mod (S := fun k => w.heap.size ≤ k) hk0).trans ho (U := fun k => w.heap.size ≤ k) (fun _ _ h => h) (fun k _ h => by show w.heap.size ≤ k; have h' : k + 1 = w.heap.size + 1 := h; omega)).kept (fun k h1 h2 => by have h2' : w.heap.size ≤ k := h2; omega)
end Go.E

namespace Go.E
open Go Go.RowKit Go.ChangeShapes Go.Tr
/-- Is it so? -/
noncomputable def decB (p : Prop) : Bool := @decide p (Classical.propDecidable p)
theorem decB_t {p : Prop} (h : p) : decB p = true := @decide_eq_true p (Classical.propDecidable p) h
theorem decB_f {p : Prop} (h : ¬ p) : decB p = false := @decide_eq_false p (Classical.propDecidable p) h
theorem decB_eq {p q : Prop} (h : p ↔ q) : decB p = decB q := by
  by_cases hp : p
  · rw [decB_t hp, decB_t (h.1 hp)]
  · rw [decB_f hp, decB_f (fun hq => hp (h.2 hq))]
theorem decB_dec {p : Prop} [Decidable p] : decide p = decB p := by
  by_cases h : p
  · rw [decide_eq_true h, decB_t h]
  · rw [decide_eq_false h, decB_f h]
theorem str_eq (a b : ByteArray) : (a.toList == b.toList) = decB (a = b) := by
  have e : (a.toList == b.toList) = decide (a = b) := by
    rw [Bool.eq_iff_iff]
    simp only [beq_iff_eq, decide_eq_true_eq]
    rw [ByteArray.toList_eq, ByteArray.toList_eq]
    exact ⟨fun h => by cases a; cases b; simpa [Array.toList_inj] using h, fun h => by rw [h]⟩
  rw [e, decB_dec]
/-! ### flat rows of nodes and of trees -/
def enH (x : ND × SH) : List Value := enN x.1 x.2.a x.2.n x.2.c
def enTH (x : TD × SH) : List Value := [.int .i64 x.1.output, .slice x.2.a x.2.n x.2.c]
section
variable {α β : Type} {T : Ty α} {k : Nat} {en : β → List Value} {f : β → α} {w u : World} {a : Option Addr} {n c g e : Nat} {F S : Nat → Prop}
/-- A row of one's own whose elements read as data. -/
theorem ArrK.lsK {l : List β} (hl : ∀ x, (en x).length = k) (hk : 0 < k) (hTk : T.k = k) (h : ArrK k en e w a n c l g) (hF : ∀ b, b + 1 = g → F b) (hc : ∀ x ∈ l, T.rd F w (f x) (en x)) : Ls T F w a n c (l.map f) := by
  refine ⟨by rw [List.length_map]; exact ArrK.len hl hk h, h.capLe, fun i x hi => ?_⟩
  rw [List.getElem?_map] at hi
  obtain ⟨y, hy, rfl⟩ := Option.map_eq_some_iff.1 hi
  have hf : ∀ j v, (en y)[j]? = some v → (l.flatMap en)[i * k + j]? = some v := fun j v hj => flatMap_at l (fun x _ => hl x) i y hy j v hj
  obtain ⟨v0, h0⟩ : ∃ v, (en y)[0]? = some v := ⟨(en y)[0]'(by rw [hl]; omega), List.getElem?_eq_getElem _⟩
  obtain ⟨b, hb, rfl, _⟩ := Row.cell h (hf 0 v0 h0)
  refine ⟨_, en y, rfl, hF b hb.symm, hc y (List.mem_of_getElem? hy), fun j v hj => ?_⟩
  obtain ⟨b', hb', _, hcell⟩ := Row.cell h (hf j v hj)
  obtain rfl : b' = b := by omega
  rw [addr_add, Nat.zero_add, hTk]
  exact hcell
theorem flatMap_put (hl : ∀ x, (en x).length = k) : ∀ (xs : List β) (i : Nat) (y : β), i < xs.length → (xs.flatMap en).take (i * k) ++ en y ++ (xs.flatMap en).drop (i * k + k) = (xs.set i y).flatMap en
  | [], i, y, h => by simp at h
  | x :: xs, 0, y, _ => by
    rw [Nat.zero_mul, List.take_zero, List.nil_append, Nat.zero_add, List.flatMap_cons, List.drop_append, hl, Nat.sub_self, List.drop_zero, List.drop_of_length_le (by rw [hl]; exact Nat.le_refl _), List.nil_append, List.set_cons_zero, List.flatMap_cons]
  | x :: xs, i + 1, y, h => by
    have ih := flatMap_put hl xs i y (by simpa using h)
    rw [List.set_cons_succ, List.flatMap_cons, List.flatMap_cons, List.take_append, hl, List.take_of_length_le (by rw [hl, Nat.succ_mul]; omega), show (i + 1) * k - k = i * k by rw [Nat.succ_mul]; omega, List.drop_append, hl, List.drop_of_length_le (by rw [hl, Nat.succ_mul]; omega), List.nil_append, show (i + 1) * k + k - k = i * k + k by rw [Nat.succ_mul]; omega, ← ih]
    simp only [List.append_assoc]
def setL : List Value → Nat → List Value → List Value
  | cs, _, [] => cs
  | cs, p, v :: vs => setL (cs.set p v) (p + 1) vs
theorem setL_eq : ∀ (vs cs : List Value) (p : Nat), p + vs.length ≤ cs.length → setL cs p vs = cs.take p ++ vs ++ cs.drop (p + vs.length)
  | [], cs, p, _ => by simp [setL]
  | v :: vs, cs, p, h => by
    simp only [List.length_cons] at h
    unfold setL
    rw [setL_eq vs (cs.set p v) (p + 1) (by simp; omega), List.drop_set_of_lt (by omega), List.take_set, List.length_cons, show p + 1 + vs.length = p + (vs.length + 1) by omega, List.take_succ_eq_append_getElem (by omega), List.set_append_right _ _ (by simp; omega)]
    have : p - (cs.take p).length = 0 := by rw [List.length_take]; omega
    rw [this, List.set_cons_zero]
    simp
def wrS : World → Addr → Nat → List Value → (World → Prop) → Prop
  | w, _, _, [], K => K w
  | w, q, j, v :: vs, K => okSt w (q.add j) ∧ nw (w.setCell (q.add j) v) fun w' => wrS w' q (j + 1) vs K
/-- Cells of an own row are written, one behind the other. -/
theorem Row.wrS {size : Nat} {b : Nat} {K : World → Prop} : ∀ (vs : List Value) (w : World) (cs : List Value) (p j : Nat), Row w e size (some ⟨b, 0, none⟩) n c cs (b + 1) → p + j + vs.length ≤ n * size → (∀ u, Row u e size (some ⟨b, 0, none⟩) n c (setL cs (p + j) vs) (b + 1) → Only (b + 1) w u → K u) → wrS w (⟨b, p, none⟩ : Addr) j vs K
  | [], w, cs, p, j, h, _, hk => hk w h (Mod.refl _)
  | v :: vs, w, cs, p, j, h, hlt, hk => by
    simp only [List.length_cons] at hlt
    obtain ⟨b', hb', _, hok, hr, ho⟩ := Row.set h (i := p + j) (by omega) v
    obtain rfl : b' = b := by omega
    refine ⟨by rw [addr_add]; exact hok, nw_mk ?_⟩
    rw [addr_add]
    refine Row.wrS vs _ _ p (j + 1) hr (by omega) fun u hu ho2 => hk u ?_ (ho.trans ho2 (fun _ _ h => h) (fun _ _ h => h))
    rw [show p + (j + 1) = p + j + 1 by omega] at hu
    exact hu
/-- A whole element of an own row is written. -/
theorem ArrK.put {l : List β} (hl : ∀ x, (en x).length = k) (h : ArrK k en e w a n c l g) {i : Nat} (hi : i < l.length) (hln : n = l.length) {y : β} {K : World → Prop} (hk : ∀ u, ArrK k en e u a n c (l.set i y) g → Only g w u → K u) :
    ∃ b, g = b + 1 ∧ a = some ⟨b, 0, none⟩ ∧ Go.E.wrS w (⟨b, i * k, none⟩ : Addr) 0 (en y) K := by
  have hin : i < n := by omega
  rcases h.2 with ⟨_, _, h0, _⟩ | ⟨b, cur, rfl, rfl, _⟩
  · omega
  · have hle : i * k + k ≤ n * k := by have := Nat.mul_le_mul_right k hin; rw [Nat.succ_mul] at this; omega
    refine ⟨b, rfl, rfl, Row.wrS (en y) w (l.flatMap en) (i * k) 0 h (by rw [hl]; omega) fun u hu ho => hk u ?_ ho⟩
    have hlen : (l.flatMap en).length = n * k := h.1
    rw [setL_eq _ _ _ (by rw [hl, hlen]; omega), hl, Nat.add_zero, flatMap_put hl l i y hi] at hu
    exact hu
end
section
variable {w u : World} {a : Option Addr} {n c g e : Nat} {F S : Nat → Prop}
theorem ArrK.lsN {l : List (ND × SH)} (h : ArrK 8 enH e w a n c l g) (hF : ∀ b, b + 1 = g → F b) (hc : ∀ x ∈ l, Ls (tInt .i64) F w x.2.a x.2.n x.2.c x.1.cats) : Ls tN F w a n c (l.map (·.1)) :=
  ArrK.lsK (T := tN) (k := 8) (en := enH) (f := fun x => x.1) (fun _ => rfl) (by omega) rfl h hF fun x hx => ⟨_, _, _, rfl, hc x hx⟩
theorem ArrK.lsT {l : List (TD × SH)} (h : ArrK 2 enTH e w a n c l g) (hF : ∀ b, b + 1 = g → F b) (hc : ∀ x ∈ l, Ls tN F w x.2.a x.2.n x.2.c x.1.nodes) : Ls tT F w a n c (l.map (·.1)) :=
  ArrK.lsK (T := tT) (k := 2) (en := enTH) (f := fun x => x.1) (fun _ => rfl) (by omega) rfl h hF fun x hx => ⟨_, _, _, rfl, hc x hx⟩
theorem ArrK.lenH {l : List (ND × SH)} (h : ArrK 8 enH e w a n c l g) : n = l.length := ArrK.len (k := 8) (en := enH) (fun _ => rfl) (by omega) h
theorem ArrK.lenTH {l : List (TD × SH)} (h : ArrK 2 enTH e w a n c l g) : n = l.length := ArrK.len (k := 2) (en := enTH) (fun _ => rfl) (by omega) h
/-- A node of an own row is written. -/
theorem ArrK.wrN {l : List (ND × SH)} (h : ArrK 8 enH e w a n c l g) {i : Int} (h0 : 0 ≤ i) (hi : i < n) {x : ND × SH} {K : World → Prop} (hk : ∀ u, ArrK 8 enH e u a n c (l.set i.toNat x) g → Only g w u → K u) :
    optN a fun q => chk (0 ≤ i ∧ i < (n : Int)) (okSt w ((q.add (i.toNat * 8)).add 0) ∧ (nw (w.setCell ((q.add (i.toNat * 8)).add 0) (.int .u8 x.1.kind)) fun w1 => okSt w1 ((q.add (i.toNat * 8)).add 1) ∧ (nw (w1.setCell ((q.add (i.toNat * 8)).add 1) (.int .i64 x.1.value)) fun w2 => okSt w2 ((q.add (i.toNat * 8)).add 2) ∧ (nw (w2.setCell ((q.add (i.toNat * 8)).add 2) (.int .i64 x.1.feature)) fun w3 => okSt w3 ((q.add (i.toNat * 8)).add 3) ∧ (nw (w3.setCell ((q.add (i.toNat * 8)).add 3) (.float .f64 x.1.thr)) fun w4 => okSt w4 ((q.add (i.toNat * 8)).add 4) ∧ (nw (w4.setCell ((q.add (i.toNat * 8)).add 4) (.slice x.2.a x.2.n x.2.c)) fun w5 => okSt w5 ((q.add (i.toNat * 8)).add 5) ∧ (nw (w5.setCell ((q.add (i.toNat * 8)).add 5) (.int .u8 x.1.missing)) fun w6 => okSt w6 ((q.add (i.toNat * 8)).add 6) ∧ (nw (w6.setCell ((q.add (i.toNat * 8)).add 6) (.int .i64 x.1.left)) fun w7 => okSt w7 ((q.add (i.toNat * 8)).add 7) ∧ (nw (w7.setCell ((q.add (i.toNat * 8)).add 7) (.int .i64 x.1.right)) fun w8 => K w8))))))))) := by
  obtain ⟨b, rfl, rfl, hw⟩ := ArrK.put (k := 8) (en := enH) (fun _ => rfl) h (i := i.toNat) (by have := h.lenH; omega) h.lenH hk
  refine chk_mk ⟨h0, hi⟩ ?_
  simp only [addr_add, Nat.zero_add]
  simp only [Go.E.wrS, enH, enN, addr_add, Nat.zero_add] at hw
  exact hw
/-- A tree of an own row is written. -/
theorem ArrK.wrT {l : List (TD × SH)} (h : ArrK 2 enTH e w a n c l g) {i : Int} (h0 : 0 ≤ i) (hi : i < n) {x : TD × SH} {K : World → Prop} (hk : ∀ u, ArrK 2 enTH e u a n c (l.set i.toNat x) g → Only g w u → K u) :
    optN a fun q => chk (0 ≤ i ∧ i < (n : Int)) (okSt w ((q.add (i.toNat * 2)).add 0) ∧ (nw (w.setCell ((q.add (i.toNat * 2)).add 0) (.int .i64 x.1.output)) fun w1 => okSt w1 ((q.add (i.toNat * 2)).add 1) ∧ (nw (w1.setCell ((q.add (i.toNat * 2)).add 1) (.slice x.2.a x.2.n x.2.c)) fun w2 => K w2))) := by
  obtain ⟨b, rfl, rfl, hw⟩ := ArrK.put (k := 2) (en := enTH) (fun _ => rfl) h (i := i.toNat) (by have := h.lenTH; omega) h.lenTH hk
  refine chk_mk ⟨h0, hi⟩ ?_
  simp only [addr_add, Nat.zero_add]
  simp only [Go.E.wrS, enTH, addr_add, Nat.zero_add] at hw
  exact hw
end
theorem Kept.fr {w u : World} (h : Kept w u) : From w.heap.size w u := Kept.mod h
/-! ### a variable's cells -/
section
variable {w u : World} {e : Nat} {cs : Array Value}
/-- One cell of a block of one's own is written. -/
theorem Blk.wr {b0 : World} (h : Blk w b0.heap.size cs e) {i : Nat} {v : Value} (hi : i < cs.size) {K : World → Prop} (hk : ∀ u, Blk u b0.heap.size (cs.setIfInBounds i v) e → Only (b0.heap.size + 1) w u → K u) :
    okSt w ((na b0).add i) ∧ nw (w.setCell ((na b0).add i) v) K := by
  rw [na_add]
  exact ⟨h.ok hi, hk _ (h.set i v) (Only.set w _ _ v)⟩
theorem Blk.wr0 {b0 : World} (h : Blk w b0.heap.size cs e) {i : Nat} {v : Value} (hi : i < cs.size) {K : World → Prop} (hk : ∀ u, Blk u b0.heap.size (cs.setIfInBounds i v) e → Only (b0.heap.size + 1) w u → K u) :
    okSt w (((na b0).add i).add 0) ∧ nw (w.setCell (((na b0).add i).add 0) v) K := by
  rw [add_zero]
  exact h.wr hi hk
end
set_option maxHeartbeats 1000000 in
/-- A new node is filled. -/
theorem fill8 {w b0 : World} {e : Nat} {x : ND} {a : Option Addr} {n c : Nat} (h : Blk w b0.heap.size #[.int .u8 0, .int .i64 0, .int .i64 0, .float .f64 0, .slice none 0 0, .int .u8 0, .int .i64 0, .int .i64 0] e) {K : World → Prop} (hk : ∀ u, Blk u b0.heap.size (enN x a n c).toArray e → At8 u (na b0) x a n c → Only (b0.heap.size + 1) w u → K u) :
    okSt w ((na b0).add 0) ∧ (nw (w.setCell ((na b0).add 0) (.int .u8 x.kind)) fun w1 => okSt w1 ((na b0).add 1) ∧ (nw (w1.setCell ((na b0).add 1) (.int .i64 x.value)) fun w2 => okSt w2 ((na b0).add 2) ∧ (nw (w2.setCell ((na b0).add 2) (.int .i64 x.feature)) fun w3 => okSt w3 ((na b0).add 3) ∧ (nw (w3.setCell ((na b0).add 3) (.float .f64 x.thr)) fun w4 => okSt w4 ((na b0).add 4) ∧ (nw (w4.setCell ((na b0).add 4) (.slice a n c)) fun w5 => okSt w5 ((na b0).add 5) ∧ (nw (w5.setCell ((na b0).add 5) (.int .u8 x.missing)) fun w6 => okSt w6 ((na b0).add 6) ∧ (nw (w6.setCell ((na b0).add 6) (.int .i64 x.left)) fun w7 => okSt w7 ((na b0).add 7) ∧ (nw (w7.setCell ((na b0).add 7) (.int .i64 x.right)) fun w8 => K w8)))))))) := by
  have st : ∀ {w u x : World}, Only (b0.heap.size + 1) w u → Only (b0.heap.size + 1) u x → Only (b0.heap.size + 1) w x := fun h k => h.trans k (fun _ _ h => h) (fun _ _ h => h)
  exact h.wr (by simp) fun u1 b1 o1 => b1.wr (by simp) fun u2 b2 o2 => b2.wr (by simp) fun u3 b3 o3 => b3.wr (by simp) fun u4 b4 o4 => b4.wr (by simp) fun u5 b5 o5 => b5.wr (by simp) fun u6 b6 o6 => b6.wr (by simp) fun u7 b7 o7 => b7.wr (by simp) fun u8 b8 o8 => hk u8 b8 (.of_blk b8) (st (st (st (st (st (st (st o1 o2) o3) o4) o5) o6) o7) o8)
/-! ### appends and clones of flat rows -/
section
variable {α : Type} {k : Nat} {en : α → List Value} {w u : World} {a : Option Addr} {n c g e m : Nat} {xs ys : List α} {S : Nat → Prop}
/-- append of an element that lies in memory. -/
theorem ArrK.pushAt {P : Program} {t ty by_ d : Nat} (hT : SliceT P t e k by_) (hl : ∀ x, (en x).length = k) (hk0 : 0 < k) (h : ArrK k en e w a n c xs g) {x : α} {q : Addr} (hq : ∀ j v, (en x)[j]? = some v → w.cell? (q.add j) = some v) (h1 : ∀ v ∈ en x, v.oneCell' = true) (h63 : n + 1 ≤ maxLen) (hb : (n + 1) * by_ ≤ 140737488355328) {K : Value → World → Prop}
    (hk : ∀ a' c' g' u, ArrK k en e u a' (n + 1) c' (xs ++ [x]) g' → (g' = g ∨ w.heap.size < g') → g' ≠ 0 → Only g w u → K (.slice a' (n + 1) c') u) :
    rawN P (Builtin.append_ #[t, t] ty #[.slice a n c, .slice (some q) 1 d]) w K := by
  refine rawN_row hT hk0 h (news := en x) (by simp [hl]) (fun j u hj => ⟨_, rfl, hq j u hj⟩) (fun h => by cases h) h1 h63 hb fun a' c' g' u hr hg ho => ?_
  refine hk a' c' g' u (by unfold ArrK; simpa using hr) (by omega) ?_ ho
  rcases hr.2 with ⟨_, _, h0, _⟩ | ⟨b, _, rfl, _⟩ <;> omega
theorem SlK.none {a : Option Addr} (hl : ∀ x, (en x).length = k) (hk0 : 0 < k) (hs : SlK k en w a m ys) (ha : a = none) : m = 0 ∧ ys = [] := by
  cases ys with
  | nil => exact ⟨by simpa using hs.len, rfl⟩
  | cons y l => obtain ⟨p, hp, _⟩ := hs.get 0 y rfl; rw [ha] at hp; cases hp
theorem ArrK.pushes {P : Program} {t ty by_ d : Nat} (hT : SliceT P t e k by_) (hl : ∀ x, (en x).length = k) (hk0 : 0 < k) (h : ArrK k en e w a n c xs g) (h1 : ∀ x, ∀ v ∈ en x, v.oneCell' = true) {s : Option Addr} (hs : SlK k en w s m ys) (h63 : n + m ≤ maxLen) (hb : (n + m) * by_ ≤ 140737488355328) {K : Value → World → Prop}
    (hk : ∀ a' c' g' u, ArrK k en e u a' (n + m) c' (xs ++ ys) g' → (g' = g ∨ w.heap.size < g') → Only g w u → K (.slice a' (n + m) c') u) :
    rawN P (Builtin.append_ #[t, t] ty #[.slice a n c, .slice s m d]) w K := by
  refine rawN_row hT hk0 h (news := ys.flatMap en) (by rw [flatMap_length ys (fun x _ => hl x), hs.len]) (fun j u hj => ?_) (fun h0 => (hs.none hl hk0 h0).1) (fun v hv => ?_) h63 hb fun a' c' g' u hr hg ho => ?_
  · have hlt := (List.getElem?_eq_some_iff.1 hj).1
    rw [flatMap_length ys (fun x _ => hl x)] at hlt
    have hi : j / k < ys.length := (Nat.div_lt_iff_lt_mul hk0).2 hlt
    obtain ⟨p, hp, hc⟩ := hs.get (j / k) _ (List.getElem?_eq_getElem hi)
    have hm : j % k < (en ys[j / k]).length := by rw [hl]; exact Nat.mod_lt _ hk0
    have e1 := flatMap_at ys (fun x _ => hl x) (j / k) _ (List.getElem?_eq_getElem hi) (j % k) _ (List.getElem?_eq_getElem hm)
    have hj' : j / k * k + j % k = j := by rw [Nat.mul_comm]; exact Nat.div_add_mod j k
    rw [hj', hj] at e1
    have e2 := hc (j % k) _ (List.getElem?_eq_getElem hm)
    rw [hj'] at e2
    refine ⟨p, hp, ?_⟩
    rw [e2]
    exact e1.symm
  · obtain ⟨x, _, hx⟩ := List.mem_flatMap.1 hv
    exact h1 x v hx
  · exact hk a' c' g' u (by unfold ArrK; simpa using hr) (by omega) ho
/-- slices.Clone's two ways of elements of several cells. -/
theorem cloneK {P : Program} {t ty by_ : Nat} (hT : SliceT P t e k by_) (hl : ∀ x, (en x).length = k) (hk0 : 0 < k) (h1 : ∀ x, ∀ v ∈ en x, v.oneCell' = true) (hs : SlK k en w a n xs) (h63 : n ≤ maxLen) (hb : n * by_ ≤ 140737488355328) {R : Value → World → Prop} {K : Value → World → Prop}
    (hR : a = none → xs = [] → R (.slice none 0 0) w) (hk : ∀ a' c' g' u, ArrK k en e u a' n c' xs g' → w.heap.size < g' → Kept w u → K (.slice a' n c') u) :
    onBool a.isNone (R (.slice none 0 0) w) (nw (w.alloc (.cells #[] e)) fun w' => rawN P (Builtin.append_ #[t, t] ty #[.slice (some (na w)) 0 0, .slice a n c]) w' K) := by
  refine (onBool_iff _ _ _).2 ⟨fun h => ?_, fun h => nw_mk ?_⟩
  · have ha : a = none := by simpa using h
    exact hR ha (hs.none hl hk0 ha).2
  · have hk0' := Kept.new w (.cells #[] e)
    have h0 := ArrK.new (k := k) (en := en) hl e w [] #[] rfl (by simp [maxLen])
    refine ArrK.pushes hT hl hk0 h0 h1 (hs.keep hk0') (by simpa using h63) (by simpa using hb) fun a' c' g' u ha hg ho => ?_
    simp only [List.length_nil, Nat.zero_add, List.nil_append] at ha ⊢
    have hsz : w.heap.size < (w.alloc (.cells #[] e)).heap.size := by simp
    exact hk a' c' g' u ha (by omega) (From.kept (hk0'.fr.only ho (.inr (by omega))))
end
theorem madeCells_flat {α : Type} {k : Nat} {en : α → List Value} {x : α} {vs : Array Value} (hl : ∀ x, (en x).length = k) (hk : 0 < k) (hv : vs.toList = en x) (n : Nat) : (madeCells vs (n * k)).toList = (List.replicate n x).flatMap en := by
  have hvs : vs.size = k := by rw [← Array.length_toList, hv, hl]
  apply List.ext_getElem?
  intro j
  by_cases hj : j < n * k
  · have hi : j / k < n := (Nat.div_lt_iff_lt_mul hk).2 hj
    have hm : j % k < (en x).length := by rw [hl]; exact Nat.mod_lt _ hk
    have e1 := flatMap_at (List.replicate n x) (en := en) (fun x _ => hl x) (j / k) x (by rw [List.getElem?_replicate, if_pos hi]) (j % k) _ (List.getElem?_eq_getElem hm)
    have hj' : j / k * k + j % k = j := by rw [Nat.mul_comm]; exact Nat.div_add_mod j k
    rw [hj'] at e1
    rw [e1, Array.getElem?_toList]
    have e2 : vs.toList[j % k]? = (en x)[j % k]? := by rw [hv]
    rw [List.getElem?_eq_getElem hm, Array.getElem?_toList] at e2
    unfold madeCells
    rw [Array.getElem?_map, hvs]
    have e3 : (Array.range (n * k))[j]? = some j := by simp [hj]
    rw [e3]
    simp only [Option.map_some, Option.some.injEq]
    simp [getElem!_def, e2]
  · rw [List.getElem?_eq_none (by rw [Array.length_toList, size_madeCells]; omega), List.getElem?_eq_none (by rw [flatMap_length _ (fun x _ => hl x), List.length_replicate]; omega)]
/-- make of elements of several cells. -/
theorem ArrK.made {α : Type} {k : Nat} {en : α → List Value} {x : α} {vs : Array Value} (hl : ∀ x, (en x).length = k) (hk : 0 < k) (hv : vs.toList = en x) (e : Nat) (w : World) (n : Nat) (hn : n ≤ maxLen) : ArrK k en e (w.alloc (.cells (madeCells vs (n * k)) e)) (some (na w)) n n (List.replicate n x) (w.heap.size + 1) := by
  have := Row.new w e k n (madeCells vs (n * k)) (size_madeCells _ _) hn
  rwa [madeCells_flat hl hk hv] at this
/-- make of no elements and some room. -/
theorem ArrK.make0 {α : Type} {k : Nat} {en : α → List Value} {w : World} {e : Nat} {K : World → Prop} {vs : Array Value} (hv : vs.size = k) {l : Int} {by_ : Nat} (h0 : 0 ≤ l) (hb : (by_ : Int) * l ≤ 281474976710656) (hm : l ≤ 9223372036854775807)
    (hk : ∀ u, ArrK k en e u (some (na w)) 0 l.toNat [] (w.heap.size + 1) → Kept w u → K u) :
    chk ((0 : Int) ≤ 0 ∧ 0 ≤ l ∧ (by_ : Int) * l ≤ 281474976710656 ∧ l ≤ 9223372036854775807) (nw (w.alloc (.cells (madeCells vs (l.toNat * k)) e)) K) := by
  refine chk_mk ⟨Int.le_refl _, h0, hb, hm⟩ (hk _ ?_ (Kept.new w _))
  exact ⟨by simp, .inr ⟨w.heap.size, _, rfl, rfl, Blk.new w _ e, Nat.zero_le _, by simp only [maxLen]; omega, by simp [size_madeCells], by simp⟩⟩
section
variable {w u : World} {a : Option Addr} {n c g e : Nat} {F S : Nat → Prop}
theorem choose_list {α β : Type} {p : Nat → α → β → Prop} : ∀ (xs : List α), (∀ i x, xs[i]? = some x → ∃ y, p i x y) → ∃ ys : List β, ys.length = xs.length ∧ ∀ i x y, xs[i]? = some x → ys[i]? = some y → p i x y := by
  intro xs h
  have each : ∀ i : Fin xs.length, ∃ y, p i xs[i] y := fun i => h i _ (List.getElem?_eq_getElem i.isLt)
  obtain ⟨f, hf⟩ := Classical.axiomOfChoice each
  refine ⟨List.ofFn f, by simp, fun i x y hx hy => ?_⟩
  obtain ⟨hlt, rfl⟩ := List.getElem?_eq_some_iff.1 hx
  obtain ⟨hlt', rfl⟩ := List.getElem?_eq_some_iff.1 hy
  simpa using hf ⟨i, hlt⟩
theorem Ls.flat {α β : Type} {T : Ty α} {k : Nat} {en : α × β → List Value} {Q : α → β → Prop} {xs : List α} (h : Ls T F w a n c xs) (hTk : T.k = k) (hrd : ∀ x cs, T.rd F w x cs → ∃ y, cs = en (x, y) ∧ Q x y) :
    ∃ l : List (α × β), l.map (·.1) = xs ∧ SlK k en w a n l ∧ ∀ x ∈ l, Q x.1 x.2 := by
  obtain ⟨ys, hl, hy⟩ := choose_list (p := fun i x y => Q x y ∧ ∃ p, a = some p ∧ ∀ j v, (en (x, y))[j]? = some v → w.cell? (p.add (i * k + j)) = some v) xs fun i x hx => by
    obtain ⟨p, cs, h1, _, h3, h4⟩ := h.get i x hx
    obtain ⟨y, rfl, hQ⟩ := hrd x cs h3
    exact ⟨y, hQ, p, h1, fun j v hj => by rw [← hTk]; exact h4 j v hj⟩
  have hz : ∀ (i : Nat) z, (xs.zip ys)[i]? = some z → xs[i]? = some z.1 ∧ ys[i]? = some z.2 := fun i z hz => by
    rw [List.getElem?_zip_eq_some] at hz
    exact hz
  refine ⟨xs.zip ys, by rw [List.map_fst_zip]; omega, ⟨by rw [h.len, List.length_zip]; omega, fun i z hi => ?_⟩, fun z hz' => ?_⟩
  · obtain ⟨h1, h2⟩ := hz i z hi
    exact (hy i z.1 z.2 h1 h2).2
  · obtain ⟨i, hi⟩ := List.getElem?_of_mem hz'
    obtain ⟨h1, h2⟩ := hz i z hi
    exact (hy i z.1 z.2 h1 h2).1
theorem Ls.flatN {xs : List ND} (h : Ls tN F w a n c xs) : ∃ l : List (ND × SH), l.map (·.1) = xs ∧ SlK 8 enH w a n l ∧ ∀ x ∈ l, Ls (tInt .i64) F w x.2.a x.2.n x.2.c x.1.cats :=
  Ls.flat (β := SH) (en := enH) (Q := fun x y => Ls (tInt .i64) F w y.a y.n y.c x.cats) h rfl fun x cs ⟨a, n, c, h1, h2⟩ => ⟨⟨a, n, c⟩, h1, h2⟩
theorem Ls.flatT {xs : List TD} (h : Ls tT F w a n c xs) : ∃ l : List (TD × SH), l.map (·.1) = xs ∧ SlK 2 enTH w a n l ∧ ∀ x ∈ l, Ls tN F w x.2.a x.2.n x.2.c x.1.nodes :=
  Ls.flat (β := SH) (en := enTH) (Q := fun x y => Ls tN F w y.a y.n y.c x.nodes) h rfl fun x cs ⟨a, n, c, h1, h2⟩ => ⟨⟨a, n, c⟩, h1, h2⟩
/-- A part of a list. -/
theorem Ls.sub {α : Type} {T : Ty α} {xs : List α} (h : Ls T F w a n c xs) {i j : Nat} (hij : i ≤ j) (hj : j ≤ n) : Ls T F w (slA a c i T.k) (j - i) (c - i) ((xs.take j).drop i) := by
  have hn := h.len
  have hc := h.cap
  refine ⟨by rw [List.length_drop, List.length_take]; omega, by omega, fun m x hm => ?_⟩
  rw [List.getElem?_drop, List.getElem?_take] at hm
  split at hm
  · rename_i hlt
    obtain ⟨p, cs, rfl, h2, h3, h4⟩ := h.get (i + m) x hm
    refine ⟨p.add (i * T.k), cs, ?_, by rw [add_block]; exact h2, h3, fun jj y hy => ?_⟩
    · unfold slA; rw [if_neg (by omega)]; rfl
    · rw [add_add, show i * T.k + (m * T.k + jj) = (i + m) * T.k + jj by rw [Nat.add_mul]; omega]
      exact h4 jj y hy
  · cases hm
/-- A node of a flat row is read. -/
theorem SlK.rdH {l : List (ND × SH)} (h : SlK 8 enH w a n l) {i : Int} {K : Int → Int → Int → Nat → Option Addr → Nat → Nat → Int → Int → Int → Prop} (h0 : 0 ≤ i) (hi : i < n)
    (hk : ∀ x, l[i.toNat]? = some x → K x.1.kind x.1.value x.1.feature x.1.thr x.2.a x.2.n x.2.c x.1.missing x.1.left x.1.right) :
    optN a fun q => chk (0 ≤ i ∧ i < (n : Int)) (∃ y0 : Int, w.cell? ((q.add (i.toNat * 8)).add 0) = some (.int .u8 y0) ∧ (∃ y1 : Int, w.cell? ((q.add (i.toNat * 8)).add 1) = some (.int .i64 y1) ∧ (∃ y2 : Int, w.cell? ((q.add (i.toNat * 8)).add 2) = some (.int .i64 y2) ∧ (∃ y3 : Nat, w.cell? ((q.add (i.toNat * 8)).add 3) = some (.float .f64 y3) ∧
      (∃ ya : Option Addr, ∃ yn : Nat, ∃ yc : Nat, w.cell? ((q.add (i.toNat * 8)).add 4) = some (.slice ya yn yc) ∧ (∃ y5 : Int, w.cell? ((q.add (i.toNat * 8)).add 5) = some (.int .u8 y5) ∧ (∃ y6 : Int, w.cell? ((q.add (i.toNat * 8)).add 6) = some (.int .i64 y6) ∧ (∃ y7 : Int, w.cell? ((q.add (i.toNat * 8)).add 7) = some (.int .i64 y7) ∧
        K y0 y1 y2 y3 ya yn yc y5 y6 y7)))))))) := by
  have hi' : i.toNat < l.length := by have := h.len; omega
  obtain ⟨p, rfl, hc⟩ := h.get i.toNat _ (List.getElem?_eq_getElem hi')
  have h8 : At8 w (p.add (i.toNat * 8)) (l[i.toNat]).1 (l[i.toNat]).2.a (l[i.toNat]).2.n (l[i.toNat]).2.c := .of fun j v hj => by rw [add_add]; exact hc j v hj
  exact chk_mk ⟨h0, hi⟩ (h8.ld (hk _ (List.getElem?_eq_getElem hi')))
/-- A tree of a flat row is read. -/
theorem SlK.rdTH {l : List (TD × SH)} (h : SlK 2 enTH w a n l) {i : Int} {K : Int → Option Addr → Nat → Nat → Prop} (h0 : 0 ≤ i) (hi : i < n) (hk : ∀ x, l[i.toNat]? = some x → K x.1.output x.2.a x.2.n x.2.c) :
    optN a fun q => chk (0 ≤ i ∧ i < (n : Int)) (∃ y0 : Int, w.cell? ((q.add (i.toNat * 2)).add 0) = some (.int .i64 y0) ∧ (∃ ya : Option Addr, ∃ yn : Nat, ∃ yc : Nat, w.cell? ((q.add (i.toNat * 2)).add 1) = some (.slice ya yn yc) ∧ K y0 ya yn yc)) := by
  have hi' : i.toNat < l.length := by have := h.len; omega
  obtain ⟨p, rfl, hc⟩ := h.get i.toNat _ (List.getElem?_eq_getElem hi')
  exact chk_mk ⟨h0, hi⟩ ⟨_, by rw [add_add]; exact hc 0 _ rfl, _, _, _, by rw [add_add]; exact hc 1 _ rfl, hk _ (List.getElem?_eq_getElem hi')⟩
/-- A world that says nothing of one block. -/
theorem CK.hide {w u : World} {b : Nat} (hm : Mod (fun k => k = b) w u) : CK (w.putObj b (.deferred none)) u := by
  intro a v h
  by_cases hb : a.block = b
  · exfalso
    have hlt := block_lt_of_cell h
    have hlt' : b < w.heap.size := by rw [← hb]; simpa [World.putObj] using hlt
    unfold World.cell? at h
    rw [hb] at h
    simp [World.putObj, hlt'] at h
  · have h1 : w.cell? a = some v := by
      rw [World.cell?_of_block (show (w.putObj b (.deferred none)).heap[a.block]? = w.heap[a.block]? from (Mod.put (S := fun k => k = b) w (.deferred none) rfl).block a.block (by simpa [World.putObj] using block_lt_of_cell h) hb)] at h
      exact h
    exact hm.cell hb h1
theorem hide_rd {w : World} {b : Nat} {a : Addr} {v : Value} (h : w.cell? a = some v) (hb : a.block ≠ b) : (w.putObj b (.deferred none)).cell? a = some v := (Mod.put (S := fun k => k = b) w (.deferred none) rfl).cell hb h
/-- One cell of an element is written, in whatever world that has left alone what was there. -/
theorem ArrK.wrCell {α : Type} {k : Nat} {en : α → List Value} {xs : List α} (hl : ∀ x, (en x).length = k) (h : ArrK k en e w a n c xs g) {i j : Nat} {x y : α} {v : Value} (hx : xs[i]? = some x) (hi : i < n) (hj : j < k) (hy : en y = (en x).set j v) {K : World → Prop} (hk : ∀ u, ArrK k en e u a n c (xs.set i y) g → Only g w u → K u) :
    ∃ q, a = some q ∧ okSt w (((q.add (i * k)).add j).add 0) ∧ nw (w.setCell (((q.add (i * k)).add j).add 0) v) K := by
  obtain ⟨b, rfl, rfl, h3, h4, h5⟩ := ArrK.set hl h hx hi hj hy
  refine ⟨_, rfl, ?_⟩
  simp only [addr_add, Nat.zero_add, Nat.add_zero]
  exact ⟨h3, hk _ h4 h5⟩
end
/-! ### ensembles -/
section
variable {w u : World} {p : Addr} {e : ED} {f b t : SH} {S : Nat → Prop} {ty : Nat}
theorem At5.ld (h : At5 w p e f b t) {K : ByteArray → Option Addr → Nat → Nat → Int → Option Addr → Nat → Nat → Option Addr → Nat → Nat → Prop} (hk : K e.name f.a f.n f.c e.outputs b.a b.n b.c t.a t.n t.c) :
    ∃ y0 : ByteArray, w.cell? (p.add 0) = some (.string y0) ∧ (∃ a1 : Option Addr, ∃ n1 : Nat, ∃ c1 : Nat, w.cell? (p.add 1) = some (.slice a1 n1 c1) ∧ (∃ y2 : Int, w.cell? (p.add 2) = some (.int .i64 y2) ∧ (∃ a3 : Option Addr, ∃ n3 : Nat, ∃ c3 : Nat, w.cell? (p.add 3) = some (.slice a3 n3 c3) ∧
      (∃ a4 : Option Addr, ∃ n4 : Nat, ∃ c4 : Nat, w.cell? (p.add 4) = some (.slice a4 n4 c4) ∧ K y0 a1 n1 c1 y2 a3 n3 c3 a4 n4 c4)))) :=
  ⟨_, h.c0, _, _, _, h.c1, _, h.c2, _, _, _, h.c3, _, _, _, h.c4, hk⟩
/-- An ensemble in a block of its own, field by field. -/
theorem box5z {K : World → Prop} (hk : ∀ u, Blk u w.heap.size (enE e f b t).toArray ty → At5 u (na w) e f b t → Kept w u → K u) :
    nw (w.alloc (.cells #[.string ⟨#[]⟩, .slice none 0 0, .int .i64 0, .slice none 0 0, .slice none 0 0] ty)) fun w0 => okSt w0 ((na w).add 0) ∧ (nw (w0.setCell ((na w).add 0) (.string e.name)) fun w1 => okSt w1 ((na w).add 1) ∧ (nw (w1.setCell ((na w).add 1) (.slice f.a f.n f.c)) fun w2 => okSt w2 ((na w).add 2) ∧ (nw (w2.setCell ((na w).add 2) (.int .i64 e.outputs)) fun w3 => okSt w3 ((na w).add 3) ∧ (nw (w3.setCell ((na w).add 3) (.slice b.a b.n b.c)) fun w4 => okSt w4 ((na w).add 4) ∧ (nw (w4.setCell ((na w).add 4) (.slice t.a t.n t.c)) fun w5 => K w5))))) := by
  have b0 := Blk.new w #[.string ⟨#[]⟩, .slice none 0 0, .int .i64 0, .slice none 0 0, .slice none 0 0] ty
  have s0 : From w.heap.size w _ := Kept.mod (Kept.new w (.cells #[.string ⟨#[]⟩, .slice none 0 0, .int .i64 0, .slice none 0 0, .slice none 0 0] ty))
  have st : ∀ {u u' : World}, From w.heap.size w u → Only (w.heap.size + 1) u u' → From w.heap.size w u' := fun s o => s.only o (.inr (by omega))
  refine nw_mk (b0.wr (by simp) fun u1 b1 o1 => b1.wr (by simp) fun u2 b2 o2 => b2.wr (by simp) fun u3 b3 o3 => b3.wr (by simp) fun u4 b4 o4 => b4.wr (by simp) fun u5 b5 o5 => ?_)
  exact hk u5 b5 (.of_blk b5) (st (st (st (st (st s0 o1) o2) o3) o4) o5).kept
end
end Go.E

namespace Go.E
open Go Go.RowKit Go.ChangeShapes
/-! ### lists of lists of one's own -/
/-- A row in a list of rows: where it lies, what it says, its block. -/
abbrev RW (α : Type) := SH × List α × Nat
abbrev RW.s {α : Type} (t : RW α) : SH := t.1
abbrev RW.xs {α : Type} (t : RW α) : List α := t.2.1
abbrev RW.g {α : Type} (t : RW α) : Nat := t.2.2
abbrev enRW {α : Type} (t : RW α) : Value := .slice t.1.a t.1.n t.1.c
/-- Rows of one's own, each in a block of its own. -/
structure OwnM {α : Type} (en : α → Value) (eo ei B : Nat) (w : World) (a : Option Addr) (n c : Nat) (l : List (RW α)) (g : Nat) : Prop where
  out : Arr enRW eo w a n c l g
  fr : g = 0 ∨ B < g
  row : ∀ t ∈ l, Arr en ei w t.1.a t.1.n t.1.c t.2.1 t.2.2 ∧ (t.2.2 = 0 ∨ B < t.2.2)
  ap : l.Pairwise fun x y => x.2.2 = 0 ∨ x.2.2 ≠ y.2.2
section
variable {α : Type} {en : α → Value} {eo ei B : Nat} {w u : World} {a : Option Addr} {n c g : Nat} {l : List (RW α)} {S : Nat → Prop}
theorem OwnM.kept (h : OwnM en eo ei B w a n c l g) (hk : Kept w u) : OwnM en eo ei B u a n c l g := ⟨h.out.kept hk, h.fr, fun t ht => ⟨(h.row t ht).1.kept hk, (h.row t ht).2⟩, h.ap⟩
theorem OwnM.weak {B' : Nat} (h : OwnM en eo ei B w a n c l g) (hB : B' ≤ B) : OwnM en eo ei B' w a n c l g := ⟨h.out, by have := h.fr; omega, fun t ht => ⟨(h.row t ht).1, by have := (h.row t ht).2; omega⟩, h.ap⟩
theorem OwnM.mod (h : OwnM en eo ei B w a n c l g) (hm : Mod S w u) (hg : ∀ k, k + 1 = g → ¬ S k) (hr : ∀ t ∈ l, ∀ k, k + 1 = t.2.2 → ¬ S k) : OwnM en eo ei B u a n c l g :=
  ⟨h.out.mod hm hg, h.fr, fun t ht => ⟨(h.row t ht).1.mod hm (hr t ht), (h.row t ht).2⟩, h.ap⟩
theorem OwnM.nil (en : α → Value) (eo ei B : Nat) (w : World) : OwnM en eo ei B w none 0 0 [] 0 := ⟨Arr.nil _ _ _, .inl rfl, (fun t ht => by cases ht), List.Pairwise.nil⟩
theorem OwnM.len (h : OwnM en eo ei B w a n c l g) : n = l.length := h.out.len
theorem OwnM.sl2 (h : OwnM en eo ei B w a n c l g) : Sl2 en w a n (l.map (·.2.1)) := by
  refine ⟨by rw [List.length_map]; exact h.len, fun i xs hi => ?_⟩
  rw [List.getElem?_map] at hi
  obtain ⟨t, ht, rfl⟩ := Option.map_eq_some_iff.1 hi
  obtain ⟨p, hp, hc⟩ := h.out.sl.get i t ht
  exact ⟨p, hp, _, _, _, hc, (h.row t (List.mem_of_getElem? ht)).1.sl⟩
theorem Row.ne {e e' size size' : Nat} {a a' : Option Addr} {n n' c c' g g' : Nat} {cs cs' : List Value} (h : Row w e size a n c cs g) (h' : Row w e' size' a' n' c' cs' g') (hne : e ≠ e') : g = 0 ∨ g ≠ g' := by
  rcases h.2 with ⟨h0, _⟩ | ⟨b, cur, rfl, _, hb, _⟩
  · exact .inl h0
  · refine .inr fun hg => ?_
    rcases h'.2 with ⟨h0, _⟩ | ⟨b', cur', hg', _, hb', _⟩
    · omega
    · obtain rfl : b = b' := by omega
      unfold Blk at hb hb'
      rw [hb] at hb'
      cases hb'
      exact hne rfl
/-- append of one row. -/
theorem OwnM.push {P : Program} {t ty by_ : Nat} {w0 : World} {s : SH} {xs : List α} {gx : Nat} (hT : SliceT P t eo 1 by_) (hne : eo ≠ ei) (h : OwnM en eo ei B w0 a n c l g) (hk : Kept w0 w) (hx : Arr en ei w s.a s.n s.c xs gx) (hg : gx = 0 ∨ w0.heap.size < gx) (hB : B ≤ w0.heap.size)
    (h63 : n + 1 ≤ maxLen) (hb : (n + 1) * by_ ≤ 140737488355328) {K : Value → World → Prop}
    (hkk : ∀ a' c' g' u, OwnM en eo ei B u a' (n + 1) c' (l ++ [(s, xs, gx)]) g' → From B w u → K (.slice a' (n + 1) c') u) :
    nw (w.alloc (.cells #[.slice s.a s.n s.c] eo)) fun w' => rawN P (Builtin.append_ #[t, t] ty #[.slice a n c, .slice (some (na w)) 1 1]) w' K := by
  have hz := hk.size
  have ho := h.out.kept hk
  have hf := h.fr
  have hol := h.out.le
  refine ho.push hT (x := (s, xs, gx)) rfl rfl h63 hb fun a' c' g' u ha hg' hg0 hm => hkk a' c' g' u ⟨ha, by omega, fun t ht => ?_, ?_⟩ ((From.refl B w).only hm hf)
  · rcases List.mem_append.1 ht with h1 | h1
    · obtain ⟨r1, r2⟩ := h.row t h1
      refine ⟨(r1.kept hk).mod hm fun k hk1 hk2 => ?_, r2⟩
      have := Row.ne (h.out.kept hk) (r1.kept hk) hne
      have hk2' : k + 1 = g := hk2
      omega
    · obtain rfl : t = (s, xs, gx) := by simpa using h1
      refine ⟨hx.mod hm fun k hk1 hk2 => ?_, by show gx = 0 ∨ B < gx; omega⟩
      have := Row.ne (h.out.kept hk) hx hne
      have hk2' : k + 1 = g := hk2
      omega
  · rw [List.pairwise_append]
    refine ⟨h.ap, List.pairwise_singleton _ _, fun x hx1 y hy => ?_⟩
    obtain rfl : y = (s, xs, gx) := by simpa using hy
    have := (h.row x hx1).1.le
    show x.2.2 = 0 ∨ x.2.2 ≠ gx
    omega
/-- A row of a list of lists is read. -/
theorem Sl2.rdS {xss : List (List α)} (h : Sl2 en w a n xss) {i : Int} {K : Option Addr → Nat → Nat → Prop} (h0 : 0 ≤ i) (hi : i < n) (hk : ∀ xs a' n' c', xss[i.toNat]? = some xs → Sl en w a' n' xs → K a' n' c') :
    optN a fun q => chk (0 ≤ i ∧ i < (n : Int)) (∃ ya : Option Addr, ∃ yn : Nat, ∃ yc : Nat, w.cell? (q.add (i.toNat * 1)) = some (.slice ya yn yc) ∧ K ya yn yc) := by
  have hi' : i.toNat < n := by omega
  refine h.read hi' fun p a' n' c' hp hs => chk_mk ⟨h0, hi⟩ ⟨a', n', c', by rw [Nat.mul_one]; exact hp, hk _ a' n' c' (List.getElem?_eq_getElem (h.len ▸ hi')) hs⟩
end
end Go.E

namespace Go.Tr
open Go
/-! ### marks -/
structure MkD where
  node : Int
  frm : Int
  to : Int
deriving DecidableEq, Inhabited
def BT.nl (T : BT) : Nat := T.leaves.length
theorem BT.nl_leaf (i : Nat) : (BT.leaf i).nl = 1 := rfl
theorem BT.nl_node (i : Nat) (l r : BT) : (BT.node i l r).nl = l.nl + r.nl := by simp [BT.nl, BT.leaves]
theorem BT.nl_pos : ∀ T : BT, 0 < T.nl
  | .leaf _ => by rw [BT.nl_leaf]; omega
  | .node _ l r => by rw [BT.nl_node]; have := l.nl_pos; omega
theorem BT.nl_size : ∀ T : BT, T.nl ≤ T.size
  | .leaf _ => by rw [BT.nl_leaf]; exact Nat.le_refl _
  | .node _ l r => by rw [BT.nl_node]; have := l.nl_size; have := r.nl_size; simp only [BT.size]; omega
/-- The marks of a tree whose first leaf is number k. -/
def BT.marks : BT → Nat → List MkD
  | .leaf _, _ => []
  | .node i l r, k => ⟨(i : Nat), (k : Nat), (k + l.nl : Nat)⟩ :: (l.marks k ++ r.marks (k + l.nl))
theorem BT.marks_length : ∀ (T : BT) (k : Nat), (T.marks k).length + 1 = T.nl
  | .leaf _, _ => rfl
  | .node _ l r, k => by
    have h1 := l.marks_length k
    have h2 := r.marks_length (k + l.nl)
    rw [BT.nl_node]
    simp only [BT.marks, List.length_cons, List.length_append]
    omega
theorem BT.marks_in : ∀ (T : BT) (k : Nat) (m : MkD), m ∈ T.marks k → (k : Int) ≤ m.frm ∧ m.frm < m.to ∧ m.to < (k + T.nl : Nat)
  | .leaf _, _, _, h => by simp [BT.marks] at h
  | .node i l r, k, m, h => by
    rw [BT.nl_node]
    have p1 := l.nl_pos
    have p2 := r.nl_pos
    simp only [BT.marks, List.mem_cons, List.mem_append] at h
    rcases h with rfl | h | h
    · simp only; omega
    · have := l.marks_in k m h; omega
    · have := r.marks_in (k + l.nl) m h; omega
/-! ### the leaf at the end of a way, by marks -/
/-- How many leaves are to the left of the way's end. -/
def BT.eidx (c : Nat → Bool) : BT → Nat
  | .leaf _ => 0
  | .node i l r => if c i then l.eidx c else l.nl + r.eidx c
theorem BT.eidx_lt (c : Nat → Bool) : ∀ T : BT, T.eidx c < T.nl
  | .leaf _ => by simp [BT.eidx, BT.nl_leaf]
  | .node i l r => by
    have := l.eidx_lt c
    have := r.eidx_lt c
    rw [BT.nl_node]
    simp only [BT.eidx]
    split <;> omega
theorem BT.eidx_get (c : Nat → Bool) : ∀ T : BT, T.leaves[T.eidx c]? = some (T.end_ c)
  | .leaf i => rfl
  | .node i l r => by
    have h1 := l.eidx_lt c
    simp only [BT.eidx, BT.leaves, BT.end_]
    split
    · rw [List.getElem?_append_left h1]; exact l.eidx_get c
    · rw [List.getElem?_append_right (by simp [BT.nl]), show l.nl + r.eidx c - l.leaves.length = r.eidx c by simp [BT.nl]]; exact r.eidx_get c
/-- No mark of a node at which the way goes right holds the end. -/
theorem BT.marks_keep (c : Nat → Bool) : ∀ (T : BT) (k : Nat) (m : MkD), m ∈ T.marks k → c m.node.toNat = false → ¬ (m.frm ≤ (k + T.eidx c : Nat) ∧ ((k + T.eidx c : Nat) : Int) < m.to)
  | .leaf _, _, _, h, _ => by simp [BT.marks] at h
  | .node i l r, k, m, h, hc => by
    have e1 := l.eidx_lt c
    have e2 := r.eidx_lt c
    simp only [BT.marks, List.mem_cons, List.mem_append] at h
    simp only [BT.eidx]
    rcases h with rfl | h | h
    · simp only [Int.toNat_natCast] at hc
      rw [if_neg (by simp [hc])]
      simp only
      omega
    · have b := l.marks_in k m h
      split
      · exact l.marks_keep c k m h hc
      · omega
    · have b := r.marks_in (k + l.nl) m h
      split
      · omega
      · have := r.marks_keep c (k + l.nl) m h hc
        rw [Nat.add_assoc] at this
        exact this
/-- Each leaf to the left of the end is in such a mark. -/
theorem BT.marks_cut (c : Nat → Bool) : ∀ (T : BT) (k j : Nat), k ≤ j → j < k + T.eidx c → ∃ m ∈ T.marks k, c m.node.toNat = false ∧ m.frm ≤ (j : Int) ∧ (j : Int) < m.to
  | .leaf _, k, j, h1, h2 => by simp [BT.eidx] at h2; omega
  | .node i l r, k, j, h1, h2 => by
    simp only [BT.eidx] at h2
    split at h2
    · obtain ⟨m, hm, h⟩ := l.marks_cut c k j h1 h2
      exact ⟨m, by simp [BT.marks, hm], h⟩
    · rename_i hc
      by_cases hj : j < k + l.nl
      · refine ⟨⟨(i : Nat), (k : Nat), (k + l.nl : Nat)⟩, by simp [BT.marks], by simpa using hc, ?_, ?_⟩ <;> simp only <;> omega
      · obtain ⟨m, hm, h⟩ := r.marks_cut c (k + l.nl) j (by omega) (by omega)
        exact ⟨m, by simp [BT.marks, hm], h⟩
end Go.Tr
namespace Go.E
open Go Go.RowKit Go.ChangeShapes Go.Tr
def enM (x : MkD) : List Value := [.int .i64 x.node, .int .i64 x.frm, .int .i64 x.to]
theorem enM_len (x : MkD) : (enM x).length = 3 := rfl
theorem enM_one (x : MkD) : ∀ v ∈ enM x, v.oneCell' = true := by
  intro v hv
  simp only [enM, List.mem_cons, List.not_mem_nil, or_false] at hv
  rcases hv with h | h | h <;> subst h <;> rfl
structure At3 (w : World) (p : Addr) (x : MkD) : Prop where
  c0 : w.cell? (p.add 0) = some (.int .i64 x.node)
  c1 : w.cell? (p.add 1) = some (.int .i64 x.frm)
  c2 : w.cell? (p.add 2) = some (.int .i64 x.to)
section
variable {w u : World} {p : Addr} {x : MkD} {a : Option Addr} {n c g e : Nat} {xs : List MkD} {S : Nat → Prop} {i : Int}
theorem At3.mod (h : At3 w p x) (hm : Mod S w u) (hn : ¬ S p.block) : At3 u p x := ⟨hm.cell hn h.c0, hm.cell hn h.c1, hm.cell hn h.c2⟩
theorem At3.kept (h : At3 w p x) (hm : Kept w u) : At3 u p x := h.mod (S := fun _ => False) (Kept.mod hm) (fun h => h)
theorem At3.of_blk {b : World} (h : Blk w b.heap.size (enM x).toArray e) : At3 w (na b) x := ⟨h.rd rfl, h.rd rfl, h.rd rfl⟩
/-- A mark of a list is read. -/
theorem SlK.rdM (h : SlK 3 enM w a n xs) {K : Int → Int → Int → Prop} (h0 : 0 ≤ i) (hi : i < n) (hk : ∀ x, xs[i.toNat]? = some x → K x.node x.frm x.to) :
    optN a fun q => chk (0 ≤ i ∧ i < (n : Int)) (∃ y : Int, w.cell? ((q.add (i.toNat * 3)).add 0) = some (.int .i64 y) ∧ (∃ z : Int, w.cell? ((q.add (i.toNat * 3)).add 1) = some (.int .i64 z) ∧ (∃ t : Int, w.cell? ((q.add (i.toNat * 3)).add 2) = some (.int .i64 t) ∧ K y z t))) := by
  have hi' : i.toNat < n := by omega
  refine h.read hi' fun p hp => chk_mk ⟨h0, hi⟩ ⟨_, ?_, _, ?_, _, ?_, hk _ (List.getElem?_eq_getElem (h.len ▸ hi'))⟩
  · rw [add_add]; exact hp 0 _ rfl
  · rw [add_add]; exact hp 1 _ rfl
  · rw [add_add]; exact hp 2 _ rfl
/-- A mark of an own row gets its end. -/
theorem ArrK.wrHi (h : ArrK 3 enM e w a n c xs g) {K : World → Prop} (h0 : 0 ≤ i) (hi : i < n) {v : Int} {x : MkD} (hx : xs[i.toNat]? = some x) (hk : ∀ u, ArrK 3 enM e u a n c (xs.set i.toNat ⟨x.node, x.frm, v⟩) g → Only g w u → K u) :
    optN a fun q => chk (0 ≤ i ∧ i < (n : Int)) (okSt w (((q.add (i.toNat * 3)).add 2).add 0) ∧ nw (w.setCell (((q.add (i.toNat * 3)).add 2).add 0) (.int .i64 v)) K) := by
  obtain ⟨b, rfl, rfl, h3, h4, h5⟩ := ArrK.set (k := 3) (en := enM) enM_len h (i := i.toNat) (j := 2) (x := x) (y := ⟨x.node, x.frm, v⟩) (v := .int .i64 v) hx (by omega) (by omega) rfl
  refine chk_mk ⟨h0, hi⟩ ?_
  simp only [addr_add, Nat.zero_add, Nat.add_zero]
  exact ⟨h3, hk _ h4 h5⟩
/-- A mark in a block of its own, field by field. -/
theorem box3z {K : World → Prop} (hk : ∀ u, Blk u w.heap.size (enM x).toArray e → At3 u (na w) x → Kept w u → K u) :
    nw (w.alloc (.cells #[.int .i64 0, .int .i64 0, .int .i64 0] e)) fun w1 => okSt w1 ((na w).add 0) ∧ (nw (w1.setCell ((na w).add 0) (.int .i64 x.node)) fun w2 => okSt w2 ((na w).add 1) ∧ (nw (w2.setCell ((na w).add 1) (.int .i64 x.frm)) fun w3 => okSt w3 ((na w).add 2) ∧ (nw (w3.setCell ((na w).add 2) (.int .i64 x.to)) K))) := by
  have b0 := Blk.new w #[.int .i64 0, .int .i64 0, .int .i64 0] e
  have s0 : From w.heap.size w _ := Kept.mod (Kept.new w (.cells #[.int .i64 0, .int .i64 0, .int .i64 0] e))
  have st : ∀ {u u' : World}, From w.heap.size w u → Only (w.heap.size + 1) u u' → From w.heap.size w u' := fun s o => s.only o (.inr (by omega))
  refine nw_mk (b0.wr (by simp) fun u1 b1 o1 => b1.wr (by simp) fun u2 b2 o2 => b2.wr (by simp) fun u3 b3 o3 => ?_)
  exact hk u3 b3 (.of_blk b3) (st (st (st s0 o1) o2) o3).kept
end
end Go.E

namespace Go.Tr
open Go
/-! ### a tree's nodes in whatever order, the root ahead -/
structure Ord (U : BT) (o : List Nat) : Prop where
  perm : o.Perm U.pre
  root : o[0]? = some U.root
/-- Level by level: what is listed, what is done, what waits. -/
structure Bfs (U : BT) (o : List Nat) (i : Nat) (Ts : List BT) : Prop where
  drop : o.drop i = Ts.map BT.root
  perm : (o.take i ++ preS Ts).Perm U.pre
  root : o[0]? = some U.root
  ile : i ≤ o.length
section
variable {U : BT} {o : List Nat} {i j : Nat} {Ts : List BT}
theorem Bfs.start (U : BT) : Bfs U [U.root] 0 [U] := ⟨rfl, by simp [preS], rfl, by simp⟩
theorem Bfs.len (h : Bfs U o i Ts) : o.length = i + Ts.length := by
  have := congrArg List.length h.drop
  rw [List.length_drop, List.length_map] at this
  have := h.ile
  omega
theorem Bfs.size (h : Bfs U o i Ts) : i + sumS Ts = U.size := by
  have := h.perm.length_eq
  rw [List.length_append, List.length_take, preS_length, BT.pre_length] at this
  have := h.ile
  omega
theorem Bfs.get {T : BT} (h : Bfs U o i (T :: Ts)) : o[i]? = some T.root ∧ o.take (i + 1) = o.take i ++ [T.root] ∧ o.drop (i + 1) = Ts.map BT.root := by
  have e := h.drop
  have h0 : o[i]? = some T.root := by
    have := congrArg (fun l => l[0]?) e
    simpa using this
  refine ⟨h0, ?_, ?_⟩
  · obtain ⟨hlt, hx⟩ := List.getElem?_eq_some_iff.1 h0
    rw [List.take_succ_eq_append_getElem hlt, hx]
  · have := congrArg List.tail e
    rw [List.tail_drop] at this
    simpa using this
theorem Bfs.leaf (h : Bfs U o i (.leaf j :: Ts)) : Bfs U o (i + 1) Ts := by
  obtain ⟨_, h2, h3⟩ := h.get
  refine ⟨h3, ?_, h.root, by have := h.len; simp at this; omega⟩
  rw [h2, List.append_assoc]
  exact h.perm
theorem Bfs.node {l r : BT} (h : Bfs U o i (.node j l r :: Ts)) : Bfs U (o ++ [l.root, r.root]) (i + 1) (Ts ++ [l, r]) := by
  obtain ⟨_, h2, h3⟩ := h.get
  have hl := h.len
  simp only [List.length_cons] at hl
  refine ⟨?_, ?_, ?_, by simp; omega⟩
  · rw [List.drop_append_of_le_length (by omega), h3]
    simp
  · rw [List.take_append_of_le_length (by omega), h2]
    have e : preS (.node j l r :: Ts) = j :: (l.pre ++ r.pre ++ preS Ts) := by simp [preS, BT.pre]
    have e2 : preS (Ts ++ [l, r]) = preS Ts ++ (l.pre ++ r.pre) := by simp [preS]
    have hp := h.perm
    rw [e] at hp
    rw [e2, show (BT.node j l r).root = j from rfl, List.append_assoc]
    refine List.Perm.trans (List.Perm.append_left _ ?_) hp
    show (j :: (preS Ts ++ (l.pre ++ r.pre))).Perm (j :: (l.pre ++ r.pre ++ preS Ts))
    exact List.Perm.cons _ List.perm_append_comm
  · rw [List.getElem?_append_left (by omega)]
    exact h.root
theorem Bfs.done (h : Bfs U o i []) : Ord U o := by
  have hl := h.len
  have := h.perm
  rw [List.take_of_length_le (by simp at hl; omega)] at this
  exact ⟨by simpa [preS] using this, h.root⟩
end
section
variable {nan : Nat → Bool} {nodes : List ND} {U : BT} {o : List Nat}
theorem canon_getO {i : Nat} {x : ND} (hi : i ∈ o) (hx : nodes[i]? = some x) : (canonN o nodes)[o.idxOf i]? = some (renum o x) := by
  unfold canonN
  rw [List.getElem?_map, idx_get hi]
  simp only [Option.map_some]
  rw [List.getD_eq_getElem?_getD, hx]
  rfl
theorem canon_isO : ∀ {U : BT}, Is nodes U → (∀ j ∈ U.pre, j ∈ o) → Is (canonN o nodes) (U.mapN o.idxOf)
  | .leaf i, ⟨x, hx, hn⟩, hm => ⟨_, canon_getO (hm i (by simp [BT.pre])) hx, by rw [renum_inner]; exact hn⟩
  | .node i l r, ⟨x, hx, hn, hl, hr, hIl, hIr⟩, hm => by
    refine ⟨_, canon_getO (hm i (by simp [BT.pre])) hx, by rw [renum_inner]; exact hn, ?_, ?_, canon_isO hIl (fun j hj => hm j (by simp [BT.pre, hj])), canon_isO hIr (fun j hj => hm j (by simp [BT.pre, hj]))⟩
    · rw [BT.mapN_root]; unfold renum; rw [if_pos hn]; simp only [hl, Int.toNat_natCast]
    · rw [BT.mapN_root]; unfold renum; rw [if_pos hn]; simp only [hr, Int.toNat_natCast]
theorem okNode_to {x : ND} {n m a b : Int} (h : okNode nan x n = true) (hi : x.inner = true) (h1 : 1 ≤ a) (h2 : a < m) (h3 : 1 ≤ b) (h4 : b < m) : okNode nan { x with left := a, right := b } m = true := by
  have inn : innerOk x n = true → innerOk { x with left := a, right := b } m = true := by
    unfold innerOk
    simp only [Bool.and_eq_true, decide_eq_true_eq]
    rintro ⟨⟨⟨⟨⟨⟨⟨a1, a2⟩, a3⟩, a4⟩, a5⟩, a6⟩, a7⟩, a8⟩
    exact ⟨⟨⟨⟨⟨⟨⟨a1, a2⟩, a3⟩, a4⟩, h1⟩, h2⟩, h3⟩, h4⟩
  unfold okNode at h ⊢
  by_cases k1 : x.kind = 1
  · unfold ND.inner at hi; rw [k1] at hi; cases hi
  rw [if_neg k1] at h ⊢
  by_cases k2 : x.kind = 2
  · rw [if_pos k2] at h ⊢
    simp only [Bool.and_eq_true] at h ⊢
    exact ⟨h.1, inn h.2⟩
  rw [if_neg k2] at h ⊢
  by_cases k3 : x.kind = 3
  · rw [if_pos k3] at h ⊢
    simp only [Bool.and_eq_true] at h ⊢
    exact ⟨h.1, inn h.2⟩
  · rw [if_neg k3] at h; cases h
theorem okNode_leaf {x : ND} {n m : Int} (h : okNode nan x n = true) (hi : x.inner = false) : okNode nan x m = true := by
  unfold okNode at h ⊢
  unfold ND.inner at hi
  by_cases k1 : x.kind = 1
  · rw [if_pos k1] at h ⊢; exact h
  rw [if_neg k1] at h
  by_cases k2 : x.kind = 2
  · simp [k2] at hi
  rw [if_neg k2] at h
  by_cases k3 : x.kind = 3
  · simp [k3] at hi
  · rw [if_neg k3] at h; cases h
theorem Ord.nodup (ho : Ord U o) (hnd : U.pre.Nodup) : o.Nodup := ho.perm.nodup_iff.2 hnd
theorem Ord.idx_zero (ho : Ord U o) : o.idxOf U.root = 0 := by
  cases o with
  | nil => have := ho.root; simp at this
  | cons i l => have := ho.root; simp at this; subst this; simp
theorem Ord.shape (hR : Right nan nodes) (hI : Is nodes U) (hnd : U.pre.Nodup) (ho : Ord U o) : shapeP nan (canonN o nodes) = (0, 0) := by
  have hon := ho.nodup hnd
  have hp : ((U.mapN o.idxOf).pre).Perm (List.range o.length) := by
    rw [BT.mapN_pre, ← idx_range hon]
    exact (ho.perm.symm).map _
  refine shape_complete (canon_isO hI fun j hj => ho.perm.mem_iff.2 hj) ?_ ?_ ?_ ?_
  · rw [BT.mapN_root, ho.idx_zero]
  · exact hp.nodup_iff.2 List.nodup_range
  · intro j; rw [hp.mem_iff, List.mem_range, canonN_length]
  · intro k y hy
    rw [canonN_length]
    unfold canonN at hy
    rw [List.getElem?_map] at hy
    obtain ⟨i, hi, rfl⟩ := Option.map_eq_some_iff.1 hy
    have him := ho.perm.mem_iff.1 (List.mem_of_getElem? hi)
    obtain ⟨x, hx⟩ : ∃ x, nodes[i]? = some x := by
      have : ∀ {V : BT}, Is nodes V → ∀ i ∈ V.pre, ∃ x, nodes[i]? = some x := by
        intro V
        induction V with
        | leaf j => rintro ⟨x, hx, _⟩ i hi; simp [BT.pre] at hi; subst hi; exact ⟨x, hx⟩
        | node j l r ihl ihr =>
          rintro ⟨x, hx, _, _, _, hIl, hIr⟩ i hi
          simp only [BT.pre, List.mem_cons, List.mem_append] at hi
          rcases hi with h | h | h
          · subst h; exact ⟨x, hx⟩
          · exact ihl hIl i h
          · exact ihr hIr i h
      exact this hI i him
    rw [List.getD_eq_getElem?_getD, hx]
    simp only [Option.getD_some]
    have hok := hR.ok i x hx
    cases hin : x.inner with
    | false => unfold renum; rw [if_neg (by simp [hin])]; exact okNode_leaf hok hin
    | true =>
      have hb := okNode_inner hok hin
      have hc := hI.child him hx hin
      have pos : ∀ {j : Nat}, j ∈ U.pre → j ≠ U.root → 1 ≤ o.idxOf j ∧ o.idxOf j < o.length := by
        intro j hj hne
        have hjo := ho.perm.mem_iff.2 hj
        refine ⟨?_, List.idxOf_lt_length_iff.2 hjo⟩
        rcases Nat.eq_zero_or_pos (o.idxOf j) with h0 | h0
        · exfalso
          have e1 := idx_get hjo
          rw [h0, ho.root] at e1
          exact hne (by simpa using e1.symm)
        · exact h0
      have nr : ∀ {V : BT}, Is nodes V → V.pre.Nodup → ∀ {i : Nat} {x : ND}, i ∈ V.pre → nodes[i]? = some x → x.inner = true → x.left.toNat ≠ V.root ∧ x.right.toNat ≠ V.root := by
        intro V
        induction V with
        | leaf j =>
          rintro ⟨y, hy, hyn⟩ _ i x hi hx hin
          simp [BT.pre] at hi; subst hi; rw [hy] at hx; cases hx; rw [hyn] at hin; cases hin
        | node j l r ihl ihr =>
          rintro ⟨y, hy, hyn, hl, hr, hIl, hIr⟩ hnd i x hi hx hin
          simp only [BT.pre, List.nodup_cons, List.mem_append, not_or] at hnd
          simp only [BT.pre, List.mem_cons, List.mem_append] at hi
          simp only [BT.root]
          rcases hi with h | h | h
          · subst h
            rw [hy] at hx; cases hx
            rw [hl, hr, Int.toNat_natCast, Int.toNat_natCast]
            exact ⟨fun e => hnd.1.1 (by rw [← e]; exact l.root_mem), fun e => hnd.1.2 (by rw [← e]; exact r.root_mem)⟩
          · have := hIl.child h hx hin
            exact ⟨fun e => hnd.1.1 (by rw [← e]; exact this.1), fun e => hnd.1.1 (by rw [← e]; exact this.2)⟩
          · have := hIr.child h hx hin
            exact ⟨fun e => hnd.1.2 (by rw [← e]; exact this.1), fun e => hnd.1.2 (by rw [← e]; exact this.2)⟩
      obtain ⟨n1, n2⟩ := nr hI hnd him hx hin
      have p1 := pos hc.1 n1
      have p2 := pos hc.2 n2
      unfold renum
      rw [if_pos hin]
      exact okNode_to hok hin (by omega) (by omega) (by omega) (by omega)
end
/-! ### marks are apart or nested -/
def Nst (x y : MkD) : Prop := ¬ (x.frm < y.frm ∧ x.to > y.frm ∧ x.to < y.to) ∧ ¬ (y.frm < x.frm ∧ y.to > x.frm ∧ y.to < x.to)
theorem Nst.symm {x y : MkD} (h : Nst x y) : Nst y x := ⟨h.2, h.1⟩
theorem BT.marks_nest : ∀ (T : BT) (k : Nat), (T.marks k).Pairwise Nst
  | .leaf _, _ => List.Pairwise.nil
  | .node i l r, k => by
    simp only [BT.marks]
    rw [List.pairwise_cons, List.pairwise_append]
    refine ⟨fun m hm => ?_, l.marks_nest k, r.marks_nest (k + l.nl), fun x hx y hy => ?_⟩
    · rcases List.mem_append.1 hm with h | h
      · have := l.marks_in k m h
        unfold Nst; simp only; omega
      · have := r.marks_in (k + l.nl) m h
        unfold Nst; simp only; omega
    · have h1 := l.marks_in k x hx
      have h2 := r.marks_in (k + l.nl) y hy
      unfold Nst; omega
/-- A mark is as long as its left subtree has leaves. -/
theorem mark_left {nodes : List ND} : ∀ {T : BT} {k : Nat}, Is nodes T → ∀ {m : MkD}, m ∈ T.marks k → ∃ (i : Nat) (x : ND) (l : BT), m.node = (i : Int) ∧ nodes[i]? = some x ∧ x.inner = true ∧ x.left = (l.root : Int) ∧ Is nodes l ∧ l.pre.Sublist T.pre ∧ m.to - m.frm = (l.nl : Int)
  | .leaf _, _, _, m, h => by simp [BT.marks] at h
  | .node i l r, k, ⟨x, hx, hn, hl, hr, hIl, hIr⟩, m, h => by
    simp only [BT.marks, List.mem_cons, List.mem_append] at h
    have s1 : l.pre.Sublist (l.pre ++ r.pre) := List.sublist_append_left _ _
    have s2 : r.pre.Sublist (l.pre ++ r.pre) := List.sublist_append_right _ _
    rcases h with rfl | h | h
    · exact ⟨i, x, l, rfl, hx, hn, hl, hIl, s1.cons _, by simp only; omega⟩
    · obtain ⟨j, y, l', a1, a2, a3, a4, a5, a6, a7⟩ := mark_left hIl h
      exact ⟨j, y, l', a1, a2, a3, a4, a5, (a6.trans s1).cons _, a7⟩
    · obtain ⟨j, y, l', a1, a2, a3, a4, a5, a6, a7⟩ := mark_left hIr h
      exact ⟨j, y, l', a1, a2, a3, a4, a5, (a6.trans s2).cons _, a7⟩
end Go.Tr

namespace Go.E
open Go Go.RowKit Go.ChangeShapes Go.Tr
section
variable {α : Type} {en : α → Value} {eo ei B : Nat} {w u : World} {a : Option Addr} {n c g : Nat} {l : List (RW α)} {S : Nat → Prop} {i : Int}
/-- Where a row of a list of rows lies. -/
theorem OwnM.rdRow (h : OwnM en eo ei B w a n c l g) {K : Option Addr → Nat → Nat → Prop} (h0 : 0 ≤ i) (hi : i < n) (hk : ∀ t, l[i.toNat]? = some t → K t.1.a t.1.n t.1.c) :
    optN a fun q => chk (0 ≤ i ∧ i < (n : Int)) (∃ ya : Option Addr, ∃ yn : Nat, ∃ yc : Nat, w.cell? (q.add (i.toNat * 1)) = some (.slice ya yn yc) ∧ K ya yn yc) := by
  have hi' : i.toNat < n := by omega
  refine h.out.sl.read hi' fun p hp => chk_mk ⟨h0, hi⟩ ⟨_, _, _, by rw [Nat.mul_one]; exact hp, hk _ (List.getElem?_eq_getElem (h.len ▸ hi'))⟩
theorem OwnM.rne (h : OwnM en eo ei B w a n c l g) (hne : eo ≠ ei) {t : RW α} (ht : t ∈ l) : g = 0 ∨ g ≠ t.2.2 := Row.ne h.out (h.row t ht).1 hne
theorem mem_set {β : Type} {l : List β} {i : Nat} {x y : β} (h : y ∈ l.set i x) : y = x ∨ ∃ j, j ≠ i ∧ l[j]? = some y := by
  obtain ⟨j, hj⟩ := List.getElem?_of_mem h
  rw [List.getElem?_set] at hj
  split at hj
  · split at hj
    · exact .inl (by simpa using hj.symm)
    · cases hj
  · rename_i hne; exact .inr ⟨j, fun e => hne e.symm, hj⟩
theorem pairwise_set {β : Type} {R : β → β → Prop} {l : List β} {i : Nat} {x : β} (h : l.Pairwise R) (hl : ∀ j y, j < i → l[j]? = some y → R y x) (hr : ∀ j y, i < j → l[j]? = some y → R x y) : (l.set i x).Pairwise R := by
  rw [List.pairwise_iff_getElem] at h ⊢
  intro p q hp hq hpq
  rw [List.length_set] at hp hq
  rw [List.getElem_set, List.getElem_set]
  split
  · rename_i e
    subst e
    rw [if_neg (by omega)]
    exact hr q _ hpq (List.getElem?_eq_getElem hq)
  · split
    · rename_i e
      subst e
      exact hl p _ hpq (List.getElem?_eq_getElem hp)
    · exact h p q hp hq hpq
/-- A row is turned, in its own block or in a new one; the outer list stays. -/
theorem OwnM.turn (h : OwnM en eo ei B w a n c l g) (hne : eo ≠ ei) {j : Nat} {t t' : RW α} (ht : l[j]? = some t) (hm : Only t.2.2 w u) (hs : enRW t' = enRW t) (hx : Arr en ei u t'.1.a t'.1.n t'.1.c t'.2.1 t'.2.2) (hg : t'.2.2 = t.2.2) : OwnM en eo ei B u a n c (l.set j t') g := by
  have htm := List.mem_of_getElem? ht
  have ho := h.out.mod hm (fun k h1 h2 => by
    have h2' : k + 1 = t.2.2 := h2
    have := h.rne hne htm
    omega)
  have others : ∀ q s, q ≠ j → l[q]? = some s → s.2.2 = 0 ∨ s.2.2 ≠ t.2.2 := fun q s hq hqs => by
    have hp := List.pairwise_iff_getElem.1 h.ap
    obtain ⟨l1, e1⟩ := List.getElem?_eq_some_iff.1 hqs
    obtain ⟨l2, e2⟩ := List.getElem?_eq_some_iff.1 ht
    rcases Nat.lt_or_gt_of_ne hq with hlt | hgt
    · have := hp q j l1 l2 hlt; rw [e1, e2] at this; exact this
    · have := hp j q l2 l1 hgt; rw [e1, e2] at this; omega
  refine ⟨?_, h.fr, fun s hs' => ?_, ?_⟩
  · have e : (l.set j t').map enRW = l.map enRW := by
      rw [List.map_set, hs]
      apply List.ext_getElem?
      intro q
      rw [List.getElem?_set]
      split
      · rename_i e; subst e
        rw [List.length_map, if_pos (List.getElem?_eq_some_iff.1 ht).1, List.getElem?_map, ht]; rfl
      · rfl
    unfold Arr
    rw [e]
    exact ho
  · rcases mem_set hs' with rfl | ⟨q, hq, hqs⟩
    · exact ⟨hx, by have := (h.row t htm).2; omega⟩
    · obtain ⟨r1, r2⟩ := h.row s (List.mem_of_getElem? hqs)
      refine ⟨r1.mod hm fun k h1 h2 => ?_, r2⟩
      have h2' : k + 1 = t.2.2 := h2
      have := others q s hq hqs
      omega
  · refine pairwise_set h.ap (fun q s hq hqs => ?_) (fun q s hq hqs => ?_)
    · have := others q s (by omega) hqs; omega
    · have := others q s (by omega) hqs; omega
/-- One element of one row is written. -/
theorem OwnM.wrRow (h : OwnM en eo ei B w a n c l g) (hne : eo ≠ ei) {j : Nat} {t : RW α} (ht : l[j]? = some t) {K : World → Prop} (h0 : 0 ≤ i) (hi : i < t.1.n) {v : Value} {x : α} (hv : v = en x) (hk : ∀ u, OwnM en eo ei B u a n c (l.set j (t.1, t.2.1.set i.toNat x, t.2.2)) g → Only t.2.2 w u → K u) :
    optN t.1.a fun q => chk (0 ≤ i ∧ i < (t.1.n : Int)) (okSt w ((q.add (i.toNat * 1)).add 0) ∧ nw (w.setCell ((q.add (i.toNat * 1)).add 0) v) K) :=
  (h.row t (List.mem_of_getElem? ht)).1.wr h0 hi hv fun u hu ho => hk u (h.turn hne ht ho rfl hu rfl) ho
/-- A row that grew is put back into the list. -/
theorem OwnM.putRow (h : OwnM en eo ei B w a n c l g) (hne : eo ≠ ei) {j : Int} {t t' : RW α} (ht : l[j.toNat]? = some t) (hm : Only t.2.2 w u) (hx : Arr en ei u t'.1.a t'.1.n t'.1.c t'.2.1 t'.2.2) (hg : t'.2.2 = t.2.2 ∨ w.heap.size < t'.2.2) (hB : B ≤ w.heap.size) {K : World → Prop} (h0 : 0 ≤ j) (hi : j < n) (hk : ∀ x, OwnM en eo ei B x a n c (l.set j.toNat t') g → Only g u x → K x) :
    optN a fun q => chk (0 ≤ j ∧ j < (n : Int)) (okSt u ((q.add (j.toNat * 1)).add 0) ∧ nw (u.setCell ((q.add (j.toNat * 1)).add 0) (.slice t'.1.a t'.1.n t'.1.c)) K) := by
  have htm := List.mem_of_getElem? ht
  have ho := h.out.mod hm (fun k h1 h2 => by
    have h2' : k + 1 = t.2.2 := h2
    have := h.rne hne htm
    omega)
  have hle : ∀ s ∈ l, s.2.2 ≤ w.heap.size := fun s hs => (h.row s hs).1.le
  have others : ∀ q s, q ≠ j.toNat → l[q]? = some s → s.2.2 = 0 ∨ s.2.2 ≠ t.2.2 := fun q s hq hqs => by
    have hp := List.pairwise_iff_getElem.1 h.ap
    obtain ⟨l1, e1⟩ := List.getElem?_eq_some_iff.1 hqs
    obtain ⟨l2, e2⟩ := List.getElem?_eq_some_iff.1 ht
    rcases Nat.lt_or_gt_of_ne hq with hlt | hgt
    · have := hp q j.toNat l1 l2 hlt; rw [e1, e2] at this; exact this
    · have := hp j.toNat q l2 l1 hgt; rw [e1, e2] at this; omega
  refine ho.wr h0 hi (x := t') rfl fun x hxx hox => hk x ⟨hxx, h.fr, fun s hs' => ?_, ?_⟩ hox
  · rcases mem_set hs' with rfl | ⟨q, hq, hqs⟩
    · refine ⟨hx.mod hox fun k h1 h2 => ?_, by have := (h.row t htm).2; omega⟩
      have h2' : k + 1 = g := h2
      have := Row.ne ho hx hne
      omega
    · have hsm := List.mem_of_getElem? hqs
      obtain ⟨r1, r2⟩ := h.row s hsm
      refine ⟨(r1.mod hm fun k h1 h2 => ?_).mod hox fun k h1 h2 => ?_, r2⟩
      · have h2' : k + 1 = t.2.2 := h2
        have := others q s hq hqs
        omega
      · have h2' : k + 1 = g := h2
        have := h.rne hne hsm
        omega
  · refine pairwise_set h.ap (fun q s hq hqs => ?_) (fun q s hq hqs => ?_)
    · have := others q s (by omega) hqs
      have := hle s (List.mem_of_getElem? hqs)
      omega
    · have := others q s (by omega) hqs
      have := hle s (List.mem_of_getElem? hqs)
      omega
end
/-- A whole mark of an own row is written. -/
theorem ArrK.wrMk {w : World} {a : Option Addr} {n c g e : Nat} {l : List MkD} (h : ArrK 3 enM e w a n c l g) {i : Int} (h0 : 0 ≤ i) (hi : i < n) {x : MkD} {K : World → Prop} (hk : ∀ u, ArrK 3 enM e u a n c (l.set i.toNat x) g → Only g w u → K u) :
    optN a fun q => chk (0 ≤ i ∧ i < (n : Int)) (okSt w ((q.add (i.toNat * 3)).add 0) ∧ (nw (w.setCell ((q.add (i.toNat * 3)).add 0) (.int .i64 x.node)) fun w1 => okSt w1 ((q.add (i.toNat * 3)).add 1) ∧ (nw (w1.setCell ((q.add (i.toNat * 3)).add 1) (.int .i64 x.frm)) fun w2 => okSt w2 ((q.add (i.toNat * 3)).add 2) ∧ (nw (w2.setCell ((q.add (i.toNat * 3)).add 2) (.int .i64 x.to)) fun w3 => K w3)))) := by
  have hl := h.len enM_len (by omega)
  obtain ⟨b, rfl, rfl, hw⟩ := ArrK.put (k := 3) (en := enM) enM_len h (i := i.toNat) (by omega) hl hk
  refine chk_mk ⟨h0, hi⟩ ?_
  simp only [addr_add, Nat.zero_add]
  simp only [Go.E.wrS, enM, addr_add, Nat.zero_add] at hw
  exact hw
end Go.E

namespace Go.E
open Go Go.RowKit Go.ChangeShapes
/-! ### memory whose lists are written over and grow: what stays is their layout -/
/-- Which cells of an element are slices, and of which elements. -/
abbrev Lay := Nat → List (Option Nat)
/-- A slice of one's own, and all below it. -/
inductive OK (Γ : Lay) (M : Nat → Nat) (Z : Nat → Prop) (w : World) : Nat → SH → Prop
  | nil (e : Nat) : OK Γ M Z w e ⟨none, 0, 0⟩
  | row {e b n c : Nat} {cur : Array Value} (f : Nat → Nat → SH) : n ≤ M e → Z b → Blk w b cur e → n ≤ c → c ≤ maxLen → cur.size = c * (Γ e).length →
      (∀ i j e', i < n → (Γ e)[j]? = some (some e') → w.cell? ⟨b, i * (Γ e).length + j, none⟩ = some (f i j).v) →
      (∀ i j e', i < n → (Γ e)[j]? = some (some e') → OK Γ M Z w e' (f i j)) → OK Γ M Z w e ⟨some ⟨b, 0, none⟩, n, c⟩
/-- A step that keeps the layout. -/
structure Stp (Γ : Lay) (M : Nat → Nat) (Z : Nat → Prop) (w u : World) : Prop where
  fr : Mod Z w u
  blk : ∀ b cur e, Blk w b cur e → ∃ cur', Blk u b cur' e ∧ cur'.size = cur.size
  cell : ∀ b cur e i j e', Z b → Blk w b cur e → (Γ e)[j]? = some (some e') → i * (Γ e).length + j < cur.size → u.cell? ⟨b, i * (Γ e).length + j, none⟩ = w.cell? ⟨b, i * (Γ e).length + j, none⟩ ∨ ∃ s, u.cell? ⟨b, i * (Γ e).length + j, none⟩ = some s.v ∧ OK Γ M Z u e' s
/-- Slices are of lesser elements. -/
def Lev (Γ : Lay) (lv : Nat → Nat) : Prop := ∀ (e j e' : Nat), (Γ e)[j]? = some (some e') → lv e' < lv e
section
variable {Γ : Lay} {M : Nat → Nat} {Z : Nat → Prop} {w u : World} {e : Nat} {s : SH} {lv : Nat → Nat}
theorem only_at {b : Nat} (h : Only (b + 1) w u) : Mod (fun k => some (⟨b, 0, none⟩ : Addr) = some ⟨k, 0, none⟩) w u :=
  h.weak fun k _ hk => by
    have hk' : k + 1 = b + 1 := hk
    have e : k = b := by omega
    show some (⟨b, 0, none⟩ : Addr) = some ⟨k, 0, none⟩
    rw [e]
theorem only_z {b : Nat} (hz : Z b) (h : Only (b + 1) w u) : Mod Z w u :=
  h.weak fun k _ hk => by
    have hk' : k + 1 = b + 1 := hk
    have e : k = b := by omega
    rw [e]
    exact hz
theorem idx_lt {i j n c k : Nat} (hi : i < n) (hn : n ≤ c) (hj : j < k) : i * k + j < c * k := by
  have h1 : (i + 1) * k ≤ c * k := Nat.mul_le_mul_right _ (by omega)
  rw [Nat.succ_mul] at h1
  omega
theorem idx_eq {i j i0 j0 k : Nat} (hj : j < k) (hj0 : j0 < k) (h : i * k + j = i0 * k + j0) : i = i0 ∧ j = j0 := by
  have e1 : (i * k + j) / k = i := by rw [Nat.mul_comm, Nat.mul_add_div (by omega), Nat.div_eq_of_lt hj, Nat.add_zero]
  have e2 : (i0 * k + j0) / k = i0 := by rw [Nat.mul_comm, Nat.mul_add_div (by omega), Nat.div_eq_of_lt hj0, Nat.add_zero]
  have e3 : i = i0 := by rw [← e1, h, e2]
  subst e3
  exact ⟨rfl, by omega⟩
theorem lay_lt {l : List (Option Nat)} {j : Nat} {x : Option Nat} (h : l[j]? = some x) : j < l.length := (List.getElem?_eq_some_iff.1 h).1
theorem OK.mk {b n c : Nat} {cur : Array Value} (h0 : n ≤ M e) (h1 : Z b) (h2 : Blk w b cur e) (h3 : n ≤ c) (h4 : c ≤ maxLen) (h5 : cur.size = c * (Γ e).length) (h6 : ∀ i j e', i < n → (Γ e)[j]? = some (some e') → ∃ s : SH, w.cell? ⟨b, i * (Γ e).length + j, none⟩ = some s.v ∧ OK Γ M Z w e' s) : OK Γ M Z w e ⟨some ⟨b, 0, none⟩, n, c⟩ := by
  have each : ∀ p : Nat × Nat, ∃ s : SH, ∀ e', p.1 < n → (Γ e)[p.2]? = some (some e') → w.cell? ⟨b, p.1 * (Γ e).length + p.2, none⟩ = some s.v ∧ OK Γ M Z w e' s := fun p => by
    by_cases h : ∃ e', p.1 < n ∧ (Γ e)[p.2]? = some (some e')
    · obtain ⟨e', hi, he⟩ := h
      obtain ⟨s, hs⟩ := h6 p.1 p.2 e' hi he
      refine ⟨s, fun e'' _ he' => ?_⟩
      rw [he] at he'
      cases he'
      exact hs
    · exact ⟨⟨none, 0, 0⟩, fun e' hi he => absurd ⟨e', hi, he⟩ h⟩
  obtain ⟨f, hf⟩ := Classical.axiomOfChoice each
  exact .row (fun i j => f (i, j)) h0 h1 h2 h3 h4 h5 (fun i j e' hi he => (hf (i, j) e' hi he).1) (fun i j e' hi he => (hf (i, j) e' hi he).2)
theorem OK.stp (hs : Stp Γ M Z w u) (h : OK Γ M Z w e s) : OK Γ M Z u e s := by
  induction h with
  | nil e => exact .nil e
  | @row e b n c cur f hM h1 h2 h3 h4 h5 h6 h7 ih =>
    obtain ⟨cur', hb, hz⟩ := hs.blk b cur e h2
    refine .mk hM h1 hb h3 h4 (by omega) fun i j e' hi he => ?_
    rcases hs.cell b cur e i j e' h1 h2 he (by rw [h5]; exact idx_lt hi h3 (lay_lt he)) with h | h
    · exact ⟨f i j, by rw [h]; exact h6 i j e' hi he, ih i j e' hi he⟩
    · exact h
theorem OK.away (hlv : Lev Γ lv) {L : Nat} (hu : ∀ b cur e, lv e < L → Blk w b cur e → Blk u b cur e) (h : OK Γ M Z w e s) (he : lv e < L) : OK Γ M Z u e s := by
  induction h with
  | nil e => exact .nil e
  | @row e b n c cur f hM h1 h2 h3 h4 h5 h6 h7 ih =>
    have hb := hu b cur e he h2
    refine .row f hM h1 hb h3 h4 h5 (fun i j e' hi hj => ?_) (fun i j e' hi hj => ih i j e' hi hj (by have := hlv e j e' hj; omega))
    have := h6 i j e' hi hj
    rw [h2.cell] at this
    rw [hb.cell]
    exact this
theorem Stp.refl (Γ : Lay) (M : Nat → Nat) (Z : Nat → Prop) (w : World) : Stp Γ M Z w w := ⟨Mod.refl _, fun b cur e h => ⟨cur, h, rfl⟩, fun _ _ _ _ _ _ _ _ _ _ => .inl rfl⟩
/-- What only lays new blocks. -/
theorem Stp.kept (h : Kept w u) : Stp Γ M Z w u :=
  ⟨Kept.mod h, fun b cur e hb => ⟨cur, hb.keep h, rfl⟩, fun b cur e i j e' _ hb _ _ => .inl (by rw [hb.cell, (hb.keep h).cell])⟩
/-- A cell is written: one that says whatever, or a slice. -/
theorem Stp.set (hlv : Lev Γ lv) {b0 e0 i0 j0 : Nat} {cur0 : Array Value} {v : Value} {x : Option Nat} (hB : Z b0) (hb : Blk w b0 cur0 e0) (hj : (Γ e0)[j0]? = some x) (hv : ∀ e', x = some e' → ∃ s : SH, v = s.v ∧ OK Γ M Z w e' s) : Stp Γ M Z w (w.setCell ⟨b0, i0 * (Γ e0).length + j0, none⟩ v) := by
  have ho := Only.set w b0 (i0 * (Γ e0).length + j0) v
  have hs := hb.set (i0 * (Γ e0).length + j0) v
  refine ⟨only_z hB ho, fun b cur e h => ?_, fun b cur e i j e' hBb h he hlt => ?_⟩
  · by_cases hbb : b = b0
    · subst hbb
      unfold Blk at h hb
      rw [hb] at h
      cases h
      exact ⟨_, hs, by simp⟩
    · exact ⟨cur, h.mod ho (fun hk => hbb (by have hk' : b + 1 = b0 + 1 := hk; omega)), rfl⟩
  · by_cases hbb : b = b0
    · subst hbb
      have hee : cur = cur0 ∧ e = e0 := by
        unfold Blk at h hb
        rw [hb] at h
        cases h
        exact ⟨rfl, rfl⟩
      obtain ⟨rfl, rfl⟩ := hee
      rw [hs.cell, hb.cell]
      by_cases hp : i0 * (Γ e).length + j0 = i * (Γ e).length + j
      · obtain ⟨rfl, rfl⟩ := idx_eq (lay_lt hj) (lay_lt he) hp
        rw [hj] at he
        cases he
        obtain ⟨s, rfl, hOK⟩ := hv e' rfl
        refine .inr ⟨s, by simp [hlt], hOK.away hlv (L := lv e) (fun b' cur' e'' hle hb' => ?_) (hlv e j0 e' hj)⟩
        refine hb'.mod ho fun hk => ?_
        have hk' : b' + 1 = b + 1 := hk
        obtain rfl : b' = b := by omega
        unfold Blk at hb' hb
        rw [hb] at hb'
        cases hb'
        omega
      · left
        rw [Array.getElem?_setIfInBounds_ne hp]
    · left
      have h' := h.mod ho (fun hk => hbb (by have hk' : b + 1 = b0 + 1 := hk; omega))
      rw [h.cell, h'.cell]
/-- A slice that lies in a list of slices of one's own is read. -/
theorem OK.rd {a : Option Addr} {n c k j e' : Nat} (h : OK Γ M Z w e ⟨a, n, c⟩) (hk : (Γ e).length = k) (hj : (Γ e)[j]? = some (some e')) {i : Int} {K : Option Addr → Nat → Nat → Prop} (h0 : 0 ≤ i) (hi : i < n) (hK : ∀ s : SH, OK Γ M Z w e' s → K s.a s.n s.c) :
    optN a fun q => chk (0 ≤ i ∧ i < (n : Int)) (∃ ya : Option Addr, ∃ yn : Nat, ∃ yc : Nat, w.cell? ((q.add (i.toNat * k)).add j) = some (.slice ya yn yc) ∧ K ya yn yc) := by
  subst hk
  cases h with
  | nil => omega
  | row f hM h1 h2 h3 h4 h5 h6 h7 =>
    refine chk_mk ⟨h0, hi⟩ ⟨_, _, _, ?_, hK (f i.toNat j) (h7 i.toNat j e' (by omega) hj)⟩
    simp only [addr_add, Nat.zero_add]
    exact h6 i.toNat j e' (by omega) hj
/-- The same, in a world that says less. -/
theorem OK.at {a : Option Addr} {n c k j e' : Nat} (h : OK Γ M Z w e ⟨a, n, c⟩) (hk : (Γ e).length = k) (hj : (Γ e)[j]? = some (some e')) {i : Nat} (hi : i < n) : ∃ b, a = some ⟨b, 0, none⟩ ∧ Z b ∧ (∃ cur, Blk w b cur e) ∧ ∃ s : SH, w.cell? ⟨b, i * k + j, none⟩ = some s.v ∧ OK Γ M Z w e' s := by
  subst hk
  cases h with
  | nil => omega
  | row f hM h1 h2 h3 h4 h5 h6 h7 => exact ⟨_, rfl, h1, ⟨_, h2⟩, f i j, h6 i j e' hi hj, h7 i j e' hi hj⟩
/-- A cell of a list of one's own is written. -/
theorem OK.wr (hlv : Lev Γ lv) {a : Option Addr} {n c k j : Nat} {x : Option Nat} (h : OK Γ M Z w e ⟨a, n, c⟩) (hk : (Γ e).length = k) (hj : (Γ e)[j]? = some x) {v : Value} (hv : ∀ e', x = some e' → ∃ s : SH, v = s.v ∧ OK Γ M Z w e' s) {i : Int} {K : World → Prop} (h0 : 0 ≤ i) (hi : i < n) (hK : ∀ u, Stp Γ M Z w u → Mod (fun k => a = some ⟨k, 0, none⟩) w u → K u) :
    optN a fun q => chk (0 ≤ i ∧ i < (n : Int)) (okSt w (((q.add (i.toNat * k)).add j).add 0) ∧ nw (w.setCell (((q.add (i.toNat * k)).add j).add 0) v) K) := by
  subst hk
  cases h with
  | nil => omega
  | @row _ b _ _ cur f hM h1 h2 h3 h4 h5 h6 h7 =>
    refine chk_mk ⟨h0, hi⟩ ?_
    simp only [addr_add, Nat.zero_add, Nat.add_zero]
    exact ⟨h2.ok (by rw [h5]; exact idx_lt (by omega) h3 (lay_lt hj)), hK _ (Stp.set hlv h1 h2 hj hv) (only_at (Only.set w b _ v))⟩
/-- The same of elements of one cell. -/
theorem OK.wr1 (hlv : Lev Γ lv) {a : Option Addr} {n c : Nat} {x : Option Nat} (h : OK Γ M Z w e ⟨a, n, c⟩) (hΓ : Γ e = [x]) {v : Value} (hv : ∀ e', x = some e' → ∃ s : SH, v = s.v ∧ OK Γ M Z w e' s) {i : Int} {K : World → Prop} (h0 : 0 ≤ i) (hi : i < n) (hK : ∀ u, Stp Γ M Z w u → Mod (fun k => a = some ⟨k, 0, none⟩) w u → K u) :
    optN a fun q => chk (0 ≤ i ∧ i < (n : Int)) (okSt w ((q.add (i.toNat * 1)).add 0) ∧ nw (w.setCell ((q.add (i.toNat * 1)).add 0) v) K) := by
  have := OK.wr hlv h (k := 1) (j := 0) (x := x) (by rw [hΓ]; rfl) (by rw [hΓ]; rfl) hv h0 hi hK
  cases a with
  | none => exact this
  | some p => simpa only [add_zero] using this
/-- append to a list of one's own. -/
theorem OK.append {P : Program} {t ty size bytes : Nat} (hT : SliceT P t e size bytes) (hΓ : (Γ e).length = size) (hsz : 0 < size) {a : Option Addr} {n c : Nat} (h : OK Γ M Z w e ⟨a, n, c⟩) (hB : Z w.heap.size) {news : List Value} {sa : Option Addr} {m d : Nat} (hl : news.length = m * size) (hnews : ∀ j u, news[j]? = some u → ∃ p, sa = some p ∧ w.cell? (p.add j) = some u) (hm0 : sa = none → m = 0)
    (h1 : ∀ u ∈ news, u.oneCell' = true) (hch : ∀ i j e', i < m → (Γ e)[j]? = some (some e') → news[i * size + j]? = some (.slice none 0 0)) (hM' : n + m ≤ M e) (h63 : n + m ≤ maxLen) (hbytes : (n + m) * bytes ≤ 140737488355328) {K : Value → World → Prop}
    (hk : ∀ a' c' u, OK Γ M Z u e ⟨a', n + m, c'⟩ → Stp Γ M Z w u → Mod (fun k => a = some ⟨k, 0, none⟩) w u → K (.slice a' (n + m) c') u) : rawN P (Builtin.append_ #[t, t] ty #[.slice a n c, .slice sa m d]) w K := by
  have nilS : (SH.v ⟨none, 0, 0⟩) = .slice none 0 0 := rfl
  cases h with
  | nil =>
    refine rawN_row hT hsz (Row.nil w e size) (news := news) hl hnews hm0 h1 h63 hbytes fun a' c' g' u hr hg ho => ?_
    have hkept : Kept w u := Mod.kept (S := fun k => k + 1 = 0) ho (fun k _ h => by have h' : k + 1 = 0 := h; omega)
    refine hk a' c' u ?_ (Stp.kept hkept) (Kept.mod hkept)
    rcases hr.2 with ⟨h0, ha, hn, hc⟩ | ⟨b, cur, hb, ha, hblk, hnc, hcm, hcs, ht⟩
    · rw [ha, hn, hc]; exact .nil e
    · rw [ha]
      have hbz : b = w.heap.size := by
        rcases hg with h | h
        · omega
        · omega
      refine .mk hM' (by rw [hbz]; exact hB) hblk hnc hcm (by rw [hcs, hΓ]) fun i j e' hi he => ⟨⟨none, 0, 0⟩, ?_, .nil e'⟩
      have hx := hch i j e' (by omega) he
      obtain ⟨b', hb', _, hcell⟩ := Row.cell hr (i := i * size + j) (v := .slice none 0 0) (by rw [List.nil_append]; exact hx)
      obtain rfl : b' = b := by omega
      rw [hΓ]
      exact hcell
  | @row _ b _ _ cur f gM g1 g2 g3 g4 g5 g6 g7 =>
    have hT' := hT
    obtain ⟨ht, i, z, hi, hz, rfl, rfl, hzs⟩ := hT'
    rw [hΓ] at g5
    have hsmall : n + m ≤ 9223372036854775807 := by simp only [maxLen] at h63; omega
    have hle : n * i.size ≤ cur.size := by rw [g5]; exact Nat.mul_le_mul_right _ g3
    have old : ∀ q, q < n * i.size → (cur.toList.take (n * i.size))[q]? = cur[q]? := fun q hq => by rw [List.getElem?_take, if_pos hq]; simp
    intro dd
    have hn' : ∀ j u, news[j]? = some u → (dr w dd).cell? (Addr.add (sa.getD ⟨0, 0, none⟩) j) = some u := fun j u hj => by obtain ⟨p', hp, hc⟩ := hnews j u hj; rw [hp]; exact hc
    cases sa with
    | none =>
      obtain rfl := hm0 rfl
      refine ⟨.slice (some ⟨b, 0, none⟩) n c, w, dd, run_append_nilsrc ht hi _ _ _ _ g3, ?_⟩
      exact hk _ c w (.row f gM g1 g2 g3 g4 (by rw [g5, hΓ]) g6 g7) (Stp.refl _ _ _ _) (Mod.refl _)
    | some p =>
      by_cases hroom : n + m ≤ c
      · have hfit : n * i.size + news.length ≤ cur.size := by rw [hl, g5, ← Nat.add_mul]; exact Nat.mul_le_mul_right _ hroom
        have hr := run_append_room (P := P) (dr w dd) t ty e i ht hi b n c cur g2 p m d news hl hn' h1 hroom hfit
        have hlen : (cur.toList.take (n * i.size) ++ news ++ cur.toList.drop (n * i.size + news.length)).length = cur.size := by
          simp only [List.length_append, List.length_take, List.length_drop, Array.length_toList]; omega
        have hblk : Blk (w.setRow b (cur.toList.take (n * i.size) ++ news ++ cur.toList.drop (n * i.size + news.length)).toArray) b (cur.toList.take (n * i.size) ++ news ++ cur.toList.drop (n * i.size + news.length)).toArray e := setRow_heap w b cur _ e _ g2
        have ho : Only (b + 1) w (w.setRow b (cur.toList.take (n * i.size) ++ news ++ cur.toList.drop (n * i.size + news.length)).toArray) := ⟨rfl, rfl, rfl, by simp [World.setRow], fun k _ hk => setRow_other w b k _ (fun e => hk (by omega))⟩
        have hst : Stp Γ M Z w (w.setRow b (cur.toList.take (n * i.size) ++ news ++ cur.toList.drop (n * i.size + news.length)).toArray) := by
          refine ⟨only_z g1 ho, fun b' cur' e' hb' => ?_, fun b' cur' e' i' j' e'' hBb hb' he hlt => ?_⟩
          · by_cases hbb : b' = b
            · subst hbb
              unfold Blk at hb' g2
              rw [g2] at hb'
              cases hb'
              exact ⟨_, hblk, by simpa using hlen⟩
            · exact ⟨cur', hb'.mod ho (fun hk => hbb (by have hk' : b' + 1 = b + 1 := hk; omega)), rfl⟩
          · by_cases hbb : b' = b
            · subst hbb
              have hee : cur' = cur ∧ e' = e := by
                unfold Blk at hb' g2
                rw [g2] at hb'
                cases hb'
                exact ⟨rfl, rfl⟩
              obtain ⟨rfl, rfl⟩ := hee
              have hjl := lay_lt he
              rw [hΓ] at hjl hlt ⊢
              rw [hblk.cell, hb'.cell, List.getElem?_toArray, List.append_assoc]
              by_cases c1 : i' < n
              · left
                have : i' * i.size + j' < n * i.size := idx_lt c1 (Nat.le_refl _) hjl
                rw [List.getElem?_append_left (by rw [List.length_take, Array.length_toList]; omega), old _ this]
              · have e1 : n * i.size ≤ i' * i.size := Nat.mul_le_mul_right _ (by omega)
                have lt : (cur'.toList.take (n * i.size)).length = n * i.size := by rw [List.length_take, Array.length_toList]; omega
                rw [List.getElem?_append_right (by omega), lt]
                by_cases c2 : i' < n + m
                · right
                  refine ⟨⟨none, 0, 0⟩, ?_, .nil e''⟩
                  have e2 : i' * i.size + j' - n * i.size = (i' - n) * i.size + j' := by rw [Nat.sub_mul]; omega
                  have e3 := hch (i' - n) j' e'' (by omega) he
                  rw [e2, List.getElem?_append_left (List.getElem?_eq_some_iff.1 e3).1, e3]
                · left
                  have e4 : (n + m) * i.size ≤ i' * i.size := Nat.mul_le_mul_right _ (by omega)
                  rw [Nat.add_mul] at e4
                  rw [List.getElem?_append_right (by omega), List.getElem?_drop, show n * i.size + news.length + (i' * i.size + j' - n * i.size - news.length) = i' * i.size + j' by omega]
                  simp
            · left
              have h' := hb'.mod ho (fun hk => hbb (by have hk' : b' + 1 = b + 1 := hk; omega))
              rw [hb'.cell, h'.cell]
        refine ⟨_, w.setRow b _, dd, hr, hk _ _ _ ?_ hst (only_at ho)⟩
        refine .mk hM' g1 hblk hroom g4 (by rw [hΓ, ← g5]; simpa using hlen) fun i' j' e' hi' he => ?_
        by_cases c1 : i' < n
        · have hx := OK.stp hst (g7 i' j' e' c1 he)
          refine ⟨f i' j', ?_, hx⟩
          have hg6 := g6 i' j' e' c1 he
          have hjl := lay_lt he
          rw [hΓ] at hjl hg6 ⊢
          rw [g2.cell] at hg6
          have : i' * i.size + j' < n * i.size := idx_lt c1 (Nat.le_refl _) hjl
          rw [hblk.cell, List.getElem?_toArray, List.append_assoc, List.getElem?_append_left (by rw [List.length_take, Array.length_toList]; omega), old _ this]
          exact hg6
        · refine ⟨⟨none, 0, 0⟩, ?_, .nil e'⟩
          have hjl := lay_lt he
          rw [hΓ] at hjl ⊢
          have e1 : n * i.size ≤ i' * i.size := Nat.mul_le_mul_right _ (by omega)
          have lt : (cur.toList.take (n * i.size)).length = n * i.size := by rw [List.length_take, Array.length_toList]; omega
          have e2 : i' * i.size + j' - n * i.size = (i' - n) * i.size + j' := by rw [Nat.sub_mul]; omega
          have e3 := hch (i' - n) j' e' (by omega) he
          rw [hblk.cell, List.getElem?_toArray, List.append_assoc, List.getElem?_append_right (by omega), lt, e2, List.getElem?_append_left (List.getElem?_eq_some_iff.1 e3).1, e3]
      · have holds : ∀ j u, (cur.toList.take (n * i.size))[j]? = some u → (dr w dd).cell? ((⟨b, 0, none⟩ : Addr).add j) = some u := fun j u hj => by
          have hjl := (List.getElem?_eq_some_iff.1 hj).1
          rw [List.length_take] at hjl
          rw [old j (by omega)] at hj
          rw [addr_add, Nat.zero_add]
          exact (g2.cell j).trans hj
        have hlx : (cur.toList.take (n * i.size)).length = n * i.size := by rw [List.length_take, Array.length_toList]; omega
        have hr := run_append_grow (P := P) (dr w dd) t ty e i z ht hi hz ⟨b, 0, none⟩ n c _ hlx holds p m d news hl hn' (by omega) (by omega) (growslice_fits (by omega) hbytes)
        have hdr : ∀ (o : Obj), (dr w dd).drew.alloc o = dr (w.alloc o) ((dr w dd).drew).drawn := fun o => rfl
        rw [hdr] at hr
        have hge := grownCap_ge (dr w dd) (n + m) c e
        have hcm : grownCap (dr w dd) (n + m) c e ≤ maxLen := grownCap_le_maxLen (dr w dd) (n + m) c e h63
        refine ⟨_, _, _, hr, hk _ _ _ ?_ (Stp.kept (Kept.new w _)) (Kept.mod (Kept.new w _))⟩
        have hkn := Kept.new w (.cells ((cur.toList.take (n * i.size)).toArray ++ news.toArray ++ Builtin.zeroCells z.cells (grownCap (dr w dd) (n + m) c e - (n + m))) e)
        have hnb := Blk.new w ((cur.toList.take (n * i.size)).toArray ++ news.toArray ++ Builtin.zeroCells z.cells (grownCap (dr w dd) (n + m) c e - (n + m))) e
        refine .mk hM' hB hnb hge hcm ?_ fun i' j' e' hi' he => ?_
        · simp only [Array.size_append, List.size_toArray, size_zeroCells, hzs, hlx, hl, hΓ, ← Nat.add_mul]
          congr 1
          omega
        · have hjl := lay_lt he
          rw [hΓ] at hjl ⊢
          by_cases c1 : i' < n
          · have hx := OK.stp (Stp.kept hkn) (g7 i' j' e' c1 he)
            refine ⟨f i' j', ?_, hx⟩
            have hg6 := g6 i' j' e' c1 he
            rw [hΓ, g2.cell] at hg6
            have : i' * i.size + j' < n * i.size := idx_lt c1 (Nat.le_refl _) hjl
            refine (hnb.cell _).trans ?_
            rw [Array.append_assoc, Array.getElem?_append_left (by simp [hlx]; omega), List.getElem?_toArray, old _ this]
            exact hg6
          · refine ⟨⟨none, 0, 0⟩, ?_, .nil e'⟩
            have e1 : n * i.size ≤ i' * i.size := Nat.mul_le_mul_right _ (by omega)
            have e2 : i' * i.size + j' - n * i.size = (i' - n) * i.size + j' := by rw [Nat.sub_mul]; omega
            have e3 := hch (i' - n) j' e' (by omega) he
            have e4 := (List.getElem?_eq_some_iff.1 e3).1
            refine (hnb.cell _).trans ?_
            rw [Array.append_assoc, Array.getElem?_append_right (by simp [hlx]; omega), List.size_toArray, hlx, e2, Array.getElem?_append_left (by simpa using e4), List.getElem?_toArray, e3]
/-- A slice that is known is read. -/
theorem rdAt {b k j n : Nat} {a' : Option Addr} {n' c' : Nat} {i : Int} {K : Option Addr → Nat → Nat → Prop} (hc : w.cell? ⟨b, i.toNat * k + j, none⟩ = some (.slice a' n' c')) (h0 : 0 ≤ i) (hi : i < n) (hK : K a' n' c') :
    optN (some (⟨b, 0, none⟩ : Addr)) fun q => chk (0 ≤ i ∧ i < (n : Int)) (∃ ya : Option Addr, ∃ yn : Nat, ∃ yc : Nat, w.cell? ((q.add (i.toNat * k)).add j) = some (.slice ya yn yc) ∧ K ya yn yc) := by
  refine chk_mk ⟨h0, hi⟩ ⟨_, _, _, ?_, hK⟩
  simp only [addr_add, Nat.zero_add]
  exact hc
/-- A world that says nothing of one slice's block. -/
def hideA (a : Option Addr) (w : World) : World := match a with
  | some p => w.putObj p.block (.deferred none)
  | none => w
theorem CK.hideA {a : Option Addr} {n c : Nat} (h : OK Γ M Z w e ⟨a, n, c⟩) (hm : Mod (fun k => a = some ⟨k, 0, none⟩) w u) : CK (Go.E.hideA a w) u := by
  cases h with
  | nil => exact fun ad v hc => hm.cell (fun h => by cases h) hc
  | @row _ b _ _ cur f hM h1 h2 h3 h4 h5 h6 h7 =>
    exact CK.hide (hm.weak fun k _ hk => by have hk' : some (⟨b, 0, none⟩ : Addr) = some ⟨k, 0, none⟩ := hk; cases hk'; rfl)
theorem hideA_rd {a : Option Addr} {n c b i e' : Nat} {cur : Array Value} {v : Value} (h : OK Γ M Z w e ⟨a, n, c⟩) (hb : Blk w b cur e') (hne : e ≠ e') (hc : w.cell? ⟨b, i, none⟩ = some v) : (Go.E.hideA a w).cell? ⟨b, i, none⟩ = some v := by
  cases h with
  | nil => exact hc
  | @row _ b' _ _ cur f hM h1 h2 h3 h4 h5 h6 h7 => exact hide_rd hc (fun h => hb.apart h2 (Ne.symm hne) h)
/-- What a step on one list leaves alone. -/
theorem OK.other {a : Option Addr} {n c b e' : Nat} {cur : Array Value} (h : OK Γ M Z w e ⟨a, n, c⟩) (hm : Mod (fun k => a = some ⟨k, 0, none⟩) w u) (hb : Blk w b cur e') (hne : e ≠ e') : Blk u b cur e' := by
  refine hb.mod hm fun hk => ?_
  cases h with
  | nil => cases hk
  | @row _ b' _ _ cur f hM h1 h2 h3 h4 h5 h6 h7 =>
    have hk' : some (⟨b', 0, none⟩ : Addr) = some ⟨b, 0, none⟩ := hk
    cases hk'
    exact hb.apart h2 (Ne.symm hne) rfl
/-- A row of one's own as a list of one's own. -/
theorem OK.of_row {a : Option Addr} {n c g size : Nat} {cs : List Value} (h : Row w e size a n c cs g) (hg : ∀ k, k + 1 = g → Z k) (hΓ : (Γ e).length = size) (hM : n ≤ M e) (hch : ∀ i j e', i < n → (Γ e)[j]? = some (some e') → ∃ s : SH, cs[i * size + j]? = some s.v ∧ OK Γ M Z w e' s) : OK Γ M Z w e ⟨a, n, c⟩ := by
  rcases h.2 with ⟨_, rfl, rfl, rfl⟩ | ⟨b, cur, rfl, rfl, hb, hnc, hcm, hcs, ht⟩
  · exact .nil e
  · refine .mk hM (hg b rfl) hb hnc hcm (by rw [hcs, hΓ]) fun i j e' hi he => ?_
    obtain ⟨s, hs, hOK⟩ := hch i j e' hi he
    obtain ⟨b', hb', _, hc⟩ := Row.cell h hs
    obtain rfl : b' = b := by omega
    exact ⟨s, by rw [hΓ]; exact hc, hOK⟩
theorem OK.weak {Z' : Nat → Prop} (hZ : ∀ b, Z b → Z' b) (h : OK Γ M Z w e s) : OK Γ M Z' w e s := by
  induction h with
  | nil e => exact .nil e
  | row f hM h1 h2 h3 h4 h5 h6 h7 ih => exact .row f hM (hZ _ h1) h2 h3 h4 h5 h6 ih
/-- Rows of cells that are no slices. -/
theorem OK.flat {a : Option Addr} {n c g : Nat} {cs : List Value} (h : Row w e 1 a n c cs g) (hg : ∀ k, k + 1 = g → Z k) (hΓ : Γ e = [none]) (hM : n ≤ M e) : OK Γ M Z w e ⟨a, n, c⟩ :=
  (.of_row h hg (by rw [hΓ]; rfl) hM fun i j e' _ he => by
    rw [hΓ] at he
    rcases j with _ | j
    · cases he
    · cases he)
theorem OK.up {M' : Nat → Nat} (hM : ∀ e, M e ≤ M' e) (h : OK Γ M Z w e s) : OK Γ M' Z w e s := by
  induction h with
  | nil e => exact .nil e
  | @row e b n c cur f h0 h1 h2 h3 h4 h5 h6 h7 ih => exact .row f (Nat.le_trans h0 (hM e)) h1 h2 h3 h4 h5 h6 ih
theorem OK.max (h : OK Γ M Z w e s) : s.n ≤ M e := by
  cases h with
  | nil => exact Nat.zero_le _
  | row f h0 => exact h0
/-- What is turned elsewhere. -/
theorem OK.elsewhere {S : Nat → Prop} (hm : Mod S w u) (hS : ∀ k, Z k → k < w.heap.size → ¬ S k) (h : OK Γ M Z w e s) : OK Γ M Z u e s := by
  induction h with
  | nil e => exact .nil e
  | @row e b n c cur f h0 h1 h2 h3 h4 h5 h6 h7 ih =>
    refine .row f h0 h1 (h2.mod hm (hS b h1 h2.lt)) h3 h4 h5 (fun i j e' hi he => ?_) ih
    exact hm.cell (hS b h1 h2.lt) (h6 i j e' hi he)
end
end Go.E
