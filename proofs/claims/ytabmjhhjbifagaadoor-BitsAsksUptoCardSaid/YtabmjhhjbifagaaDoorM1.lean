/- Part of a proof of laws of the seat YtabmjhhjbifagaaDoor: functions' weakest preconditions, each checked by the kernel, and contracts out of them; no conditions. -/
import Derived.Test.YtabmjhhjbifagaaDoorE9
set_option linter.unusedVariables false
set_option linter.unusedSimpArgs false
namespace Go.E
open Go Go.RowKit Go.ChangeShapes

/-! ### steps -/
theorem chk_mk {c K : Prop} [Decidable c] (hc : c) (h : K) : chk c K := chk_iff.2 ⟨hc, h⟩
theorem nchk_mk {c K : Prop} [Decidable c] (hc : ¬ c) (h : K) : nchk c K := nchk_iff.2 ⟨hc, h⟩
theorem nv_mk {α : Type} {x y : α} {K : α → Prop} (e : x = y) (h : K y) : nv x K := by subst e; exact h
theorem nv_i64 {x : Int} {K : Int → Prop} (h0 : -9223372036854775808 ≤ x) (h1 : x ≤ 9223372036854775807) (h : K x) : nv (IntKind.i64.wrap x) K := nv_mk (i64_id h0 h1) h
theorem nv_u64 {x : Int} {K : Int → Prop} (h0 : 0 ≤ x) (h1 : x ≤ 18446744073709551615) (h : K x) : nv (IntKind.u64.wrap x) K := nv_mk (u64_id h0 h1) h
theorem tdiv_pos {a c : Int} (h : 0 ≤ a) : Int.tdiv a c = a / c := by rw [Int.tdiv_eq_ediv_of_nonneg h]
theorem tmod_pos {a c : Int} (h : 0 ≤ a) : Int.tmod a c = a % c := by rw [Int.tmod_eq_emod_of_nonneg h]
theorem nv_div {a c : Int} {K : Int → Prop} (h : 0 ≤ a) (hm : a ≤ 9223372036854775807) (hc : 0 < c) (hk : K (a / c)) : nv (IntKind.i64.wrap (Int.tdiv a c)) K := by
  refine nv_mk ?_ hk
  rw [tdiv_pos h]
  have h1 : 0 ≤ a / c := Int.ediv_nonneg h (by omega)
  have h2 : a / c ≤ a := Int.ediv_le_self c h
  exact i64_id (by omega) (by omega)
theorem nv_mod {a c : Int} {K : Int → Prop} (h : 0 ≤ a) (hk : K (a % c)) : nv (Int.tmod a c) K := nv_mk (tmod_pos h) hk
/-- The round's next number of a counter. -/
theorem nv_succ {i : Nat} {K : Int → Prop} (h : i < 9223372036854775807) (hk : K ((i + 1 : Nat) : Int)) : nv (IntKind.i64.wrap ((i : Int) + 1)) K := nv_mk (by rw [i64_id (by omega) (by omega)]; rfl) hk
theorem nw_mk {w : World} {K : World → Prop} (h : K w) : nw w K := h
theorem onEq {a b : Int} {t f : Prop} (ht : a = b → t) (hf : a ≠ b → f) : onBool (a == b) t f := by
  by_cases h : a = b
  · subst h; simpa [onBool] using ht rfl
  · rw [beq_false_of_ne h]; exact hf h
theorem onNe {a b : Int} {t f : Prop} (ht : a ≠ b → t) (hf : a = b → f) : onBool (a != b) t f := by
  by_cases h : a = b
  · subst h; simpa [onBool] using hf rfl
  · have : (a != b) = true := by simpa using h
    rw [this]; exact ht h
theorem onEq_t {a b : Int} {t f : Prop} (h : a = b) (ht : t) : onBool (a == b) t f := onEq (fun _ => ht) (fun h' => absurd h h')
theorem onEq_f {a b : Int} {t f : Prop} (h : a ≠ b) (hf : f) : onBool (a == b) t f := onEq (fun h' => absurd h' h) (fun _ => hf)
theorem onNe_t {a b : Int} {t f : Prop} (h : a ≠ b) (ht : t) : onBool (a != b) t f := onNe (fun _ => ht) (fun h' => absurd h' h)
theorem onNe_f {a b : Int} {t f : Prop} (h : a = b) (hf : f) : onBool (a != b) t f := onNe (fun h' => absurd h h') (fun _ => hf)

/-! ### what a world leaves alone -/
/-- Of the blocks that were there at most those of S are turned. -/
structure Mod (S : Nat → Prop) (w u : World) : Prop where
  os : u.os = w.os
  tape : u.tape = w.tape
  output : u.output = w.output
  size : w.heap.size ≤ u.heap.size
  block : ∀ k, k < w.heap.size → ¬ S k → u.heap[k]? = w.heap[k]?
/-- Nothing that was there is turned. -/
abbrev Kept (w u : World) : Prop := Below w.heap.size w u
/-- At most the block of number g - 1 is turned. -/
abbrev Only (g : Nat) (w u : World) : Prop := Mod (fun k => k + 1 = g) w u
/-- At most what lies from B on is turned. -/
abbrev From (B : Nat) (w u : World) : Prop := Mod (fun k => B ≤ k) w u
section
variable {w u x : World} {S T U : Nat → Prop} {B g : Nat}
theorem Mod.refl (w : World) : Mod S w w := ⟨rfl, rfl, rfl, Nat.le_refl _, fun _ _ _ => rfl⟩
theorem Mod.trans (h : Mod S w u) (k : Mod T u x) (hS : ∀ k, k < w.heap.size → S k → U k) (hT : ∀ k, k < w.heap.size → T k → U k) : Mod U w x :=
  ⟨k.os.trans h.os, k.tape.trans h.tape, k.output.trans h.output, Nat.le_trans h.size k.size, fun b hb hn =>
    (k.block b (Nat.lt_of_lt_of_le hb h.size) (fun ht => hn (hT b hb ht))).trans (h.block b hb (fun hs => hn (hS b hb hs)))⟩
theorem Mod.weak (h : Mod S w u) (hS : ∀ k, k < w.heap.size → S k → U k) : Mod U w u := h.trans (Mod.refl (S := fun _ => False) u) hS (fun _ _ h => h.elim)
theorem Kept.mod (h : Kept w u) : Mod S w u := ⟨h.os, h.tape, h.output, h.size, fun k hk _ => h.block k hk⟩
theorem Mod.kept (h : Mod S w u) (hS : ∀ k, k < w.heap.size → ¬ S k) : Kept w u := ⟨h.os, h.tape, h.output, h.size, fun k hk => h.block k hk (hS k hk)⟩
theorem From.kept (h : From w.heap.size w u) : Kept w u := Mod.kept (S := fun k => w.heap.size ≤ k) h fun k hk hn => by omega
theorem Kept.refl (w : World) : Kept w w := Below.refl _ _
theorem Kept.trans (h : Kept w u) (k : Kept u x) : Kept w x := bthen h k
theorem From.then (h : From B w u) (k : Mod T u x) (hT : ∀ k, k < w.heap.size → T k → B ≤ k) : From B w x := Mod.trans (S := fun k => B ≤ k) h k (fun _ _ h => h) hT
theorem From.keptThen (h : From B w u) (k : Kept u x) : From B w x := Mod.trans (S := fun k => B ≤ k) h (Kept.mod (S := fun _ => False) k) (fun _ _ h => h) (fun _ _ h => h.elim)
theorem Kept.new (w : World) (o : Obj) : Kept w (w.alloc o) := below_new w o
theorem Kept.of_grown (h : w.grownBy u none) : Kept w u := ⟨h.os, h.tape, h.output, h.size, fun k hk => h.block k hk (fun h => by cases h)⟩
theorem Blk.mod {b e : Nat} {cs : Array Value} (h : Blk w b cs e) (hm : Mod S w u) (hn : ¬ S b) : Blk u b cs e := (hm.block b h.lt hn).trans h
theorem Mod.cell (hm : Mod S w u) {a : Addr} {v : Value} (hn : ¬ S a.block) (h : w.cell? a = some v) : u.cell? a = some v := by
  rw [World.cell?_of_block (hm.block a.block (block_lt_of_cell h) hn)]; exact h
theorem Only.set (w : World) (b i : Nat) (v : Value) : Only (b + 1) w (w.setCell ⟨b, i, none⟩ v) :=
  ⟨rfl, rfl, rfl, by rw [heap_setCell_size]; exact Nat.le_refl _, fun k _ hn => by
    unfold World.setCell
    simp only [Array.getElem?_modify]
    rw [if_neg (fun h => hn (by omega))]⟩
end

/-! ### kinds of data -/
/-- How a datum lies in cells: k cells, of which more may be read in the blocks of F. -/
structure Ty (α : Type) where
  k : Nat
  rd : (Nat → Prop) → World → α → List Value → Prop
  len : ∀ {F w x cs}, rd F w x cs → cs.length = k
  one : ∀ {F w x cs}, rd F w x cs → ∀ c ∈ cs, c.oneCell' = true
  mono : ∀ {F F' : Nat → Prop} {w x cs}, (∀ b, F b → F' b) → rd F w x cs → rd F' w x cs
  keep : ∀ {F : Nat → Prop} {w u x cs}, (∀ b, F b → b < w.heap.size → u.heap[b]? = w.heap[b]?) → rd F w x cs → rd F u x cs

/-- A slice that reads as xs. -/
structure Ls {α : Type} (T : Ty α) (F : Nat → Prop) (w : World) (a : Option Addr) (n c : Nat) (xs : List α) : Prop where
  len : n = xs.length
  cap : n ≤ c
  get : ∀ i x, xs[i]? = some x → ∃ p cs, a = some p ∧ F p.block ∧ T.rd F w x cs ∧ ∀ j y, cs[j]? = some y → w.cell? (p.add (i * T.k + j)) = some y
section
variable {α : Type} {T : Ty α} {F F' : Nat → Prop} {w u : World} {a : Option Addr} {n c : Nat} {xs : List α}
theorem Ls.mono (h : Ls T F w a n c xs) (hF : ∀ b, F b → F' b) : Ls T F' w a n c xs :=
  ⟨h.len, h.cap, fun i x hi => let ⟨p, cs, h1, h2, h3, h4⟩ := h.get i x hi; ⟨p, cs, h1, hF _ h2, T.mono hF h3, h4⟩⟩
theorem Ls.keep (h : Ls T F w a n c xs) (hu : ∀ b, F b → b < w.heap.size → u.heap[b]? = w.heap[b]?) : Ls T F u a n c xs :=
  ⟨h.len, h.cap, fun i x hi => let ⟨p, cs, h1, h2, h3, h4⟩ := h.get i x hi; ⟨p, cs, h1, h2, T.keep hu h3, fun j y hj => by
    have := h4 j y hj
    rw [World.cell?_of_block (hu _ (by rw [add_block]; exact h2) (block_lt_of_cell this))]
    exact this⟩⟩
theorem Ls.mod {S : Nat → Prop} (h : Ls T F w a n c xs) (hm : Mod S w u) (hn : ∀ b, F b → ¬ S b) : Ls T F u a n c xs := h.keep fun b hb hlt => hm.block b hlt (hn b hb)
theorem Ls.kept (h : Ls T F w a n c xs) (hm : Kept w u) : Ls T F u a n c xs := h.keep fun b _ hlt => hm.block b hlt
theorem Ls.nil (T : Ty α) (F : Nat → Prop) (w : World) (a : Option Addr) (c : Nat) : Ls T F w a 0 c [] := ⟨rfl, Nat.zero_le _, fun i x h => by simp at h⟩
theorem Ls.opt {K : Addr → Prop} (h : Ls T F w a n c xs) {i : Nat} (hi : i < n)
    (hk : ∀ p x cs, xs[i]? = some x → F p.block → T.rd F w x cs → (∀ j y, cs[j]? = some y → w.cell? (p.add (i * T.k + j)) = some y) → K p) : optN a K := by
  have hi' : i < xs.length := h.len ▸ hi
  obtain ⟨p, cs, rfl, h2, h3, h4⟩ := h.get i _ (List.getElem?_eq_getElem hi')
  exact hk p _ cs (List.getElem?_eq_getElem hi') h2 h3 h4
end
/-- Slices as data. -/
def Ty.sl {α : Type} (T : Ty α) : Ty (List α) where
  k := 1
  rd F w xs cs := ∃ a n c, cs = [.slice a n c] ∧ Ls T F w a n c xs
  len := by rintro F w x cs ⟨a, n, c, rfl, _⟩; rfl
  one := by rintro F w x cs ⟨a, n, c, rfl, _⟩ v hv; simp at hv; subst hv; rfl
  mono := by rintro F F' w x cs hF ⟨a, n, c, rfl, h⟩; exact ⟨a, n, c, rfl, h.mono hF⟩
  keep := by rintro F w u x cs hu ⟨a, n, c, rfl, h⟩; exact ⟨a, n, c, rfl, h.keep hu⟩
/-- Data of one cell that says it all. -/
def Ty.flat {α : Type} (en : α → Value) (h1 : ∀ x, (en x).oneCell' = true) : Ty α where
  k := 1
  rd _ _ x cs := cs = [en x]
  len := by rintro F w x cs rfl; rfl
  one := by rintro F w x cs rfl v hv; simp at hv; subst hv; exact h1 x
  mono := fun _ h => h
  keep := fun _ h => h
def tInt (k : IntKind) : Ty Int := .flat (fun x => .int k x) (fun _ => rfl)
def tF64 : Ty Nat := .flat (fun x => .float .f64 x) (fun _ => rfl)
def tBool : Ty Bool := .flat (fun x => .bool x) (fun _ => rfl)
def tStr : Ty ByteArray := .flat (fun x => .string x) (fun _ => rfl)
def enW (x : BitVec 64) : Value := .int .u64 (x.toNat : Int)
def tW : Ty (BitVec 64) := .flat enW (fun _ => rfl)

/-- Data of several cells that say it all. -/
def Ty.cells {α : Type} (k : Nat) (en : α → List Value) (hl : ∀ x, (en x).length = k) (h1 : ∀ x, ∀ c ∈ en x, c.oneCell' = true) : Ty α where
  k := k
  rd _ _ x cs := cs = en x
  len := by rintro F w x cs rfl; exact hl x
  one := by rintro F w x cs rfl; exact h1 x
  mono := fun _ h => h
  keep := fun _ h => h

/-! ### own rows -/
def Row (w : World) (e size : Nat) (a : Option Addr) (n c : Nat) (cs : List Value) (g : Nat) : Prop :=
  cs.length = n * size ∧ ((g = 0 ∧ a = none ∧ n = 0 ∧ c = 0) ∨ ∃ b cur, g = b + 1 ∧ a = some ⟨b, 0, none⟩ ∧ Blk w b cur e ∧ n ≤ c ∧ c ≤ maxLen ∧ cur.size = c * size ∧ cur.toList.take (n * size) = cs)
section
variable {w u : World} {e size : Nat} {a : Option Addr} {n c g : Nat} {cs : List Value} {S : Nat → Prop}
theorem Row.le (h : Row w e size a n c cs g) : g ≤ w.heap.size := by
  rcases h.2 with ⟨rfl, _⟩ | ⟨b, cur, rfl, _, hb, _⟩
  · exact Nat.zero_le _
  · exact hb.lt
theorem Row.mod (h : Row w e size a n c cs g) (hm : Mod S w u) (hn : ∀ k, k + 1 = g → ¬ S k) : Row u e size a n c cs g := by
  refine ⟨h.1, ?_⟩
  rcases h.2 with h0 | ⟨b, cur, rfl, h1, hb, h2⟩
  · exact .inl h0
  · exact .inr ⟨b, cur, rfl, h1, hb.mod hm (hn b rfl), h2⟩
theorem Row.kept (h : Row w e size a n c cs g) (hm : Kept w u) : Row u e size a n c cs g := h.mod (Kept.mod (S := fun _ => False) hm) (fun _ _ h => h)
theorem Row.nil (w : World) (e size : Nat) : Row w e size none 0 0 [] 0 := ⟨by simp, .inl ⟨rfl, rfl, rfl, rfl⟩⟩
theorem Row.cell (h : Row w e size a n c cs g) {i : Nat} {v : Value} (hi : cs[i]? = some v) : ∃ b, g = b + 1 ∧ a = some ⟨b, 0, none⟩ ∧ w.cell? ⟨b, i, none⟩ = some v := by
  rcases h.2 with ⟨rfl, rfl, rfl, _⟩ | ⟨b, cur, rfl, rfl, hb, hnc, hc, hs, ht⟩
  · have : cs = [] := List.eq_nil_of_length_eq_zero (by simpa using h.1)
    subst this; simp at hi
  · refine ⟨b, rfl, rfl, ?_⟩
    rw [hb.cell]
    subst ht
    have hlt := (List.getElem?_eq_some_iff.1 hi).1
    rw [List.length_take] at hlt
    rw [List.getElem?_take] at hi
    rw [if_pos (by omega)] at hi
    simpa using hi
theorem Row.cap (h : Row w e size a n c cs g) : n ≤ c := by
  rcases h.2 with ⟨rfl, rfl, rfl, rfl⟩ | ⟨b, cur, rfl, rfl, hb, hnc, _⟩ <;> omega
theorem Row.ownsRow (h : Row w e size a n c cs g) : w.ownsRow 0 e size (.slice a n c) n cs := by
  refine ⟨h.1, ?_⟩
  rcases h.2 with ⟨rfl, rfl, rfl, rfl⟩ | ⟨b, cur, rfl, rfl, hb, hnc, hc, hs, ht⟩
  · exact .inl ⟨rfl, rfl⟩
  · exact .inr ⟨b, c, cur, rfl, Nat.zero_le _, hb, hnc, hc, hs, ht⟩
/-- One cell of an own row is written. -/
theorem Row.set (h : Row w e size a n c cs g) {i : Nat} (hi : i < n * size) (v : Value) : ∃ b, g = b + 1 ∧ a = some ⟨b, 0, none⟩ ∧ okSt w ⟨b, i, none⟩ ∧ Row (w.setCell ⟨b, i, none⟩ v) e size a n c (cs.set i v) g ∧ Only g w (w.setCell ⟨b, i, none⟩ v) := by
  rcases h.2 with ⟨rfl, rfl, rfl, _⟩ | ⟨b, cur, rfl, rfl, hb, hnc, hc, hs, ht⟩
  · omega
  · have hle : n * size ≤ c * size := Nat.mul_le_mul_right _ hnc
    refine ⟨b, rfl, rfl, hb.ok (by omega), ⟨by simpa using h.1, .inr ⟨b, _, rfl, rfl, hb.set i v, hnc, hc, by simpa using hs, ?_⟩⟩, Only.set w b i v⟩
    subst ht
    rw [Array.toList_setIfInBounds, List.take_set]
end

/-- append to an own row. -/
theorem rawN_row {P : Program} {w : World} {t ty e size bytes : Nat} (hT : SliceT P t e size bytes) (hsz : 0 < size) {a : Option Addr} {n c g : Nat} {xs : List Value} (hown : Row w e size a n c xs g)
    {news : List Value} {s : Option Addr} {m d : Nat} (hl : news.length = m * size) (hnews : ∀ j u, news[j]? = some u → ∃ p, s = some p ∧ w.cell? (p.add j) = some u) (hm0 : s = none → m = 0)
    (h1 : ∀ u ∈ news, u.oneCell' = true) (h63 : n + m ≤ maxLen) (hbytes : (n + m) * bytes ≤ 140737488355328) {K : Value → World → Prop}
    (hk : ∀ a' c' g' w', Row w' e size a' (n + m) c' (xs ++ news) g' → (g' = g ∨ g' = w.heap.size + 1) → Only g w w' → K (.slice a' (n + m) c') w') :
    rawN P (Builtin.append_ #[t, t] ty #[.slice a n c, .slice s m d]) w K := by
  obtain ⟨ht, i, z, hi, hz, rfl, rfl, hzs⟩ := hT
  intro dd
  have hsmall : n + m ≤ 9223372036854775807 := by simp only [maxLen] at h63; omega
  have hlen : (xs ++ news).length = (n + m) * i.size := by rw [List.length_append, hown.1, hl, Nat.add_mul]
  cases s with
  | none =>
    obtain rfl := hm0 rfl
    obtain rfl : news = [] := List.eq_nil_of_length_eq_zero (by simpa using hl)
    refine ⟨.slice a n c, w, dd, run_append_nilsrc ht hi _ _ _ _ hown.cap, ?_⟩
    exact hk a c g w (by simpa using hown) (.inl rfl) (Mod.refl _)
  | some p =>
    have hn' : ∀ j u, news[j]? = some u → (dr w dd).cell? (p.add j) = some u := fun j u hj => by obtain ⟨p', hp, hc⟩ := hnews j u hj; cases hp; exact hc
    have hnew : ∀ (old : Nat), old < n + m →
        Row ((dr w dd).drew.alloc (.cells (xs.toArray ++ news.toArray ++ Builtin.zeroCells z.cells (grownCap (dr w dd) (n + m) old e - (n + m))) e)) e i.size (some ⟨w.heap.size, 0, none⟩) (n + m) (grownCap (dr w dd) (n + m) old e) (xs ++ news) (w.heap.size + 1) := by
      intro old ho
      have hge := grownCap_ge (dr w dd) (n + m) old e
      have hcm : grownCap (dr w dd) (n + m) old e ≤ maxLen := grownCap_le_maxLen (dr w dd) (n + m) old e h63
      refine ⟨hlen, .inr ⟨w.heap.size, _, rfl, rfl, heap_alloc_new (dr w dd).drew _, hge, hcm, ?_, ?_⟩⟩
      · simp only [Array.size_append, List.size_toArray, size_zeroCells, hzs, hown.1, hl, ← Nat.add_mul]
        congr 1
        omega
      · simp only [Array.toList_append, List.append_assoc]
        rw [← List.append_assoc, ← hlen]
        exact List.take_left
    have hdr : ∀ (o : Obj), (dr w dd).drew.alloc o = dr (w.alloc o) ((dr w dd).drew).drawn := fun o => rfl
    have honly : ∀ (o : Obj), Only g w (w.alloc o) := fun o => Kept.mod (Kept.new w o)
    rcases hown.2 with ⟨rfl, rfl, rfl, rfl⟩ | ⟨b, cur, rfl, rfl, hg, hnc, hcm, hcs, htake⟩
    · have hx : xs = [] := List.eq_nil_of_length_eq_zero (by simpa using hown.1)
      subst hx
      by_cases hm : m = 0
      · subst hm
        have hn : news = [] := List.eq_nil_of_length_eq_zero (by simpa using hl)
        subst hn
        refine ⟨.slice none 0 0, w, dd, ?_, hk none 0 0 w (Row.nil w e i.size) (.inl rfl) (Mod.refl _)⟩
        simp [Builtin.append_, run_underlying ht, sizeOf, typeInfo, hi, Builtin.lenOf, Builtin.firstCells, loadCells, loadCellsFrom]
      · have hr := run_append_nil (P := P) (dr w dd) t ty e i z ht hi hz p m d news hl hn' (by omega) (by omega) (by have hb := hbytes; simp only [Nat.zero_add] at hb; omega)
        have hgr := hnew 0 (by omega)
        simp only [Nat.zero_add, List.nil_append, Array.empty_append] at hgr hk
        rw [hdr] at hr
        refine ⟨_, _, _, hr, hk _ _ _ _ ?_ (.inr rfl) (honly _)⟩
        exact hgr
    · by_cases hroom : n + m ≤ c
      · have hfit : n * i.size + news.length ≤ cur.size := by rw [hl, hcs, ← Nat.add_mul]; exact Nat.mul_le_mul_right _ hroom
        have hr := run_append_room (P := P) (dr w dd) t ty e i ht hi b n c cur hg p m d news hl hn' h1 hroom hfit
        refine ⟨_, w.setRow b _, dd, hr, hk _ _ (b + 1) _ ⟨hlen, .inr ⟨b, _, rfl, rfl, setRow_heap w b cur _ e _ hg, hroom, hcm, ?_, ?_⟩⟩ (.inl rfl) ⟨rfl, rfl, rfl, by simp [World.setRow], fun k _ hk => setRow_other w b k _ (fun e => hk (by omega))⟩⟩
        · simp only [List.size_toArray, List.length_append, List.length_take, List.length_drop, Array.length_toList]
          omega
        · rw [htake, ← hlen]
          exact List.take_left
      · have holds : ∀ j u, xs[j]? = some u → (dr w dd).cell? ((⟨b, 0, none⟩ : Addr).add j) = some u := fun j u hj => by
          obtain ⟨b', hb', _, hc⟩ := hown.cell hj
          obtain rfl : b' = b := by omega
          rw [addr_add, Nat.zero_add]
          exact hc
        have hr := run_append_grow (P := P) (dr w dd) t ty e i z ht hi hz ⟨b, 0, none⟩ n c xs hown.1 holds p m d news hl hn' (by omega) (by omega) (growslice_fits (by omega) hbytes)
        rw [hdr] at hr
        exact ⟨_, _, _, hr, hk _ _ _ _ (hnew c (by omega)) (.inr rfl) (honly _)⟩
end Go.E
