/- Part of a proof of laws of the seat YtabmjhhjbifagaaDoor: functions' weakest preconditions, each checked by the kernel, and contracts out of them; no conditions. -/
import Derived.Test.YtabmjhhjbifagaaDoorE7
set_option linter.unusedVariables false
set_option linter.unusedSimpArgs false
namespace Go.E
open Go Go.RowKit Go.ChangeShapes

/-! ### blocks -/
def Blk (w : World) (b : Nat) (cs : Array Value) (e : TypeId) : Prop := w.heap[b]? = some (.cells cs e (0, 0))

theorem addr_add (b i j : Nat) : (⟨b, i, none⟩ : Addr).add j = ⟨b, i + j, none⟩ := by unfold Addr.add; split <;> simp_all

section
variable {w u w' : World} {b b' B : Nat} {cs cs' : Array Value} {e e' : TypeId} {row : Option Nat}
theorem Blk.new (w : World) (cs : Array Value) (e : TypeId) : Blk (w.alloc (.cells cs e)) w.heap.size cs e := heap_alloc_new w _
theorem Blk.lt (h : Blk w b cs e) : b < w.heap.size := (Array.getElem?_eq_some_iff.1 h).1
theorem Blk.below (h : Blk w b cs e) (hb : Below B w u) (hlt : b < B) : Blk u b cs e := (hb.block b hlt).trans h
theorem Blk.keep (h : Blk w b cs e) (hb : Below w.heap.size w u) : Blk u b cs e := h.below hb h.lt
theorem Blk.grown (h : Blk w b cs e) (hg : w.grownBy w' row) (hne : some b ≠ row) : Blk w' b cs e := (hg.block b h.lt hne).trans h
theorem Blk.alloc (h : Blk w b cs e) (o : Obj) : Blk (w.alloc o) b cs e := h.keep (below_new w o)
theorem Blk.cell (h : Blk w b cs e) (i : Nat) : w.cell? ⟨b, i, none⟩ = cs[i]? := by
  unfold World.cell?
  simp only
  rw [show w.heap[b]? = _ from h]
  simp
theorem Blk.ok (h : Blk w b cs e) {i : Nat} (hi : i < cs.size) : okSt w ⟨b, i, none⟩ := by
  refine ⟨⟨cs[i], by rw [h.cell]; exact Array.getElem?_eq_getElem hi⟩, ?_⟩
  unfold World.frozen?
  simp only
  rw [show w.heap[b]? = _ from h]
  simp
theorem Blk.set (h : Blk w b cs e) (i : Nat) (v : Value) : Blk (w.setCell ⟨b, i, none⟩ v) b (cs.setIfInBounds i v) e := by
  unfold Blk World.setCell
  simp only [Array.getElem?_modify]
  rw [show w.heap[b]? = _ from h]
  simp
theorem Blk.set_other (h : Blk w b cs e) {a : Addr} (hne : a.block ≠ b) (v : Value) : Blk (w.setCell a v) b cs e := by
  unfold Blk World.setCell
  simp only [Array.getElem?_modify]
  rw [if_neg hne]
  exact h
theorem Blk.apart (h : Blk w b cs e) (h' : Blk w b' cs' e') (hne : e ≠ e') : b ≠ b' := by
  rintro rfl
  unfold Blk at h h'
  rw [h] at h'
  cases h'
  exact hne rfl
theorem heap_setCell_size (w : World) (a : Addr) (v : Value) : (w.setCell a v).heap.size = w.heap.size := by simp [World.setCell]
/-- A store into a block of one's own. -/
theorem below_set (hb : Below B u w) {a : Addr} (ha : B ≤ a.block) (v : Value) : Below B u (w.setCell a v) := hb.setCell ha v
end

/-! ### own rows -/
section
variable {w u w' : World} {b base : Nat} {cs : Array Value} {e e' : TypeId} {size size' n n' : Nat} {v v' : Value} {xs xs' : List Value} {row : Option Nat}
theorem own_blk (h : w.ownsRow base e size v n xs) {g : Nat} (hg : v.ownBlock = some g) : ∃ cur, Blk w g cur e ∧ base ≤ g := by
  rcases h.2 with ⟨rfl, _⟩ | ⟨g', cap, cur, rfl, hb, hh, _⟩
  · cases hg
  · simp only [Value.ownBlock, Option.some.injEq] at hg
    subst hg
    exact ⟨cur, hh, hb⟩
theorem own_apart (h : w.ownsRow base e size v n xs) (hb : Blk w b cs e') (hne : e ≠ e') : some b ≠ v.ownBlock := by
  intro hv
  obtain ⟨cur, hc, _⟩ := own_blk h hv.symm
  exact hc.apart hb hne rfl
theorem own_keep (h : w.ownsRow base e size v n xs) (hb : Below w.heap.size w u) : u.ownsRow base e size v n xs :=
  h.kept (row := none) ⟨hb.os, hb.tape, hb.output, hb.size, fun k hk _ => hb.block k hk⟩ (by cases v.ownBlock <;> simp)
theorem own_set (h : w.ownsRow base e size v n xs) {a : Addr} (hne : some a.block ≠ v.ownBlock) (x : Value) : (w.setCell a x).ownsRow base e size v n xs := by
  refine h.kept (row := some a.block) ⟨rfl, rfl, rfl, by rw [heap_setCell_size]; exact Nat.le_refl _, fun k hk hk' => ?_⟩ (.inr (Ne.symm hne))
  unfold World.setCell
  simp only [Array.getElem?_modify]
  rw [if_neg (fun h => hk' (by rw [h]))]
theorem own_base (h : w.ownsRow base e size v n xs) {B : Nat} (hB : B ≤ base) : w.ownsRow B e size v n xs := by
  refine ⟨h.1, ?_⟩
  rcases h.2 with h | ⟨g, cap, cur, hv, hb, hh⟩
  · exact .inl h
  · exact .inr ⟨g, cap, cur, hv, Nat.le_trans hB hb, hh⟩
theorem own_grown (h : w.ownsRow base e size v n xs) (h' : w.ownsRow base e' size' v' n' xs') (hne : e ≠ e') (hg : w.grownBy w' v'.ownBlock) : w'.ownsRow base e size v n xs := by
  refine h.kept hg ?_
  cases hv : v.ownBlock with
  | none => exact .inl rfl
  | some g =>
    refine .inr fun hgg => ?_
    obtain ⟨cur, hc, _⟩ := own_blk h hv
    exact own_apart h' hc (Ne.symm hne) hgg
theorem grown_below {B : Nat} (hb : Below B u w) (h : w.ownsRow base e size v n xs) (hg : w.grownBy w' v.ownBlock) (hB : B ≤ base) (hs : B ≤ w.heap.size) : Below B u w' :=
  hb.grown hg hs fun k hk => Nat.le_trans hB (h.lt k hk).1
theorem grown_alloc (w : World) (o : Obj) (hg : (w.alloc o).grownBy w' row) : w.grownBy w' row :=
  ⟨hg.os, hg.tape, hg.output, Nat.le_trans (by simp) hg.size, fun k hk hne => (hg.block k (by simp; omega) hne).trans (heap_alloc_old w o k hk)⟩
end

/-- What is known of a slice's type. -/
structure SliceT (P : Program) (t e : TypeId) (size bytes : Nat) : Prop where
  ht : P.underlying t = some (.slice e)
  info : ∃ i z, P.info? e = some i ∧ i.zero = some z ∧ i.size = size ∧ i.bytes = bytes ∧ z.cells.size = size
def sliceTB (P : Program) (t e : TypeId) (size bytes : Nat) : Bool := match P.underlying t with
  | some (.slice e') => Nat.beq e' e && (match P.info? e with
    | some i => Nat.beq i.size size && Nat.beq i.bytes bytes && (match i.zero with
      | some z => Nat.beq z.cells.size size
      | none => false)
    | none => false)
  | _ => false
theorem sliceT {P : Program} {t e : TypeId} {size bytes : Nat} (h : sliceTB P t e size bytes = true) : SliceT P t e size bytes := by
  unfold sliceTB at h
  split at h
  case h_2 => cases h
  rename_i e' hu
  simp only [Bool.and_eq_true] at h
  obtain ⟨h1, h2⟩ := h
  have h1 : e' = e := Nat.eq_of_beq_eq_true h1
  subst h1
  split at h2
  case h_2 => cases h2
  rename_i i hi
  simp only [Bool.and_eq_true] at h2
  obtain ⟨⟨h3, h4⟩, h5⟩ := h2
  split at h5
  case h_2 => cases h5
  rename_i z hz
  exact ⟨hu, i, z, hi, hz, Nat.eq_of_beq_eq_true h3, Nat.eq_of_beq_eq_true h4, Nat.eq_of_beq_eq_true h5⟩

section
variable {P : Program} {w : World} {base : Nat} {t ty e : TypeId} {size bytes : Nat} {v : Value} {n : Nat} {xs : List Value}
theorem append_own (hT : SliceT P t e size bytes) (hsz : 0 < size) (hown : w.ownsRow base e size v n xs) {news : List Value} {a : Option Addr} {m c : Nat} (hl : news.length = m * size) (hnews : ∀ j u, news[j]? = some u → ∃ p, a = some p ∧ w.cell? (p.add j) = some u) (hm0 : a = none → m = 0)
    (h1 : ∀ u ∈ news, u.oneCell' = true) (h63 : n + m ≤ maxLen) (hbytes : (n + m) * bytes ≤ 140737488355328) (hbase : base ≤ w.heap.size) {K : Value → World → Prop}
    (hk : ∀ v' w', w'.ownsRow base e size v' (n + m) (xs ++ news) → w.grownBy w' v.ownBlock → K v' w') : rawN P (Builtin.append_ #[t, t] ty #[v, .slice a m c]) w K := by
  obtain ⟨ht, i, z, hi, hz, rfl, rfl, hzs⟩ := hT
  exact rawN_append ht hi hz hzs hsz hown hl hnews hm0 h1 h63 hbytes hbase hk
/-- One element, out of a block made for it. -/
theorem append_one (hT : SliceT P t e size bytes) (hsz : 0 < size) (hown : w.ownsRow base e size v n xs) {cl : Array Value} (hl : cl.size = size) (h1 : ∀ u ∈ cl.toList, u.oneCell' = true) (h63 : n + 1 ≤ maxLen) (hbytes : (n + 1) * bytes ≤ 140737488355328) (hbase : base ≤ w.heap.size)
    {K : Value → World → Prop} (hk : ∀ v' w', w'.ownsRow base e size v' (n + 1) (xs ++ cl.toList) → w.grownBy w' v.ownBlock → K v' w') : rawN P (Builtin.append_ #[t, t] ty #[v, .slice (some (na w)) 1 1]) (w.alloc (.cells cl e)) K :=
  append_own hT hsz (own_keep hown (below_new _ _)) (news := cl.toList) (by simp [hl]) (fun j u hj => ⟨_, rfl, by rw [cell_new]; simpa using hj⟩) (fun h => by cases h) h1 h63 hbytes (by simp; omega) fun v' w' h2 h3 => hk v' w' h2 (grown_alloc w _ h3)
end
theorem own_nil (w : World) (base : Nat) (e : TypeId) (size : Nat) : w.ownsRow base e size (.slice none 0 0) 0 [] := World.ownsRow_nil w base e size
/-- A new empty slice of no room. -/
theorem own_empty {w : World} {base : Nat} {e : TypeId} {size : Nat} (hb : base ≤ w.heap.size) : (w.alloc (.cells #[] e)).ownsRow base e size (.slice (some (na w)) 0 0) 0 [] :=
  ⟨by simp, .inr ⟨_, 0, #[], rfl, hb, heap_alloc_new w _, Nat.le_refl _, Nat.zero_le _, by simp, by simp⟩⟩
end Go.E
