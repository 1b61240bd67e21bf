/- Arguments out of their reading, and what append makes; no conditions. -/
import Derived.Test.YtabmjhhjbifagaaDoorE6
import Derived.Deep.Slices
import Derived.DataReads
import Derived.Laws.AppendOwn
import Derived.Deep.AppendSrc
set_option linter.unusedVariables false
set_option linter.unusedSimpArgs false
namespace Go.E
open Go Go.RowKit Go.ChangeShapes

/-! ### arguments, out of their reading -/
section
variable {H : Type} {enc : TypeId × Value → H} {P : Program} {w : World} {t e : TypeId} {cs : List Value} {x : DataW H × List MemPlace}

def TR (enc : TypeId × Value → H) (P : Program) (w : World) (t : TypeId) (cs : List Value) (x : DataW H × List MemPlace) : Prop := ∃ fuel, DataW.trod enc P w 0 (fun _ => true) true fuel t cs = some x

theorem tr_int {k : IntKind} (ht : P.underlying t = some (.int k)) (h : TR enc P w t cs x) : ∃ n, cs = [.int k n] ∧ (Lit.int k n).wf = true := by
  obtain ⟨fuel, h⟩ := h
  cases fuel with
  | zero => simp [DataW.trod] at h
  | succ f =>
    unfold DataW.trod at h
    rw [ht] at h
    split at h <;> simp_all
theorem tr_float {k : FloatKind} (ht : P.underlying t = some (.float k)) (h : TR enc P w t cs x) : ∃ n, cs = [.float k n] ∧ (Lit.float k n).wf = true := by
  obtain ⟨fuel, h⟩ := h
  cases fuel with
  | zero => simp [DataW.trod] at h
  | succ f =>
    unfold DataW.trod at h
    rw [ht] at h
    split at h <;> simp_all
theorem tr_bool (ht : P.underlying t = some .bool) (h : TR enc P w t cs x) : ∃ b, cs = [.bool b] := by
  obtain ⟨fuel, h⟩ := h
  cases fuel with
  | zero => simp [DataW.trod] at h
  | succ f =>
    unfold DataW.trod at h
    rw [ht] at h
    split at h <;> simp_all
theorem tr_string (ht : P.underlying t = some .string) (h : TR enc P w t cs x) : ∃ s : ByteArray, cs = [.string s] ∧ s.size ≤ maxLen ∧ x.1 = .lit (.string s.data.toList) := by
  obtain ⟨fuel, h⟩ := h
  cases fuel with
  | zero => simp [DataW.trod] at h
  | succ f =>
    unfold DataW.trod at h
    rw [ht] at h
    split at h <;> simp_all
    rename_i s h1
    rw [← h.2]

theorem tr_struct {fs : Array Field} (ht : P.underlying t = some (.struct fs)) (h : TR enc P w t cs x) :
    cs.length = P.cellsOf t ∧ ∃ parts, x.1 = .agg parts ∧ ∀ (i : Nat) (f : Field), fs[i]? = some f → ∃ y, TR enc P w f.type ((cs.drop f.offset).take (P.cellsOf f.type)) y ∧ y.1 ∈ parts ∧ ∀ p ∈ y.2, p ∈ x.2 := by
  obtain ⟨fuel, h⟩ := h
  cases fuel with
  | zero => simp [DataW.trod] at h
  | succ f =>
    unfold DataW.trod at h
    rw [ht] at h
    have h : (if cs.length = P.cellsOf t then (fs.toList.mapM fun f' => DataW.trod enc P w 0 (fun _ => true) true f f'.type ((cs.drop f'.offset).take (P.cellsOf f'.type))).map fun xs => ((.agg (xs.map (·.1)) : DataW H), xs.flatMap (·.2)) else none) = some x := by
      split at h <;> simp_all
    split at h
    case isFalse => cases h
    rename_i hl
    obtain ⟨xs, hm, rfl⟩ := Option.map_eq_some_iff.1 h
    refine ⟨hl, _, rfl, fun i f' hi => ?_⟩
    have hg := mapM_some_get hm i f' (by simpa using hi)
    have hlen := mapM_some_length hm
    have hilt : i < xs.length := by rw [hlen]; simpa using (Array.getElem?_eq_some_iff.1 hi).1
    rw [List.getElem?_eq_getElem hilt] at hg
    exact ⟨xs[i], ⟨f, hg⟩, List.mem_map_of_mem (List.getElem_mem hilt), fun p hp => List.mem_flatMap.2 ⟨_, List.getElem_mem hilt, hp⟩⟩

theorem tr_array {n : Nat} (ht : P.underlying t = some (.array n e)) (h : TR enc P w t cs x) :
    cs.length = P.cellsOf t ∧ ∃ parts, x.1 = .agg parts ∧ ∀ i, i < n → ∃ y, TR enc P w e ((cs.drop (i * P.cellsOf e)).take (P.cellsOf e)) y ∧ y.1 ∈ parts ∧ ∀ p ∈ y.2, p ∈ x.2 := by
  obtain ⟨fuel, h⟩ := h
  cases fuel with
  | zero => simp [DataW.trod] at h
  | succ f =>
    unfold DataW.trod at h
    rw [ht] at h
    have h : (if cs.length = P.cellsOf t then ((List.range n).mapM fun i => DataW.trod enc P w 0 (fun _ => true) true f e ((cs.drop (i * P.cellsOf e)).take (P.cellsOf e))).map fun xs => ((.agg (xs.map (·.1)) : DataW H), xs.flatMap (·.2)) else none) = some x := by
      split at h <;> simp_all
    split at h
    case isFalse => cases h
    rename_i hl
    obtain ⟨xs, hm, rfl⟩ := Option.map_eq_some_iff.1 h
    refine ⟨hl, _, rfl, fun i hi => ?_⟩
    have hg := mapM_some_get hm i i (by simp [hi])
    have hlen := mapM_some_length hm
    have hilt : i < xs.length := by rw [hlen]; simpa using hi
    rw [List.getElem?_eq_getElem hilt] at hg
    exact ⟨xs[i], ⟨f, hg⟩, List.mem_map_of_mem (List.getElem_mem hilt), fun p hp => List.mem_flatMap.2 ⟨_, List.getElem_mem hilt, hp⟩⟩

/-- What a measure of readings must do (the seat's bulk does). -/
structure Meas (B : DataW H → Nat) : Prop where
  len : ∀ es sp, es.length + 1 ≤ B (.slice es sp)
  elem : ∀ es sp d, d ∈ es → B d ≤ B (.slice es sp)
  part : ∀ ps d, d ∈ ps → B d ≤ B (.agg ps)

/-- A slice, element by element (any number of cells each). -/
theorem tr_slice {B : DataW H → Nat} (hB : Meas B) (ht : P.underlying t = some (.slice e)) (h : TR enc P w t cs x) :
    ∃ a n c, cs = [.slice a n c] ∧ n ≤ c ∧ c ≤ maxLen ∧ n ≤ B x.1 ∧ (a = none → n = 0 ∧ c = 0) ∧
      ∀ p, a = some p → ∀ i, i < n → ∃ cs' y, w.cells? 0 (p.add (i * P.cellsOf e)) (P.cellsOf e) = some cs' ∧ TR enc P w e cs' y ∧ B y.1 ≤ B x.1 := by
  obtain ⟨fuel, h⟩ := h
  rcases Deep.open_slice ht h with ⟨rfl, rfl⟩ | ⟨a, len, cap, m, n, D, Pl, rfl, _, hl, hm, hmm, rfl, hx⟩
  · exact ⟨none, 0, 0, rfl, Nat.le_refl _, Nat.zero_le _, Nat.zero_le _, fun _ => ⟨rfl, rfl⟩, fun p hp => by cases hp⟩
  · simp only [if_true] at hmm
    refine ⟨some a, len, cap, rfl, hl, hm, ?_, (fun hh => by cases hh), fun p hp i hi => ?_⟩
    · refine Nat.le_trans ?_ (Nat.le_of_succ_le (hB.len _ _))
      simp
    · cases hp
      obtain ⟨cs', h1, h2⟩ := hx i (by omega)
      exact ⟨cs', (D i, Pl i), h1, ⟨n, h2⟩, hB.elem _ _ _ (List.mem_map_of_mem (List.mem_range.2 hi))⟩

/-- A slice whose elements are one cell each. -/
theorem tr_sl {α : Type} {en : α → Value} {G : α → DataW H → Prop} {B : DataW H → Nat} (hB : Meas B) (ht : P.underlying t = some (.slice e)) (hc : P.cellsOf e = 1)
    (he : ∀ cs y, TR enc P w e cs y → ∃ v, cs = [en v] ∧ G v y.1) (h : TR enc P w t cs x) :
    ∃ a n c xs, cs = [.slice a n c] ∧ Sl en w a n xs ∧ n ≤ c ∧ c ≤ maxLen ∧ n ≤ B x.1 ∧ ∀ v ∈ xs, ∃ d, G v d ∧ B d ≤ B x.1 := by
  obtain ⟨a, n, c, rfl, h1, h2, h3, h4, h5⟩ := tr_slice hB ht h
  cases a with
  | none =>
    obtain ⟨rfl, rfl⟩ := h4 rfl
    exact ⟨none, 0, 0, [], rfl, ⟨rfl, fun i v hi => by simp at hi⟩, h1, h2, h3, fun v hv => by cases hv⟩
  | some p =>
    have each : ∀ i : Fin n, ∃ v, w.cell? (p.add i) = some (en v) ∧ ∃ d, G v d ∧ B d ≤ B x.1 := by
      intro i
      obtain ⟨cs', y, hc1, hy, hb⟩ := h5 p rfl i i.isLt
      obtain ⟨v, rfl, hG⟩ := he cs' y hy
      rw [hc, Nat.mul_one] at hc1
      exact ⟨v, by simpa using cell_of_cells?_one hc1, y.1, hG, hb⟩
    obtain ⟨f, hf⟩ := Classical.axiomOfChoice each
    refine ⟨some p, n, c, List.ofFn f, rfl, ⟨by simp, fun i v hi => ⟨p, rfl, ?_⟩⟩, h1, h2, h3, fun v hv => ?_⟩
    · obtain ⟨hlt, rfl⟩ := List.getElem?_eq_some_iff.1 hi
      simp only [List.length_ofFn] at hlt
      simpa using (hf ⟨i, hlt⟩).1
    · obtain ⟨i, rfl⟩ := List.mem_ofFn.1 hv
      exact (hf i).2
end

/-! ### append -/
section
variable {P : Program}
theorem run_append_nilsrc {w : World} {t ty e : TypeId} {i : TypeInfo} (ht : P.underlying t = some (.slice e)) (hi : P.info? e = some i) (b : Option Addr) (n cap c : Nat) (hn : n ≤ cap) :
    (Builtin.append_ #[t, t] ty #[.slice b n cap, .slice none 0 c]).run P w = .ok (.slice b n cap) w := by
  cases b <;> simp [Builtin.append_, run_underlying ht, sizeOf, typeInfo, hi, Builtin.lenOf, hn, Builtin.firstCells, loadCells, loadCellsFrom, storeCells]

/-- What an appended row reads as. -/
theorem rawN_append {w : World} {base : Nat} {t ty e : TypeId} {i : TypeInfo} {z : Value} (ht : P.underlying t = some (.slice e)) (hi : P.info? e = some i) (hz : i.zero = some z) (hzs : z.cells.size = i.size) (hsz : 0 < i.size)
    {v : Value} {n : Nat} {xs news : List Value} (hown : w.ownsRow base e i.size v n xs) {a : Option Addr} {m c : Nat} (hl : news.length = m * i.size) (hnews : ∀ j u, news[j]? = some u → ∃ p, a = some p ∧ w.cell? (p.add j) = some u) (hm0 : a = none → m = 0)
    (h1 : ∀ u ∈ news, u.oneCell' = true) (h63 : n + m ≤ maxLen) (hbytes : (n + m) * i.bytes ≤ 140737488355328) (hbase : base ≤ w.heap.size) {K : Value → World → Prop}
    (hk : ∀ v' w', w'.ownsRow base e i.size v' (n + m) (xs ++ news) → w.grownBy w' v.ownBlock → K v' w') :
    rawN P (Builtin.append_ #[t, t] ty #[v, .slice a m c]) w K := by
  intro d
  cases a with
  | none =>
    obtain rfl := hm0 rfl
    obtain rfl : news = [] := List.eq_nil_of_length_eq_zero (by simpa using hl)
    refine ⟨v, w, d, ?_, ?_⟩
    · rcases hown.2 with ⟨rfl, rfl⟩ | ⟨g, cap, cur, rfl, _, _, hnc, _⟩
      · exact run_append_nilsrc ht hi _ _ _ _ (Nat.le_refl _)
      · exact run_append_nilsrc ht hi _ _ _ _ hnc
    · exact hk v w (by simpa using hown) ⟨rfl, rfl, rfl, Nat.le_refl _, fun _ _ _ => rfl⟩
  | some p =>
    have hown' : (dr w d).ownsRow base e i.size v n xs := hown
    obtain ⟨v', w', hr, h2, h3, _⟩ := run_append_own (P := P) (dr w d) base t ty e i z i.size i.bytes ht hi hz rfl rfl hzs hsz v n xs hown' p m c news hl (fun j u hj => by obtain ⟨p', hp, hc⟩ := hnews j u hj; cases hp; exact hc) h1 h63 hbytes hbase
    exact ⟨v', w', w'.drawn, hr, hk v' w' h2 ⟨h3.os, h3.tape, h3.output, h3.size, h3.block⟩⟩

/-- A new row, as it reads. -/
theorem own_sl {α : Type} {en : α → Value} {w : World} {base : Nat} {e : TypeId} {v : Value} {n : Nat} {xs : List α} (h : w.ownsRow base e 1 v n (xs.map en)) : ∃ a c, v = .slice a n c ∧ Sl en w a n xs ∧ n ≤ c ∧ c ≤ maxLen := by
  have hl : n = xs.length := by simpa using h.1.symm
  rcases h.2 with ⟨rfl, rfl⟩ | ⟨g, cap, cur, rfl, _, hg, h1, h2, _, _⟩
  · exact ⟨none, 0, rfl, ⟨hl, fun i x hi => by
      have : xs = [] := List.eq_nil_of_length_eq_zero hl.symm
      subst this
      simp at hi⟩, Nat.le_refl _, Nat.zero_le _⟩
  · exact ⟨_, cap, rfl, ⟨hl, fun i x hi => ⟨_, rfl, h.cells (g := g) rfl i (en x) (by simp [hi])⟩⟩, h1, h2⟩
end
end Go.E
