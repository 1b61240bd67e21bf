/- Laws for the propositions of the evaluator: slices, rows of one's own, arguments out of their reading; no conditions. -/
import Derived.Laws.Bits64
import Derived.Laws.BitsAllLaws
import Derived.Laws.BitsLemmas
import Derived.Deep.Slices
import Derived.DataReads
import Derived.Laws.AppendOwn
import Derived.Deep.AppendSrc
import Derived.Laws.IdiomStrings
import Derived.Test.YtmmomijhlmmjpaaDoorEA
set_option linter.unusedVariables false
set_option linter.unusedSimpArgs false
namespace Go.E
open Go Go.RowKit

theorem onBool_t (t f : Prop) : onBool true t f = t := rfl
theorem onBool_f (t f : Prop) : onBool false t f = f := rfl
theorem onBool_mk {b : Bool} {t f : Prop} (ht : b = true → t) (hf : b = false → f) : onBool b t f := by
  cases b
  · exact hf rfl
  · exact ht rfl
theorem onDec {p : Prop} [Decidable p] {t f : Prop} (ht : p → t) (hf : ¬ p → f) : onBool (decide p) t f := by
  by_cases h : p
  · rw [decide_eq_true h]; exact ht h
  · rw [decide_eq_false h]; exact hf h
theorem onDec_t {p : Prop} [Decidable p] {t f : Prop} (h : p) (ht : t) : onBool (decide p) t f := by rw [decide_eq_true h]; exact ht
theorem onDec_f {p : Prop} [Decidable p] {t f : Prop} (h : ¬ p) (hf : f) : onBool (decide p) t f := by rw [decide_eq_false h]; exact hf
theorem onBool_same {α : Type} {b : Bool} {F : α → Prop} {x y : α} (h : F (if b then x else y)) : onBool b (F x) (F y) := by cases b <;> exact h
theorem ite_mk {c p : Prop} [Decidable c] (hc : c) (h : p) : if c then p else False := by rw [if_pos hc]; exact h
theorem ite_not {c p : Prop} [Decidable c] (hc : ¬ c) (h : p) : if c then False else p := by rw [if_neg hc]; exact h

theorem add_zero (a : Addr) : a.add 0 = a := rfl
theorem add_add (a : Addr) (i j : Nat) : (a.add i).add j = a.add (i + j) := by
  unfold Addr.add
  by_cases hi : i = 0 <;> by_cases hj : j = 0 <;> simp [hi, hj, Nat.add_assoc]
theorem add_block (a : Addr) (i : Nat) : (a.add i).block = a.block := by unfold Addr.add; split <;> rfl
theorem na_add (w : World) (i : Nat) : (na w).add i = ⟨w.heap.size, i, none⟩ := by unfold Addr.add na; split <;> simp_all
theorem cell_new (w : World) (cs : Array Value) (t : TypeId) (i : Nat) : (w.alloc (.cells cs t)).cell? ((na w).add i) = cs[i]? := by
  rw [na_add]; exact World.cell?_alloc_new w cs t i
theorem cell_new0 (w : World) (cs : Array Value) (t : TypeId) : (w.alloc (.cells cs t)).cell? (na w) = cs[0]? := cell_new w cs t 0
theorem below_new (w : World) (o : Obj) : Below w.heap.size w (w.alloc o) := (Below.refl _ _).alloc (Nat.le_refl _) o
/-- What a later world still reads. -/
theorem bkeep {w u : World} (h : Below w.heap.size w u) {a : Addr} {v : Value} (hc : w.cell? a = some v) : u.cell? a = some v := by
  rw [h.cell (block_lt_of_cell hc)]; exact hc
theorem bthen {w u x : World} (h : Below w.heap.size w u) (k : Below u.heap.size u x) : Below w.heap.size w x := h.trans (k.mono h.size)

theorem i64_id {x : Int} (h0 : -9223372036854775808 ≤ x) (h1 : x ≤ 9223372036854775807) : IntKind.i64.wrap x = x := by
  rw [IntKind.wrap_i64]; omega
theorem u64_id {x : Int} (h0 : 0 ≤ x) (h1 : x ≤ 18446744073709551615) : IntKind.u64.wrap x = x := by
  rw [IntKind.wrap_u64]; omega

/-- A call that hands back this value and leaves what was there. -/
def Pure (P : Program) (f : FuncId) (args : Array Value) (w : World) (v : Value) : Prop := E.CallsD P f args w fun v' u => v' = v ∧ Below w.heap.size w u

theorem Pure.quiet {P : Program} {f : FuncId} {args : Array Value} {v : Value} {w0 u : World} (h : Pure P f args u v) (hb : Below w0.heap.size w0 u) :
    E.CallsD P f args u fun v' u' => v' = v ∧ Below w0.heap.size w0 u' := E.CallsD.mono h fun _ _ ⟨h1, h2⟩ => ⟨h1, bthen hb h2⟩

theorem pure_calls {P : Program} {f : FuncId} {args : Array Value} {w : World} {v : Value} (h : Pure P f args w v) : Calls P f args w fun e w' => e = .returned v ∧ Below w.heap.size w w' := calls_quiet h

/-! ### bytes as bits -/
theorem ofInt_toNat {n : Nat} (v : BitVec n) : BitVec.ofInt n (v.toNat : Int) = v := by
  apply BitVec.eq_of_toNat_eq
  simp
theorem u8_wrap_toNat (v : BitVec 8) : IntKind.u8.wrap (v.toNat : Int) = v.toNat := by
  rw [IntKind.wrap_u8]; have := v.isLt; omega
theorem u64_wrap_toNat (v : BitVec 64) : IntKind.u64.wrap (v.toNat : Int) = v.toNat := by
  rw [IntKind.wrap_u64]; have := v.isLt; omega
theorem or8 (a b : BitVec 8) : bitsI .or .u8 a.toNat b.toNat = (a ||| b).toNat := by
  show IntKind.u8.wrap (((BitVec.ofInt 8 (a.toNat : Int)) ||| (BitVec.ofInt 8 (b.toNat : Int))).toNat : Int) = _
  rw [ofInt_toNat, ofInt_toNat]
  exact u8_wrap_toNat _
theorem and8 (a b : BitVec 8) : bitsI .and .u8 a.toNat b.toNat = (a &&& b).toNat := by
  show IntKind.u8.wrap (((BitVec.ofInt 8 (a.toNat : Int)) &&& (BitVec.ofInt 8 (b.toNat : Int))).toNat : Int) = _
  rw [ofInt_toNat, ofInt_toNat]
  exact u8_wrap_toNat _
theorem andNot8 (a b : BitVec 8) : bitsI .andNot .u8 a.toNat b.toNat = (a &&& ~~~b).toNat := by
  show IntKind.u8.wrap (((BitVec.ofInt 8 (a.toNat : Int)) &&& ~~~(BitVec.ofInt 8 (b.toNat : Int))).toNat : Int) = _
  rw [ofInt_toNat, ofInt_toNat]
  exact u8_wrap_toNat _
theorem shl8 {i : Nat} (hi : i < 8) : IntKind.u8.wrap (1 * 2 ^ (min ((i : Int)).toNat 8)) = ((BitVec.twoPow 8 i).toNat : Int) := by
  have : ∀ i : Fin 8, IntKind.u8.wrap (1 * 2 ^ (min ((i.val : Int)).toNat 8)) = ((BitVec.twoPow 8 i.val).toNat : Int) := by decide
  exact this ⟨i, hi⟩
end Go.E

namespace Go.E
open Go Go.RowKit

/-- A slice whose elements are one cell each, as it reads. -/
structure Sl {α : Type} (enc : α → Value) (w : World) (a : Option Addr) (n : Nat) (xs : List α) : Prop where
  len : n = xs.length
  get : ∀ i x, xs[i]? = some x → ∃ p, a = some p ∧ w.cell? (p.add i) = some (enc x)

section
variable {α : Type} {enc : α → Value} {w u : World} {a : Option Addr} {n : Nat} {xs : List α}
theorem Sl.keep (h : Sl enc w a n xs) (hb : Below w.heap.size w u) : Sl enc u a n xs :=
  ⟨h.len, fun i x hi => let ⟨p, ha, hc⟩ := h.get i x hi; ⟨p, ha, bkeep hb hc⟩⟩
theorem Sl.at (h : Sl enc w a n xs) {i : Nat} (hi : i < n) : ∃ p, a = some p ∧ w.cell? (p.add i) = some (enc (xs[i]'(h.len ▸ hi))) :=
  h.get i _ (List.getElem?_eq_getElem _)
/-- The next element is read (a bound that the evaluator asks, an index as the evaluator types it). -/
theorem Sl.read {K : Addr → Prop} (h : Sl enc w a n xs) {i : Nat} (hi : i < n) (hk : ∀ p, w.cell? (p.add i) = some (enc (xs[i]'(h.len ▸ hi))) → K p) : optN a K := by
  obtain ⟨p, rfl, hc⟩ := h.at hi
  exact hk p hc
end

/-! ### numbers' order -/
theorem order_swap (x y : Ieee.Datum) : y.order x = (x.order y).map Ordering.swap := by
  cases x with
  | nan s f => cases y <;> rfl
  | infinity s => cases y with
    | nan t f => rfl
    | infinity t => simp only [Ieee.Datum.order, Option.map_some]; rw [Std.OrientedCmp.eq_swap (cmp := compare)]
    | number t m j => cases s <;> rfl
  | number s m i => cases y with
    | nan t f => rfl
    | infinity t => cases t <;> rfl
    | number t n j =>
      simp only [Ieee.Datum.order, Option.map_some]
      rw [Std.OrientedCmp.eq_swap (cmp := compare), Int.min_comm]

theorem feq_comm (a b : Nat) : (FloatKind.f64.format.order a b == some .eq) = (FloatKind.f64.format.order b a == some .eq) := by
  unfold Ieee.Format.order
  rw [order_swap]
  cases (Ieee.Datum.order (FloatKind.f64.format.read b) (FloatKind.f64.format.read a)) with
  | none => rfl
  | some o => cases o <;> rfl
theorem fgt_flt (a b : Nat) : (FloatKind.f64.format.order a b == some .gt) = (FloatKind.f64.format.order b a == some .lt) := by
  unfold Ieee.Format.order
  rw [order_swap]
  cases (Ieee.Datum.order (FloatKind.f64.format.read b) (FloatKind.f64.format.read a)) with
  | none => rfl
  | some o => cases o <;> rfl
end Go.E

namespace Go.E
open Go Go.RowKit Go.ChangeShapes

/-! ### arguments, out of their reading -/
section
variable {H : Type} {enc : TypeId × Value → H} {P : Program} {w : World} {t e : TypeId} {cs : List Value} {x : DataW H × List MemPlace}

def TR (enc : TypeId × Value → H) (P : Program) (w : World) (t : TypeId) (cs : List Value) (x : DataW H × List MemPlace) : Prop := ∃ fuel, DataW.trod enc P w 0 (fun _ => true) true fuel t cs = some x

theorem tr_int {k : IntKind} (ht : P.underlying t = some (.int k)) (h : TR enc P w t cs x) : ∃ n, cs = [.int k n] ∧ (Lit.int k n).wf = true := by
  obtain ⟨fuel, h⟩ := h
  cases fuel with
  | zero => simp [DataW.trod] at h
  | succ f =>
    unfold DataW.trod at h
    rw [ht] at h
    split at h <;> simp_all
theorem tr_float {k : FloatKind} (ht : P.underlying t = some (.float k)) (h : TR enc P w t cs x) : ∃ n, cs = [.float k n] ∧ (Lit.float k n).wf = true := by
  obtain ⟨fuel, h⟩ := h
  cases fuel with
  | zero => simp [DataW.trod] at h
  | succ f =>
    unfold DataW.trod at h
    rw [ht] at h
    split at h <;> simp_all
theorem tr_bool (ht : P.underlying t = some .bool) (h : TR enc P w t cs x) : ∃ b, cs = [.bool b] := by
  obtain ⟨fuel, h⟩ := h
  cases fuel with
  | zero => simp [DataW.trod] at h
  | succ f =>
    unfold DataW.trod at h
    rw [ht] at h
    split at h <;> simp_all
theorem tr_string (ht : P.underlying t = some .string) (h : TR enc P w t cs x) : ∃ s : ByteArray, cs = [.string s] ∧ s.size ≤ maxLen ∧ x.1 = .lit (.string s.data.toList) := by
  obtain ⟨fuel, h⟩ := h
  cases fuel with
  | zero => simp [DataW.trod] at h
  | succ f =>
    unfold DataW.trod at h
    rw [ht] at h
    split at h <;> simp_all
    rename_i s h1
    rw [← h.2]

theorem tr_struct {fs : Array Field} (ht : P.underlying t = some (.struct fs)) (h : TR enc P w t cs x) :
    cs.length = P.cellsOf t ∧ ∃ parts, x.1 = .agg parts ∧ ∀ (i : Nat) (f : Field), fs[i]? = some f → ∃ y, TR enc P w f.type ((cs.drop f.offset).take (P.cellsOf f.type)) y ∧ y.1 ∈ parts ∧ ∀ p ∈ y.2, p ∈ x.2 := by
  obtain ⟨fuel, h⟩ := h
  cases fuel with
  | zero => simp [DataW.trod] at h
  | succ f =>
    unfold DataW.trod at h
    rw [ht] at h
    have h : (if cs.length = P.cellsOf t then (fs.toList.mapM fun f' => DataW.trod enc P w 0 (fun _ => true) true f f'.type ((cs.drop f'.offset).take (P.cellsOf f'.type))).map fun xs => ((.agg (xs.map (·.1)) : DataW H), xs.flatMap (·.2)) else none) = some x := by
      split at h <;> simp_all
    split at h
    case isFalse => cases h
    rename_i hl
    obtain ⟨xs, hm, rfl⟩ := Option.map_eq_some_iff.1 h
    refine ⟨hl, _, rfl, fun i f' hi => ?_⟩
    have hg := mapM_some_get hm i f' (by simpa using hi)
    have hlen := mapM_some_length hm
    have hilt : i < xs.length := by rw [hlen]; simpa using (Array.getElem?_eq_some_iff.1 hi).1
    rw [List.getElem?_eq_getElem hilt] at hg
    exact ⟨xs[i], ⟨f, hg⟩, List.mem_map_of_mem (List.getElem_mem hilt), fun p hp => List.mem_flatMap.2 ⟨_, List.getElem_mem hilt, hp⟩⟩

theorem tr_array {n : Nat} (ht : P.underlying t = some (.array n e)) (h : TR enc P w t cs x) :
    cs.length = P.cellsOf t ∧ ∃ parts, x.1 = .agg parts ∧ ∀ i, i < n → ∃ y, TR enc P w e ((cs.drop (i * P.cellsOf e)).take (P.cellsOf e)) y ∧ y.1 ∈ parts ∧ ∀ p ∈ y.2, p ∈ x.2 := by
  obtain ⟨fuel, h⟩ := h
  cases fuel with
  | zero => simp [DataW.trod] at h
  | succ f =>
    unfold DataW.trod at h
    rw [ht] at h
    have h : (if cs.length = P.cellsOf t then ((List.range n).mapM fun i => DataW.trod enc P w 0 (fun _ => true) true f e ((cs.drop (i * P.cellsOf e)).take (P.cellsOf e))).map fun xs => ((.agg (xs.map (·.1)) : DataW H), xs.flatMap (·.2)) else none) = some x := by
      split at h <;> simp_all
    split at h
    case isFalse => cases h
    rename_i hl
    obtain ⟨xs, hm, rfl⟩ := Option.map_eq_some_iff.1 h
    refine ⟨hl, _, rfl, fun i hi => ?_⟩
    have hg := mapM_some_get hm i i (by simp [hi])
    have hlen := mapM_some_length hm
    have hilt : i < xs.length := by rw [hlen]; simpa using hi
    rw [List.getElem?_eq_getElem hilt] at hg
    exact ⟨xs[i], ⟨f, hg⟩, List.mem_map_of_mem (List.getElem_mem hilt), fun p hp => List.mem_flatMap.2 ⟨_, List.getElem_mem hilt, hp⟩⟩

/-- What a measure of readings must do (the seat's bulk does). -/
structure Meas (B : DataW H → Nat) : Prop where
  len : ∀ es sp, es.length + 1 ≤ B (.slice es sp)
  elem : ∀ es sp d, d ∈ es → B d ≤ B (.slice es sp)
  part : ∀ ps d, d ∈ ps → B d ≤ B (.agg ps)

/-- A slice, element by element (any number of cells each). -/
theorem tr_slice {B : DataW H → Nat} (hB : Meas B) (ht : P.underlying t = some (.slice e)) (h : TR enc P w t cs x) :
    ∃ a n c, cs = [.slice a n c] ∧ n ≤ c ∧ c ≤ maxLen ∧ n ≤ B x.1 ∧ (a = none → n = 0 ∧ c = 0) ∧
      ∀ p, a = some p → ∀ i, i < n → ∃ cs' y, w.cells? 0 (p.add (i * P.cellsOf e)) (P.cellsOf e) = some cs' ∧ TR enc P w e cs' y ∧ B y.1 ≤ B x.1 := by
  obtain ⟨fuel, h⟩ := h
  rcases Deep.open_slice ht h with ⟨rfl, rfl⟩ | ⟨a, len, cap, m, n, D, Pl, rfl, _, hl, hm, hmm, rfl, hx⟩
  · exact ⟨none, 0, 0, rfl, Nat.le_refl _, Nat.zero_le _, Nat.zero_le _, fun _ => ⟨rfl, rfl⟩, fun p hp => by cases hp⟩
  · simp only [if_true] at hmm
    refine ⟨some a, len, cap, rfl, hl, hm, ?_, (fun hh => by cases hh), fun p hp i hi => ?_⟩
    · refine Nat.le_trans ?_ (Nat.le_of_succ_le (hB.len _ _))
      simp
    · cases hp
      obtain ⟨cs', h1, h2⟩ := hx i (by omega)
      exact ⟨cs', (D i, Pl i), h1, ⟨n, h2⟩, hB.elem _ _ _ (List.mem_map_of_mem (List.mem_range.2 hi))⟩

/-- A slice whose elements are one cell each. -/
theorem tr_sl {α : Type} {en : α → Value} {G : α → DataW H → Prop} {B : DataW H → Nat} (hB : Meas B) (ht : P.underlying t = some (.slice e)) (hc : P.cellsOf e = 1)
    (he : ∀ cs y, TR enc P w e cs y → ∃ v, cs = [en v] ∧ G v y.1) (h : TR enc P w t cs x) :
    ∃ a n c xs, cs = [.slice a n c] ∧ Sl en w a n xs ∧ n ≤ c ∧ c ≤ maxLen ∧ n ≤ B x.1 ∧ ∀ v ∈ xs, ∃ d, G v d ∧ B d ≤ B x.1 := by
  obtain ⟨a, n, c, rfl, h1, h2, h3, h4, h5⟩ := tr_slice hB ht h
  cases a with
  | none =>
    obtain ⟨rfl, rfl⟩ := h4 rfl
    exact ⟨none, 0, 0, [], rfl, ⟨rfl, fun i v hi => by simp at hi⟩, h1, h2, h3, fun v hv => by cases hv⟩
  | some p =>
    have each : ∀ i : Fin n, ∃ v, w.cell? (p.add i) = some (en v) ∧ ∃ d, G v d ∧ B d ≤ B x.1 := by
      intro i
      obtain ⟨cs', y, hc1, hy, hb⟩ := h5 p rfl i i.isLt
      obtain ⟨v, rfl, hG⟩ := he cs' y hy
      rw [hc, Nat.mul_one] at hc1
      exact ⟨v, by simpa using cell_of_cells?_one hc1, y.1, hG, hb⟩
    obtain ⟨f, hf⟩ := Classical.axiomOfChoice each
    refine ⟨some p, n, c, List.ofFn f, rfl, ⟨by simp, fun i v hi => ⟨p, rfl, ?_⟩⟩, h1, h2, h3, fun v hv => ?_⟩
    · obtain ⟨hlt, rfl⟩ := List.getElem?_eq_some_iff.1 hi
      simp only [List.length_ofFn] at hlt
      simpa using (hf ⟨i, hlt⟩).1
    · obtain ⟨i, rfl⟩ := List.mem_ofFn.1 hv
      exact (hf i).2
end

/-! ### append -/
section
variable {P : Program}
theorem run_append_nilsrc {w : World} {t ty e : TypeId} {i : TypeInfo} (ht : P.underlying t = some (.slice e)) (hi : P.info? e = some i) (b : Option Addr) (n cap c : Nat) (hn : n ≤ cap) :
    (Builtin.append_ #[t, t] ty #[.slice b n cap, .slice none 0 c]).run P w = .ok (.slice b n cap) w := by
  cases b <;> simp [Builtin.append_, run_underlying ht, sizeOf, typeInfo, hi, Builtin.lenOf, hn, Builtin.firstCells, loadCells, loadCellsFrom, storeCells]

/-- What an appended row reads as. -/
theorem rawN_append {w : World} {base : Nat} {t ty e : TypeId} {i : TypeInfo} {z : Value} (ht : P.underlying t = some (.slice e)) (hi : P.info? e = some i) (hz : i.zero = some z) (hzs : z.cells.size = i.size) (hsz : 0 < i.size)
    {v : Value} {n : Nat} {xs news : List Value} (hown : w.ownsRow base e i.size v n xs) {a : Option Addr} {m c : Nat} (hl : news.length = m * i.size) (hnews : ∀ j u, news[j]? = some u → ∃ p, a = some p ∧ w.cell? (p.add j) = some u) (hm0 : a = none → m = 0)
    (h1 : ∀ u ∈ news, u.oneCell' = true) (h63 : n + m ≤ maxLen) (hbytes : (n + m) * i.bytes ≤ 140737488355328) (hbase : base ≤ w.heap.size) {K : Value → World → Prop}
    (hk : ∀ v' w', w'.ownsRow base e i.size v' (n + m) (xs ++ news) → w.grownBy w' v.ownBlock → K v' w') :
    rawN P (Builtin.append_ #[t, t] ty #[v, .slice a m c]) w K := by
  intro d
  cases a with
  | none =>
    obtain rfl := hm0 rfl
    obtain rfl : news = [] := List.eq_nil_of_length_eq_zero (by simpa using hl)
    refine ⟨v, w, d, ?_, ?_⟩
    · rcases hown.2 with ⟨rfl, rfl⟩ | ⟨g, cap, cur, rfl, _, _, hnc, _⟩
      · exact run_append_nilsrc ht hi _ _ _ _ (Nat.le_refl _)
      · exact run_append_nilsrc ht hi _ _ _ _ hnc
    · exact hk v w (by simpa using hown) ⟨rfl, rfl, rfl, Nat.le_refl _, fun _ _ _ => rfl⟩
  | some p =>
    have hown' : (dr w d).ownsRow base e i.size v n xs := hown
    obtain ⟨v', w', hr, h2, h3, _⟩ := run_append_own (P := P) (dr w d) base t ty e i z i.size i.bytes ht hi hz rfl rfl hzs hsz v n xs hown' p m c news hl (fun j u hj => by obtain ⟨p', hp, hc⟩ := hnews j u hj; cases hp; exact hc) h1 h63 hbytes hbase
    exact ⟨v', w', w'.drawn, hr, hk v' w' h2 ⟨h3.os, h3.tape, h3.output, h3.size, h3.block⟩⟩

/-- A new row, as it reads. -/
theorem own_sl {α : Type} {en : α → Value} {w : World} {base : Nat} {e : TypeId} {v : Value} {n : Nat} {xs : List α} (h : w.ownsRow base e 1 v n (xs.map en)) : ∃ a c, v = .slice a n c ∧ Sl en w a n xs ∧ n ≤ c ∧ c ≤ maxLen := by
  have hl : n = xs.length := by simpa using h.1.symm
  rcases h.2 with ⟨rfl, rfl⟩ | ⟨g, cap, cur, rfl, _, hg, h1, h2, _, _⟩
  · exact ⟨none, 0, rfl, ⟨hl, fun i x hi => by
      have : xs = [] := List.eq_nil_of_length_eq_zero hl.symm
      subst this
      simp at hi⟩, Nat.le_refl _, Nat.zero_le _⟩
  · exact ⟨_, cap, rfl, ⟨hl, fun i x hi => ⟨_, rfl, h.cells (g := g) rfl i (en x) (by simp [hi])⟩⟩, h1, h2⟩
end
end Go.E

namespace Go.E
open Go Go.RowKit Go.ChangeShapes

/-! ### blocks -/
def Blk (w : World) (b : Nat) (cs : Array Value) (e : TypeId) : Prop := w.heap[b]? = some (.cells cs e (0, 0))

theorem addr_add (b i j : Nat) : (⟨b, i, none⟩ : Addr).add j = ⟨b, i + j, none⟩ := by unfold Addr.add; split <;> simp_all

section
variable {w u w' : World} {b b' B : Nat} {cs cs' : Array Value} {e e' : TypeId} {row : Option Nat}
theorem Blk.new (w : World) (cs : Array Value) (e : TypeId) : Blk (w.alloc (.cells cs e)) w.heap.size cs e := heap_alloc_new w _
theorem Blk.lt (h : Blk w b cs e) : b < w.heap.size := (Array.getElem?_eq_some_iff.1 h).1
theorem Blk.below (h : Blk w b cs e) (hb : Below B w u) (hlt : b < B) : Blk u b cs e := (hb.block b hlt).trans h
theorem Blk.keep (h : Blk w b cs e) (hb : Below w.heap.size w u) : Blk u b cs e := h.below hb h.lt
theorem Blk.grown (h : Blk w b cs e) (hg : w.grownBy w' row) (hne : some b ≠ row) : Blk w' b cs e := (hg.block b h.lt hne).trans h
theorem Blk.alloc (h : Blk w b cs e) (o : Obj) : Blk (w.alloc o) b cs e := h.keep (below_new w o)
theorem Blk.cell (h : Blk w b cs e) (i : Nat) : w.cell? ⟨b, i, none⟩ = cs[i]? := by
  unfold World.cell?
  simp only
  rw [show w.heap[b]? = _ from h]
  simp
theorem Blk.ok (h : Blk w b cs e) {i : Nat} (hi : i < cs.size) : okSt w ⟨b, i, none⟩ := by
  refine ⟨⟨cs[i], by rw [h.cell]; exact Array.getElem?_eq_getElem hi⟩, ?_⟩
  unfold World.frozen?
  simp only
  rw [show w.heap[b]? = _ from h]
  simp
theorem Blk.set (h : Blk w b cs e) (i : Nat) (v : Value) : Blk (w.setCell ⟨b, i, none⟩ v) b (cs.setIfInBounds i v) e := by
  unfold Blk World.setCell
  simp only [Array.getElem?_modify]
  rw [show w.heap[b]? = _ from h]
  simp
theorem Blk.set_other (h : Blk w b cs e) {a : Addr} (hne : a.block ≠ b) (v : Value) : Blk (w.setCell a v) b cs e := by
  unfold Blk World.setCell
  simp only [Array.getElem?_modify]
  rw [if_neg hne]
  exact h
theorem Blk.apart (h : Blk w b cs e) (h' : Blk w b' cs' e') (hne : e ≠ e') : b ≠ b' := by
  rintro rfl
  unfold Blk at h h'
  rw [h] at h'
  cases h'
  exact hne rfl
theorem heap_setCell_size (w : World) (a : Addr) (v : Value) : (w.setCell a v).heap.size = w.heap.size := by simp [World.setCell]
/-- A store into a block of one's own. -/
theorem below_set (hb : Below B u w) {a : Addr} (ha : B ≤ a.block) (v : Value) : Below B u (w.setCell a v) := hb.setCell ha v
end

/-! ### own rows -/
section
variable {w u w' : World} {b base : Nat} {cs : Array Value} {e e' : TypeId} {size size' n n' : Nat} {v v' : Value} {xs xs' : List Value} {row : Option Nat}
theorem own_blk (h : w.ownsRow base e size v n xs) {g : Nat} (hg : v.ownBlock = some g) : ∃ cur, Blk w g cur e ∧ base ≤ g := by
  rcases h.2 with ⟨rfl, _⟩ | ⟨g', cap, cur, rfl, hb, hh, _⟩
  · cases hg
  · simp only [Value.ownBlock, Option.some.injEq] at hg
    subst hg
    exact ⟨cur, hh, hb⟩
theorem own_apart (h : w.ownsRow base e size v n xs) (hb : Blk w b cs e') (hne : e ≠ e') : some b ≠ v.ownBlock := by
  intro hv
  obtain ⟨cur, hc, _⟩ := own_blk h hv.symm
  exact hc.apart hb hne rfl
theorem own_keep (h : w.ownsRow base e size v n xs) (hb : Below w.heap.size w u) : u.ownsRow base e size v n xs :=
  h.kept (row := none) ⟨hb.os, hb.tape, hb.output, hb.size, fun k hk _ => hb.block k hk⟩ (by cases v.ownBlock <;> simp)
theorem own_set (h : w.ownsRow base e size v n xs) {a : Addr} (hne : some a.block ≠ v.ownBlock) (x : Value) : (w.setCell a x).ownsRow base e size v n xs := by
  refine h.kept (row := some a.block) ⟨rfl, rfl, rfl, by rw [heap_setCell_size]; exact Nat.le_refl _, fun k hk hk' => ?_⟩ (.inr (Ne.symm hne))
  unfold World.setCell
  simp only [Array.getElem?_modify]
  rw [if_neg (fun h => hk' (by rw [h]))]
theorem own_base (h : w.ownsRow base e size v n xs) {B : Nat} (hB : B ≤ base) : w.ownsRow B e size v n xs := by
  refine ⟨h.1, ?_⟩
  rcases h.2 with h | ⟨g, cap, cur, hv, hb, hh⟩
  · exact .inl h
  · exact .inr ⟨g, cap, cur, hv, Nat.le_trans hB hb, hh⟩
theorem own_grown (h : w.ownsRow base e size v n xs) (h' : w.ownsRow base e' size' v' n' xs') (hne : e ≠ e') (hg : w.grownBy w' v'.ownBlock) : w'.ownsRow base e size v n xs := by
  refine h.kept hg ?_
  cases hv : v.ownBlock with
  | none => exact .inl rfl
  | some g =>
    refine .inr fun hgg => ?_
    obtain ⟨cur, hc, _⟩ := own_blk h hv
    exact own_apart h' hc (Ne.symm hne) hgg
theorem grown_below {B : Nat} (hb : Below B u w) (h : w.ownsRow base e size v n xs) (hg : w.grownBy w' v.ownBlock) (hB : B ≤ base) (hs : B ≤ w.heap.size) : Below B u w' :=
  hb.grown hg hs fun k hk => Nat.le_trans hB (h.lt k hk).1
theorem grown_alloc (w : World) (o : Obj) (hg : (w.alloc o).grownBy w' row) : w.grownBy w' row :=
  ⟨hg.os, hg.tape, hg.output, Nat.le_trans (by simp) hg.size, fun k hk hne => (hg.block k (by simp; omega) hne).trans ((Mod.new (S := fun _ => False) w o).block k hk (fun h => h))⟩
end

/-- What is known of a slice's type. -/
structure SliceT (P : Program) (t e : TypeId) (size bytes : Nat) : Prop where
  ht : P.underlying t = some (.slice e)
  info : ∃ i z, P.info? e = some i ∧ i.zero = some z ∧ i.size = size ∧ i.bytes = bytes ∧ z.cells.size = size
def sliceTB (P : Program) (t e : TypeId) (size bytes : Nat) : Bool := match P.underlying t with
  | some (.slice e') => Nat.beq e' e && (match P.info? e with
    | some i => Nat.beq i.size size && Nat.beq i.bytes bytes && (match i.zero with
      | some z => Nat.beq z.cells.size size
      | none => false)
    | none => false)
  | _ => false
theorem sliceT {P : Program} {t e : TypeId} {size bytes : Nat} (h : sliceTB P t e size bytes = true) : SliceT P t e size bytes := by
  unfold sliceTB at h
  split at h
  case h_2 => cases h
  rename_i e' hu
  simp only [Bool.and_eq_true] at h
  obtain ⟨h1, h2⟩ := h
  have h1 : e' = e := Nat.eq_of_beq_eq_true h1
  subst h1
  split at h2
  case h_2 => cases h2
  rename_i i hi
  simp only [Bool.and_eq_true] at h2
  obtain ⟨⟨h3, h4⟩, h5⟩ := h2
  split at h5
  case h_2 => cases h5
  rename_i z hz
  exact ⟨hu, i, z, hi, hz, Nat.eq_of_beq_eq_true h3, Nat.eq_of_beq_eq_true h4, Nat.eq_of_beq_eq_true h5⟩

section
variable {P : Program} {w : World} {base : Nat} {t ty e : TypeId} {size bytes : Nat} {v : Value} {n : Nat} {xs : List Value}
theorem append_own (hT : SliceT P t e size bytes) (hsz : 0 < size) (hown : w.ownsRow base e size v n xs) {news : List Value} {a : Option Addr} {m c : Nat} (hl : news.length = m * size) (hnews : ∀ j u, news[j]? = some u → ∃ p, a = some p ∧ w.cell? (p.add j) = some u) (hm0 : a = none → m = 0)
    (h1 : ∀ u ∈ news, u.oneCell' = true) (h63 : n + m ≤ maxLen) (hbytes : (n + m) * bytes ≤ 140737488355328) (hbase : base ≤ w.heap.size) {K : Value → World → Prop}
    (hk : ∀ v' w', w'.ownsRow base e size v' (n + m) (xs ++ news) → w.grownBy w' v.ownBlock → K v' w') : rawN P (Builtin.append_ #[t, t] ty #[v, .slice a m c]) w K := by
  obtain ⟨ht, i, z, hi, hz, rfl, rfl, hzs⟩ := hT
  exact rawN_append ht hi hz hzs hsz hown hl hnews hm0 h1 h63 hbytes hbase hk
/-- One element, out of a block made for it. -/
theorem append_one (hT : SliceT P t e size bytes) (hsz : 0 < size) (hown : w.ownsRow base e size v n xs) {cl : Array Value} (hl : cl.size = size) (h1 : ∀ u ∈ cl.toList, u.oneCell' = true) (h63 : n + 1 ≤ maxLen) (hbytes : (n + 1) * bytes ≤ 140737488355328) (hbase : base ≤ w.heap.size)
    {K : Value → World → Prop} (hk : ∀ v' w', w'.ownsRow base e size v' (n + 1) (xs ++ cl.toList) → w.grownBy w' v.ownBlock → K v' w') : rawN P (Builtin.append_ #[t, t] ty #[v, .slice (some (na w)) 1 1]) (w.alloc (.cells cl e)) K :=
  append_own hT hsz (own_keep hown (below_new _ _)) (news := cl.toList) (by simp [hl]) (fun j u hj => ⟨_, rfl, by rw [cell_new]; simpa using hj⟩) (fun h => by cases h) h1 h63 hbytes (by simp; omega) fun v' w' h2 h3 => hk v' w' h2 (grown_alloc w _ h3)
end
theorem own_nil (w : World) (base : Nat) (e : TypeId) (size : Nat) : w.ownsRow base e size (.slice none 0 0) 0 [] := World.ownsRow_nil w base e size
/-- A new empty slice of no room. -/
theorem own_empty {w : World} {base : Nat} {e : TypeId} {size : Nat} (hb : base ≤ w.heap.size) : (w.alloc (.cells #[] e)).ownsRow base e size (.slice (some (na w)) 0 0) 0 [] :=
  ⟨by simp, .inr ⟨_, 0, #[], rfl, hb, heap_alloc_new w _, Nat.le_refl _, Nat.zero_le _, by simp, by simp⟩⟩
end Go.E

namespace Go.E
open Go Go.RowKit Go.ChangeShapes

/-! ### slices of slices -/
/-- A slice of slices of cells, as it reads. -/
structure Sl2 {α : Type} (en : α → Value) (w : World) (a : Option Addr) (n : Nat) (xss : List (List α)) : Prop where
  len : n = xss.length
  get : ∀ i xs, xss[i]? = some xs → ∃ p, a = some p ∧ ∃ a' n' c', w.cell? (p.add i) = some (.slice a' n' c') ∧ Sl en w a' n' xs
theorem Sl2.keep {α : Type} {en : α → Value} {w u : World} {a : Option Addr} {n : Nat} {xss : List (List α)} (h : Sl2 en w a n xss) (hb : Below w.heap.size w u) : Sl2 en u a n xss :=
  ⟨h.len, fun i x hi => let ⟨p, ha, a', n', c', hc, hs⟩ := h.get i x hi; ⟨p, ha, a', n', c', bkeep hb hc, hs.keep hb⟩⟩
theorem Sl2.read {α : Type} {en : α → Value} {w : World} {a : Option Addr} {n : Nat} {xss : List (List α)} {K : Addr → Prop} (h : Sl2 en w a n xss) {i : Nat} (hi : i < n)
    (hk : ∀ p a' n' c', w.cell? (p.add i) = some (.slice a' n' c') → Sl en w a' n' (xss[i]'(h.len ▸ hi)) → K p) : optN a K := by
  obtain ⟨p, rfl, a', n', c', hc, hs⟩ := h.get i _ (List.getElem?_eq_getElem (h.len ▸ hi))
  exact hk p a' n' c' hc hs

/-- A slice whose elements are k cells each, as it reads. -/
structure SlK {α : Type} (k : Nat) (en : α → List Value) (w : World) (a : Option Addr) (n : Nat) (xs : List α) : Prop where
  len : n = xs.length
  get : ∀ i x, xs[i]? = some x → ∃ p, a = some p ∧ ∀ j v, (en x)[j]? = some v → w.cell? (p.add (i * k + j)) = some v
theorem SlK.keep {α : Type} {k : Nat} {en : α → List Value} {w u : World} {a : Option Addr} {n : Nat} {xs : List α} (h : SlK k en w a n xs) (hb : Below w.heap.size w u) : SlK k en u a n xs :=
  ⟨h.len, fun i x hi => let ⟨p, ha, hc⟩ := h.get i x hi; ⟨p, ha, fun j v hj => bkeep hb (hc j v hj)⟩⟩

/-- A slice of slices each of which reads as I says. -/
structure SlP {α : Type} (I : World → Option Addr → Nat → α → Prop) (w : World) (a : Option Addr) (n : Nat) (xss : List α) : Prop where
  len : n = xss.length
  get : ∀ i x, xss[i]? = some x → ∃ p, a = some p ∧ ∃ a' n' c', w.cell? (p.add i) = some (.slice a' n' c') ∧ I w a' n' x
theorem SlP.keep {α : Type} {I : World → Option Addr → Nat → α → Prop} {w u : World} {a : Option Addr} {n : Nat} {xss : List α} (hI : ∀ a' n' x, I w a' n' x → I u a' n' x) (h : SlP I w a n xss) (hb : Below w.heap.size w u) : SlP I u a n xss :=
  ⟨h.len, fun i x hi => let ⟨p, ha, a', n', c', hc, hs⟩ := h.get i x hi; ⟨p, ha, a', n', c', bkeep hb hc, hI _ _ _ hs⟩⟩
theorem SlP.read {α : Type} {I : World → Option Addr → Nat → α → Prop} {w : World} {a : Option Addr} {n : Nat} {xss : List α} {K : Addr → Prop} (h : SlP I w a n xss) {i : Nat} (hi : i < n)
    (hk : ∀ p a' n' c', w.cell? (p.add i) = some (.slice a' n' c') → I w a' n' (xss[i]'(h.len ▸ hi)) → K p) : optN a K := by
  obtain ⟨p, rfl, a', n', c', hc, hs⟩ := h.get i _ (List.getElem?_eq_getElem (h.len ▸ hi))
  exact hk p a' n' c' hc hs
theorem SlK.read {α : Type} {k : Nat} {en : α → List Value} {w : World} {a : Option Addr} {n : Nat} {xs : List α} {K : Addr → Prop} (h : SlK k en w a n xs) {i : Nat} (hi : i < n)
    (hk : ∀ p, (∀ j v, (en (xs[i]'(h.len ▸ hi)))[j]? = some v → w.cell? (p.add (i * k + j)) = some v) → K p) : optN a K := by
  obtain ⟨p, rfl, hc⟩ := h.get i _ (List.getElem?_eq_getElem (h.len ▸ hi))
  exact hk p hc

theorem flatMap_at {α : Type} {k : Nat} {en : α → List Value} : ∀ (xs : List α) (hk : ∀ x ∈ xs, (en x).length = k) (i : Nat) (x : α), xs[i]? = some x → ∀ j v, (en x)[j]? = some v → (xs.flatMap en)[i * k + j]? = some v
  | [], _, _, _, h, _, _, _ => by cases h
  | y :: ys, hk, 0, x, h, j, v, hj => by
    simp only [List.getElem?_cons_zero, Option.some.injEq] at h
    subst h
    rw [List.flatMap_cons, Nat.zero_mul, Nat.zero_add, List.getElem?_append_left (List.getElem?_eq_some_iff.1 hj).1]
    exact hj
  | y :: ys, hk, i + 1, x, h, j, v, hj => by
    simp only [List.getElem?_cons_succ] at h
    have hl := hk y (by simp)
    rw [List.flatMap_cons, List.getElem?_append_right (by rw [hl, Nat.add_mul]; omega), hl, show (i + 1) * k + j - k = i * k + j from by rw [Nat.add_mul]; omega]
    exact flatMap_at ys (fun z hz => hk z (by simp [hz])) i x h j v hj
theorem flatMap_length {α : Type} {k : Nat} {en : α → List Value} : ∀ (xs : List α) (hk : ∀ x ∈ xs, (en x).length = k), (xs.flatMap en).length = xs.length * k
  | [], _ => by simp
  | y :: ys, hk => by
    rw [List.flatMap_cons, List.length_append, hk y (by simp), flatMap_length ys (fun z hz => hk z (by simp [hz])), List.length_cons, Nat.add_mul]
    omega

/-- A new row of k cells an element, as it reads. -/
theorem own_slk {α : Type} {k : Nat} {en : α → List Value} {w : World} {base : Nat} {e : TypeId} {v : Value} {n : Nat} {xs : List α} (hk : ∀ x ∈ xs, (en x).length = k) (h0 : 0 < k) (h : w.ownsRow base e k v n (xs.flatMap en)) :
    ∃ a c, v = .slice a n c ∧ SlK k en w a n xs ∧ n ≤ c := by
  have hl : n = xs.length := by
    have := h.1
    rw [flatMap_length xs hk] at this
    exact (Nat.eq_of_mul_eq_mul_right h0 this).symm
  rcases h.2 with ⟨rfl, rfl⟩ | ⟨g, cap, cur, rfl, _, hg, h1, h2, _, _⟩
  · exact ⟨none, 0, rfl, ⟨hl, fun i x hi => by
      have : xs = [] := List.eq_nil_of_length_eq_zero hl.symm
      subst this
      simp at hi⟩, Nat.le_refl _⟩
  · exact ⟨_, cap, rfl, ⟨hl, fun i x hi => ⟨_, rfl, fun j v hj => h.cells (g := g) rfl _ v (flatMap_at xs hk i x hi j v hj)⟩⟩, h1⟩

/-- A new row whose elements are slices, each of which holds I. -/
def Nest {α : Type} (e1 : TypeId) (I : World → Value → α → Prop) (w : World) (base : Nat) (v : Value) (xss : List α) : Prop :=
  ∃ vals : List Value, w.ownsRow base e1 1 v xss.length vals ∧ ∀ (i : Nat) (x : α), xss[i]? = some x → ∃ vi, vals[i]? = some vi ∧ I w vi x
section
variable {α : Type} {e1 : TypeId} {I : World → Value → α → Prop} {w w' : World} {base : Nat} {v : Value} {xss : List α}
theorem Nest.nil (w : World) : Nest e1 I w base (.slice none 0 0) [] := ⟨[], own_nil _ _ _ _, fun i x h => by simp at h⟩
theorem Nest.to (h : Nest e1 I w base v xss) (hw : ∀ n xs, w.ownsRow base e1 1 v n xs → w'.ownsRow base e1 1 v n xs) (hI : ∀ vi x, I w vi x → I w' vi x) : Nest e1 I w' base v xss := by
  obtain ⟨vals, ho, hv⟩ := h
  exact ⟨vals, hw _ _ ho, fun i x hi => let ⟨vi, h1, h2⟩ := hv i x hi; ⟨vi, h1, hI _ _ h2⟩⟩
theorem Nest.push {P : Program} {t ty : TypeId} {bytes : Nat} {vi : Value} {x : α} (hT : SliceT P t e1 1 bytes) (h : Nest e1 I w base v xss) (hI : I w vi x) (hone : vi.oneCell' = true) (h63 : xss.length + 1 ≤ maxLen) (hbytes : (xss.length + 1) * bytes ≤ 140737488355328)
    (hbase : base ≤ w.heap.size) (hpres : ∀ w' n xs, w.ownsRow base e1 1 v n xs → w.grownBy w' v.ownBlock → ∀ v0 x0, I w v0 x0 → I w' v0 x0) {K : Value → World → Prop}
    (hk : ∀ a c w', Nest e1 I w' base (.slice a (xss.length + 1) c) (xss ++ [x]) → w.grownBy w' v.ownBlock → (∃ n xs, w.ownsRow base e1 1 v n xs) → K (.slice a (xss.length + 1) c) w') :
    rawN P (Builtin.append_ #[t, t] ty #[v, .slice (some (na w)) 1 1]) (w.alloc (.cells #[vi] e1)) K := by
  obtain ⟨vals, ho, hv⟩ := h
  have hlen : vals.length = xss.length := by simpa using ho.1
  refine append_one hT (by omega) ho (cl := #[vi]) rfl (by simpa using hone) h63 hbytes hbase fun v' w' h2 h3 => ?_
  have hform : ∃ a c, v' = .slice a (xss.length + 1) c := by
    rcases h2.2 with ⟨_, h0⟩ | ⟨g, cap, cur, rfl, _⟩
    · omega
    · exact ⟨_, _, rfl⟩
  obtain ⟨a, c, rfl⟩ := hform
  refine hk a c w' ⟨vals ++ [vi], by simpa using h2, fun i y hi => ?_⟩ h3 ⟨_, _, ho⟩
  by_cases hlt : i < xss.length
  · rw [List.getElem?_append_left hlt] at hi
    obtain ⟨u, h4, h5⟩ := hv i y hi
    exact ⟨u, by rw [List.getElem?_append_left (by omega)]; exact h4, hpres w' _ _ ho h3 u y h5⟩
  · rw [List.getElem?_append_right (by omega)] at hi
    have hi0 : i - xss.length = 0 := by
      rcases Nat.eq_zero_or_pos (i - xss.length) with h | h
      · exact h
      · rw [List.getElem?_eq_none (by simp; omega)] at hi; cases hi
    rw [hi0] at hi
    simp only [List.getElem?_cons_zero, Option.some.injEq] at hi
    subst hi
    exact ⟨vi, by rw [List.getElem?_append_right (by omega), hlen, hi0]; rfl, hpres w' _ _ ho h3 vi x hI⟩
/-- How it reads. -/
theorem Nest.reads (h : Nest e1 I w base v xss) : ∃ a c, v = .slice a xss.length c ∧ ∀ i x, xss[i]? = some x → ∃ p, a = some p ∧ ∃ vi, w.cell? (p.add i) = some vi ∧ I w vi x := by
  obtain ⟨vals, ho, hv⟩ := h
  obtain ⟨a, c, rfl, hs, _, _⟩ := own_sl (en := fun x : Value => x) (xs := vals) (by simpa using ho)
  refine ⟨a, c, rfl, fun i x hi => ?_⟩
  obtain ⟨vi, h1, h2⟩ := hv i x hi
  obtain ⟨p, hp, hc⟩ := hs.get i vi h1
  exact ⟨p, hp, vi, hc, h2⟩
end

/-- A row of its own, of one-cell elements. -/
def Own1 {α : Type} (e : TypeId) (en : α → Value) (base : Nat) (w : World) (v : Value) (xs : List α) : Prop := w.ownsRow base e 1 v xs.length (xs.map en)
def OwnK {α : Type} (e : TypeId) (k : Nat) (en : α → List Value) (base : Nat) (w : World) (v : Value) (xs : List α) : Prop := w.ownsRow base e k v xs.length (xs.flatMap en)
theorem Nest.sl2 {α : Type} {e1 e : TypeId} {en : α → Value} {w : World} {base : Nat} {v : Value} {xss : List (List α)} (h : Nest e1 (Own1 e en base) w base v xss) : ∃ a c, v = .slice a xss.length c ∧ Sl2 en w a xss.length xss := by
  obtain ⟨a, c, hv, hr⟩ := h.reads
  refine ⟨a, c, hv, rfl, fun i xs hi => ?_⟩
  obtain ⟨p, hp, vi, hc, hI⟩ := hr i xs hi
  obtain ⟨a', c', rfl, hs, _⟩ := own_sl hI
  exact ⟨p, hp, a', _, c', hc, hs⟩
theorem Nest.slp {α : Type} {e1 e k : Nat} {en : α → List Value} {w : World} {base : Nat} {v : Value} {xss : List (List α)} (hk : ∀ x, (en x).length = k) (h0 : 0 < k) (h : Nest e1 (OwnK e k en base) w base v xss) : ∃ a c, v = .slice a xss.length c ∧ SlP (SlK k en) w a xss.length xss := by
  obtain ⟨a, c, hv, hr⟩ := h.reads
  refine ⟨a, c, hv, rfl, fun i xs hi => ?_⟩
  obtain ⟨p, hp, vi, hc, hI⟩ := hr i xs hi
  obtain ⟨a', c', rfl, hs, _⟩ := own_slk (fun x _ => hk x) h0 hI
  exact ⟨p, hp, a', _, c', hc, hs⟩

theorem cells_at {w : World} {base : Nat} {a : Addr} {n : Nat} {cs : List Value} (h : w.cells? base a n = some cs) (j : Nat) (v : Value) (hj : cs[j]? = some v) : w.cell? (a.add j) = some v := by
  obtain ⟨_, hl, hc⟩ := World.cells?_some h
  rw [hc j (by have := (List.getElem?_eq_some_iff.1 hj).1; omega)]
  exact hj
/-! ### arguments: slices of slices, slices of aggregates -/
section
variable {H : Type} {enc : TypeId × Value → H} {P : Program} {w : World} {t e : TypeId} {cs : List Value} {x : DataW H × List MemPlace}
theorem tr_slp {α : Type} {I : World → Option Addr → Nat → α → Prop} {G : α → Nat → Prop} {B : DataW H → Nat} (hB : Meas B) (ht : P.underlying t = some (.slice e)) (hc : P.cellsOf e = 1)
    (he : ∀ cs y, TR enc P w e cs y → ∃ a n c z, cs = [.slice a n c] ∧ I w a n z ∧ G z (B y.1)) (h : TR enc P w t cs x) :
    ∃ a n c xss, cs = [.slice a n c] ∧ SlP I w a n xss ∧ n ≤ c ∧ n ≤ B x.1 ∧ ∀ z ∈ xss, ∃ b, G z b ∧ b ≤ B x.1 := by
  obtain ⟨a, n, c, rfl, h1, _, h3, h4, h5⟩ := tr_slice hB ht h
  cases a with
  | none =>
    obtain ⟨rfl, rfl⟩ := h4 rfl
    exact ⟨none, 0, 0, [], rfl, ⟨rfl, fun i v hi => by simp at hi⟩, h1, h3, fun v hv => by cases hv⟩
  | some p =>
    have each : ∀ i : Fin n, ∃ z, (∃ a' n' c', w.cell? (p.add i) = some (.slice a' n' c') ∧ I w a' n' z) ∧ ∃ b, G z b ∧ b ≤ B x.1 := by
      intro i
      obtain ⟨cs', y, hc1, hy, hb⟩ := h5 p rfl i i.isLt
      obtain ⟨a', n', c', z, rfl, hI, hG⟩ := he cs' y hy
      rw [hc, Nat.mul_one] at hc1
      exact ⟨z, ⟨a', n', c', by simpa using cell_of_cells?_one hc1, hI⟩, _, hG, hb⟩
    obtain ⟨f, hf⟩ := Classical.axiomOfChoice each
    refine ⟨some p, n, c, List.ofFn f, rfl, ⟨by simp, fun i v hi => ⟨p, rfl, ?_⟩⟩, h1, h3, fun v hv => ?_⟩
    · obtain ⟨hlt, rfl⟩ := List.getElem?_eq_some_iff.1 hi
      simp only [List.length_ofFn] at hlt
      simpa using (hf ⟨i, hlt⟩).1
    · obtain ⟨i, rfl⟩ := List.mem_ofFn.1 hv
      exact (hf i).2
theorem tr_slk {α : Type} {k : Nat} {en : α → List Value} {B : DataW H → Nat} (hB : Meas B) (ht : P.underlying t = some (.slice e)) (hc : P.cellsOf e = k)
    (he : ∀ cs y, TR enc P w e cs y → ∃ z, cs = en z) (h : TR enc P w t cs x) :
    ∃ a n c xs, cs = [.slice a n c] ∧ SlK k en w a n xs ∧ n ≤ c ∧ n ≤ B x.1 := by
  obtain ⟨a, n, c, rfl, h1, _, h3, h4, h5⟩ := tr_slice hB ht h
  cases a with
  | none =>
    obtain ⟨rfl, rfl⟩ := h4 rfl
    exact ⟨none, 0, 0, [], rfl, ⟨rfl, fun i v hi => by simp at hi⟩, h1, h3⟩
  | some p =>
    have each : ∀ i : Fin n, ∃ z, ∀ j v, (en z)[j]? = some v → w.cell? (p.add (i * k + j)) = some v := by
      intro i
      obtain ⟨cs', y, hc1, hy, hb⟩ := h5 p rfl i i.isLt
      obtain ⟨z, rfl⟩ := he cs' y hy
      rw [hc] at hc1
      refine ⟨z, fun j v hj => ?_⟩
      rw [← add_add]
      exact cells_at hc1 j v hj
    obtain ⟨f, hf⟩ := Classical.axiomOfChoice each
    refine ⟨some p, n, c, List.ofFn f, rfl, ⟨by simp, fun i v hi => ⟨p, rfl, ?_⟩⟩, h1, h3⟩
    obtain ⟨hlt, rfl⟩ := List.getElem?_eq_some_iff.1 hi
    simp only [List.length_ofFn] at hlt
    simpa using hf ⟨i, hlt⟩
end
end Go.E

namespace Go.E
open Go Go.RowKit Go.ChangeShapes

/-! ### steps -/
theorem chk_mk {c K : Prop} [Decidable c] (hc : c) (h : K) : chk c K := chk_iff.2 ⟨hc, h⟩
theorem nchk_mk {c K : Prop} [Decidable c] (hc : ¬ c) (h : K) : nchk c K := nchk_iff.2 ⟨hc, h⟩
theorem nv_mk {α : Type} {x y : α} {K : α → Prop} (e : x = y) (h : K y) : nv x K := by subst e; exact h
theorem nv_i64 {x : Int} {K : Int → Prop} (h0 : -9223372036854775808 ≤ x) (h1 : x ≤ 9223372036854775807) (h : K x) : nv (IntKind.i64.wrap x) K := nv_mk (i64_id h0 h1) h
theorem nv_u64 {x : Int} {K : Int → Prop} (h0 : 0 ≤ x) (h1 : x ≤ 18446744073709551615) (h : K x) : nv (IntKind.u64.wrap x) K := nv_mk (u64_id h0 h1) h
theorem tdiv_pos {a c : Int} (h : 0 ≤ a) : Int.tdiv a c = a / c := by rw [Int.tdiv_eq_ediv_of_nonneg h]
theorem tmod_pos {a c : Int} (h : 0 ≤ a) : Int.tmod a c = a % c := by rw [Int.tmod_eq_emod_of_nonneg h]
theorem nv_div {a c : Int} {K : Int → Prop} (h : 0 ≤ a) (hm : a ≤ 9223372036854775807) (hc : 0 < c) (hk : K (a / c)) : nv (IntKind.i64.wrap (Int.tdiv a c)) K := by
  refine nv_mk ?_ hk
  rw [tdiv_pos h]
  have h1 : 0 ≤ a / c := Int.ediv_nonneg h (by omega)
  have h2 : a / c ≤ a := Int.ediv_le_self c h
  exact i64_id (by omega) (by omega)
theorem nv_mod {a c : Int} {K : Int → Prop} (h : 0 ≤ a) (hk : K (a % c)) : nv (Int.tmod a c) K := nv_mk (tmod_pos h) hk
/-- The round's next number of a counter. -/
theorem nv_succ {i : Nat} {K : Int → Prop} (h : i < 9223372036854775807) (hk : K ((i + 1 : Nat) : Int)) : nv (IntKind.i64.wrap ((i : Int) + 1)) K := nv_mk (by rw [i64_id (by omega) (by omega)]; rfl) hk
theorem nw_mk {w : World} {K : World → Prop} (h : K w) : nw w K := h
theorem onEq {a b : Int} {t f : Prop} (ht : a = b → t) (hf : a ≠ b → f) : onBool (a == b) t f := by
  by_cases h : a = b
  · subst h; simpa [onBool] using ht rfl
  · rw [beq_false_of_ne h]; exact hf h
theorem onNe {a b : Int} {t f : Prop} (ht : a ≠ b → t) (hf : a = b → f) : onBool (a != b) t f := by
  by_cases h : a = b
  · subst h; simpa [onBool] using hf rfl
  · have : (a != b) = true := by simpa using h
    rw [this]; exact ht h
theorem onEq_t {a b : Int} {t f : Prop} (h : a = b) (ht : t) : onBool (a == b) t f := onEq (fun _ => ht) (fun h' => absurd h h')
theorem onEq_f {a b : Int} {t f : Prop} (h : a ≠ b) (hf : f) : onBool (a == b) t f := onEq (fun h' => absurd h' h) (fun _ => hf)
theorem onNe_t {a b : Int} {t f : Prop} (h : a ≠ b) (ht : t) : onBool (a != b) t f := onNe (fun _ => ht) (fun h' => absurd h' h)
theorem onNe_f {a b : Int} {t f : Prop} (h : a = b) (hf : f) : onBool (a != b) t f := onNe (fun h' => absurd h h') (fun _ => hf)

/-! ### what a world leaves alone -/
/-- Nothing that was there is turned. -/
abbrev Kept (w u : World) : Prop := Below w.heap.size w u
/-- At most the block of number g - 1 is turned. -/
abbrev Only (g : Nat) (w u : World) : Prop := Mod (fun k => k + 1 = g) w u
/-- At most what lies from B on is turned. -/
abbrev From (B : Nat) (w u : World) : Prop := Mod (fun k => B ≤ k) w u
section
variable {w u x : World} {S T U : Nat → Prop} {B g : Nat}
theorem Kept.mod (h : Kept w u) : Mod S w u := ⟨h.os, h.tape, h.output, h.size, fun k hk _ => h.block k hk⟩
theorem Mod.kept (h : Mod S w u) (hS : ∀ k, k < w.heap.size → ¬ S k) : Kept w u := ⟨h.os, h.tape, h.output, h.size, fun k hk => h.block k hk (hS k hk)⟩
theorem From.kept (h : From w.heap.size w u) : Kept w u := Mod.kept (S := fun k => w.heap.size ≤ k) h fun k hk hn => by omega
theorem Kept.refl (w : World) : Kept w w := Below.refl _ _
theorem Kept.trans (h : Kept w u) (k : Kept u x) : Kept w x := bthen h k
theorem From.then (h : From B w u) (k : Mod T u x) (hT : ∀ k, k < w.heap.size → T k → B ≤ k) : From B w x := Mod.trans (S := fun k => B ≤ k) h k (fun _ _ h => h) hT
theorem From.keptThen (h : From B w u) (k : Kept u x) : From B w x := Mod.trans (S := fun k => B ≤ k) h (Kept.mod (S := fun _ => False) k) (fun _ _ h => h) (fun _ _ h => h.elim)
theorem Kept.new (w : World) (o : Obj) : Kept w (w.alloc o) := below_new w o
theorem Kept.of_grown (h : w.grownBy u none) : Kept w u := ⟨h.os, h.tape, h.output, h.size, fun k hk => h.block k hk (fun h => by cases h)⟩
theorem Blk.mod {b e : Nat} {cs : Array Value} (h : Blk w b cs e) (hm : Mod S w u) (hn : ¬ S b) : Blk u b cs e := (hm.block b h.lt hn).trans h
theorem Mod.cell (hm : Mod S w u) {a : Addr} {v : Value} (hn : ¬ S a.block) (h : w.cell? a = some v) : u.cell? a = some v := by
  rw [World.cell?_of_block (hm.block a.block (block_lt_of_cell h) hn)]; exact h
theorem Only.set (w : World) (b i : Nat) (v : Value) : Only (b + 1) w (w.setCell ⟨b, i, none⟩ v) :=
  ⟨rfl, rfl, rfl, by rw [heap_setCell_size]; exact Nat.le_refl _, fun k _ hn => by
    unfold World.setCell
    simp only [Array.getElem?_modify]
    rw [if_neg (fun h => hn (by omega))]⟩
end

/-! ### kinds of data -/
/-- How a datum lies in cells: k cells, of which more may be read in the blocks of F. -/
structure Ty (α : Type) where
  k : Nat
  rd : (Nat → Prop) → World → α → List Value → Prop
  len : ∀ {F w x cs}, rd F w x cs → cs.length = k
  one : ∀ {F w x cs}, rd F w x cs → ∀ c ∈ cs, c.oneCell' = true
  mono : ∀ {F F' : Nat → Prop} {w x cs}, (∀ b, F b → F' b) → rd F w x cs → rd F' w x cs
  keep : ∀ {F : Nat → Prop} {w u x cs}, (∀ b, F b → b < w.heap.size → u.heap[b]? = w.heap[b]?) → rd F w x cs → rd F u x cs

/-- A slice that reads as xs. -/
structure Ls {α : Type} (T : Ty α) (F : Nat → Prop) (w : World) (a : Option Addr) (n c : Nat) (xs : List α) : Prop where
  len : n = xs.length
  cap : n ≤ c
  get : ∀ i x, xs[i]? = some x → ∃ p cs, a = some p ∧ F p.block ∧ T.rd F w x cs ∧ ∀ j y, cs[j]? = some y → w.cell? (p.add (i * T.k + j)) = some y
section
variable {α : Type} {T : Ty α} {F F' : Nat → Prop} {w u : World} {a : Option Addr} {n c : Nat} {xs : List α}
theorem Ls.mono (h : Ls T F w a n c xs) (hF : ∀ b, F b → F' b) : Ls T F' w a n c xs :=
  ⟨h.len, h.cap, fun i x hi => let ⟨p, cs, h1, h2, h3, h4⟩ := h.get i x hi; ⟨p, cs, h1, hF _ h2, T.mono hF h3, h4⟩⟩
theorem Ls.keep (h : Ls T F w a n c xs) (hu : ∀ b, F b → b < w.heap.size → u.heap[b]? = w.heap[b]?) : Ls T F u a n c xs :=
  ⟨h.len, h.cap, fun i x hi => let ⟨p, cs, h1, h2, h3, h4⟩ := h.get i x hi; ⟨p, cs, h1, h2, T.keep hu h3, fun j y hj => by
    have := h4 j y hj
    rw [World.cell?_of_block (hu _ (by rw [add_block]; exact h2) (block_lt_of_cell this))]
    exact this⟩⟩
theorem Ls.mod {S : Nat → Prop} (h : Ls T F w a n c xs) (hm : Mod S w u) (hn : ∀ b, F b → ¬ S b) : Ls T F u a n c xs := h.keep fun b hb hlt => hm.block b hlt (hn b hb)
theorem Ls.kept (h : Ls T F w a n c xs) (hm : Kept w u) : Ls T F u a n c xs := h.keep fun b _ hlt => hm.block b hlt
theorem Ls.nil (T : Ty α) (F : Nat → Prop) (w : World) (a : Option Addr) (c : Nat) : Ls T F w a 0 c [] := ⟨rfl, Nat.zero_le _, fun i x h => by simp at h⟩
theorem Ls.opt {K : Addr → Prop} (h : Ls T F w a n c xs) {i : Nat} (hi : i < n)
    (hk : ∀ p x cs, xs[i]? = some x → F p.block → T.rd F w x cs → (∀ j y, cs[j]? = some y → w.cell? (p.add (i * T.k + j)) = some y) → K p) : optN a K := by
  have hi' : i < xs.length := h.len ▸ hi
  obtain ⟨p, cs, rfl, h2, h3, h4⟩ := h.get i _ (List.getElem?_eq_getElem hi')
  exact hk p _ cs (List.getElem?_eq_getElem hi') h2 h3 h4
end
/-- Slices as data. -/
def Ty.sl {α : Type} (T : Ty α) : Ty (List α) where
  k := 1
  rd F w xs cs := ∃ a n c, cs = [.slice a n c] ∧ Ls T F w a n c xs
  len := by rintro F w x cs ⟨a, n, c, rfl, _⟩; rfl
  one := by rintro F w x cs ⟨a, n, c, rfl, _⟩ v hv; simp at hv; subst hv; rfl
  mono := by rintro F F' w x cs hF ⟨a, n, c, rfl, h⟩; exact ⟨a, n, c, rfl, h.mono hF⟩
  keep := by rintro F w u x cs hu ⟨a, n, c, rfl, h⟩; exact ⟨a, n, c, rfl, h.keep hu⟩
/-- Data of one cell that says it all. -/
def Ty.flat {α : Type} (en : α → Value) (h1 : ∀ x, (en x).oneCell' = true) : Ty α where
  k := 1
  rd _ _ x cs := cs = [en x]
  len := by rintro F w x cs rfl; rfl
  one := by rintro F w x cs rfl v hv; simp at hv; subst hv; exact h1 x
  mono := fun _ h => h
  keep := fun _ h => h
def tInt (k : IntKind) : Ty Int := .flat (fun x => .int k x) (fun _ => rfl)
def tF64 : Ty Nat := .flat (fun x => .float .f64 x) (fun _ => rfl)
def tBool : Ty Bool := .flat (fun x => .bool x) (fun _ => rfl)
def tStr : Ty ByteArray := .flat (fun x => .string x) (fun _ => rfl)
def enW (x : BitVec 64) : Value := .int .u64 (x.toNat : Int)
def tW : Ty (BitVec 64) := .flat enW (fun _ => rfl)

/-- Data of several cells that say it all. -/
def Ty.cells {α : Type} (k : Nat) (en : α → List Value) (hl : ∀ x, (en x).length = k) (h1 : ∀ x, ∀ c ∈ en x, c.oneCell' = true) : Ty α where
  k := k
  rd _ _ x cs := cs = en x
  len := by rintro F w x cs rfl; exact hl x
  one := by rintro F w x cs rfl; exact h1 x
  mono := fun _ h => h
  keep := fun _ h => h

/-! ### own rows -/
def Row (w : World) (e size : Nat) (a : Option Addr) (n c : Nat) (cs : List Value) (g : Nat) : Prop :=
  cs.length = n * size ∧ ((g = 0 ∧ a = none ∧ n = 0 ∧ c = 0) ∨ ∃ b cur, g = b + 1 ∧ a = some ⟨b, 0, none⟩ ∧ Blk w b cur e ∧ n ≤ c ∧ c ≤ maxLen ∧ cur.size = c * size ∧ cur.toList.take (n * size) = cs)
section
variable {w u : World} {e size : Nat} {a : Option Addr} {n c g : Nat} {cs : List Value} {S : Nat → Prop}
theorem Row.le (h : Row w e size a n c cs g) : g ≤ w.heap.size := by
  rcases h.2 with ⟨rfl, _⟩ | ⟨b, cur, rfl, _, hb, _⟩
  · exact Nat.zero_le _
  · exact hb.lt
theorem Row.mod (h : Row w e size a n c cs g) (hm : Mod S w u) (hn : ∀ k, k + 1 = g → ¬ S k) : Row u e size a n c cs g := by
  refine ⟨h.1, ?_⟩
  rcases h.2 with h0 | ⟨b, cur, rfl, h1, hb, h2⟩
  · exact .inl h0
  · exact .inr ⟨b, cur, rfl, h1, hb.mod hm (hn b rfl), h2⟩
theorem Row.kept (h : Row w e size a n c cs g) (hm : Kept w u) : Row u e size a n c cs g := h.mod (Kept.mod (S := fun _ => False) hm) (fun _ _ h => h)
theorem Row.nil (w : World) (e size : Nat) : Row w e size none 0 0 [] 0 := ⟨by simp, .inl ⟨rfl, rfl, rfl, rfl⟩⟩
theorem Row.cell (h : Row w e size a n c cs g) {i : Nat} {v : Value} (hi : cs[i]? = some v) : ∃ b, g = b + 1 ∧ a = some ⟨b, 0, none⟩ ∧ w.cell? ⟨b, i, none⟩ = some v := by
  rcases h.2 with ⟨rfl, rfl, rfl, _⟩ | ⟨b, cur, rfl, rfl, hb, hnc, hc, hs, ht⟩
  · have : cs = [] := List.eq_nil_of_length_eq_zero (by simpa using h.1)
    subst this; simp at hi
  · refine ⟨b, rfl, rfl, ?_⟩
    rw [hb.cell]
    subst ht
    have hlt := (List.getElem?_eq_some_iff.1 hi).1
    rw [List.length_take] at hlt
    rw [List.getElem?_take] at hi
    rw [if_pos (by omega)] at hi
    simpa using hi
theorem Row.cap (h : Row w e size a n c cs g) : n ≤ c := by
  rcases h.2 with ⟨rfl, rfl, rfl, rfl⟩ | ⟨b, cur, rfl, rfl, hb, hnc, _⟩ <;> omega
theorem Row.ownsRow (h : Row w e size a n c cs g) : w.ownsRow 0 e size (.slice a n c) n cs := by
  refine ⟨h.1, ?_⟩
  rcases h.2 with ⟨rfl, rfl, rfl, rfl⟩ | ⟨b, cur, rfl, rfl, hb, hnc, hc, hs, ht⟩
  · exact .inl ⟨rfl, rfl⟩
  · exact .inr ⟨b, c, cur, rfl, Nat.zero_le _, hb, hnc, hc, hs, ht⟩
/-- One cell of an own row is written. -/
theorem Row.set (h : Row w e size a n c cs g) {i : Nat} (hi : i < n * size) (v : Value) : ∃ b, g = b + 1 ∧ a = some ⟨b, 0, none⟩ ∧ okSt w ⟨b, i, none⟩ ∧ Row (w.setCell ⟨b, i, none⟩ v) e size a n c (cs.set i v) g ∧ Only g w (w.setCell ⟨b, i, none⟩ v) := by
  rcases h.2 with ⟨rfl, rfl, rfl, _⟩ | ⟨b, cur, rfl, rfl, hb, hnc, hc, hs, ht⟩
  · omega
  · have hle : n * size ≤ c * size := Nat.mul_le_mul_right _ hnc
    refine ⟨b, rfl, rfl, hb.ok (by omega), ⟨by simpa using h.1, .inr ⟨b, _, rfl, rfl, hb.set i v, hnc, hc, by simpa using hs, ?_⟩⟩, Only.set w b i v⟩
    subst ht
    rw [Array.toList_setIfInBounds, List.take_set]
end

/-- append to an own row. -/
theorem rawN_row {P : Program} {w : World} {t ty e size bytes : Nat} (hT : SliceT P t e size bytes) (hsz : 0 < size) {a : Option Addr} {n c g : Nat} {xs : List Value} (hown : Row w e size a n c xs g)
    {news : List Value} {s : Option Addr} {m d : Nat} (hl : news.length = m * size) (hnews : ∀ j u, news[j]? = some u → ∃ p, s = some p ∧ w.cell? (p.add j) = some u) (hm0 : s = none → m = 0)
    (h1 : ∀ u ∈ news, u.oneCell' = true) (h63 : n + m ≤ maxLen) (hbytes : (n + m) * bytes ≤ 140737488355328) {K : Value → World → Prop}
    (hk : ∀ a' c' g' w', Row w' e size a' (n + m) c' (xs ++ news) g' → (g' = g ∨ g' = w.heap.size + 1) → Only g w w' → K (.slice a' (n + m) c') w') :
    rawN P (Builtin.append_ #[t, t] ty #[.slice a n c, .slice s m d]) w K := by
  obtain ⟨ht, i, z, hi, hz, rfl, rfl, hzs⟩ := hT
  intro dd
  have hsmall : n + m ≤ 9223372036854775807 := by simp only [maxLen] at h63; omega
  have hlen : (xs ++ news).length = (n + m) * i.size := by rw [List.length_append, hown.1, hl, Nat.add_mul]
  cases s with
  | none =>
    obtain rfl := hm0 rfl
    obtain rfl : news = [] := List.eq_nil_of_length_eq_zero (by simpa using hl)
    refine ⟨.slice a n c, w, dd, run_append_nilsrc ht hi _ _ _ _ hown.cap, ?_⟩
    exact hk a c g w (by simpa using hown) (.inl rfl) (Mod.refl _)
  | some p =>
    have hn' : ∀ j u, news[j]? = some u → (dr w dd).cell? (p.add j) = some u := fun j u hj => by obtain ⟨p', hp, hc⟩ := hnews j u hj; cases hp; exact hc
    have hnew : ∀ (old : Nat), old < n + m →
        Row ((dr w dd).drew.alloc (.cells (xs.toArray ++ news.toArray ++ Builtin.zeroCells z.cells (grownCap (dr w dd) (n + m) old e - (n + m))) e)) e i.size (some ⟨w.heap.size, 0, none⟩) (n + m) (grownCap (dr w dd) (n + m) old e) (xs ++ news) (w.heap.size + 1) := by
      intro old ho
      have hge := grownCap_ge (dr w dd) (n + m) old e
      have hcm : grownCap (dr w dd) (n + m) old e ≤ maxLen := grownCap_le_maxLen (dr w dd) (n + m) old e h63
      refine ⟨hlen, .inr ⟨w.heap.size, _, rfl, rfl, heap_alloc_new (dr w dd).drew _, hge, hcm, ?_, ?_⟩⟩
      · simp only [Array.size_append, List.size_toArray, size_zeroCells, hzs, hown.1, hl, ← Nat.add_mul]
        congr 1
        omega
      · simp only [Array.toList_append, List.append_assoc]
        rw [← List.append_assoc, ← hlen]
        exact List.take_left
    have hdr : ∀ (o : Obj), (dr w dd).drew.alloc o = dr (w.alloc o) ((dr w dd).drew).drawn := fun o => rfl
    have honly : ∀ (o : Obj), Only g w (w.alloc o) := fun o => Kept.mod (Kept.new w o)
    rcases hown.2 with ⟨rfl, rfl, rfl, rfl⟩ | ⟨b, cur, rfl, rfl, hg, hnc, hcm, hcs, htake⟩
    · have hx : xs = [] := List.eq_nil_of_length_eq_zero (by simpa using hown.1)
      subst hx
      by_cases hm : m = 0
      · subst hm
        have hn : news = [] := List.eq_nil_of_length_eq_zero (by simpa using hl)
        subst hn
        refine ⟨.slice none 0 0, w, dd, ?_, hk none 0 0 w (Row.nil w e i.size) (.inl rfl) (Mod.refl _)⟩
        simp [Builtin.append_, run_underlying ht, sizeOf, typeInfo, hi, Builtin.lenOf, Builtin.firstCells, loadCells, loadCellsFrom]
      · have hr := run_append_nil (P := P) (dr w dd) t ty e i z ht hi hz p m d news hl hn' (by omega) (by omega) (by have hb := hbytes; simp only [Nat.zero_add] at hb; omega)
        have hgr := hnew 0 (by omega)
        simp only [Nat.zero_add, List.nil_append, Array.empty_append] at hgr hk
        rw [hdr] at hr
        refine ⟨_, _, _, hr, hk _ _ _ _ ?_ (.inr rfl) (honly _)⟩
        exact hgr
    · by_cases hroom : n + m ≤ c
      · have hfit : n * i.size + news.length ≤ cur.size := by rw [hl, hcs, ← Nat.add_mul]; exact Nat.mul_le_mul_right _ hroom
        have hr := run_append_room (P := P) (dr w dd) t ty e i ht hi b n c cur hg p m d news hl hn' h1 hroom hfit
        refine ⟨_, w.setRow b _, dd, hr, hk _ _ (b + 1) _ ⟨hlen, .inr ⟨b, _, rfl, rfl, setRow_heap w b cur _ e _ hg, hroom, hcm, ?_, ?_⟩⟩ (.inl rfl) ⟨rfl, rfl, rfl, by simp [World.setRow], fun k _ hk => setRow_other w b k _ (fun e => hk (by omega))⟩⟩
        · simp only [List.size_toArray, List.length_append, List.length_take, List.length_drop, Array.length_toList]
          omega
        · rw [htake, ← hlen]
          exact List.take_left
      · have holds : ∀ j u, xs[j]? = some u → (dr w dd).cell? ((⟨b, 0, none⟩ : Addr).add j) = some u := fun j u hj => by
          obtain ⟨b', hb', _, hc⟩ := hown.cell hj
          obtain rfl : b' = b := by omega
          rw [addr_add, Nat.zero_add]
          exact hc
        have hr := run_append_grow (P := P) (dr w dd) t ty e i z ht hi hz ⟨b, 0, none⟩ n c xs hown.1 holds p m d news hl hn' (by omega) (by omega) (growslice_fits (by omega) hbytes)
        rw [hdr] at hr
        exact ⟨_, _, _, hr, hk _ _ _ _ (hnew c (by omega)) (.inr rfl) (honly _)⟩
end Go.E

namespace Go.E
open Go Go.RowKit Go.ChangeShapes

section
variable {α β : Type} {en : α → Value} {w u : World} {a : Option Addr} {n c g e : Nat} {xs : List α} {F S : Nat → Prop}
/-- A row of one's own, of one-cell elements. -/
def Arr (en : α → Value) (e : Nat) (w : World) (a : Option Addr) (n c : Nat) (xs : List α) (g : Nat) : Prop := Row w e 1 a n c (xs.map en) g
theorem Arr.len (h : Arr en e w a n c xs g) : n = xs.length := by have := h.1; simp at this; omega
theorem Arr.sl (h : Arr en e w a n c xs g) : Sl en w a n xs := by
  refine ⟨h.len, fun i x hi => ?_⟩
  obtain ⟨b, rfl, rfl, hc⟩ := Row.cell (i := i) h (v := en x) (by simp [hi])
  exact ⟨_, rfl, by rw [addr_add, Nat.zero_add]; exact hc⟩
theorem Arr.ls {h1 : ∀ x, (en x).oneCell' = true} (h : Arr en e w a n c xs g) : Ls (Ty.flat en h1) (fun b => b + 1 = g) w a n c xs := by
  refine ⟨h.len, h.cap, fun i x hi => ?_⟩
  obtain ⟨b, rfl, rfl, hc⟩ := Row.cell (i := i) h (v := en x) (by simp [hi])
  refine ⟨_, _, rfl, rfl, rfl, fun j y hj => ?_⟩
  cases j with
  | zero => cases hj; rw [addr_add]; simpa [Ty.flat] using hc
  | succ j => cases hj
theorem Arr.mod (h : Arr en e w a n c xs g) (hm : Mod S w u) (hn : ∀ k, k + 1 = g → ¬ S k) : Arr en e u a n c xs g := Row.mod h hm hn
theorem Arr.kept (h : Arr en e w a n c xs g) (hm : Kept w u) : Arr en e u a n c xs g := Row.kept h hm
theorem Arr.nil (en : α → Value) (e : Nat) (w : World) : Arr en e w none 0 0 [] 0 := Row.nil w e 1
theorem Arr.le (h : Arr en e w a n c xs g) : g ≤ w.heap.size := Row.le h
theorem Arr.capLe (h : Arr en e w a n c xs g) : n ≤ c := Row.cap h
theorem Ls.sl {h1 : ∀ x, (en x).oneCell' = true} (h : Ls (Ty.flat en h1) F w a n c xs) : Sl en w a n xs :=
  ⟨h.len, fun i x hi => by
    obtain ⟨p, cs, h1, _, h3, h4⟩ := h.get i x hi
    obtain rfl : cs = [en x] := h3
    exact ⟨p, h1, by simpa [Ty.flat] using h4 0 _ rfl⟩⟩

/-! ### reading -/
theorem Sl.rd (h : Sl en w a n xs) {f : β → Value} {sel : α → β} (hf : ∀ x, en x = f (sel x)) {i : Int} {K : β → Prop} (h0 : 0 ≤ i) (hi : i < n) (hk : ∀ x, xs[i.toNat]? = some x → K (sel x)) :
    optN a fun q => chk (0 ≤ i ∧ i < (n : Int)) (∃ y : β, w.cell? (q.add (i.toNat * 1)) = some (f y) ∧ K y) := by
  have hi' : i.toNat < n := by omega
  refine h.read hi' fun p hp => chk_mk ⟨h0, hi⟩ ⟨sel (xs[i.toNat]'(h.len ▸ hi')), ?_, hk _ (List.getElem?_eq_getElem _)⟩
  rw [← hf, Nat.mul_one]; exact hp
theorem Sl.rdW {en : BitVec 64 → Value} {xs : List (BitVec 64)} (h : Sl en w a n xs) (hf : ∀ x, en x = enW x) {i : Int} {K : Int → Prop} (h0 : 0 ≤ i) (hi : i < n) (hk : ∀ x : BitVec 64, xs[i.toNat]? = some x → K (x.toNat : Int)) :
    optN a fun q => chk (0 ≤ i ∧ i < (n : Int)) (∃ y : Int, w.cell? (q.add (i.toNat * 1)) = some (.int .u64 y) ∧ K y) := h.rd (f := fun y => .int .u64 y) (sel := fun x => (x.toNat : Int)) hf h0 hi hk
theorem Sl.rdI {k : IntKind} {xs : List Int} (h : Sl (fun x => .int k x) w a n xs) {i : Int} {K : Int → Prop} (h0 : 0 ≤ i) (hi : i < n) (hk : ∀ x : Int, xs[i.toNat]? = some x → K x) :
    optN a fun q => chk (0 ≤ i ∧ i < (n : Int)) (∃ y : Int, w.cell? (q.add (i.toNat * 1)) = some (.int k y) ∧ K y) := h.rd (sel := fun x => x) (fun _ => rfl) h0 hi hk

/-! ### writing -/
theorem Arr.wr (h : Arr en e w a n c xs g) {i : Int} {K : World → Prop} (h0 : 0 ≤ i) (hi : i < n) {v : Value} {x : α} (hv : v = en x) (hk : ∀ u, Arr en e u a n c (xs.set i.toNat x) g → Only g w u → K u) :
    optN a fun q => chk (0 ≤ i ∧ i < (n : Int)) (okSt w ((q.add (i.toNat * 1)).add 0) ∧ nw (w.setCell ((q.add (i.toNat * 1)).add 0) v) K) := by
  obtain ⟨b, rfl, rfl, hok, hr, ho⟩ := Row.set h (i := i.toNat) (by omega) v
  refine chk_mk ⟨h0, hi⟩ ?_
  simp only [addr_add, Nat.mul_one, Nat.zero_add, Nat.add_zero]
  refine ⟨hok, hk _ ?_ ho⟩
  subst hv
  unfold Arr
  rw [List.map_set]
  exact hr

/-! ### making -/
theorem madeCells_one (v : Value) (n : Nat) : madeCells #[v] n = (List.replicate n v).toArray := by
  apply Array.ext
  · simp [madeCells]
  · intro i h1 h2
    simp [madeCells, Nat.mod_one]
theorem Arr.make {K : World → Prop} {v : Value} {x : α} (hv : v = en x) {l : Int} {by_ : Nat} (h0 : 0 ≤ l) (hb : (by_ : Int) * l ≤ 281474976710656) (hm : l ≤ 9223372036854775807)
    (hk : ∀ u, Arr en e u (some (na w)) l.toNat l.toNat (List.replicate l.toNat x) (w.heap.size + 1) → Kept w u → K u) :
    chk ((0 : Int) ≤ l ∧ l ≤ l ∧ (by_ : Int) * l ≤ 281474976710656 ∧ l ≤ 9223372036854775807) (nw (w.alloc (.cells (madeCells #[v] (l.toNat * 1)) e)) K) := by
  refine chk_mk ⟨h0, Int.le_refl _, hb, hm⟩ (hk _ ?_ (Kept.new w _))
  refine ⟨by simp, .inr ⟨w.heap.size, _, rfl, rfl, Blk.new w _ e, Nat.le_refl _, by simp only [maxLen]; omega, by simp [size_madeCells], ?_⟩⟩
  subst hv
  rw [Nat.mul_one, madeCells_one, List.map_replicate]
  simp

/-! ### append -/
theorem Arr.push {P : Program} {t ty by_ : Nat} (hT : SliceT P t e 1 by_) (h : Arr en e w a n c xs g) {v : Value} {x : α} (hv : v = en x) (h1 : (en x).oneCell' = true) (h63 : n + 1 ≤ maxLen) (hb : (n + 1) * by_ ≤ 140737488355328) {K : Value → World → Prop}
    (hk : ∀ a' c' g' u, Arr en e u a' (n + 1) c' (xs ++ [x]) g' → (g' = g ∨ w.heap.size < g') → g' ≠ 0 → Only g w u → K (.slice a' (n + 1) c') u) :
    nw (w.alloc (.cells #[v] e)) fun w' => rawN P (Builtin.append_ #[t, t] ty #[.slice a n c, .slice (some (na w)) 1 1]) w' K := by
  subst hv
  have hn := Kept.new w (.cells #[en x] e)
  refine rawN_row hT (by omega) (Row.kept h hn) (news := [en x]) (by simp) (fun j u hj => ⟨_, rfl, by rw [cell_new]; simpa using hj⟩) (fun h => by cases h) (by simpa using h1) h63 hb fun a' c' g' u hr hg ho => ?_
  refine hk a' c' g' u (by unfold Arr; simpa using hr) (by rcases hg with h | h <;> simp_all; omega) ?_ ?_
  · rcases hr.2 with ⟨_, _, h0, _⟩ | ⟨b, _, rfl, _⟩ <;> omega
  · exact (Kept.mod (S := fun k => k + 1 = g) hn).trans ho (fun _ _ h => h) (fun _ _ h => h)
theorem Arr.pushes {P : Program} {t ty by_ : Nat} (hT : SliceT P t e 1 by_) (h : Arr en e w a n c xs g) (h1 : ∀ x, (en x).oneCell' = true) {s : Option Addr} {m d : Nat} {ys : List α} (hs : Sl en w s m ys) (h63 : n + m ≤ maxLen) (hb : (n + m) * by_ ≤ 140737488355328) {K : Value → World → Prop}
    (hk : ∀ a' c' g' u, Arr en e u a' (n + m) c' (xs ++ ys) g' → (g' = g ∨ w.heap.size < g') → Only g w u → K (.slice a' (n + m) c') u) :
    rawN P (Builtin.append_ #[t, t] ty #[.slice a n c, .slice s m d]) w K := by
  refine rawN_row hT (by omega) h (news := ys.map en) (by simp [hs.len]) (fun j u hj => ?_) (fun h0 => ?_) (by simpa using fun x _ => h1 x) h63 hb fun a' c' g' u hr hg ho => ?_
  · obtain ⟨y, hy, rfl⟩ := Option.map_eq_some_iff.1 (by simpa using hj)
    exact hs.get j y hy
  · rcases Nat.eq_zero_or_pos m with hm | hm
    · exact hm
    · obtain ⟨q, hq, _⟩ := hs.at (i := 0) hm
      rw [h0] at hq; cases hq
  · exact hk a' c' g' u (by unfold Arr; simpa using hr) (by omega) ho
end
end Go.E

namespace Go.E
open Go Go.RowKit

def enB (x : UInt8) : Value := .int .u8 (x.toNat : Int)
theorem run_convert_nil_bytes' {P : Program} (w : World) (src dst e : TypeId) (c : Nat) (hs : P.underlying src = some (.slice e)) (he : P.underlying e = some (.int .u8)) (hd : P.underlying dst = some .string) :
    (convert src dst (.slice none 0 c)).run P w = .ok (.string ⟨#[]⟩) w := by
  rw [run_convert_bytes_string w src dst e none 0 c hs he hd]
  simp [Conv.bytesToString]
  rfl
/-- string(bytes). -/
theorem rawN_bytes {P : Program} {w : World} {src dst e : TypeId} {a : Option Addr} {n c : Nat} {bs : List UInt8} {K : Value → World → Prop} (hs : P.underlying src = some (.slice e)) (he : P.underlying e = some (.int .u8)) (hd : P.underlying dst = some .string)
    (h : Sl enB w a n bs) (hK : K (.string ⟨bs.toArray⟩) w) : rawN P (convert src dst (.slice a n c)) w K := by
  obtain rfl := h.len
  cases a with
  | none =>
    have : bs = [] := by
      cases bs with
      | nil => rfl
      | cons b l => obtain ⟨p, hp, _⟩ := h.get 0 b rfl; cases hp
    subst this
    exact rawN.of (fun d => run_convert_nil_bytes' (dr w d) src dst e c hs he hd) hK
  | some p =>
    refine rawN.of (fun d => run_convert_bytes_back (dr w d) src dst e p c bs hs he hd fun j hj => ?_) hK
    obtain ⟨q, hq, hc⟩ := h.get j _ (List.getElem?_eq_getElem hj)
    cases hq
    exact hc
theorem Sl.rdB {w : World} {a : Option Addr} {n : Nat} {xs : List UInt8} (h : Sl enB w a n xs) {i : Int} {K : Int → Prop} (h0 : 0 ≤ i) (hi : i < n) (hk : ∀ x : UInt8, xs[i.toNat]? = some x → K (x.toNat : Int)) :
    optN a fun q => chk (0 ≤ i ∧ i < (n : Int)) (∃ y : Int, w.cell? (q.add (i.toNat * 1)) = some (.int .u8 y) ∧ K y) := h.rd (f := fun y => .int .u8 y) (sel := fun x => (x.toNat : Int)) (fun _ => rfl) h0 hi hk
/-- A slice of nothing but a new block. -/
theorem Sl.new {α : Type} (en : α → Value) (e : Nat) (w : World) (xs : List α) (cs : Array Value) (hc : cs = (xs.map en).toArray) : Sl en (w.alloc (.cells cs e)) (some (na w)) xs.length xs := by
  subst hc
  refine ⟨rfl, fun i x hi => ⟨_, rfl, ?_⟩⟩
  rw [cell_new]
  simp [hi]
end Go.E

namespace Go.E
open Go Go.RowKit Go.ChangeShapes
section
variable {H : Type} {enc : TypeId × Value → H} {P : Program} {w : World} {t e : TypeId} {B : DataW H → Nat} {α : Type}
/-- What lies in memory as type t reads as data of this kind, of which G holds by its measure. -/
def Opens (enc : TypeId × Value → H) (P : Program) (w : World) (B : DataW H → Nat) (T : Ty α) (t : TypeId) (G : α → Nat → Prop) : Prop :=
  ∀ cs y, TR enc P w t cs y → ∃ x, T.rd (fun b => b < w.heap.size) w x cs ∧ G x (B y.1)
theorem Opens.weak {T : Ty α} {G G' : α → Nat → Prop} (h : Opens enc P w B T t G) (hG : ∀ x b, G x b → G' x b) : Opens enc P w B T t G' := fun cs y hy => let ⟨x, h1, h2⟩ := h cs y hy; ⟨x, h1, hG _ _ h2⟩
theorem opens_int {k : IntKind} (ht : P.underlying t = some (.int k)) : Opens enc P w B (tInt k) t (fun x _ => (Lit.int k x).wf = true) := fun cs y hy => by
  obtain ⟨n, rfl, hw⟩ := tr_int ht hy
  exact ⟨n, rfl, hw⟩
theorem opens_word (ht : P.underlying t = some (.int .u64)) : Opens enc P w B tW t (fun _ _ => True) := fun cs y hy => by
  obtain ⟨n, rfl, hw⟩ := tr_int ht hy
  have hw' : 0 ≤ n ∧ n ≤ 18446744073709551615 := by simpa [Lit.wf, IntKind.min, IntKind.max, IntKind.signed, IntKind.bits] using hw
  refine ⟨BitVec.ofNat 64 n.toNat, ?_, trivial⟩
  show _ = [enW _]
  unfold enW
  rw [BitVec.toNat_ofNat, Nat.mod_eq_of_lt (by omega), show ((n.toNat : Nat) : Int) = n from by omega]
theorem opens_float (ht : P.underlying t = some (.float .f64)) : Opens enc P w B tF64 t (fun x _ => (Lit.float .f64 x).wf = true) := fun cs y hy => by
  obtain ⟨n, rfl, hw⟩ := tr_float ht hy
  exact ⟨n, rfl, hw⟩
theorem opens_bool (ht : P.underlying t = some .bool) : Opens enc P w B tBool t (fun _ _ => True) := fun cs y hy => by
  obtain ⟨n, rfl⟩ := tr_bool ht hy
  exact ⟨n, rfl, trivial⟩
theorem opens_sl {T : Ty α} {G : α → Nat → Prop} (hB : Meas B) (ht : P.underlying t = some (.slice e)) (hc : P.cellsOf e = T.k) (hk0 : T.k ≠ 0) (h : Opens enc P w B T e G) :
    Opens enc P w B T.sl t (fun xs b => xs.length ≤ b ∧ ∀ x ∈ xs, ∃ b', b' ≤ b ∧ G x b') := fun cs y hy => by
  obtain ⟨a, n, c, rfl, h1, _, h3, h4, h5⟩ := tr_slice hB ht hy
  cases a with
  | none =>
    obtain ⟨rfl, rfl⟩ := h4 rfl
    exact ⟨[], ⟨none, 0, 0, rfl, Ls.nil _ _ _ _ _⟩, Nat.zero_le _, fun x hx => by cases hx⟩
  | some p =>
    have each : ∀ i : Fin n, ∃ x, (∃ cs, T.rd (fun b => b < w.heap.size) w x cs ∧ ∀ j v, cs[j]? = some v → w.cell? (p.add (i * T.k + j)) = some v) ∧ ∃ b', b' ≤ B y.1 ∧ G x b' := by
      intro i
      obtain ⟨cs', z, hc1, hz, hb⟩ := h5 p rfl i i.isLt
      obtain ⟨x, hx, hG⟩ := h cs' z hz
      refine ⟨x, ⟨cs', hx, fun j v hj => ?_⟩, _, hb, hG⟩
      rw [hc] at hc1
      rw [← add_add]
      exact cells_at hc1 j v hj
    obtain ⟨f, hf⟩ := Classical.axiomOfChoice each
    have hp : 0 < n → T.k ≠ 0 → p.block < w.heap.size := fun hn hk => by
      obtain ⟨⟨cs, hr, hcs⟩, _⟩ := hf ⟨0, hn⟩
      have hl := T.len hr
      have := hcs 0 (cs[0]'(by omega)) (List.getElem?_eq_getElem _)
      have := block_lt_of_cell this
      rwa [add_block] at this
    refine ⟨List.ofFn f, ⟨some p, n, c, rfl, by simp, h1, fun i x hi => ?_⟩, by simpa using h3, fun x hx => ?_⟩
    · obtain ⟨hlt, rfl⟩ := List.getElem?_eq_some_iff.1 hi
      simp only [List.length_ofFn] at hlt
      obtain ⟨⟨cs, hr, hcs⟩, _⟩ := hf ⟨i, hlt⟩
      exact ⟨p, cs, rfl, hp (by omega) hk0, by simpa using hr, hcs⟩
    · obtain ⟨i, rfl⟩ := List.mem_ofFn.1 hx
      exact (hf i).2
end
end Go.E

namespace Go.E
open Go Go.RowKit Go.ChangeShapes
section
variable {α : Type} {k : Nat} {en : α → List Value} {w u : World} {a : Option Addr} {n c g e : Nat} {xs : List α} {F S : Nat → Prop}
/-- A row of one's own, of k cells an element. -/
def ArrK (k : Nat) (en : α → List Value) (e : Nat) (w : World) (a : Option Addr) (n c : Nat) (xs : List α) (g : Nat) : Prop := Row w e k a n c (xs.flatMap en) g
theorem ArrK.len (hl : ∀ x, (en x).length = k) (hk : 0 < k) (h : ArrK k en e w a n c xs g) : n = xs.length := by
  have h1 := h.1
  rw [flatMap_length xs (fun x _ => hl x)] at h1
  exact (Nat.eq_of_mul_eq_mul_right hk h1).symm
theorem ArrK.slk (hl : ∀ x, (en x).length = k) (hk : 0 < k) (h : ArrK k en e w a n c xs g) : SlK k en w a n xs := by
  refine ⟨h.len hl hk, fun i x hi => ?_⟩
  have hf : ∀ j v, (en x)[j]? = some v → (xs.flatMap en)[i * k + j]? = some v := fun j v hj => flatMap_at xs (fun x _ => hl x) i x hi j v hj
  have h0 : ∃ v, (en x)[0]? = some v := ⟨(en x)[0]'(by rw [hl]; omega), List.getElem?_eq_getElem _⟩
  obtain ⟨v0, h0⟩ := h0
  obtain ⟨b, rfl, rfl, _⟩ := Row.cell h (hf 0 v0 h0)
  refine ⟨_, rfl, fun j v hj => ?_⟩
  obtain ⟨b', hb', _, hc⟩ := Row.cell h (hf j v hj)
  obtain rfl : b' = b := by omega
  rw [addr_add, Nat.zero_add]
  exact hc
theorem ArrK.mod (h : ArrK k en e w a n c xs g) (hm : Mod S w u) (hn : ∀ k, k + 1 = g → ¬ S k) : ArrK k en e u a n c xs g := Row.mod h hm hn
theorem ArrK.kept (h : ArrK k en e w a n c xs g) (hm : Kept w u) : ArrK k en e u a n c xs g := Row.kept h hm
theorem ArrK.nil (k : Nat) (en : α → List Value) (e : Nat) (w : World) : ArrK k en e w none 0 0 [] 0 := Row.nil w e k
theorem ArrK.le (h : ArrK k en e w a n c xs g) : g ≤ w.heap.size := Row.le h
theorem ArrK.push {P : Program} {t ty by_ : Nat} (hT : SliceT P t e k by_) (hl : ∀ x, (en x).length = k) (hk0 : 0 < k) (h : ArrK k en e w a n c xs g) {cs : Array Value} {x : α} (hv : cs.toList = en x) (h1 : ∀ v ∈ en x, v.oneCell' = true) (h63 : n + 1 ≤ maxLen) (hb : (n + 1) * by_ ≤ 140737488355328) {K : Value → World → Prop}
    (hk : ∀ a' c' g' u, ArrK k en e u a' (n + 1) c' (xs ++ [x]) g' → (g' = g ∨ w.heap.size < g') → g' ≠ 0 → Only g w u → K (.slice a' (n + 1) c') u) :
    nw (w.alloc (.cells cs e)) fun w' => rawN P (Builtin.append_ #[t, t] ty #[.slice a n c, .slice (some (na w)) 1 1]) w' K := by
  have hn := Kept.new w (.cells cs e)
  refine rawN_row hT hk0 (Row.kept h hn) (news := en x) (by simp [hl]) (fun j u hj => ⟨_, rfl, by rw [cell_new, ← Array.getElem?_toList, hv]; exact hj⟩) (fun h => by cases h) h1 h63 hb fun a' c' g' u hr hg ho => ?_
  refine hk a' c' g' u (by unfold ArrK; simpa using hr) (by rcases hg with h | h <;> simp_all; omega) ?_ ?_
  · rcases hr.2 with ⟨_, _, h0, _⟩ | ⟨b, _, rfl, _⟩ <;> omega
  · exact (Kept.mod (S := fun k => k + 1 = g) hn).trans ho (fun _ _ h => h) (fun _ _ h => h)
theorem flatMap_set (hl : ∀ x, (en x).length = k) : ∀ (xs : List α) (i j : Nat) (x : α) (v : Value), xs[i]? = some x → j < k → ∀ y, en y = (en x).set j v → (xs.set i y).flatMap en = (xs.flatMap en).set (i * k + j) v
  | [], i, j, x, v, h, _, _, _ => by cases h
  | z :: zs, 0, j, x, v, h, hj, y, hy => by
    simp only [List.getElem?_cons_zero, Option.some.injEq] at h
    subst h
    rw [List.set_cons_zero, List.flatMap_cons, List.flatMap_cons, hy, Nat.zero_mul, Nat.zero_add, List.set_append_left _ _ (by rw [hl]; exact hj)]
  | z :: zs, i + 1, j, x, v, h, hj, y, hy => by
    simp only [List.getElem?_cons_succ] at h
    rw [List.set_cons_succ, List.flatMap_cons, List.flatMap_cons, flatMap_set hl zs i j x v h hj y hy, List.set_append_right _ _ (by rw [hl, Nat.add_mul]; omega), hl, show (i + 1) * k + j - k = i * k + j from by rw [Nat.add_mul]; omega]
/-- One cell of an element is written. -/
theorem ArrK.set (hl : ∀ x, (en x).length = k) (h : ArrK k en e w a n c xs g) {i j : Nat} {x y : α} {v : Value} (hx : xs[i]? = some x) (hi : i < n) (hj : j < k) (hy : en y = (en x).set j v) :
    ∃ b, g = b + 1 ∧ a = some ⟨b, 0, none⟩ ∧ okSt w ⟨b, i * k + j, none⟩ ∧ ArrK k en e (w.setCell ⟨b, i * k + j, none⟩ v) a n c (xs.set i y) g ∧ Only g w (w.setCell ⟨b, i * k + j, none⟩ v) := by
  have hlt : i * k + j < n * k := by
    have := Nat.mul_le_mul_right k hi
    rw [Nat.succ_mul] at this
    omega
  obtain ⟨b, h1, h2, h3, h4, h5⟩ := Row.set h hlt v
  refine ⟨b, h1, h2, h3, ?_, h5⟩
  unfold ArrK
  rw [flatMap_set hl xs i j x v hx hj y hy]
  exact h4
end

/-! ### pairs of whole numbers -/
abbrev enR (r : Int × Int) : List Value := [.int .i64 r.1, .int .i64 r.2]
def tR : Ty (Int × Int) := .cells 2 enR (fun _ => rfl) (fun x c hc => by simp only [List.mem_cons, List.not_mem_nil, or_false] at hc; rcases hc with h | h <;> subst h <;> rfl)
section
variable {w u : World} {a : Option Addr} {n c g e : Nat} {xs : List (Int × Int)} {F : Nat → Prop} {i : Int}
theorem Ls.slk2 (h : Ls tR F w a n c xs) : SlK 2 enR w a n xs := ⟨h.len, fun i x hi => by
  obtain ⟨p, cs, h1, _, h3, h4⟩ := h.get i x hi
  obtain rfl : cs = enR x := h3
  exact ⟨p, h1, h4⟩⟩
theorem SlK.rd2 (h : SlK 2 enR w a n xs) {K : Int → Int → Prop} (h0 : 0 ≤ i) (hi : i < n) (hk : ∀ x, xs[i.toNat]? = some x → K x.1 x.2) :
    optN a fun q => chk (0 ≤ i ∧ i < (n : Int)) (∃ y : Int, w.cell? ((q.add (i.toNat * 2)).add 0) = some (.int .i64 y) ∧ (∃ z : Int, w.cell? ((q.add (i.toNat * 2)).add 1) = some (.int .i64 z) ∧ K y z)) := by
  have hi' : i.toNat < n := by omega
  refine h.read hi' fun p hp => chk_mk ⟨h0, hi⟩ ⟨_, ?_, _, ?_, hk _ (List.getElem?_eq_getElem (h.len ▸ hi'))⟩
  · rw [add_add]; exact hp 0 _ rfl
  · rw [add_add]; exact hp 1 _ rfl
theorem SlK.rdSnd (h : SlK 2 enR w a n xs) {K : Int → Prop} (h0 : 0 ≤ i) (hi : i < n) (hk : ∀ x, xs[i.toNat]? = some x → K x.2) :
    optN a fun q => chk (0 ≤ i ∧ i < (n : Int)) (∃ z : Int, w.cell? ((q.add (i.toNat * 2)).add 1) = some (.int .i64 z) ∧ K z) := by
  have hi' : i.toNat < n := by omega
  refine h.read hi' fun p hp => chk_mk ⟨h0, hi⟩ ⟨_, ?_, hk _ (List.getElem?_eq_getElem (h.len ▸ hi'))⟩
  rw [add_add]; exact hp 1 _ rfl
theorem ArrK.slk2 (h : ArrK 2 enR e w a n c xs g) : SlK 2 enR w a n xs := h.slk (fun _ => rfl) (by omega)
theorem ArrK.len2 (h : ArrK 2 enR e w a n c xs g) : n = xs.length := ArrK.len (k := 2) (en := enR) (fun _ => rfl) (by omega) h
theorem ArrK.wrSnd (h : ArrK 2 enR e w a n c xs g) {K : World → Prop} (h0 : 0 ≤ i) (hi : i < n) {v : Int} {x : Int × Int} (hx : xs[i.toNat]? = some x) (hk : ∀ u, ArrK 2 enR e u a n c (xs.set i.toNat (x.1, v)) g → Only g w u → K u) :
    optN a fun q => chk (0 ≤ i ∧ i < (n : Int)) (okSt w (((q.add (i.toNat * 2)).add 1).add 0) ∧ nw (w.setCell (((q.add (i.toNat * 2)).add 1).add 0) (.int .i64 v)) K) := by
  obtain ⟨b, rfl, rfl, h3, h4, h5⟩ := ArrK.set (k := 2) (en := enR) (fun _ => rfl) h (i := i.toNat) (j := 1) (x := x) (y := (x.1, v)) (v := .int .i64 v) hx (by omega) (by omega) rfl
  refine chk_mk ⟨h0, hi⟩ ?_
  simp only [addr_add, Nat.zero_add, Nat.add_zero]
  exact ⟨h3, hk _ h4 h5⟩
/-- A pair in a block of its own, field by field. -/
theorem box2 {x y : Int} {K : World → Prop} (hk : ∀ u, Blk u w.heap.size #[.int .i64 x, .int .i64 y] e → Kept w u → K u) :
    nw (w.alloc (.cells #[.int .i64 0, .int .i64 0] e)) fun w1 => okSt w1 ((na w).add 0) ∧ (nw (w1.setCell ((na w).add 0) (.int .i64 x)) fun w2 => okSt w2 ((na w).add 1) ∧ (nw (w2.setCell ((na w).add 1) (.int .i64 y)) K)) := by
  have b0 := Blk.new w #[.int .i64 0, .int .i64 0] e
  have b1 := b0.set 0 (.int .i64 x)
  have b2 := b1.set 1 (.int .i64 y)
  simp only [na_add]
  refine nw_mk ⟨b0.ok (by simp), nw_mk ⟨b1.ok (by simp), hk _ b2 ?_⟩⟩
  have s1 : From w.heap.size w _ := Kept.mod (Kept.new w (.cells #[.int .i64 0, .int .i64 0] e))
  have s2 := From.then s1 (Only.set _ w.heap.size 0 (.int .i64 x)) fun k h1 h2 => by omega
  exact (From.then s2 (Only.set _ w.heap.size 1 (.int .i64 y)) fun k h1 h2 => by omega).kept
theorem Blk.rd {w : World} {b : World} {cs : Array Value} {i : Nat} {v : Value} (h : Blk w b.heap.size cs e) (hi : cs[i]? = some v) : w.cell? ((na b).add i) = some v := by
  rw [na_add, h.cell, hi]
end
end Go.E

namespace Go.E
open Go Go.RowKit Go.ChangeShapes
section
variable {α : Type} {en : α → Value} {w : World} {a : Option Addr} {n c g e : Nat} {xs : List α}
/-- A write at the end of a region in whatever order. -/
theorem Arr.wrD (h : Arr en e w a n c xs g) {i : Int} {K : World → Prop} {Fact : World → Prop} (h0 : 0 ≤ i) (hi : i < n) {v : Value} {x : α} (hv : v = en x) (hk : ∀ u u', Kept w u → Fact u → Arr en e u' a n c (xs.set i.toNat x) g → Only g u u' → K u') :
    optN a fun q => chk (0 ≤ i ∧ i < (n : Int)) (∀ u : World, Below w.heap.size w u → Fact u → okSt u ((q.add (i.toNat * 1)).add 0) ∧ nw (u.setCell ((q.add (i.toNat * 1)).add 0) v) K) := by
  obtain ⟨b, rfl, rfl, _⟩ := Row.set h (i := i.toNat) (by omega) v
  refine chk_mk ⟨h0, hi⟩ fun u hu hF => ?_
  have := Arr.wr (h.kept hu) (K := K) h0 hi hv (fun u' h1 h2 => hk u u' hu hF h1 h2)
  exact (chk_iff.1 this).2
/-- What is known of a new slice of one element. -/
def PF (v : Value) : Nat → Value → World → Prop := fun _ x u => ∃ q, x = .slice (some q) 1 1 ∧ u.cell? q = some v
theorem PF.keep {v : Value} (i : Nat) (x : Value) (u u' : World) (h : PF v i x u) (hk : Below u.heap.size u u') : PF v i x u' := by
  obtain ⟨q, h1, h2⟩ := h
  exact ⟨q, h1, bkeep hk h2⟩
/-- An append of one element at the end of a region in whatever order. -/
theorem Arr.pushD {P : Program} {t ty by_ j : Nat} (hT : SliceT P t e 1 by_) (h : Arr en e w a n c xs g) {v : Value} {x : α} (hv : v = en x) (h1 : (en x).oneCell' = true) (h63 : n + 1 ≤ maxLen) (hb : (n + 1) * by_ ≤ 140737488355328) {K : Value → World → Prop}
    (hk : ∀ a' c' g' u u', Kept w u → Arr en e u' a' (n + 1) c' (xs ++ [x]) g' → (g' = g ∨ w.heap.size < g') → g' ≠ 0 → Only g u u' → K (.slice a' (n + 1) c') u') :
    (∀ u : World, Below w.heap.size w u → PF v j (.slice (some (na u)) 1 1) (u.alloc (.cells #[v] e))) ∧
      (∀ q : Addr, (∃ u, Below w.heap.size w u ∧ PF v j (.slice (some q) 1 1) u) → ∀ u : World, Below w.heap.size w u → PF v j (.slice (some q) 1 1) u → rawN P (Builtin.append_ #[t, t] ty #[.slice a n c, .slice (some q) 1 1]) u K) := by
  subst hv
  refine ⟨fun u hu => ⟨_, rfl, by rw [cell_new0]; rfl⟩, fun q _ u hu hF => ?_⟩
  obtain ⟨q', hq, hc⟩ := hF
  simp only [Value.slice.injEq, Option.some.injEq] at hq
  obtain ⟨rfl, _⟩ := hq
  refine rawN_row hT (by omega) (Row.kept h hu) (news := [en x]) (by simp) (fun j u hj => ?_) (fun h => by cases h) (by simpa using h1) h63 hb fun a' c' g' u' hr hg ho => ?_
  · cases j with
    | zero => cases hj; exact ⟨_, rfl, by simpa [add_zero] using hc⟩
    | succ j => cases hj
  · refine hk a' c' g' u u' hu (by unfold Arr; simpa using hr) (by have := hu.size; omega) ?_ ho
    rcases hr.2 with ⟨_, _, h0, _⟩ | ⟨b, _, rfl, _⟩ <;> omega
end
end Go.E
