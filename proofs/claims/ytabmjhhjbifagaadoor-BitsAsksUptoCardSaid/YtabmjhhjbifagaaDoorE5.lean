/- Small laws for the propositions of E1 to E4; no conditions. -/
import Derived.Test.YtabmjhhjbifagaaDoorE4
import Derived.Laws.Bits64
import Derived.Laws.BitsAllLaws
import Derived.Laws.BitsLemmas
set_option linter.unusedVariables false
set_option linter.unusedSimpArgs false
namespace Go.E
open Go Go.RowKit

theorem onBool_t (t f : Prop) : onBool true t f = t := rfl
theorem onBool_f (t f : Prop) : onBool false t f = f := rfl
theorem onBool_mk {b : Bool} {t f : Prop} (ht : b = true → t) (hf : b = false → f) : onBool b t f := by
  cases b
  · exact hf rfl
  · exact ht rfl
theorem onDec {p : Prop} [Decidable p] {t f : Prop} (ht : p → t) (hf : ¬ p → f) : onBool (decide p) t f := by
  by_cases h : p
  · rw [decide_eq_true h]; exact ht h
  · rw [decide_eq_false h]; exact hf h
theorem onDec_t {p : Prop} [Decidable p] {t f : Prop} (h : p) (ht : t) : onBool (decide p) t f := by rw [decide_eq_true h]; exact ht
theorem onDec_f {p : Prop} [Decidable p] {t f : Prop} (h : ¬ p) (hf : f) : onBool (decide p) t f := by rw [decide_eq_false h]; exact hf
theorem onBool_same {α : Type} {b : Bool} {F : α → Prop} {x y : α} (h : F (if b then x else y)) : onBool b (F x) (F y) := by cases b <;> exact h
theorem ite_mk {c p : Prop} [Decidable c] (hc : c) (h : p) : if c then p else False := by rw [if_pos hc]; exact h
theorem ite_not {c p : Prop} [Decidable c] (hc : ¬ c) (h : p) : if c then False else p := by rw [if_neg hc]; exact h

theorem add_zero (a : Addr) : a.add 0 = a := rfl
theorem add_add (a : Addr) (i j : Nat) : (a.add i).add j = a.add (i + j) := by
  unfold Addr.add
  by_cases hi : i = 0 <;> by_cases hj : j = 0 <;> simp [hi, hj, Nat.add_assoc]
theorem add_block (a : Addr) (i : Nat) : (a.add i).block = a.block := by unfold Addr.add; split <;> rfl
theorem na_add (w : World) (i : Nat) : (na w).add i = ⟨w.heap.size, i, none⟩ := by unfold Addr.add na; split <;> simp_all
theorem cell_new (w : World) (cs : Array Value) (t : TypeId) (i : Nat) : (w.alloc (.cells cs t)).cell? ((na w).add i) = cs[i]? := by
  rw [na_add]; exact World.cell?_alloc_new w cs t i
theorem cell_new0 (w : World) (cs : Array Value) (t : TypeId) : (w.alloc (.cells cs t)).cell? (na w) = cs[0]? := cell_new w cs t 0
theorem below_new (w : World) (o : Obj) : Below w.heap.size w (w.alloc o) := (Below.refl _ _).alloc (Nat.le_refl _) o
/-- What a later world still reads. -/
theorem bkeep {w u : World} (h : Below w.heap.size w u) {a : Addr} {v : Value} (hc : w.cell? a = some v) : u.cell? a = some v := by
  rw [h.cell (block_lt_of_cell hc)]; exact hc
theorem bthen {w u x : World} (h : Below w.heap.size w u) (k : Below u.heap.size u x) : Below w.heap.size w x := h.trans (k.mono h.size)

theorem i64_id {x : Int} (h0 : -9223372036854775808 ≤ x) (h1 : x ≤ 9223372036854775807) : IntKind.i64.wrap x = x := by
  rw [IntKind.wrap_i64]; omega
theorem u64_id {x : Int} (h0 : 0 ≤ x) (h1 : x ≤ 18446744073709551615) : IntKind.u64.wrap x = x := by
  rw [IntKind.wrap_u64]; omega

/-- A call that hands back this value and leaves what was there. -/
def Pure (P : Program) (f : FuncId) (args : Array Value) (w : World) (v : Value) : Prop := E.CallsD P f args w fun v' u => v' = v ∧ Below w.heap.size w u

theorem Pure.quiet {P : Program} {f : FuncId} {args : Array Value} {v : Value} {w0 u : World} (h : Pure P f args u v) (hb : Below w0.heap.size w0 u) :
    E.CallsD P f args u fun v' u' => v' = v ∧ Below w0.heap.size w0 u' := E.CallsD.mono h fun _ _ ⟨h1, h2⟩ => ⟨h1, bthen hb h2⟩

theorem pure_calls {P : Program} {f : FuncId} {args : Array Value} {w : World} {v : Value} (h : Pure P f args w v) : Calls P f args w fun e w' => e = .returned v ∧ Below w.heap.size w w' := calls_quiet h

/-! ### bytes as bits -/
theorem ofInt_toNat {n : Nat} (v : BitVec n) : BitVec.ofInt n (v.toNat : Int) = v := by
  apply BitVec.eq_of_toNat_eq
  simp
theorem u8_wrap_toNat (v : BitVec 8) : IntKind.u8.wrap (v.toNat : Int) = v.toNat := by
  rw [IntKind.wrap_u8]; have := v.isLt; omega
theorem u64_wrap_toNat (v : BitVec 64) : IntKind.u64.wrap (v.toNat : Int) = v.toNat := by
  rw [IntKind.wrap_u64]; have := v.isLt; omega
theorem or8 (a b : BitVec 8) : bitsI .or .u8 a.toNat b.toNat = (a ||| b).toNat := by
  show IntKind.u8.wrap (((BitVec.ofInt 8 (a.toNat : Int)) ||| (BitVec.ofInt 8 (b.toNat : Int))).toNat : Int) = _
  rw [ofInt_toNat, ofInt_toNat]
  exact u8_wrap_toNat _
theorem and8 (a b : BitVec 8) : bitsI .and .u8 a.toNat b.toNat = (a &&& b).toNat := by
  show IntKind.u8.wrap (((BitVec.ofInt 8 (a.toNat : Int)) &&& (BitVec.ofInt 8 (b.toNat : Int))).toNat : Int) = _
  rw [ofInt_toNat, ofInt_toNat]
  exact u8_wrap_toNat _
theorem andNot8 (a b : BitVec 8) : bitsI .andNot .u8 a.toNat b.toNat = (a &&& ~~~b).toNat := by
  show IntKind.u8.wrap (((BitVec.ofInt 8 (a.toNat : Int)) &&& ~~~(BitVec.ofInt 8 (b.toNat : Int))).toNat : Int) = _
  rw [ofInt_toNat, ofInt_toNat]
  exact u8_wrap_toNat _
theorem shl8 {i : Nat} (hi : i < 8) : IntKind.u8.wrap (1 * 2 ^ (min ((i : Int)).toNat 8)) = ((BitVec.twoPow 8 i).toNat : Int) := by
  have : ∀ i : Fin 8, IntKind.u8.wrap (1 * 2 ^ (min ((i.val : Int)).toNat 8)) = ((BitVec.twoPow 8 i.val).toNat : Int) := by decide
  exact this ⟨i, hi⟩
end Go.E
