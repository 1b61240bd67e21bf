/- An evaluator of single operations as propositions, sound for whatever program; no conditions. -/
import Derived.Calls
import Derived.Deep.Quiet
import Derived.StillTail
import Derived.Laws.Tables
import Derived.Laws.MakeOwn
set_option linter.unusedVariables false
set_option linter.unusedSimpArgs false
namespace Go.E
open Go

/-- A world with another count of draws. -/
def dr (w : World) (d : Nat) : World := { w with drawn := d }
theorem dr_dr (w : World) (d e : Nat) : dr (dr w d) e = dr w e := rfl
theorem dr_self (w : World) : dr w w.drawn = w := rfl

/-- A world in which every cell is as it was. -/
structure Kp (w : World) where
  out : World
  keep : ∀ a v, w.cell? a = some v → out.cell? a = some v
def Kp.dr (w : World) (d : Nat) : Kp w := ⟨E.dr w d, fun _ _ h => h⟩
theorem Kp.dr_out (w : World) (d : Nat) : (Kp.dr w d).out = E.dr w d := rfl

/-- A call returns, up to the count of draws. -/
def CallsD (P : Program) (f : FuncId) (args : Array Value) (w : World) (R : Value → World → Prop) : Prop :=
  ∀ d, Calls P f args (dr w d) fun e w' => ∃ v u d', e = .returned v ∧ w' = dr u d' ∧ R v u

theorem CallsD.mono {P : Program} {f : FuncId} {args : Array Value} {w : World} {R R' : Value → World → Prop} (h : CallsD P f args w R)
    (hr : ∀ v u, R v u → R' v u) : CallsD P f args w R' :=
  fun d => (h d).mono fun _ _ ⟨v, u, d', e1, e2, r⟩ => ⟨v, u, d', e1, e2, hr _ _ r⟩

/-- A check that must hold; one that must not (both lie low, so that the kernel leaves them alone till nothing else is left). -/
def chk (c : Prop) [h : Decidable c] (K : Prop) : Prop := @Decidable.rec c (fun _ => Prop) (fun _ => False) (fun _ => K) h
def nchk (c : Prop) [h : Decidable c] (K : Prop) : Prop := @Decidable.rec c (fun _ => Prop) (fun _ => K) (fun _ => False) h
theorem chk_iff {c K : Prop} [h : Decidable c] : chk c K ↔ c ∧ K := by cases h <;> simp_all [chk]
theorem nchk_iff {c K : Prop} [h : Decidable c] : nchk c K ↔ ¬ c ∧ K := by cases h <;> simp_all [nchk]

/-- A value under a name. -/
def nv {α : Type} (x : α) (K : α → Prop) : Prop := K x

def onBool (b : Bool) (t f : Prop) : Prop := match b with
  | true => t
  | false => f

theorem onBool_iff (b : Bool) (t f : Prop) : onBool b t f ↔ ((b = true → t) ∧ (b = false → f)) := by cases b <;> simp [onBool]

/-- Kinds of single cells. -/
inductive Lf where
  | bool | int (k : IntKind) | float (k : FloatKind) | string | slice | pointer | map | any

/-- For a value of this kind ... -/
def Lf.ex : Lf → (Value → Prop) → Prop
  | .bool, K => ∃ b, K (.bool b)
  | .int k, K => ∃ n, K (.int k n)
  | .float k, K => ∃ n, K (.float k n)
  | .string, K => ∃ s, K (.string s)
  | .slice, K => ∃ a n c, K (.slice a n c)
  | .pointer, K => ∃ a, K (.pointer a)
  | .map, K => ∃ r, K (.map r)
  | .any, K => ∃ v, K v

theorem Lf.ex_spec {l : Lf} {K : Value → Prop} (h : l.ex K) : ∃ v, K v := by
  cases l <;> simp only [Lf.ex] at h
  all_goals first
    | exact h
    | (obtain ⟨a, n, c, h⟩ := h; exact ⟨_, h⟩)
    | (obtain ⟨a, h⟩ := h; exact ⟨_, h⟩)

def lvs (P : Program) : Nat → TypeId → List Lf
  | 0, _ => []
  | n + 1, t => match P.underlying t with
    | some .bool => [.bool]
    | some (.int k) => [.int k]
    | some (.float k) => [.float k]
    | some .string => [.string]
    | some (.slice _) => [.slice]
    | some (.pointer _) => [.pointer]
    | some (.map _ _) => [.map]
    | some (.struct fs) => fs.toList.flatMap fun f => lvs P n f.type
    | some (.array len e) => (List.replicate len (lvs P n e)).flatten
    | _ => [.any]

/-- Cells read one behind the other. -/
def ldN (w : World) (a : Addr) : Nat → List Lf → (List Value → Prop) → Prop
  | _, [], K => K []
  | i, l :: ls, K => l.ex fun v => w.cell? (a.add i) = some v ∧ ldN w a (i + 1) ls fun vs => K (v :: vs)

theorem ldN_spec (w : World) (a : Addr) : ∀ (ls : List Lf) (i : Nat) (K : List Value → Prop), ldN w a i ls K →
    ∃ vs, vs.length = ls.length ∧ (∀ j v, vs[j]? = some v → w.cell? (a.add (i + j)) = some v) ∧ K vs
  | [], _, K, h => ⟨[], rfl, by simp, h⟩
  | l :: ls, i, K, h => by
    obtain ⟨v, hv, h2⟩ := Lf.ex_spec h
    obtain ⟨vs, hl, hc, hK⟩ := ldN_spec w a ls (i + 1) _ h2
    refine ⟨v :: vs, by simp [hl], fun j u hj => ?_, hK⟩
    cases j with
    | zero => simp at hj; subst hj; simpa using hv
    | succ j => simp at hj; have := hc j u hj; rwa [show i + (j + 1) = i + 1 + j by omega]

def isAggB (P : Program) (t : TypeId) : Bool := match P.underlying t with
  | some (.struct _) | some (.array _ _) => true
  | _ => false

/-- What a load gives. -/
def ldT (P : Program) (t : TypeId) (w : World) (a : Addr) (K : Value → Prop) : Prop :=
  match P.underlying t with
  | some (.struct _) | some (.array _ _) =>
    if ((P.info? t).map (·.size)) = some (lvs P 8 t).length then ldN w a 0 (lvs P 8 t) (fun vs => K (.agg vs.toArray)) else False
  | none => False
  | some _ => match lvs P 8 t with
    | [l] => l.ex fun v => w.cell? a = some v ∧ K v
    | _ => False

theorem run_loadCellsFrom (P : Program) (w : World) (a : Addr) : ∀ (vs : List Value) (i : Nat) (acc : Array Value), (∀ j v, vs[j]? = some v → w.cell? (a.add (i + j)) = some v) →
    (loadCellsFrom a i vs.length acc).run P w = .ok (acc ++ vs.toArray) w
  | [], i, acc, _ => by simp [loadCellsFrom, pure]
  | v :: vs, i, acc, h => by
    have h0 := h 0 v rfl
    have ih := run_loadCellsFrom P w a vs (i + 1) (acc.push v) (fun j u hj => by have := h (j + 1) u (by simpa using hj); rwa [show i + (j + 1) = i + 1 + j by omega] at this)
    rw [Nat.add_zero] at h0
    simp only [List.length_cons, loadCellsFrom, load, bind, Sem.bind, Sem.run, h0]
    rw [ih]
    simp

theorem dr_cell (w : World) (d : Nat) (a : Addr) : (dr w d).cell? a = w.cell? a := rfl
theorem dr_heap (w : World) (d : Nat) : (dr w d).heap = w.heap := rfl

theorem run_bind' {α β : Type} (P : Program) (s : Sem α) (f : α → Sem β) (w w1 : World) (a : α) (h : s.run P w = .ok a w1) : (s >>= f).run P w = (f a).run P w1 := by
  rw [Sem.run_bind, h]; rfl

theorem run_prog (P : Program) (w : World) : program.run P w = .ok P w := rfl
theorem run_typeInfo {P : Program} {t : TypeId} {i : TypeInfo} (h : P.info? t = some i) (w : World) : (typeInfo t).run P w = .ok i w := by
  unfold typeInfo
  rw [run_bind' P _ _ w w P (run_prog P w), h]
  rfl
theorem run_under {P : Program} {t : TypeId} {i : TypeDesc} (h : P.underlying t = some i) (w : World) : (underlying t).run P w = .ok i w := by
  unfold underlying
  rw [run_bind' P _ _ w w P (run_prog P w), h]
  rfl
theorem run_size {P : Program} {t : TypeId} {n : Nat} (h : (P.info? t).map (·.size) = some n) (w : World) : (sizeOf t).run P w = .ok n w := by
  unfold sizeOf
  cases hi : P.info? t with
  | none => rw [hi] at h; cases h
  | some i =>
    rw [hi] at h
    simp only [Option.map_some, Option.some.injEq] at h
    rw [run_bind' P _ _ w w i (run_typeInfo hi w), ← h]
    rfl

def aggB : TypeDesc → Bool
  | .struct _ => true
  | .array _ _ => true
  | _ => false
theorem run_isAgg {P : Program} {t : TypeId} {i : TypeDesc} (h : P.underlying t = some i) (w : World) :
    (isAgg t).run P w = .ok (aggB i) w := by
  unfold isAgg
  rw [run_bind' P _ _ w w i (run_under h w)]
  cases i <;> rfl

theorem run_load1 {P : Program} {a : Addr} {w : World} {v : Value} (h : w.cell? a = some v) : (load a).run P w = .ok v w := by
  simp [load, Sem.run, h]

theorem ldT_run {P : Program} {t : TypeId} {w : World} {a : Addr} {K : Value → Prop} (h : ldT P t w a K) :
    ∃ v, (∀ d : Kp w, (loadVar t a).run P d.out = .ok v d.out) ∧ K v := by
  unfold ldT at h
  have agg : ∀ (x : TypeDesc), P.underlying t = some x → aggB x = true →
      (if ((P.info? t).map (·.size)) = some (lvs P 8 t).length then ldN w a 0 (lvs P 8 t) (fun vs => K (.agg vs.toArray)) else False) → ∃ v, (∀ d : Kp w, (loadVar t a).run P d.out = .ok v d.out) ∧ K v := by
    intro x hx hb hh
    split at hh
    case isFalse => exact hh.elim
    rename_i hs
    obtain ⟨vs, hl, hc, hK⟩ := ldN_spec w a _ _ _ hh
    refine ⟨.agg vs.toArray, fun d => ?_, hK⟩
    unfold loadVar
    rw [run_bind' P _ _ _ _ _ (run_isAgg hx d.out), hb]
    simp only [if_true]
    rw [← hl] at hs
    rw [run_bind' P _ _ _ _ _ (run_size hs d.out), run_bind' P _ _ _ d.out (vs.toArray)]
    · rfl
    · have := run_loadCellsFrom P d.out a vs 0 #[] (fun j v hj => d.keep _ _ (hc j v hj))
      simpa [loadCells] using this
  have one : ∀ (x : TypeDesc), P.underlying t = some x → aggB x = false →
      (match lvs P 8 t with | [l] => l.ex fun v => w.cell? a = some v ∧ K v | _ => False) → ∃ v, (∀ d : Kp w, (loadVar t a).run P d.out = .ok v d.out) ∧ K v := by
    intro x hx hb hh
    split at hh
    case h_2 => exact hh.elim
    obtain ⟨v, hv, hK⟩ := Lf.ex_spec hh
    refine ⟨v, fun d => ?_, hK⟩
    unfold loadVar
    rw [run_bind' P _ _ _ _ _ (run_isAgg hx d.out), hb]
    exact run_load1 (d.keep _ _ hv)
  split at h
  · rename_i fs hx; exact agg _ hx rfl h
  · rename_i n e hx; exact agg _ hx rfl h
  · exact h.elim
  · rename_i x hn1 hn2 hx
    refine one x hx ?_ h
    cases x <;> first | rfl | exact (hn1 _ rfl).elim | exact (hn2 _ _ rfl).elim

/-- What an operation that leaves memory alone yields. -/
def RunV (P : Program) (s : Sem Next) (w : World) (v : Value) : Prop := ∀ d : Kp w, s.run P d.out = .ok (.value v) d.out
def RunS (P : Program) (s : Sem Value) (w : World) (v : Value) : Prop := ∀ d : Kp w, s.run P d.out = .ok v d.out

theorem RunV.of {P : Program} {s : Sem Value} {w : World} {v : Value} (h : RunS P s w v) : RunV P (do pure (.value (← s))) w v := fun d => by
  rw [run_bind' P _ _ _ _ _ (h d)]; rfl
theorem RunS.pure (P : Program) (w : World) (v : Value) : RunS P (Pure.pure v) w v := fun _ => rfl

/-- & | ^ &^ on a kind's numbers. -/
def bitsI (op : BinOp) (k : IntKind) (x y : Int) : Int :=
  let a := BitVec.ofInt k.bits x
  let b := BitVec.ofInt k.bits y
  match op with
  | .and => k.wrap (a &&& b).toNat
  | .or => k.wrap (a ||| b).toNat
  | .xor => k.wrap (a ^^^ b).toNat
  | .andNot => k.wrap (a &&& ~~~b).toNat
  | _ => 0

def unN (op : UnOp) (x : Value) (K : Value → Prop) : Prop :=
  match op, x with
  | .neg, .int k n => K (.int k (k.wrap (0 - n)))
  | .xor, .int k n => K (.int k (k.wrap (BitVec.ofInt k.bits (if k.signed then -1 else k.max) ^^^ BitVec.ofInt k.bits n).toNat))
  | .not, .bool b => K (.bool !b)
  | _, _ => False

theorem unN_run {P : Program} {op : UnOp} {x : Value} {K : Value → Prop} (w : World) (h : unN op x K) : ∃ v, RunS P (Op.unary op x) w v ∧ K v := by
  unfold unN at h
  split at h
  · exact ⟨_, fun _ => rfl, h⟩
  · exact ⟨_, fun _ => rfl, h⟩
  · exact ⟨_, fun _ => rfl, h⟩
  · exact h.elim

def intN (op : BinOp) (k : IntKind) (a b : Int) (K : Value → Prop) : Prop :=
  match op with
  | .add => K (.int k (k.wrap (a + b)))
  | .sub => K (.int k (k.wrap (a - b)))
  | .mul => K (.int k (k.wrap (a * b)))
  | .quo => nchk (b = 0) (K (.int k (k.wrap (a.tdiv b))))
  | .rem => nchk (b = 0) (K (.int k (a.tmod b)))
  | .and | .or | .xor | .andNot => K (.int k (bitsI op k a b))
  | .shl | .shr => False
  | .eql => K (.bool (a == b))
  | .neq => K (.bool (a != b))
  | .lss => K (.bool (decide (a < b)))
  | .leq => K (.bool (decide (a ≤ b)))
  | .gtr => K (.bool (decide (a > b)))
  | .geq => K (.bool (decide (a ≥ b)))

theorem intN_run {P : Program} {op : BinOp} {k : IntKind} {a b : Int} {K : Value → Prop} {t : TypeId} (w : World) (h : intN op k a b K) : ∃ v, RunS P (binOp op t (.int k a) (.int k b)) w v ∧ K v := by
  unfold intN at h
  cases op <;> simp only at h
  case quo =>
    obtain ⟨hb, h⟩ := nchk_iff.1 h
    exact ⟨_, fun d => by simp [binOp, Op.intDiv, hb], h⟩
  case rem =>
    obtain ⟨hb, h⟩ := nchk_iff.1 h
    exact ⟨_, fun d => by simp [binOp, Op.intDiv, hb], h⟩
  all_goals first
    | exact h.elim
    | exact ⟨_, fun d => by simp [binOp, Op.intArith, Op.intBits, Op.intCmp, bitsI], h⟩

def shN (op : BinOp) (k : IntKind) (a b : Int) (K : Value → Prop) : Prop :=
  nchk (b < 0) (match op with
  | .shl => K (.int k (k.wrap (a * 2 ^ (min b.toNat k.bits))))
  | .shr => K (.int k (a.fdiv (2 ^ (min b.toNat k.bits))))
  | _ => False)

theorem shN_run {P : Program} {op : BinOp} {k k2 : IntKind} {a b : Int} {K : Value → Prop} {t : TypeId} (w : World) (h : shN op k a b K) : ∃ v, RunS P (binOp op t (.int k a) (.int k2 b)) w v ∧ K v := by
  unfold shN at h
  obtain ⟨hb, h⟩ := nchk_iff.1 h
  cases op <;> simp only at h
  all_goals first
    | exact h.elim
    | exact ⟨_, fun d => by simp [binOp, Op.shift, hb], h⟩

def fltN (op : BinOp) (k : FloatKind) (a b : Nat) (K : Value → Prop) : Prop :=
  match op with
  | .eql => K (.bool (k.format.order a b == some .eq))
  | .neq => K (.bool (k.format.order a b != some .eq))
  | .lss => K (.bool (k.format.order a b == some .lt))
  | .leq => K (.bool (k.format.order a b == some .lt || k.format.order a b == some .eq))
  | .gtr => K (.bool (k.format.order a b == some .gt))
  | .geq => K (.bool (k.format.order a b == some .gt || k.format.order a b == some .eq))
  | _ => False

theorem fltN_run {P : Program} {op : BinOp} {k : FloatKind} {a b : Nat} {K : Value → Prop} {t : TypeId} (w : World) (h : fltN op k a b K) : ∃ v, RunS P (binOp op t (.float k a) (.float k b)) w v ∧ K v := by
  unfold fltN at h
  cases op <;> simp only at h
  all_goals first
    | exact h.elim
    | exact ⟨_, fun d => by simp [binOp, Op.floatCmp], h⟩

def strN (op : BinOp) (a b : ByteArray) (K : Value → Prop) : Prop :=
  match op with
  | .eql => K (.bool (a.toList == b.toList))
  | .neq => K (.bool !(a.toList == b.toList))
  | _ => False

theorem strN_run {P : Program} {op : BinOp} {a b : ByteArray} {K : Value → Prop} {t : TypeId} (w : World) (h : strN op a b K) : ∃ v, RunS P (binOp op t (.string a) (.string b)) w v ∧ K v := by
  unfold strN at h
  cases op <;> simp only at h
  all_goals first
    | exact h.elim
    | exact ⟨_, fun d => by simp [binOp, Op.stringOp], h⟩

/-- Equality of what is neither a number nor a string. -/
def eqN (P : Program) (t : TypeId) (x y : Value) (K : Bool → Prop) : Prop :=
  match P.underlying t, x, y with
  | some .bool, .bool a, .bool b => K (a == b)
  | some (.slice _), .slice a _ _, .slice none _ _ => K a.isNone
  | some (.pointer _), .pointer a, .pointer none => K a.isNone
  | some (.map _ _), .map a, .map none => K a.isNone
  | some (.struct _), .agg xs, .agg ys => if P.eqGuardType P.depth t = true then False else ∃ b, (∀ w, (Op.equal t (.agg xs) (.agg ys)).run P w = .ok b w) ∧ K b
  | some (.array _ _), .agg xs, .agg ys => if P.eqGuardType P.depth t = true then False else ∃ b, (∀ w, (Op.equal t (.agg xs) (.agg ys)).run P w = .ok b w) ∧ K b
  | _, _, _ => False

theorem eqIn_bool {P : Program} {t : TypeId} (n : Nat) (h : P.underlying t = some .bool) (a b : Bool) (w : World) : (Op.equalIn (n + 1) t (.bool a) (.bool b)).run P w = .ok (a == b) w := by
  unfold Op.equalIn
  rw [run_bind' P _ _ _ _ _ (run_under h w)]; rfl
theorem eqIn_slice {P : Program} {t e : TypeId} (n : Nat) (h : P.underlying t = some (.slice e)) (a : Option Addr) (l c l' c' : Nat) (w : World) : (Op.equalIn (n + 1) t (.slice a l c) (.slice none l' c')).run P w = .ok a.isNone w := by
  unfold Op.equalIn
  rw [run_bind' P _ _ _ _ _ (run_under h w)]; cases a <;> rfl
theorem eqIn_pointer {P : Program} {t e : TypeId} (n : Nat) (h : P.underlying t = some (.pointer e)) (a : Option Addr) (w : World) : (Op.equalIn (n + 1) t (.pointer a) (.pointer none)).run P w = .ok a.isNone w := by
  unfold Op.equalIn
  rw [run_bind' P _ _ _ _ _ (run_under h w)]; cases a <;> rfl
theorem eqIn_map {P : Program} {t e f : TypeId} (n : Nat) (h : P.underlying t = some (.map e f)) (a : Option Nat) (w : World) : (Op.equalIn (n + 1) t (.map a) (.map none)).run P w = .ok a.isNone w := by
  unfold Op.equalIn
  rw [run_bind' P _ _ _ _ _ (run_under h w)]; cases a <;> rfl

theorem eqN_of {P : Program} {op : BinOp} {t : TypeId} {x y : Value} {xo yo : Operand} {w : World} {b : Bool} (hop : op = .eql ∨ op = .neq)
    (hb1 : binOp .eql t x y = (do pure (.bool (← Op.equal t x y)))) (hb2 : binOp .neq t x y = (do pure (.bool (!(← Op.equal t x y)))))
    (hg : ∀ (o : BinOp) (d : Kp w), (o = .eql ∨ o = .neq) → (eqGuard o t xo yo x y).run P d.out = .ok () d.out) (he : ∀ d : Kp w, (Op.equal t x y).run P d.out = .ok b d.out) :
    RunS P (do eqGuard op t xo yo x y; binOp op t x y) w (.bool (if op = .eql then b else !b)) := fun d => by
  rw [run_bind' P _ _ _ _ _ (hg op d hop)]
  rcases hop with rfl | rfl
  · rw [hb1, run_bind' P _ _ _ _ _ (he d)]; rfl
  · rw [hb2, run_bind' P _ _ _ _ _ (he d)]; rfl

theorem guard_agg {P : Program} {t : TypeId} {xs ys : Array Value} {xo yo : Operand} {o : BinOp} (hg : P.eqGuardType P.depth t = false) (w : World) (ho : o = .eql ∨ o = .neq) :
    (eqGuard o t xo yo (.agg xs) (.agg ys)).run P w = .ok () w := by
  rcases ho with rfl | rfl <;> simp [eqGuard, program, Sem.run, hg]

theorem eqN_run {P : Program} {op : BinOp} {t : TypeId} {x y : Value} {xo yo : Operand} {K : Bool → Prop} (w : World) (h : eqN P t x y K) (hop : op = .eql ∨ op = .neq) :
    ∃ b, RunS P (do eqGuard op t xo yo x y; binOp op t x y) w (.bool (if op = .eql then b else !b)) ∧ K b := by
  unfold eqN at h
  split at h
  · rename_i hu
    exact ⟨_, eqN_of hop rfl rfl (fun o d ho => by rcases ho with rfl | rfl <;> rfl) (fun d => eqIn_bool 9999 hu _ _ _), h⟩
  · rename_i hu
    exact ⟨_, eqN_of hop rfl rfl (fun o d ho => by rcases ho with rfl | rfl <;> rfl) (fun d => eqIn_slice 9999 hu _ _ _ _ _ _), h⟩
  · rename_i hu
    exact ⟨_, eqN_of hop rfl rfl (fun o d ho => by rcases ho with rfl | rfl <;> rfl) (fun d => eqIn_pointer 9999 hu _ _), h⟩
  · rename_i hu
    exact ⟨_, eqN_of hop rfl rfl (fun o d ho => by rcases ho with rfl | rfl <;> rfl) (fun d => eqIn_map 9999 hu _ _), h⟩
  · split at h
    · exact h.elim
    · rename_i hg
      obtain ⟨b, hb, hK⟩ := h
      exact ⟨b, eqN_of hop rfl rfl (fun o d ho => guard_agg (by simpa using hg) _ ho) (fun d => hb _), hK⟩
  · split at h
    · exact h.elim
    · rename_i hg
      obtain ⟨b, hb, hK⟩ := h
      exact ⟨b, eqN_of hop rfl rfl (fun o d ho => guard_agg (by simpa using hg) _ ho) (fun d => hb _), hK⟩
  · exact h.elim

/-- A binary operation. -/
def binN (P : Program) (op : BinOp) (t : TypeId) (x y : Value) (K : Value → Prop) : Prop :=
  match op, x, y with
  | .shl, .int k a, .int _ b => shN .shl k a b K
  | .shr, .int k a, .int _ b => shN .shr k a b K
  | op, .int k a, .int k' b => if k = k' then intN op k a b K else False
  | op, .float k a, .float k' b => if k = k' then fltN op k a b K else False
  | op, .string a, .string b => strN op a b K
  | .eql, x, y => eqN P t x y fun b => K (.bool b)
  | .neq, x, y => eqN P t x y fun b => K (.bool !b)
  | _, _, _ => False

theorem binN_run {P : Program} {op : BinOp} {t : TypeId} {x y : Value} {xo yo : Operand} {K : Value → Prop} (w : World) (h : binN P op t x y K) :
    ∃ v, RunS P (do eqGuard op t xo yo x y; binOp op t x y) w v ∧ K v := by
  have g : ∀ {v : Value}, (∀ d : Kp w, (eqGuard op t xo yo x y).run P d.out = .ok () d.out) → RunS P (binOp op t x y) w v → RunS P (do eqGuard op t xo yo x y; binOp op t x y) w v := by
    intro v hg hr d
    rw [run_bind' P _ _ _ _ _ (hg d)]; exact hr d
  unfold binN at h
  split at h
  · obtain ⟨v, hr, hK⟩ := shN_run (P := P) (t := t) w h; exact ⟨v, g (fun d => rfl) hr, hK⟩
  · obtain ⟨v, hr, hK⟩ := shN_run (P := P) (t := t) w h; exact ⟨v, g (fun d => rfl) hr, hK⟩
  · split at h
    · rename_i hk; subst hk
      obtain ⟨v, hr, hK⟩ := intN_run (P := P) (t := t) w h; exact ⟨v, g (fun d => by cases op <;> rfl) hr, hK⟩
    · exact h.elim
  · split at h
    · rename_i hk; subst hk
      obtain ⟨v, hr, hK⟩ := fltN_run (P := P) (t := t) w h; exact ⟨v, g (fun d => by cases op <;> rfl) hr, hK⟩
    · exact h.elim
  · obtain ⟨v, hr, hK⟩ := strN_run (P := P) (t := t) w h; exact ⟨v, g (fun d => by cases op <;> rfl) hr, hK⟩
  · obtain ⟨b, hr, hK⟩ := eqN_run (op := .eql) (xo := xo) (yo := yo) w h (.inl rfl); exact ⟨_, hr, hK⟩
  · obtain ⟨b, hr, hK⟩ := eqN_run (op := .neq) (xo := xo) (yo := yo) w h (.inr rfl); exact ⟨_, hr, hK⟩
  · exact h.elim

/-! ### operations that leave memory alone -/
def optN {α : Type} (o : Option α) (K : α → Prop) : Prop := match o with
  | some a => K a
  | none => False
theorem optN_some {α : Type} (a : α) (K : α → Prop) : optN (some a) K = K a := rfl
theorem optN_spec {α : Type} {o : Option α} {K : α → Prop} (h : optN o K) : ∃ a, o = some a ∧ K a := by
  cases o with
  | none => exact h.elim
  | some a => exact ⟨a, rfl, h⟩

def ptrN (v : Value) (K : Addr → Prop) : Prop := match v with
  | .pointer o => optN o K
  | _ => False
theorem ptrN_spec {v : Value} {K : Addr → Prop} (h : ptrN v K) : ∃ a, v = .pointer (some a) ∧ K a := by
  unfold ptrN at h
  split at h
  · obtain ⟨a, rfl, h⟩ := optN_spec h; exact ⟨a, rfl, h⟩
  · exact h.elim

def pk (b p q : Bool) : Bool := match b with
  | true => p
  | false => q

def pickB (b : Bool) (x y : Value) (K : Value → Prop) : Prop := match x, y with
  | .bool p, .bool q => K (.bool (pk b p q))
  | x, y => onBool b (K x) (K y)

theorem pickB_spec {b : Bool} {x y : Value} {K : Value → Prop} (h : pickB b x y K) : K (if b then x else y) := by
  unfold pickB at h
  split at h
  · cases b <;> exact h
  · cases b <;> exact h

def pickN (c x y : Value) (K : Value → Prop) : Prop := match c with
  | .bool b => pickB b x y K
  | _ => False

theorem pickN_spec {c x y : Value} {K : Value → Prop} (h : pickN c x y K) : ∃ b, c = .bool b ∧ K (if b then x else y) := by
  unfold pickN at h
  split at h
  · exact ⟨_, rfl, pickB_spec h⟩
  · exact h.elim

def fieldOf (P : Program) (s : TypeId) (i : Nat) : Option Field := match P.underlying s with
  | some (.struct fs) => fs[i]?
  | _ => none
def szOf (P : Program) (t : TypeId) : Option Nat := (P.info? t).map (·.size)

def fieldAddrN (P : Program) (s : TypeId) (x : Value) (i : Nat) (K : Value → Prop) : Prop :=
  match fieldOf P s i with
  | none => False
  | some f => match szOf P f.type with
    | some (_ + 1) => ptrN x fun a => K (.pointer (some (a.add f.offset)))
    | _ => False

theorem fieldOf_run {P : Program} {s : TypeId} {i : Nat} {f : Field} (h : fieldOf P s i = some f) : ∃ fs, P.underlying s = some (.struct fs) ∧ fs[i]? = some f := by
  unfold fieldOf at h
  split at h
  · exact ⟨_, by assumption, h⟩
  · cases h

theorem fieldAddrN_run {P : Program} {s : TypeId} {x : Value} {i : Nat} {K : Value → Prop} (w : World) (h : fieldAddrN P s x i K) :
    ∃ v, RunS P (Instr.fieldAt s x i) w v ∧ K v := by
  unfold fieldAddrN at h
  split at h
  · exact h.elim
  rename_i f hf
  split at h
  · rename_i n hn
    obtain ⟨a, rfl, hK⟩ := ptrN_spec h
    obtain ⟨fs, hu, hi⟩ := fieldOf_run hf
    refine ⟨_, fun d => ?_, hK⟩
    unfold Instr.fieldAt
    rw [run_bind' P _ _ _ _ _ (run_under hu _)]
    simp only [hi]
    rw [run_bind' P _ _ _ _ a rfl, run_bind' P _ _ _ d.out (a.add f.offset)]
    · rfl
    · unfold fieldPlace
      rw [run_bind' P _ _ _ _ _ (run_size hn _), if_neg (Nat.succ_ne_zero n)]
      rfl
  · exact h.elim

/-- A part of an aggregate, written out. -/
def partN (P : Program) (t : TypeId) (cs : Array Value) (off : Nat) (K : Value → Prop) : Prop :=
  match P.underlying t with
  | none => False
  | some x => match aggB x with
    | true => match szOf P t with
      | some n => K (.agg (cs.extract off (off + n)))
      | none => False
    | false => optN cs[off]? K

theorem partN_run {P : Program} {t : TypeId} {cs : Array Value} {off : Nat} {K : Value → Prop} (w : World) (h : partN P t cs off K) :
    ∃ v, RunS P (part t cs off) w v ∧ K v := by
  unfold partN at h
  split at h
  · exact h.elim
  rename_i x hu
  split at h
  · rename_i hb
    split at h
    · rename_i n hn
      refine ⟨_, fun d => ?_, h⟩
      unfold part
      rw [run_bind' P _ _ _ _ _ (run_isAgg hu _), hb]
      simp only [if_true]
      rw [run_bind' P _ _ _ _ _ (run_size hn _)]
      rfl
    · exact h.elim
  · rename_i hb
    obtain ⟨v, hv, hK⟩ := optN_spec h
    refine ⟨v, fun d => ?_, hK⟩
    unfold part
    rw [run_bind' P _ _ _ _ _ (run_isAgg hu _), hb]
    simp only [Bool.false_eq_true, if_false, hv]
    rfl

def fieldN (P : Program) (s : TypeId) (x : Value) (i : Nat) (K : Value → Prop) : Prop :=
  match fieldOf P s i, x with
  | some f, .agg cs => partN P f.type cs f.offset K
  | _, _ => False

theorem fieldN_run {P : Program} {s : TypeId} {x : Value} {i : Nat} {K : Value → Prop} (w : World) (h : fieldN P s x i K) :
    ∃ v, RunS P (Instr.field s x i) w v ∧ K v := by
  unfold fieldN at h
  split at h
  · rename_i f cs hf
    obtain ⟨fs, hu, hi⟩ := fieldOf_run hf
    obtain ⟨v, hr, hK⟩ := partN_run w h
    refine ⟨v, fun d => ?_, hK⟩
    unfold Instr.field
    rw [run_bind' P _ _ _ _ _ (run_under hu _)]
    simp only [hi]
    rw [run_bind' P _ _ _ _ cs rfl]
    exact hr d
  · exact h.elim

def indexAddrN (P : Program) (t : TypeId) (x ix : Value) (K : Value → Prop) : Prop :=
  match ix with
  | .int _ i => match P.underlying t, x with
    | some (.array len e), x => match szOf P e with
      | some sz => ptrN x fun a => chk (0 ≤ i ∧ i < (len : Int)) (K (.pointer (some (a.add (i.toNat * sz)))))
      | none => False
    | some (.slice e), .slice base n _ => match szOf P e with
      | some sz => optN base fun a => chk (0 ≤ i ∧ i < (n : Int)) (K (.pointer (some (a.add (i.toNat * sz)))))
      | none => False
    | _, _ => False
  | _ => False

theorem indexAddrN_run {P : Program} {t : TypeId} {x ix : Value} {K : Value → Prop} (w : World) (h : indexAddrN P t x ix K) :
    ∃ v, RunS P (Instr.indexAt t x ix) w v ∧ K v := by
  unfold indexAddrN at h
  split at h
  case h_2 => exact h.elim
  rename_i k i
  split at h
  · rename_i len e hu
    split at h
    · rename_i sz hs
      obtain ⟨a, rfl, h⟩ := ptrN_spec h
      obtain ⟨hb, h⟩ := chk_iff.1 h
      · refine ⟨_, fun d => ?_, h⟩
        unfold Instr.indexAt
        rw [run_bind' P _ _ _ _ (k, i) rfl]
        simp only
        rw [run_bind' P _ _ _ _ _ (run_under hu _)]
        simp only
        rw [run_bind' P _ _ _ _ a rfl, run_bind' P _ _ _ _ (some a, len, e) rfl, run_bind' P _ _ _ _ _ (run_under hu _)]
        simp only
        rw [if_pos hb, run_bind' P _ _ _ _ _ (run_size hs _)]
        rfl
    · exact h.elim
  · rename_i e base n c hu
    split at h
    · rename_i sz hs
      obtain ⟨a, rfl, h⟩ := optN_spec h
      obtain ⟨hb, h⟩ := chk_iff.1 h
      · refine ⟨_, fun d => ?_, h⟩
        unfold Instr.indexAt
        rw [run_bind' P _ _ _ _ (k, i) rfl]
        simp only
        rw [run_bind' P _ _ _ _ _ (run_under hu _)]
        simp only
        rw [run_bind' P _ _ _ _ (some a, n, e) rfl, run_bind' P _ _ _ _ _ (run_under hu _)]
        simp only
        rw [if_pos hb, run_bind' P _ _ _ _ _ (run_size hs _)]
        rfl
    · exact h.elim
  · exact h.elim

/-- An element of an array that is a value, or a byte of a string. -/
def indexN (P : Program) (t : TypeId) (x ix : Value) (K : Value → Prop) : Prop :=
  match ix with
  | .int _ i => match P.underlying t, x with
    | some (.array len e), .agg cs => match szOf P e with
      | some sz => chk (0 ≤ i ∧ i < (len : Int)) (match P.underlying e with
        | none => False
        | some d => match aggB d with
          | true => False
          | false => match lvs P 8 e with
            | [l] => l.ex fun v => cs[i.toNat * sz]? = some v ∧ K v
            | _ => False)
      | none => False
    | some .string, .string s => chk (0 ≤ i) (∃ b : UInt8, s[i.toNat]? = some b ∧ K (.int .u8 b.toNat))
    | _, _ => False
  | _ => False

theorem indexN_run {P : Program} {t : TypeId} {x ix : Value} {K : Value → Prop} (w : World) (h : indexN P t x ix K) :
    ∃ v, RunS P (Instr.index t x ix) w v ∧ K v := by
  unfold indexN at h
  split at h
  case h_2 => exact h.elim
  rename_i k i
  split at h
  · rename_i len e cs hu
    split at h
    · rename_i sz hs
      obtain ⟨hb, h⟩ := chk_iff.1 h
      · split at h
        · exact h.elim
        rename_i x he
        split at h
        · exact h.elim
        rename_i hag
        split at h
        · obtain ⟨v, hc, hK⟩ := Lf.ex_spec h
          refine ⟨v, fun d => ?_, hK⟩
          unfold Instr.index
          rw [run_bind' P _ _ _ _ (k, i) rfl]
          simp only
          rw [run_bind' P _ _ _ _ _ (run_under hu _)]
          simp only
          rw [if_pos hb, run_bind' P _ _ _ _ _ (run_size hs _)]
          unfold part
          rw [run_bind' P _ _ _ _ _ (run_isAgg he _)]
          simp only [hag, Bool.false_eq_true, if_false, hc]
          rfl
        · exact h.elim
    · exact h.elim
  · rename_i s hu
    obtain ⟨hb, h⟩ := chk_iff.1 h
    · obtain ⟨b, hbs, hK⟩ := h
      refine ⟨_, fun d => ?_, hK⟩
      unfold Instr.index
      rw [run_bind' P _ _ _ _ (k, i) rfl]
      simp only
      rw [run_bind' P _ _ _ _ _ (run_under hu _)]
      simp only [if_pos hb, hbs]
      rfl
  · exact h.elim

def extractN (x : Value) (i : Nat) (K : Value → Prop) : Prop := match x with
  | .tuple vs => optN vs[i]? K
  | _ => False
theorem extractN_run {P : Program} {x : Value} {i : Nat} {K : Value → Prop} (w : World) (h : extractN x i K) :
    ∃ v, RunS P (Instr.extract x i) w v ∧ K v := by
  unfold extractN at h
  split at h
  · obtain ⟨v, hv, hK⟩ := optN_spec h
    exact ⟨v, fun d => by simp [Instr.extract, hv], hK⟩
  · exact h.elim

/-- Where a slice of a slice begins. -/
def slA (a : Option Addr) (m l sz : Nat) : Option Addr := if m = l then a else a.map (·.add (l * sz))

def bndN (v : Option Value) (y dflt : Nat) (K : Nat → Prop) : Prop := match v with
  | none => K dflt
  | some (.int _ i) => chk (0 ≤ i ∧ i ≤ (y : Int)) (K i.toNat)
  | some _ => False

theorem bnd_run {P : Program} {k : IntKind} {i : Int} {y : Nat} {c : BoundsCode} {w : World} (h : 0 ≤ i ∧ i ≤ (y : Int)) : (Instr.sliceBound (.int k i) y c).run P w = .ok i.toNat w := by
  unfold Instr.sliceBound
  rw [run_bind' P _ _ _ _ (k, i) rfl]
  simp only [if_pos h]
  rfl

/-- x[lo:hi], x[lo:hi:max] of a slice, x[lo:hi] of a string or of an array behind a pointer. -/
def sliceN (P : Program) (t : TypeId) (x : Value) (lo hi mx : Option Value) (K : Value → Prop) : Prop :=
  match P.underlying t, x with
  | some (.slice e), .slice a n c => match szOf P e with
    | some sz => match mx with
      | none => bndN hi c n fun h => bndN lo h 0 fun l => K (.slice (slA a c l sz) (h - l) (c - l))
      | some mv => match hi with
        | none => False
        | some hv => bndN (some mv) c c fun m => bndN (some hv) m n fun h => bndN lo h 0 fun l => K (.slice (slA a m l sz) (h - l) (m - l))
    | none => False
  | some .string, .string s => match mx with
    | none => bndN hi s.size s.size fun h => bndN lo h 0 fun l => K (.string (s.extract l h))
    | some _ => False
  | _, _ => False

theorem bndN_spec {v : Option Value} {y dflt : Nat} {K : Nat → Prop} (h : bndN v y dflt K) :
    (v = none ∧ K dflt) ∨ (∃ k i, v = some (.int k i) ∧ (0 ≤ i ∧ i ≤ (y : Int)) ∧ K i.toNat) := by
  unfold bndN at h
  split at h
  · exact .inl ⟨rfl, h⟩
  · rename_i k i
    obtain ⟨hb, h⟩ := chk_iff.1 h
    exact .inr ⟨k, i, rfl, hb, h⟩
  · exact h.elim

theorem sliceN_run {P : Program} {t : TypeId} {x : Value} {lo hi mx : Option Value} {K : Value → Prop} (w : World) (h : sliceN P t x lo hi mx K) :
    ∃ v, RunS P (Instr.sliceAt t x lo hi mx) w v ∧ K v := by
  unfold sliceN at h
  split at h
  · rename_i e a n c hu
    split at h
    case h_2 => exact h.elim
    rename_i sz hs
    have go : ∀ (m hh l : Nat) (w' : World), (Instr.sliceBounds true n c lo hi mx).run P w' = .ok (l, hh, m) w' →
        (Instr.sliceAt t (.slice a n c) lo hi mx).run P w' = .ok (.slice (slA a m l sz) (hh - l) (m - l)) w' := by
      intro m hh l w' hb
      unfold Instr.sliceAt
      rw [run_bind' P _ _ _ _ _ (run_under hu _)]
      simp only
      unfold Instr.slice
      rw [run_bind' P _ _ _ _ _ (run_under hu _)]
      simp only
      rw [run_bind' P _ _ _ _ _ hb]
      simp only
      rw [run_bind' P _ _ _ _ _ (run_size hs _)]
      rfl
    split at h
    · rcases bndN_spec h with ⟨hh, h3⟩ | ⟨k2, i2, hh, hb2, h3⟩ <;> subst hh <;>
        rcases bndN_spec h3 with ⟨hl, h4⟩ | ⟨k3, i3, hl, hb3, h4⟩ <;> subst hl
      · exact ⟨_, fun d => go _ _ _ _ rfl, h4⟩
      · exact ⟨_, fun d => go _ _ _ _ (by simp [Instr.sliceBounds, bnd_run hb3]), h4⟩
      · exact ⟨_, fun d => go _ _ _ _ (by simp [Instr.sliceBounds, bnd_run hb2]), h4⟩
      · exact ⟨_, fun d => go _ _ _ _ (by simp [Instr.sliceBounds, bnd_run hb2, bnd_run hb3]), h4⟩
    · split at h
      · exact h.elim
      rcases bndN_spec h with ⟨hm, h0⟩ | ⟨k, i, hm, hb, h0⟩
      · cases hm
      cases hm
      clear h
      rcases bndN_spec h0 with ⟨hh, h3⟩ | ⟨k2, i2, hh, hb2, h3⟩
      · cases hh
      cases hh
      rcases bndN_spec h3 with ⟨hl, h4⟩ | ⟨k3, i3, hl, hb3, h4⟩ <;> subst hl
      · exact ⟨_, fun d => go _ _ _ _ (by simp [Instr.sliceBounds, bnd_run hb, bnd_run hb2]), h4⟩
      · exact ⟨_, fun d => go _ _ _ _ (by simp [Instr.sliceBounds, bnd_run hb, bnd_run hb2, bnd_run hb3]), h4⟩
  · rename_i s hu
    split at h
    case h_2 => exact h.elim
    have go : ∀ (m hh l : Nat) (w' : World), (Instr.sliceBounds false s.size s.size lo hi none).run P w' = .ok (l, hh, m) w' →
          (Instr.sliceAt t (.string s) lo hi none).run P w' = .ok (.string (s.extract l hh)) w' := by
      intro m hh l w' hb
      unfold Instr.sliceAt
      rw [run_bind' P _ _ _ _ _ (run_under hu _)]
      simp only
      unfold Instr.slice
      rw [run_bind' P _ _ _ _ _ (run_under hu _)]
      simp only [Option.isSome_none, Bool.false_eq_true, if_false]
      rw [run_bind' P _ _ _ _ _ hb]
      rfl
    rcases bndN_spec h with ⟨hh, h3⟩ | ⟨k2, i2, hh, hb2, h3⟩ <;> subst hh <;>
      rcases bndN_spec h3 with ⟨hl, h4⟩ | ⟨k3, i3, hl, hb3, h4⟩ <;> subst hl
    · exact ⟨_, fun d => go s.size _ _ _ rfl, h4⟩
    · exact ⟨_, fun d => go s.size _ _ _ (by simp [Instr.sliceBounds, bnd_run hb3]), h4⟩
    · exact ⟨_, fun d => go s.size _ _ _ (by simp [Instr.sliceBounds, bnd_run hb2]), h4⟩
    · exact ⟨_, fun d => go s.size _ _ _ (by simp [Instr.sliceBounds, bnd_run hb2, bnd_run hb3]), h4⟩
  · exact h.elim
/-- A conversion between numbers. -/
def cvN (P : Program) (s t : TypeId) (x : Value) (K : Value → Prop) : Prop :=
  match P.underlying s, P.underlying t, x with
  | some (.int _), some (.int k), .int _ n => K (.int k (k.wrap n))
  | some (.int _), some (.float k), .int _ n => K (.float k (k.nearest n))
  | some .string, some .string, .string b => K (.string b)
  | _, _, _ => False

theorem cvN_run {P : Program} {s t : TypeId} {x : Value} {K : Value → Prop} (w : World) (h : cvN P s t x K) : ∃ v, RunS P (convert s t x) w v ∧ K v := by
  unfold cvN at h
  split at h
  · rename_i h1 h2
    refine ⟨_, fun d => ?_, h⟩
    unfold convert
    rw [run_bind' P _ _ _ _ _ (run_under h1 _), run_bind' P _ _ _ _ _ (run_under h2 _)]; rfl
  · rename_i h1 h2
    refine ⟨_, fun d => ?_, h⟩
    unfold convert
    rw [run_bind' P _ _ _ _ _ (run_under h1 _), run_bind' P _ _ _ _ _ (run_under h2 _)]; rfl
  · rename_i h1 h2
    refine ⟨_, fun d => ?_, h⟩
    unfold convert
    rw [run_bind' P _ _ _ _ _ (run_under h1 _), run_bind' P _ _ _ _ _ (run_under h2 _)]; rfl
  · exact h.elim

def lenV : Option TypeDesc → Value → Option Value
  | some .string, .string s => some (goInt s.size)
  | some (.slice _), .slice _ n _ => some (goInt n)
  | some (.array n _), _ => some (goInt n)
  | _, _ => none

/-- len, min, max. -/
def bltN (P : Program) (b : Builtin) (ts : Array TypeId) (xs : List Value) (K : Value → Prop) : Prop :=
  match b, xs with
  | .len, [x] => match ts[0]? with
    | none => False
    | some t => optN (lenV (P.underlying t) x) K
  | .min, [.int k x, .int _ y] => K (.int k (if y < x then y else x))
  | .max, [.int k x, .int _ y] => K (.int k (if x < y then y else x))
  | _, _ => False

theorem bltN_run {P : Program} {b : Builtin} {ts : Array TypeId} {ty : TypeId} {cs : Array Bool} {xs : List Value} {K : Value → Prop} (w : World) (h : bltN P b ts xs K) :
    ∃ v, RunV P (builtin b ts ty cs xs.toArray) w v ∧ K v := by
  unfold bltN at h
  split at h
  · rename_i x
    split at h
    · exact h.elim
    rename_i t ht
    obtain ⟨v, hv, hK⟩ := optN_spec h
    refine ⟨v, fun d => ?_, hK⟩
    unfold builtin
    simp only
    refine run_bind' P _ _ _ d.out v ?_
    unfold Builtin.len_
    simp only [ht, List.getElem?_toArray, List.getElem?_cons_zero]
    cases hu : P.underlying t with
    | none => rw [hu] at hv; cases hv
    | some u =>
      rw [run_bind' P _ _ _ _ _ (run_under hu _)]
      rw [hu] at hv
      cases u <;> cases x <;> simp only [lenV, Option.some.injEq] at hv <;> first | (subst hv; rfl) | cases hv
  · exact ⟨_, fun d => rfl, h⟩
  · exact ⟨_, fun d => rfl, h⟩
  · exact h.elim

def ckN (x : Value) (K : Value → Prop) : Prop := match x with
  | .pointer o => optN o fun a => K (.pointer (some a))
  | .func (.func f) fs cs => K (.func (.func f) fs cs)
  | .iface t v => K (.iface t v)
  | _ => False

def mkIN (P : Program) (t : TypeId) (x : Value) (K : Value → Prop) : Prop := match P.underlying t with
  | none => False
  | some (.interface _) => False
  | some _ => K (.iface t x)
theorem mkIN_run {P : Program} {t : TypeId} {x : Value} {K : Value → Prop} (w : World) (h : mkIN P t x K) : ∃ v, RunS P (Instr.makeInterface t x) w v ∧ K v := by
  unfold mkIN at h
  split at h
  · exact h.elim
  · exact h.elim
  · rename_i u hn hu
    refine ⟨_, fun d => ?_, h⟩
    unfold Instr.makeInterface
    rw [run_bind' P _ _ _ _ _ (run_under hu _)]
    cases u <;> first | rfl | exact (hn _ rfl).elim

def partsOf (ρ : Operand → Value) (parts : Array (Nat × Operand)) : List (Nat × Value) := (parts.map fun (i, x) => (i, ρ x)).toList

/-- Is this a function without a body? -/
def noBody (P : Program) (f : FuncId) : Bool := match P.funcs[f]? with
  | some fn => fn.body.isNone
  | none => true

def resLf (P : Program) (f : FuncId) : Lf := match P.funcs[f]? with
  | some fn => match fn.resultTypes[0]? with
    | some t => (lvs P 8 t).headD .any
    | none => .any
  | none => .any

/-- A call that is no call of a Go text: a builtin that only computes, a function without a body. -/
def valCallN (P : Program) (ρ : Operand → Value) (c : Call) (w : World) (K : Value → Prop) : Prop :=
  match c.callee with
  | .builtin b => bltN P b c.argTypes (c.args.toList.map ρ) K
  | .value (.func f) => if noBody P f = true then (resLf P f).ex fun v => RunV P (callFunc f (c.args.map ρ)) w v ∧ K v else False
  | _ => False

/-- What an operation that leaves memory alone yields. -/
def valN (P : Program) (ρ : Operand → Value) (o : Oper) (w : World) (K : Value → Prop) : Prop :=
  match o.op with
  | .move x => K (ρ x)
  | .assign x => K (ρ x)
  | .pick c x y => pickN (ρ c) (ρ x) (ρ y) K
  | .unOp op _ x => unN op (ρ x) K
  | .binOp op t x y _ => binN P op t (ρ x) (ρ y) K
  | .convert s t x => cvN P s t (ρ x) K
  | .load t p => ptrN (ρ p) fun a => ldT P t w a K
  | .fieldAddr s x i => fieldAddrN P s (ρ x) i K
  | .field s x i => fieldN P s (ρ x) i K
  | .indexAddr t x i => indexAddrN P t (ρ x) (ρ i) K
  | .index t x i => indexN P t (ρ x) (ρ i) K
  | .extract x i => extractN (ρ x) i K
  | .slice t x lo hi mx => sliceN P t (ρ x) (lo.map ρ) (hi.map ρ) (mx.map ρ) K
  | .makeFunc fn fs cs => K (.func fn (fs.map ρ) (cs.map ρ))
  | .makeInterface t x => mkIN P t (ρ x) K
  | .build t parts => optN (P.built t (partsOf ρ parts)) fun cs => K (.agg cs)
  | .nilCheck x => ckN (ρ x) K
  | .call c => valCallN P ρ c w K
  | _ => False

theorem valN_run {P : Program} {ρ : Operand → Value} {o : Oper} {w : World} {K : Value → Prop} (hρ : ∀ f, ρ (.func f) = .func (.func f) #[] #[]) (h : valN P ρ o w K) :
    ∃ v, RunV P (execOp ρ o) w v ∧ K v := by
  obtain ⟨dst, op, ty, pos, after, guard⟩ := o
  unfold valN at h
  cases op <;> simp only at h <;> first | exact h.elim | skip
  case move x => exact ⟨_, fun d => rfl, h⟩
  case assign x => exact ⟨_, fun d => rfl, h⟩
  case pick c x y =>
    obtain ⟨b, hc, hK⟩ := pickN_spec h
    refine ⟨_, fun d => ?_, hK⟩
    unfold execOp
    simp only [hc]
    rfl
  case unOp op t x => obtain ⟨v, hr, hK⟩ := unN_run (P := P) w h; exact ⟨v, RunV.of hr, hK⟩
  case binOp op t x y yt => obtain ⟨v, hr, hK⟩ := binN_run (P := P) (xo := x) (yo := y) w h; exact ⟨v, RunV.of hr, hK⟩
  case convert s t x => obtain ⟨v, hr, hK⟩ := cvN_run (P := P) w h; exact ⟨v, RunV.of hr, hK⟩
  case load t p =>
    obtain ⟨a, ha, h⟩ := ptrN_spec h
    obtain ⟨v, hr, hK⟩ := ldT_run h
    refine ⟨v, RunV.of (fun d => ?_), hK⟩
    unfold Instr.loadAt
    rw [ha, run_bind' P _ _ _ _ a rfl]
    exact hr d
  case fieldAddr s x i => obtain ⟨v, hr, hK⟩ := fieldAddrN_run (P := P) w h; exact ⟨v, RunV.of hr, hK⟩
  case field s x i => obtain ⟨v, hr, hK⟩ := fieldN_run (P := P) w h; exact ⟨v, RunV.of hr, hK⟩
  case indexAddr t x i => obtain ⟨v, hr, hK⟩ := indexAddrN_run (P := P) w h; exact ⟨v, RunV.of hr, hK⟩
  case index t x i => obtain ⟨v, hr, hK⟩ := indexN_run (P := P) w h; exact ⟨v, RunV.of hr, hK⟩
  case extract x i => obtain ⟨v, hr, hK⟩ := extractN_run (P := P) w h; exact ⟨v, RunV.of hr, hK⟩
  case slice t x lo hi mx => obtain ⟨v, hr, hK⟩ := sliceN_run (P := P) w h; exact ⟨v, RunV.of hr, hK⟩
  case makeFunc fn fs cs => exact ⟨_, RunV.of (fun d => rfl), h⟩
  case makeInterface t x => obtain ⟨v, hr, hK⟩ := mkIN_run (P := P) w h; exact ⟨v, RunV.of hr, hK⟩
  case build t parts =>
    obtain ⟨cs, hc, hK⟩ := optN_spec h
    exact ⟨_, RunV.of (fun d => run_build d.out t _ cs hc), hK⟩
  case nilCheck x =>
    unfold ckN at h
    unfold execOp RunV
    simp only
    split at h
    · rename_i o ho
      obtain ⟨a, rfl, hK⟩ := optN_spec h
      rw [ho]
      exact ⟨_, fun d => rfl, hK⟩
    · rename_i f fs cs ho
      rw [ho]
      exact ⟨_, fun d => rfl, h⟩
    · rename_i t v ho
      rw [ho]
      exact ⟨_, fun d => rfl, h⟩
    · exact h.elim
  case call c =>
    unfold valCallN at h
    obtain ⟨callee, args, ats⟩ := c
    simp only at h
    split at h
    · rename_i b
      obtain ⟨v, hr, hK⟩ := bltN_run (P := P) (ty := ty) (cs := args.map fun | .const _ => true | _ => false) w h
      refine ⟨v, fun d => ?_, hK⟩
      unfold execOp resolve
      simp only
      rw [run_bind' P _ _ _ _ _ rfl]
      have := hr d
      rw [show (args.toList.map ρ).toArray = args.map ρ from by rw [← Array.toList_map]] at this
      exact this
    · rename_i f
      split at h
      · obtain ⟨v, ⟨hr, hK⟩⟩ := Lf.ex_spec h
        refine ⟨v, fun d => ?_, hK⟩
        have := hr d
        unfold execOp resolve
        simp only [hρ, Deferred.ofValue]
        rw [run_bind' P _ _ _ _ _ rfl]
        simpa [invoke] using this
      · exact h.elim
    · exact h.elim

end Go.E
