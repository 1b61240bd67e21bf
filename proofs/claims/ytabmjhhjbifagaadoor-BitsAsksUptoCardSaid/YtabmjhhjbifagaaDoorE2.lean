/- Operations that turn memory, and calls, as propositions, sound for whatever program; no conditions. -/
import Derived.Test.YtabmjhhjbifagaaDoorE1
import Derived.Deep.Quiet
set_option linter.unusedVariables false
set_option linter.unusedSimpArgs false
namespace Go.E
open Go

/-! ### operations that turn memory, and calls -/

/-- What runs to its end, whatever the draws. -/
def rawN (P : Program) (s : Sem Value) (w : World) (K : Value → World → Prop) : Prop :=
  ∀ d, ∃ v u d', s.run P (dr w d) = .ok v (dr u d') ∧ K v u

theorem rawN.mono {P : Program} {s : Sem Value} {w : World} {K K' : Value → World → Prop} (h : rawN P s w K) (hk : ∀ v u, K v u → K' v u) : rawN P s w K' :=
  fun d => let ⟨v, u, d', hr, hK⟩ := h d; ⟨v, u, d', hr, hk _ _ hK⟩
theorem rawN.of {P : Program} {s : Sem Value} {w : World} {v : Value} {u : World} {K : Value → World → Prop} (h : ∀ d, s.run P (dr w d) = .ok v (dr u d)) (hk : K v u) : rawN P s w K :=
  fun d => ⟨v, u, d, h d, hk⟩

/-- The next step of an operation. -/
def OpD (P : Program) (s : Sem Next) (w : World) (K : Value → World → Prop) : Prop :=
  (∀ d, ∃ v u d', s.run P (dr w d) = .ok (.value v) (dr u d') ∧ K v u) ∨
  (∀ d, ∃ u d', s.run P (dr w d) = .ok .skip (dr u d') ∧ K undef u) ∨
  (∃ f args, (∀ d, s.run P (dr w d) = .ok (.enter f args) (dr w d)) ∧ CallsD P f args w K)

theorem OpD.of_raw {P : Program} {s : Sem Value} {w : World} {K : Value → World → Prop} (h : rawN P s w K) : OpD P (do pure (.value (← s))) w K :=
  .inl fun d => let ⟨v, u, d', hr, hK⟩ := h d; ⟨v, u, d', by rw [run_bind' P _ _ _ _ _ hr]; rfl, hK⟩

def exs : List Lf → (List Value → Prop) → Prop
  | [], K => K []
  | l :: ls, K => l.ex fun v => exs ls fun vs => K (v :: vs)

def shapes (P : Program) : List TypeId → (List Value → Prop) → Prop
  | [], K => K []
  | t :: ts, K => match P.underlying t with
    | none => False
    | some u => match aggB u with
      | true => exs (lvs P 8 t) fun vs => shapes P ts fun ws => K (.agg vs.toArray :: ws)
      | false => match lvs P 8 t with
        | [l] => l.ex fun v => shapes P ts fun ws => K (v :: ws)
        | _ => False

/-- Values of a type, by their shape. -/
def shapeN (P : Program) (t : TypeId) (K : Value → Prop) : Prop :=
  match P.underlying t with
  | none => False
  | some (.tuple ts) => shapes P ts.toList fun vs => K (.tuple vs.toArray)
  | some _ => shapes P [t] fun vs => match vs with
    | [v] => K v
    | _ => False

theorem exs_spec : ∀ (ls : List Lf) (K : List Value → Prop), exs ls K → ∃ vs, K vs
  | [], _, h => ⟨_, h⟩
  | _ :: ls, _, h => let ⟨_, h2⟩ := Lf.ex_spec h; let ⟨_, h3⟩ := exs_spec ls _ h2; ⟨_, h3⟩
theorem shapes_spec (P : Program) : ∀ (ts : List TypeId) (K : List Value → Prop), shapes P ts K → ∃ vs, K vs
  | [], _, h => ⟨_, h⟩
  | t :: ts, K, h => by
    unfold shapes at h
    split at h
    · exact h.elim
    split at h
    · obtain ⟨vs, h2⟩ := exs_spec _ _ h
      obtain ⟨ws, h3⟩ := shapes_spec P ts _ h2
      exact ⟨_, h3⟩
    · split at h
      · obtain ⟨v, h2⟩ := Lf.ex_spec h
        obtain ⟨ws, h3⟩ := shapes_spec P ts _ h2
        exact ⟨_, h3⟩
      · exact h.elim
theorem shapeN_spec {P : Program} {t : TypeId} {K : Value → Prop} (h : shapeN P t K) : ∃ v, K v := by
  unfold shapeN at h
  split at h
  · exact h.elim
  · obtain ⟨vs, h2⟩ := shapes_spec P _ _ h; exact ⟨_, h2⟩
  · obtain ⟨vs, h2⟩ := shapes_spec P _ _ h
    split at h2
    · exact ⟨_, h2⟩
    · exact h2.elim

/-- A cell that may be written. -/
def okSt (w : World) (a : Addr) : Prop := (∃ u, w.cell? a = some u) ∧ w.frozen? a = false

def stN (a : Addr) : Nat → List Value → (World → Prop) → World → Prop
  | _, [], K, w => K w
  | i, u :: us, K, w => match u with
    | .agg _ => False
    | .tuple _ => False
    | u => okSt w (a.add i) ∧ stN a (i + 1) us K (w.setCell (a.add i) u)

theorem stN_run (P : Program) (a : Addr) : ∀ (us : List Value) (i : Nat) (K : World → Prop) (w : World), stN a i us K w →
    ∃ u, (∀ d, (storeCells a us i).run P (dr w d) = .ok () (dr u d)) ∧ K u
  | [], _, _, w, h => ⟨w, fun _ => rfl, h⟩
  | u :: us, i, K, w, h => by
    unfold stN at h
    split at h
    · exact h.elim
    · exact h.elim
    · rename_i hn1 hn2
      obtain ⟨⟨⟨x, hx⟩, hf⟩, h2⟩ := h
      obtain ⟨w2, hr, hK⟩ := stN_run P a us (i + 1) K _ h2
      refine ⟨w2, fun d => ?_, hK⟩
      have h1 : (store (a.add i) u).run P (dr w d) = .ok () (dr (w.setCell (a.add i) u) d) := by
        have hx' : (dr w d).cell? (a.add i) = some x := hx
        have hf' : (dr w d).frozen? (a.add i) = false := hf
        unfold store
        cases u <;> first | exact (hn1 _ rfl).elim | exact (hn2 _ rfl).elim | (simp only [Sem.run, hx', hf']; rfl)
      unfold storeCells
      rw [run_bind' P _ _ _ _ _ h1]
      exact hr d

def storeN (P : Program) (t : TypeId) (p v : Value) (K : World → Prop) (w : World) : Prop :=
  ptrN p fun a => if szOf P t = some v.cells.size then stN a 0 v.cells.toList K w else False

theorem storeN_run {P : Program} {t : TypeId} {p v : Value} {K : World → Prop} {w : World} (h : storeN P t p v K w) :
    ∃ u, (∀ d, (Instr.storeAt t p v).run P (dr w d) = .ok () (dr u d)) ∧ K u := by
  unfold storeN at h
  obtain ⟨a, rfl, h⟩ := ptrN_spec h
  split at h
  · rename_i hs
    obtain ⟨u, hr, hK⟩ := stN_run P a _ _ _ _ h
    refine ⟨u, fun d => ?_, hK⟩
    unfold Instr.storeAt
    rw [run_bind' P _ _ _ _ a rfl]
    unfold storeVar
    rw [run_bind' P _ _ _ _ _ (run_size hs _)]
    simp only [ne_eq, not_true_eq_false, if_false]
    exact hr d
  · exact h.elim

theorem run_zero {P : Program} {t : TypeId} {z : Value} (h : (P.info? t).bind (·.zero) = some z) (w : World) : (zeroValue t).run P w = .ok z w := by
  cases hi : P.info? t with
  | none => rw [hi] at h; cases h
  | some i =>
    rw [hi] at h
    unfold zeroValue
    rw [run_bind' P _ _ _ _ _ (run_typeInfo hi _)]
    simp only [Option.bind_some] at h
    rw [h]
    rfl

/-- A new slice's cells, out of its parts. -/
def litC (P : Program) (t : TypeId) (len : Nat) (parts : List (Nat × Value)) : Option (TypeId × Array Value) :=
  match P.underlying t with
  | some (.slice e) => match P.info? e with
    | some i => match i.zero with
      | some z => if len * i.size ≤ 16777216 then (Instr.fill (fun j => some (j * i.size, i.size)) (if len * i.size = 0 then #[] else madeCells z.cells (len * i.size)) parts).map fun cs => (e, cs) else none
      | none => none
    | none => none
  | _ => none

theorem litC_run {P : Program} {t : TypeId} {len : Nat} {parts : Array (Nat × Value)} {e : TypeId} {cs : Array Value} (h : litC P t len parts.toList = some (e, cs)) (w : World) (d : Nat) :
    (Instr.buildSlice t len parts).run P (dr w d) = .ok (.slice (some ⟨w.heap.size, 0, none⟩) len len) (dr (w.alloc (.cells cs e)) d) := by
  unfold litC at h
  split at h
  · rename_i e' hu
    split at h
    · rename_i i hi
      split at h
      · rename_i z hz
        split at h
        · rename_i hle
          have hs : szOf P e' = some i.size := by unfold szOf; rw [hi]; rfl
          cases hf : Instr.fill (fun j => some (j * i.size, i.size)) (if len * i.size = 0 then #[] else madeCells z.cells (len * i.size)) parts.toList with
          | none => rw [hf] at h; cases h
          | some c =>
            rw [hf] at h
            simp only [Option.map_some, Option.some.injEq, Prod.mk.injEq] at h
            obtain ⟨rfl, rfl⟩ := h
            unfold Instr.buildSlice
            rw [run_bind' P _ _ _ _ _ (run_under hu _)]
            simp only
            rw [run_bind' P _ _ _ _ _ (run_size hs _)]
            have hn : ¬ len * i.size > 2 ^ 24 := by omega
            simp only [hn, if_false]
            have hf' : ∀ z' : Array Value, (len * i.size = 0 → z' = #[]) → (¬ len * i.size = 0 → z' = z.cells) → Instr.fill (fun j => some (j * i.size, i.size)) ((Array.range (len * i.size)).map (z'[· % z'.size]!)) parts.toList = some c := by
              intro z' h0 h1
              by_cases hz0 : len * i.size = 0
              · rw [if_pos hz0] at hf
                rw [hz0]
                simpa [Array.range_zero'] using hf
              · rw [if_neg hz0] at hf
                rw [h1 hz0]
                exact hf
            by_cases hz0 : len * i.size = 0
            · rw [if_pos hz0, run_bind' P _ _ _ _ #[] rfl, hf' #[] (fun _ => rfl) (fun hh => absurd hz0 hh)]
              simp only
              rfl
            · rw [if_neg hz0, run_bind' P _ _ _ _ _ (run_zero (by rw [hi]; exact hz) _), run_bind' P _ _ _ _ z.cells rfl, hf' z.cells (fun hh => absurd hh hz0) (fun _ => rfl)]
              simp only
              rfl
        · cases h
      · cases h
    · cases h
  · cases h

def zeroC (P : Program) (t : TypeId) : Option (Array Value) := ((P.info? t).bind (·.zero)).map (·.cells)

def allocN (P : Program) (t : TypeId) (K : Value → World → Prop) (w : World) : Prop :=
  optN (zeroC P t) fun cs => K (.pointer (some ⟨w.heap.size, 0, none⟩)) (w.alloc (.cells cs t))

theorem allocN_run {P : Program} {t : TypeId} {K : Value → World → Prop} {w : World} (h : allocN P t K w) : rawN P (Instr.alloc t true (.tuple #[])) w K := by
  unfold allocN zeroC at h
  obtain ⟨cs, hc, hK⟩ := optN_spec h
  cases hz : (P.info? t).bind (·.zero) with
  | none => rw [hz] at hc; cases hc
  | some z =>
    rw [hz] at hc
    simp only [Option.map_some, Option.some.injEq] at hc
    subst hc
    refine rawN.of (fun d => ?_) hK
    unfold Instr.alloc
    rw [run_bind' P _ _ _ _ _ (run_zero hz _)]
    rfl

def makeN (P : Program) (t : TypeId) (l c : Value) (K : Value → World → Prop) (w : World) : Prop :=
  match P.underlying t, l, c with
  | some (.slice e), .int _ l, .int _ c => match P.info? e with
    | some i => match i.zero with
      | some z => chk (0 ≤ l ∧ l ≤ c ∧ (i.bytes : Int) * c ≤ 281474976710656 ∧ c ≤ 9223372036854775807)
          (K (.slice (some ⟨w.heap.size, 0, none⟩) l.toNat c.toNat) (w.alloc (.cells (madeCells z.cells (c.toNat * i.size)) e)))
      | none => False
    | none => False
  | _, _, _ => False

theorem makeN_run {P : Program} {t : TypeId} {l c : Value} {K : Value → World → Prop} {w : World} (h : makeN P t l c K w) : rawN P (Instr.makeSlice t l c) w K := by
  unfold makeN at h
  split at h
  · rename_i e kl l kc c hu
    split at h
    · rename_i i hi
      split at h
      · rename_i z hz
        obtain ⟨hb, h⟩ := chk_iff.1 h
        exact rawN.of (fun d => run_make (dr w d) t e i z hu hi hz kl kc l c hb.1 hb.2.1 hb.2.2.1 hb.2.2.2) h
      · exact h.elim
    · exact h.elim
  · exact h.elim

/-- A method's function and its receiver, of a type whose values are kept as they are. -/
def methodN (P : Program) (t : TypeId) (name : String) : Option FuncId :=
  match P.info? t with
  | none => none
  | some i => match i.methods.find? (·.name == name) with
    | some m => if m.path.isEmpty = true then (match m.func, P.underlying t with
      | some (_, _), some (.pointer _) => none
      | some (f, false), some _ => some f
      | _, _ => none) else none
    | none => none

def bodyOf (P : Program) (f : FuncId) : Bool := match P.funcs[f]? with
  | some fn => fn.body.isSome && !(fn.name == "runtime.NumGoroutine")
  | none => false

def callK (P : Program) (ty : TypeId) (K : Value → World → Prop) : Value → World → Prop := fun v u => shapeN P ty fun v' => v = v' ∧ K v' u

/-- A call. -/
def callN (P : Program) (ρ : Operand → Value) (ty : TypeId) (c : Call) (K : Value → World → Prop) (w : World) : Prop :=
  match c.callee with
  | .value fo => match ρ fo with
    | .func (.func f) first captured => if bodyOf P f = true then CallsD P f (first ++ c.args.map ρ ++ captured) w (callK P ty K) else False
    | _ => False
  | .invoke r name => match ρ r with
    | .iface t v => optN (methodN P t name) fun f => if bodyOf P f = true then CallsD P f (#[v] ++ c.args.map ρ) w (callK P ty K) else False
    | _ => False
  | .builtin .append => rawN P (Builtin.append_ c.argTypes ty (c.args.map ρ)) w (callK P ty K)
  | .builtin .copy => rawN P (Builtin.copy_ c.argTypes ty (c.args.map ρ)) w (callK P ty K)
  | _ => False

theorem callK_mono {P : Program} {ty : TypeId} {K : Value → World → Prop} {v : Value} {u : World} (h : callK P ty K v u) : K v u := by
  obtain ⟨v', rfl, hK⟩ := shapeN_spec h
  exact hK

theorem run_callFunc {P : Program} {f : FuncId} (h : bodyOf P f = true) (args : Array Value) (w : World) : (callFunc f args).run P w = .ok (.enter f args) w := by
  unfold bodyOf at h
  split at h
  · rename_i fn hf
    simp only [Bool.and_eq_true, Bool.not_eq_true'] at h
    have hn : (fn.name == "runtime.NumGoroutine") = false := h.2
    unfold callFunc
    rw [run_bind' P _ _ _ _ _ (run_prog P w), hf]
    simp only [hn, Bool.false_eq_true, if_false]
    cases hb : fn.body with
    | none => rw [hb] at h; cases h.1
    | some c => simp
  · cases h

theorem run_method {P : Program} {t : TypeId} {name : String} {f : FuncId} (h : methodN P t name = some f) (n : Nat) (v : Value) (w : World) : (method (n + 1) t v name).run P w = .ok (f, v) w := by
  unfold methodN at h
  split at h
  · cases h
  rename_i i hi
  split at h
  · rename_i m hm
    split at h
    · rename_i hp
      unfold method
      rw [run_bind' P _ _ _ _ _ (run_typeInfo hi _)]
      simp only [hm]
      have hpl : m.path.toList = [] := by simpa using hp
      rw [hpl, run_bind' P _ _ _ _ (t, Place.val v) rfl]
      simp only
      split at h
      · cases h
      · rename_i f0 u hn hf hu
        simp only [Option.some.injEq] at h
        subst h
        rw [hf]
        simp only
        unfold receiverAt
        rw [run_bind' P _ _ _ w v (by
          rw [run_bind' P _ _ _ _ _ (run_under hu _)]
          cases u <;> first | rfl | exact (hn _ _ rfl).elim | exact (hn _ rfl).elim | exact (hn _ _ hf rfl).elim)]
        rfl
      · cases h
    · cases h
  · cases h

/-- What an operation does that turns memory or calls. -/
def effN (P : Program) (ρ : Operand → Value) (o : Oper) (K : Value → World → Prop) (w : World) : Prop :=
  match o.op with
  | .store t p x => storeN P t (ρ p) (ρ x) (K undef) w
  | .alloc t => allocN P t K w
  | .box t x => K (.pointer (some ⟨w.heap.size, 0, none⟩)) (w.alloc (.cells (ρ x).cells t))
  | .makeSlice t l c => makeN P t (ρ l) (ρ c) K w
  | .buildSlice t len parts => optN (litC P t len (partsOf ρ parts)) fun ec => K (.slice (some ⟨w.heap.size, 0, none⟩) len len) (w.alloc (.cells ec.2 ec.1))
  | .call c => callN P ρ o.type c K w
  | .convert s t x => rawN P (convert s t (ρ x)) w (callK P o.type K)
  | .makeMap t none => K (.map (some w.heap.size)) (w.alloc (.map #[] 0))
  | .lookup t m k ok => rawN P (Instr.lookup t (ρ m) (ρ k) ok) w (callK P o.type K)
  | .mapEntry t m k => rawN P (Instr.mapEntry t (ρ m) (ρ k)) w (callK P o.type K)
  | .range t x => rawN P (Instr.range t (ρ x)) w (callK P o.type K)
  | .next it s => rawN P (Instr.next (ρ it) s o.type) w (callK P o.type K)
  | .mapUpdate t m k x => rawN P (do Instr.mapUpdate t (ρ m) (ρ k) (ρ x); pure undef) w fun _ u => K undef u
  | .entryStore t m s x => rawN P (do Instr.entryStore t (ρ m) (ρ s) (ρ x); pure undef) w fun _ u => K undef u
  | _ => False

theorem OpD.of_unit {P : Program} {s : Sem Unit} {w : World} {K : Value → World → Prop} (h : rawN P (do s; pure undef) w fun _ u => K undef u) : OpD P (do s; pure .skip) w K :=
  .inr (.inl fun d => by
    obtain ⟨v, u, d', hr, hK⟩ := h d
    rw [Sem.run_bind] at hr
    cases hs : s.run P (dr w d) with
    | halt hh w' => rw [hs] at hr; cases hr
    | ok x w' =>
      rw [hs] at hr
      simp only [Result.andThen_ok, Sem.run_pure, Result.ok.injEq] at hr
      exact ⟨u, d', by rw [run_bind' P _ _ _ _ _ hs, hr.2]; rfl, hK⟩)

theorem effN_run {P : Program} {ρ : Operand → Value} {o : Oper} {K : Value → World → Prop} {w : World} (hd : P.types.size + Made.depth ≠ 0) (h : effN P ρ o K w) : OpD P (execOp ρ o) w K := by
  obtain ⟨dst, op, ty, pos, after, guard⟩ := o
  unfold effN at h
  cases op <;> simp only at h <;> first | exact h.elim | skip
  case store t p x =>
    obtain ⟨u, hr, hK⟩ := storeN_run h
    exact .inr (.inl fun d => ⟨u, d, by unfold execOp; simp only; rw [run_bind' P _ _ _ _ _ (hr d)]; rfl, hK⟩)
  case alloc t => exact OpD.of_raw (allocN_run h)
  case box t x => exact OpD.of_raw (rawN.of (fun d => rfl) h)
  case makeSlice t l c => exact OpD.of_raw (makeN_run h)
  case buildSlice t len parts =>
    obtain ⟨⟨e, cs⟩, hc, hK⟩ := optN_spec h
    exact OpD.of_raw (rawN.of (fun d => litC_run hc w d) hK)
  case convert s t x => exact OpD.of_raw (h.mono fun v u hk => callK_mono hk)
  case lookup t m k ok => exact OpD.of_raw (h.mono fun v u hk => callK_mono hk)
  case mapEntry t m k => exact OpD.of_raw (h.mono fun v u hk => callK_mono hk)
  case range t x => exact OpD.of_raw (h.mono fun v u hk => callK_mono hk)
  case next it s => exact OpD.of_raw (h.mono fun v u hk => callK_mono hk)
  case mapUpdate t m k x => exact OpD.of_unit h
  case entryStore t m s x => exact OpD.of_unit h
  case makeMap t r =>
    cases r with
    | some r => exact h.elim
    | none => exact OpD.of_raw (rawN.of (fun d => rfl) h)
  case call c =>
    obtain ⟨callee, args, ats⟩ := c
    unfold callN at h
    cases callee with
    | value fo =>
      simp only at h
      split at h
      · rename_i f first captured hf
        split at h
        · rename_i hb
          refine .inr (.inr ⟨f, first ++ args.map ρ ++ captured, fun d => ?_, h.mono fun v u hk => callK_mono hk⟩)
          unfold execOp resolve
          simp only [hf, Deferred.ofValue]
          rw [run_bind' P _ _ _ _ _ rfl]
          exact run_callFunc hb _ _
        · exact h.elim
      · exact h.elim
    | invoke r name =>
      simp only at h
      split at h
      · rename_i t v hv
        obtain ⟨f, hf, h⟩ := optN_spec h
        split at h
        · rename_i hb
          refine .inr (.inr ⟨f, #[v] ++ args.map ρ, fun d => ?_, h.mono fun v u hk => callK_mono hk⟩)
          obtain ⟨n, hn⟩ : ∃ n, P.types.size + Made.depth = n + 1 := ⟨P.types.size + Made.depth - 1, by omega⟩
          unfold execOp resolve
          simp only [hv]
          rw [run_bind' P _ _ _ _ _ rfl]
          unfold invoke
          obtain ⟨xs, hxs⟩ : ∃ xs : List Value, args.map ρ = xs.toArray := ⟨(args.map ρ).toList, rfl⟩
          rw [hxs]
          have e0 : (#[Value.iface t v] ++ xs.toArray)[0]? = some (.iface t v) := by simp
          have e1 : (#[Value.iface t v] ++ xs.toArray).extract 1 (#[Value.iface t v] ++ xs.toArray).size = xs.toArray := by simp
          simp only [e0, e1]
          unfold callMethod
          simp only
          rw [run_bind' P _ _ _ _ _ (run_prog P _), hn, run_bind' P _ _ _ _ _ (run_method hf n v _)]
          exact run_callFunc hb _ _
        · exact h.elim
      · exact h.elim
    | builtin b =>
      cases b <;> simp only at h <;> first | exact h.elim | skip
      · have : execOp ρ ⟨dst, .call ⟨.builtin .append, args, ats⟩, ty, pos, after, guard⟩ = (do pure (.value (← Builtin.append_ ats ty (args.map ρ)))) := rfl
        rw [this]
        exact OpD.of_raw (h.mono fun v u hk => callK_mono hk)
      · have : execOp ρ ⟨dst, .call ⟨.builtin .copy, args, ats⟩, ty, pos, after, guard⟩ = (do pure (.value (← Builtin.copy_ ats ty (args.map ρ)))) := rfl
        rw [this]
        exact OpD.of_raw (h.mono fun v u hk => callK_mono hk)

end Go.E
