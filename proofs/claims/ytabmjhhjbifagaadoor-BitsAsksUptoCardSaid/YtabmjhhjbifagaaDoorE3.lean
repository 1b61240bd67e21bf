/- Code as propositions (its weakest precondition), sound for whatever program under mixed orders. -/
import Derived.Test.YtabmjhhjbifagaaDoorE2t
import Derived.Tactics
import Derived.StillTail
import Derived.Below
set_option linter.unusedVariables false
set_option linter.unusedSimpArgs false
namespace Go.E
open Go Go.RowKit

def numB (P : Program) (s t : TypeId) : Bool := match P.underlying s, P.underlying t with
  | some (.int _), some (.int _) => true
  | some (.int _), some (.float _) => true
  | some .string, some .string => true
  | _, _ => false

/-- Does the operation leave memory alone? -/
def isVal (P : Program) (o : Oper) : Bool := match o.op with
  | .store .. | .alloc _ | .box .. | .makeSlice .. | .buildSlice .. | .makeMap .. | .lookup .. | .mapEntry .. | .range .. | .next .. | .mapUpdate .. | .entryStore .. | .insert .. => false
  | .convert s t _ => numB P s t
  | .call c => match c.callee with
    | .builtin .len | .builtin .min | .builtin .max => true
    | .value (.func f) => noBody P f
    | _ => false
  | _ => true

def opN (P : Program) (ρ : Operand → Value) (o : Oper) (K : Value → World → Prop) (w : World) : Prop :=
  match isVal P o with
  | true => valN P ρ o w fun v => K v w
  | false => effN P ρ o K w

def gd (b : Bool) (F : Bool → Prop) : Prop := match b with
  | true => F true
  | false => F false
theorem gd_spec {b : Bool} {F : Bool → Prop} (h : gd b F) : F b := by cases b <;> exact h

/-- A guarded operation: what its guard says. -/
def guardN (ops : Array Oper) (a : Act) (j : Nat) (want : Bool) (yes no : Act → Prop) : Prop :=
  match (ops[j]?).bind (·.dst) with
  | none => False
  | some s => match a.tmps[s]? with
    | some (.bool b) => gd b fun b' => match b' == want with
      | true => yes { a with tmps := a.tmps.setIfInBounds s (.bool b') }
      | false => no { a with tmps := a.tmps.setIfInBounds s (.bool b') }
    | some (.tuple _) => no a
    | _ => False

theorem set_same {xs : Array Value} {s : Nat} {v : Value} (h : xs[s]? = some v) : xs.setIfInBounds s v = xs := by
  obtain ⟨h1, rfl⟩ := Array.getElem?_eq_some_iff.1 h
  simp [Array.setIfInBounds, h1]

theorem guardN_spec {ops : Array Oper} {a : Act} {j : Nat} {want : Bool} {yes no : Act → Prop} (h : guardN ops a j want yes no) :
    ∃ r : Bool, (∀ o : Oper, o.guard = some (j, want) → Region.wanted o (yielded ops a.tmps) = r) ∧ (if r = true then yes a else no a) := by
  unfold guardN at h
  split at h
  · exact h.elim
  rename_i s hs
  split at h
  · rename_i b hb
    have h := gd_spec h
    rw [set_same hb] at h
    have hy : yielded ops a.tmps j = some b := by
      unfold yielded
      rw [hs]
      simp [hb]
    refine ⟨b == want, fun o hg => by unfold Region.wanted; rw [hg]; simp [hy], ?_⟩
    cases hbw : (b == want) with
    | true => rw [hbw] at h; exact h
    | false => rw [hbw] at h; exact h
  · rename_i t hb
    have hy : yielded ops a.tmps j = none := by
      unfold yielded
      rw [hs]
      simp [hb]
    exact ⟨false, fun o hg => by unfold Region.wanted; rw [hg]; simp [hy], h⟩
  · exact h.elim

def opsN (P : Program) (ops : Array Oper) (Q : Act → World → Prop) : List Oper → Act → World → Prop
  | [], a, w => Q a w
  | o :: rest, a, w => match o.guard with
    | none => opN P a.eval o (fun v u => opsN P ops Q rest (a.put o.dst v) u) w
    | some (j, want) => guardN ops a j want (fun a => opN P a.eval o (fun v u => opsN P ops Q rest (a.put o.dst v) u) w) (fun a => opsN P ops Q rest (a.put o.dst undef) w)

theorem opN_wp {P : Program} {o : Oper} {a : Act} {K : Value → World → Prop} {K' : Act → World → Prop} {Q : Exit → Act → World → Prop} {w : World} (hd : P.types.size + Made.depth ≠ 0) (h : opN P a.eval o K w)
    (hk : ∀ v u d', K v u → K' (a.put o.dst v) (dr u d')) (d : Nat) : o.wp P a (dr w d) K' Q := by
  unfold opN at h
  unfold Oper.wp
  split at h
  · obtain ⟨v, hr, hK⟩ := valN_run (fun _ => rfl) h
    rw [show (execOp a.eval o).run P (dr w d) = _ from hr (Kp.dr w d)]
    exact hk _ _ _ hK
  · rcases effN_run hd h with h | h | ⟨f, args, hr, hc⟩
    · obtain ⟨v, u, d', hr, hK⟩ := h d
      rw [hr]
      exact hk _ _ _ hK
    · obtain ⟨u, d', hr, hK⟩ := h d
      rw [hr]
      exact hk _ _ _ hK
    · rw [hr d]
      refine (hc d).mono fun e w' ⟨v, u, d', he, hw, hK⟩ => ?_
      subst he hw
      exact hk _ _ _ hK

theorem opsN_list {P : Program} {ops : Array Oper} {Q : Act → World → Prop} {Q' : Exit → Act → World → Prop} (hd : P.types.size + Made.depth ≠ 0) (hq : ∀ a u d, Q a u → Q' .normal a (dr u d)) :
    ∀ (l : List Oper) (a : Act) (w : World), opsN P ops Q l a w → ∀ d, wpList P ops Q' l a (dr w d)
  | [], a, w, h, d => hq _ _ _ h
  | o :: rest, a, w, h, d => by
    unfold opsN at h
    unfold wpList
    split at h
    · rename_i hg
      have hw : Region.wanted o (yielded ops a.tmps) = true := by unfold Region.wanted; rw [hg]
      rw [if_pos hw]
      exact .inl (opN_wp hd h (fun v u d' hK => opsN_list hd hq rest _ _ hK d') d)
    · rename_i j want hg
      obtain ⟨r, hr, h⟩ := guardN_spec h
      have hw := hr o hg
      rw [hw]
      split at h
      · rename_i hb
        rw [if_pos (by simpa using hb)]
        exact .inl (opN_wp hd h (fun v u d' hK => opsN_list hd hq rest _ _ hK d') d)
      · rename_i hb
        rw [if_neg (by simpa using hb)]
        exact opsN_list hd hq rest _ _ h d

/-- All operations leave memory alone: one walk serves every order. -/
theorem opsN_quiet {P : Program} {ops : Array Oper} {Q : Act → World → Prop} (w : World) {Q2 : Act → Prop} (hq : ∀ a', Q a' w → Q2 a') : ∀ (l : List Oper) (a : Act), l.all (isVal P) = true → opsN P ops Q l a w →
    wpQuiet P ops (fun w' => ∃ d, w' = dr w d) Q2 l a
  | [], a, _, h => hq _ h
  | o :: rest, a, hv, h => by
    simp only [List.all_cons, Bool.and_eq_true] at hv
    have one : ∀ a : Act, opN P a.eval o (fun v u => opsN P ops Q rest (a.put o.dst v) u) w → o.quiet P a (fun w' => ∃ d, w' = dr w d) (wpQuiet P ops (fun w' => ∃ d, w' = dr w d) Q2 rest) := by
      intro a h
      unfold opN at h
      rw [hv.1] at h
      obtain ⟨v, hr, hK⟩ := valN_run (fun _ => rfl) h
      refine ⟨v, ?_, opsN_quiet w hq rest _ hv.2 hK⟩
      rintro w' ⟨d, rfl⟩
      unfold Oper.quietAt
      rw [show (execOp a.eval o).run P (dr w d) = _ from hr (Kp.dr w d)]
      exact ⟨rfl, rfl⟩
    unfold opsN at h
    unfold wpQuiet
    split at h
    · rename_i hg
      have hw : Region.wanted o (yielded ops a.tmps) = true := by unfold Region.wanted; rw [hg]
      rw [if_pos hw]
      exact one a h
    · rename_i j want hg
      obtain ⟨r, hr, h⟩ := guardN_spec h
      have hw := hr o hg
      rw [hw]
      split at h
      · rename_i hb
        rw [if_pos (by simpa using hb)]
        exact one a h
      · rename_i hb
        rw [if_neg (by simpa using hb)]
        exact opsN_quiet w hq rest _ hv.2 h

theorem opsN_still {P : Program} {ops : Array Oper} {Q : Act → World → Prop} (w : World) (d : Nat) (l2 : List Oper) {Q2 : Act → Prop} (hq : ∀ a', opsN P ops Q l2 a' w → Q2 a') : ∀ (l : List Oper) (a : Act), l.all (isVal P) = true → opsN P ops Q (l ++ l2) a w →
    wpStill P ops (dr w d) Q2 l a
  | [], a, _, h => hq _ h
  | o :: rest, a, hv, h => by
    simp only [List.all_cons, Bool.and_eq_true] at hv
    have one : ∀ a : Act, opN P a.eval o (fun v u => opsN P ops Q (rest ++ l2) (a.put o.dst v) u) w → o.still P a (dr w d) (wpStill P ops (dr w d) Q2 rest) := by
      intro a h
      unfold opN at h
      rw [hv.1] at h
      obtain ⟨v, hr, hK⟩ := valN_run (fun _ => rfl) h
      unfold Oper.still
      rw [show (execOp a.eval o).run P (dr w d) = _ from hr (Kp.dr w d)]
      exact ⟨rfl, opsN_still w d l2 hq rest _ hv.2 hK⟩
    simp only [List.cons_append] at h
    unfold opsN at h
    unfold wpStill
    split at h
    · rename_i hg
      have hw : Region.wanted o (yielded ops a.tmps) = true := by unfold Region.wanted; rw [hg]
      rw [if_pos hw]
      exact one a h
    · rename_i j want hg
      obtain ⟨r, hr, h⟩ := guardN_spec h
      have hw := hr o hg
      rw [hw]
      split at h
      · rename_i hb
        rw [if_pos (by simpa using hb)]
        exact one a h
      · rename_i hb
        rw [if_neg (by simpa using hb)]
        exact opsN_still w d l2 hq rest _ hv.2 h

/-- How many operations stand ahead of the first that turns memory or calls. -/
def headOf (P : Program) : List Oper → Nat
  | [] => 0
  | o :: l => match isVal P o with
    | true => headOf P l + 1
    | false => 0
theorem headOf_all (P : Program) : ∀ l : List Oper, (l.take (headOf P l)).all (isVal P) = true
  | [] => rfl
  | o :: l => by
    unfold headOf
    split
    · rename_i h
      have := headOf_all P l
      simp only [List.take_succ_cons, List.all_cons, h, this, Bool.and_self]
    · rfl

/-- May the region be walked in the order of its text? -/
def okReg (P : Program) (ops : Array Oper) (draw : Bool) : Bool := match draw with
  | false => true
  | true => match ops.toList.all (isVal P) with
    | true => Region.lexB .any ops
    | false => Region.lexTailB .any ops (headOf P ops.toList)

theorem regN_wp {P : Program} {id : Nat} {ops : Array Oper} {draw : Bool} {Q : Act → World → Prop} {Q' : Exit → Act → World → Prop} {a : Act} {w : World} (hm : P.follows .mixedOrders = true) (hd : P.types.size + Made.depth ≠ 0)
    (hok : okReg P ops draw = true) (hq : ∀ a u d, Q a u → Q' .normal a (dr u d)) (h : opsN P ops Q ops.toList a w) (d : Nat) : (Code.region id ops draw).wp P Q' a (dr w d) := by
  unfold okReg at hok
  cases draw with
  | false => exact wp_region_list (opsN_list hd hq _ _ _ h d)
  | true =>
    simp only at hok
    split at hok
    · rename_i hv
      refine wp_region_quiet (C := fun w' => ∃ d, w' = dr w d) hm hok ⟨d + 1, rfl⟩ ?_
      exact opsN_quiet w (fun a' hQ w' ⟨d', hw'⟩ => by subst hw'; exact hq _ _ _ hQ) _ _ hv h
    · obtain ⟨l⟩ := ops
      refine wp_region_still_tail _ hm hok ?_
      refine opsN_still (Q := Q) w (d + 1) (l.drop (headOf P l)) (fun a' h' => ?_) _ _ (headOf_all P l) (by rw [List.take_append_drop]; exact h)
      exact opsN_list hd hq _ _ _ h' (d + 1)

/-! ### regions in any order whose calls give one value, and leave what was there -/
def Kp.below {w u : World} (h : Below w.heap.size w u) : Kp w := ⟨u, fun a v hc => by rw [h.cell (block_lt_of_cell hc)]; exact hc⟩

def qcN (P : Program) (ρ : Operand → Value) (o : Oper) (w0 : World) (K : Value → Prop) : Prop :=
  match o.op with
  | .call c => match c.callee with
    | .value fo => match ρ fo with
      | .func (.func f) first captured => if bodyOf P f = true then shapeN P o.type fun v =>
          (∀ u, Below w0.heap.size w0 u → E.CallsD P f (first ++ c.args.map ρ ++ captured) u fun v' u' => v' = v ∧ Below w0.heap.size w0 u') ∧ K v else False
      | _ => False
    | .invoke r name => match ρ r with
      | .iface t x => optN (methodN P t name) fun f => if bodyOf P f = true then shapeN P o.type fun v =>
          (∀ u, Below w0.heap.size w0 u → E.CallsD P f (#[x] ++ c.args.map ρ) u fun v' u' => v' = v ∧ Below w0.heap.size w0 u') ∧ K v else False
      | _ => False
    | _ => False
  | _ => False

def qN (P : Program) (ρ : Operand → Value) (o : Oper) (w0 : World) (K : Value → Prop) : Prop := match isVal P o with
  | true => valN P ρ o w0 K
  | false => qcN P ρ o w0 K

def opsQ (P : Program) (ops : Array Oper) (w0 : World) (Q : Act → World → Prop) : List Oper → Act → Prop
  | [], a => ∀ u, Below w0.heap.size w0 u → Q a u
  | o :: rest, a => match o.guard with
    | none => qN P a.eval o w0 (fun v => opsQ P ops w0 Q rest (a.put o.dst v))
    | some (j, want) => guardN ops a j want (fun a => qN P a.eval o w0 (fun v => opsQ P ops w0 Q rest (a.put o.dst v))) (fun a => opsQ P ops w0 Q rest (a.put o.dst undef))

theorem calls_quiet {P : Program} {f : FuncId} {args : Array Value} {w0 u : World} {v : Value} (h : E.CallsD P f args u fun v' u' => v' = v ∧ Below w0.heap.size w0 u') :
    Calls P f args u fun e w'' => e = .returned v ∧ Below w0.heap.size w0 w'' := by
  have := h u.drawn
  rw [dr_self] at this
  refine this.mono fun e w' ⟨v', u', d', he, hw, hv, hb⟩ => ?_
  subst he hw hv
  exact ⟨rfl, ⟨hb.os, hb.tape, hb.output, hb.size, hb.block⟩⟩

theorem qN_quiet {P : Program} {o : Oper} {a : Act} {w0 : World} {K : Value → Prop} {K' : Act → Prop} (hd : P.types.size + Made.depth ≠ 0) (h : qN P a.eval o w0 K) (hk : ∀ v, K v → K' (a.put o.dst v)) :
    o.quiet P a (fun u => Below w0.heap.size w0 u) K' := by
  unfold qN at h
  split at h
  · obtain ⟨v, hr, hK⟩ := valN_run (fun _ => rfl) h
    refine ⟨v, fun u hu => ?_, hk _ hK⟩
    unfold Oper.quietAt
    rw [show (execOp a.eval o).run P u = _ from hr (Kp.below hu)]
    exact ⟨rfl, rfl⟩
  · unfold qcN at h
    split at h
    case h_2 => exact h.elim
    rename_i c ho
    obtain ⟨dst, op, ty, pos, after, guard⟩ := o
    simp only at ho h
    subst ho
    obtain ⟨callee, args, ats⟩ := c
    cases callee with
    | builtin b => exact h.elim
    | value fo =>
      simp only at h
      split at h
      · rename_i f first captured hf
        split at h
        · rename_i hb
          obtain ⟨v, hc, hK⟩ := shapeN_spec h
          refine ⟨v, fun u hu => ?_, hk _ hK⟩
          unfold Oper.quietAt execOp resolve
          simp only [hf, Deferred.ofValue]
          rw [run_bind' P _ _ _ _ _ rfl]
          have hrc := run_callFunc hb (first ++ args.map a.eval ++ captured) u
          simp only [invoke, hrc]
          exact ⟨rfl, calls_quiet (hc u hu)⟩
        · exact h.elim
      · exact h.elim
    | invoke r name =>
      simp only at h
      split at h
      · rename_i t x hv
        obtain ⟨f, hf, h⟩ := optN_spec h
        split at h
        · rename_i hb
          obtain ⟨v, hc, hK⟩ := shapeN_spec h
          refine ⟨v, fun u hu => ?_, hk _ hK⟩
          obtain ⟨n, hn⟩ : ∃ n, P.types.size + Made.depth = n + 1 := ⟨P.types.size + Made.depth - 1, by omega⟩
          have hrun : (execOp a.eval ⟨dst, .call ⟨.invoke r name, args, ats⟩, ty, pos, after, guard⟩).run P u = .ok (.enter f (#[x] ++ args.map a.eval)) u := by
            unfold execOp resolve
            simp only [hv]
            rw [run_bind' P _ _ _ _ _ rfl]
            unfold invoke
            obtain ⟨xs, hxs⟩ : ∃ xs : List Value, args.map a.eval = xs.toArray := ⟨(args.map a.eval).toList, rfl⟩
            rw [hxs]
            have e0 : (#[Value.iface t x] ++ xs.toArray)[0]? = some (.iface t x) := by simp
            have e1 : (#[Value.iface t x] ++ xs.toArray).extract 1 (#[Value.iface t x] ++ xs.toArray).size = xs.toArray := by simp
            simp only [e0, e1]
            unfold callMethod
            simp only
            rw [run_bind' P _ _ _ _ _ (run_prog P _), hn, run_bind' P _ _ _ _ _ (run_method hf n x _)]
            exact run_callFunc hb _ _
          unfold Oper.quietAt
          rw [hrun]
          exact ⟨rfl, calls_quiet (hc u hu)⟩
        · exact h.elim
      · exact h.elim

theorem opsQ_quiet {P : Program} {ops : Array Oper} {Q : Act → World → Prop} {w0 : World} {Q2 : Act → Prop} (hd : P.types.size + Made.depth ≠ 0) (hq : ∀ a', (∀ u, Below w0.heap.size w0 u → Q a' u) → Q2 a') : ∀ (l : List Oper) (a : Act), opsQ P ops w0 Q l a →
    wpQuiet P ops (fun u => Below w0.heap.size w0 u) Q2 l a
  | [], a, h => hq _ h
  | o :: rest, a, h => by
    unfold opsQ at h
    unfold wpQuiet
    split at h
    · rename_i hg
      have hw : Region.wanted o (yielded ops a.tmps) = true := by unfold Region.wanted; rw [hg]
      rw [if_pos hw]
      exact qN_quiet hd h fun v hK => opsQ_quiet hd hq rest _ hK
    · rename_i j want hg
      obtain ⟨r, hr, h⟩ := guardN_spec h
      have hw := hr o hg
      rw [hw]
      split at h
      · rename_i hb
        rw [if_pos (by simpa using hb)]
        exact qN_quiet hd h fun v hK => opsQ_quiet hd hq rest _ hK
      · rename_i hb
        rw [if_neg (by simpa using hb)]
        exact opsQ_quiet hd hq rest _ h

theorem regQ_wp {P : Program} {id : Nat} {ops : Array Oper} {Q : Act → World → Prop} {Q' : Exit → Act → World → Prop} {a : Act} {w : World} (hm : P.follows .mixedOrders = true) (hd : P.types.size + Made.depth ≠ 0)
    (hok : Region.lexB .any ops = true) (hq : ∀ a u d, Q a u → Q' .normal a (dr u d)) (h : opsQ P ops w Q ops.toList a) (d : Nat) : (Code.region id ops true).wp P Q' a (dr w d) := by
  refine wp_region_quiet (C := fun u => Below w.heap.size w u) hm hok ⟨rfl, rfl, rfl, Nat.le_refl _, fun _ _ => rfl⟩ ?_
  refine opsQ_quiet hd (fun a' hQ w' hw' => ?_) _ _ h
  have := hq _ _ w'.drawn (hQ w' hw')
  rwa [dr_self] at this

/-! ### regions in any order: facts -/
def Lf.all : Lf → (Value → Prop) → Prop
  | .bool, K => ∀ b, K (.bool b)
  | .int k, K => ∀ n, K (.int k n)
  | .float k, K => ∀ n, K (.float k n)
  | .string, K => ∀ s, K (.string s)
  | .slice, K => ∀ a n c, K (.slice a n c)
  | .pointer, K => ∀ a, K (.pointer a)
  | .map, K => ∀ r, K (.map r)
  | .any, K => ∀ v, K v

def alls : List Lf → (List Value → Prop) → Prop
  | [], K => K []
  | l :: ls, K => l.all fun v => alls ls fun vs => K (v :: vs)

def shapesA (P : Program) : List TypeId → (List Value → Prop) → Prop
  | [], K => K []
  | t :: ts, K => match P.underlying t with
    | none => True
    | some u => match aggB u with
      | true => alls (lvs P 8 t) fun vs => shapesA P ts fun ws => K (.agg vs.toArray :: ws)
      | false => match lvs P 8 t with
        | [l] => l.all fun v => shapesA P ts fun ws => K (v :: ws)
        | _ => True

def allN (P : Program) (t : TypeId) (K : Value → Prop) : Prop :=
  match P.underlying t with
  | none => True
  | some (.tuple ts) => shapesA P ts.toList fun vs => K (.tuple vs.toArray)
  | some _ => shapesA P [t] fun vs => match vs with
    | [v] => K v
    | _ => True

theorem Lf.all_spec {l : Lf} {K J : Value → Prop} (h : l.ex J) (hk : l.all K) : ∃ v, J v ∧ K v := by
  cases l <;> simp only [Lf.ex, Lf.all] at h hk
  all_goals first
    | (obtain ⟨a, n, c, h⟩ := h; exact ⟨_, h, hk _ _ _⟩)
    | (obtain ⟨a, h⟩ := h; exact ⟨_, h, hk _⟩)
theorem alls_spec : ∀ (ls : List Lf) (K J : List Value → Prop), exs ls J → alls ls K → ∃ vs, J vs ∧ K vs
  | [], _, _, h, hk => ⟨_, h, hk⟩
  | _ :: ls, _, _, h, hk => let ⟨_, h2, hk2⟩ := Lf.all_spec h hk; let ⟨_, h3, hk3⟩ := alls_spec ls _ _ h2 hk2; ⟨_, h3, hk3⟩
theorem shapesA_spec (P : Program) : ∀ (ts : List TypeId) (K J : List Value → Prop), shapes P ts J → shapesA P ts K → ∃ vs, J vs ∧ K vs
  | [], _, _, h, hk => ⟨_, h, hk⟩
  | t :: ts, K, J, h, hk => by
    unfold shapes at h
    unfold shapesA at hk
    split at h
    · exact h.elim
    rename_i u hu
    rw [hu] at hk
    simp only at hk
    split at h
    · rename_i hb
      rw [hb] at hk
      obtain ⟨vs, h2, hk2⟩ := alls_spec _ _ _ h hk
      obtain ⟨ws, h3, hk3⟩ := shapesA_spec P ts _ _ h2 hk2
      exact ⟨_, h3, hk3⟩
    · rename_i hb
      rw [hb] at hk
      simp only at hk
      split at h
      · rename_i l hl
        rw [hl] at hk
        obtain ⟨v, h2, hk2⟩ := Lf.all_spec h hk
        obtain ⟨ws, h3, hk3⟩ := shapesA_spec P ts _ _ h2 hk2
        exact ⟨_, h3, hk3⟩
      · exact h.elim
theorem allN_spec {P : Program} {t : TypeId} {K J : Value → Prop} (h : shapeN P t J) (hk : allN P t K) : ∃ v, J v ∧ K v := by
  unfold shapeN at h
  unfold allN at hk
  split at h
  · exact h.elim
  · rename_i ts hu
    rw [hu] at hk
    obtain ⟨vs, h2, hk2⟩ := shapesA_spec P _ _ _ h hk; exact ⟨_, h2, hk2⟩
  · rename_i u hn hu
    rw [hu] at hk
    have hk : shapesA P [t] fun vs => match vs with
        | [v] => K v
        | _ => True := by
      cases u <;> first | exact hk | exact (hn _ rfl).elim
    obtain ⟨vs, h2, hk2⟩ := shapesA_spec P _ _ _ h hk
    split at h2
    · exact ⟨_, h2, hk2⟩
    · exact h2.elim

def ins (x : Nat) : List Nat → List Nat
  | [] => [x]
  | y :: l => match Nat.beq x y with
    | true => y :: l
    | false => y :: ins x l
def insAll : List Nat → List Nat → List Nat
  | [], l => l
  | x :: xs, l => insAll xs (ins x l)
theorem mem_ins {x j : Nat} : ∀ {l : List Nat}, j ∈ ins x l → j = x ∨ j ∈ l
  | [], h => by simpa [ins] using h
  | y :: l, h => by
    unfold ins at h
    split at h
    · exact .inr h
    · rcases List.mem_cons.1 h with h | h
      · exact .inr (by simp [h])
      · rcases mem_ins h with h | h
        · exact .inl h
        · exact .inr (by simp [h])
theorem mem_insAll {j : Nat} : ∀ {xs l : List Nat}, j ∈ insAll xs l → j ∈ xs ∨ j ∈ l
  | [], _, h => .inr h
  | x :: xs, l, h => by
    rcases mem_insAll (xs := xs) h with h | h
    · exact .inl (by simp [h])
    · rcases mem_ins h with h | h
      · exact .inl (by simp [h])
      · exact .inr h

def ancE (T : List (List Nat)) : List Edge → List Nat → List Nat
  | [], l => l
  | e :: es, l => match Region.binds .any e with
    | true => ancE T es (insAll (T.getD e.on []) l)
    | false => ancE T es l
def ancOf (T : List (List Nat)) (o : Oper) : List Nat := ancE T o.after.toList []
theorem mem_ancE {T : List (List Nat)} {j : Nat} : ∀ {es : List Edge} {l : List Nat}, j ∈ ancE T es l → (∃ e ∈ es, Region.binds .any e = true ∧ j ∈ T.getD e.on []) ∨ j ∈ l
  | [], _, h => .inr h
  | e :: es, l, h => by
    unfold ancE at h
    split at h
    · rename_i hb
      rcases mem_ancE h with ⟨e', he, h1⟩ | h
      · exact .inl ⟨e', by simp [he], h1⟩
      · rcases mem_insAll h with h | h
        · exact .inl ⟨e, by simp, hb, h⟩
        · exact .inr h
    · rcases mem_ancE h with ⟨e', he, h1⟩ | h
      · exact .inl ⟨e', by simp [he], h1⟩
      · exact .inr h
def selfA (P : Program) (k : Nat) (o : Oper) (anc : List Nat) : List Nat := match isVal P o with
  | true => anc
  | false => ins k anc

/-- What is known of what was yielded. -/
def hyps (Φ : Nat → Value → World → Prop) (vals : Vals) (u : World) : List Nat → Prop → Prop
  | [], K => K
  | j :: js, K => match vals j with
    | some v => Φ j v u → hyps Φ vals u js K
    | none => hyps Φ vals u js K
theorem hyps_spec {Φ : Nat → Value → World → Prop} {vals : Vals} {u : World} {K : Prop} : ∀ {l : List Nat}, hyps Φ vals u l K → (∀ j ∈ l, ∀ v, vals j = some v → Φ j v u) → K
  | [], h, _ => h
  | j :: js, h, hf => by
    unfold hyps at h
    split at h
    · rename_i v hv
      exact hyps_spec (h (hf j (by simp) v hv)) fun k hk => hf k (by simp [hk])
    · exact hyps_spec h fun k hk => hf k (by simp [hk])

/-- An operation that lays new blocks, with the facts of what it yields (Φk). -/
def erN (P : Program) (ρ : Operand → Value) (o : Oper) (w0 : World) (hy : World → Prop → Prop) (Φk : Value → World → Prop) (K : Value → Prop) : Prop :=
  match o.op with
  | .call c => match c.callee with
    | .value fo => match ρ fo with
      | .func (.func f) first captured => if bodyOf P f = true then
          (∀ u, Below w0.heap.size w0 u → hy u (E.CallsD P f (first ++ c.args.map ρ ++ captured) u fun v u' => shapeN P o.type fun v' => v = v' ∧ Φk v' u' ∧ Below u.heap.size u u')) ∧
          allN P o.type fun v => (∃ u, Below w0.heap.size w0 u ∧ Φk v u) → K v else False
      | _ => False
    | .invoke r name => match ρ r with
      | .iface t x => optN (methodN P t name) fun f => if bodyOf P f = true then
          (∀ u, Below w0.heap.size w0 u → hy u (E.CallsD P f (#[x] ++ c.args.map ρ) u fun v u' => shapeN P o.type fun v' => v = v' ∧ Φk v' u' ∧ Below u.heap.size u u')) ∧
          allN P o.type fun v => (∃ u, Below w0.heap.size w0 u ∧ Φk v u) → K v else False
      | _ => False
    | .builtin .append =>
        (∀ u, Below w0.heap.size w0 u → hy u (rawN P (Builtin.append_ c.argTypes o.type (c.args.map ρ)) u fun v u' => shapeN P o.type fun v' => v = v' ∧ Φk v' u' ∧ Below u.heap.size u u')) ∧
        allN P o.type fun v => (∃ u, Below w0.heap.size w0 u ∧ Φk v u) → K v
    | _ => False
  | .buildSlice t len parts => optN (litC P t len (partsOf ρ parts)) fun ec =>
      (∀ u, Below w0.heap.size w0 u → hy u (Φk (.slice (some ⟨u.heap.size, 0, none⟩) len len) (u.alloc (.cells ec.2 ec.1)))) ∧
      ∀ p : Addr, (∃ u, Below w0.heap.size w0 u ∧ Φk (.slice (some p) len len) u) → K (.slice (some p) len len)
  | .alloc t => optN (zeroC P t) fun cs =>
      (∀ u, Below w0.heap.size w0 u → hy u (Φk (.pointer (some ⟨u.heap.size, 0, none⟩)) (u.alloc (.cells cs t)))) ∧
      ∀ p : Addr, (∃ u, Below w0.heap.size w0 u ∧ Φk (.pointer (some p)) u) → K (.pointer (some p))
  | .box t x =>
      (∀ u, Below w0.heap.size w0 u → hy u (Φk (.pointer (some ⟨u.heap.size, 0, none⟩)) (u.alloc (.cells (ρ x).cells t)))) ∧
      ∀ p : Addr, (∃ u, Below w0.heap.size w0 u ∧ Φk (.pointer (some p)) u) → K (.pointer (some p))
  | _ => False

/-- The form of what an operation yields. -/
def shOk (P : Program) (ops : Array Oper) (i : Nat) (v : Value) : Prop := match ops[i]? with
  | none => False
  | some o => match o.op with
    | .call _ => shapeN P o.type fun v' => v = v'
    | .buildSlice _ len _ => ∃ p, v = .slice (some p) len len
    | .alloc _ => ∃ p, v = .pointer (some p)
    | .box .. => ∃ p, v = .pointer (some p)
    | _ => False

def opsR (P : Program) (ops : Array Oper) (w0 : World) (Φ : Nat → Value → World → Prop) (Q : Act → World → Prop) : List Oper → Nat → List (List Nat) → List Nat → Vals → Act → Prop
  | [], _, _, done, vals, a => ∀ u, Below w0.heap.size w0 u → hyps Φ vals u done (Q a u)
  | o :: rest, k, T, done, vals, a =>
    (fun (run : Act → Prop) => match o.guard with
      | none => run a
      | some (j, want) => guardN ops a j want run (fun a => opsR P ops w0 Φ Q rest (k + 1) (T ++ [selfA P k o (ancOf T o)]) done vals (a.put o.dst undef)))
    (fun a => match isVal P o with
      | true => valN P a.eval o w0 fun v => opsR P ops w0 Φ Q rest (k + 1) (T ++ [selfA P k o (ancOf T o)]) done vals (a.put o.dst v)
      | false => erN P a.eval o w0 (fun u => hyps Φ vals u (ancOf T o)) (Φ k) fun v => opsR P ops w0 Φ Q rest (k + 1) (T ++ [selfA P k o (ancOf T o)]) (done ++ [k]) (up vals k v) (a.put o.dst v))

def CW (w0 : World) (u : World) : Prop := Below w0.heap.size w0 u
def LeW (u u' : World) : Prop := Below u.heap.size u u'
def PhiW (P : Program) (ops : Array Oper) (Φ : Nat → Value → World → Prop) (i : Nat) (v : Value) (u : World) : Prop := shOk P ops i v ∧ Φ i v u

theorem shapeN_mono {P : Program} {t : TypeId} {J J' : Value → Prop} (h : shapeN P t J) (hj : ∀ v, J v → J' v) : shapeN P t J' := by
  have l1 : ∀ {l : Lf} {J J' : Value → Prop}, l.ex J → (∀ v, J v → J' v) → l.ex J' := by
    intro l J J' h hj
    cases l <;> simp only [Lf.ex] at h ⊢
    all_goals first
      | (obtain ⟨a, n, c, h⟩ := h; exact ⟨_, _, _, hj _ h⟩)
      | (obtain ⟨a, h⟩ := h; exact ⟨_, hj _ h⟩)
  have l2 : ∀ (ls : List Lf) (J J' : List Value → Prop), exs ls J → (∀ v, J v → J' v) → exs ls J' := by
    intro ls
    induction ls with
    | nil => intro J J' h hj; exact hj _ h
    | cons l ls ih => intro J J' h hj; exact l1 h fun v hv => ih _ _ hv fun vs => hj _
  have l3 : ∀ (ts : List TypeId) (J J' : List Value → Prop), shapes P ts J → (∀ v, J v → J' v) → shapes P ts J' := by
    intro ts
    induction ts with
    | nil => intro J J' h hj; exact hj _ h
    | cons t ts ih =>
      intro J J' h hj
      unfold shapes at h ⊢
      split at h
      · exact h.elim
      split at h
      · exact l2 _ _ _ h fun vs hv => ih _ _ hv fun ws => hj _
      · split at h
        · exact l1 h fun vs hv => ih _ _ hv fun ws => hj _
        · exact h.elim
  unfold shapeN at h ⊢
  split at h
  · exact h.elim
  · exact l3 _ _ _ h fun vs => hj _
  · refine l3 _ _ _ h fun vs hv => ?_
    split at hv
    · exact hj _ hv
    · exact hv.elim

theorem below_dr {w u : World} {n d : Nat} (h : Below n w u) : Below n w (dr u d) := ⟨h.os, h.tape, h.output, h.size, h.block⟩

theorem calls_rel {P : Program} {ops : Array Oper} {k : Nat} {o : Oper} {c : Call} {Φ : Nat → Value → World → Prop} {f : FuncId} {args : Array Value} {u : World} (ho : ops[k]? = some o) (hc : o.op = .call c)
    (hst : ∀ v u d, Φ k v u → Φ k v (dr u d))
    (h : E.CallsD P f args u fun v u' => shapeN P o.type fun v' => v = v' ∧ Φ k v' u' ∧ Below u.heap.size u u') :
    Calls P f args u fun e u' => ∃ v, e = .returned v ∧ PhiW P ops Φ k v u' ∧ LeW u u' := by
  have := h u.drawn
  rw [dr_self] at this
  refine this.mono fun e w' ⟨v, u', d', he, hw, hs⟩ => ?_
  subst he hw
  obtain ⟨v', rfl, hP, hB⟩ := shapeN_spec hs
  refine ⟨v, rfl, ⟨?_, hst _ _ _ hP⟩, below_dr hB⟩
  unfold shOk
  rw [ho]
  simp only [hc]
  exact shapeN_mono hs fun v' h => h.1

theorem erN_spec {P : Program} {ops : Array Oper} {k : Nat} {o : Oper} {Φ : Nat → Value → World → Prop} {w0 : World} {a : Act} {hy : World → Prop → Prop} {K : Value → Prop} {vals : Vals} (hd : P.types.size + Made.depth ≠ 0)
    (ho : ops[k]? = some o) (hst : ∀ v u d, Φ k v u → Φ k v (dr u d)) (hhy : ∀ u, (∀ j, Anc ops .any j k → ∀ v, vals j = some v → PhiW P ops Φ j v u) → ∀ K, hy u K → K) (h : erN P a.eval o w0 hy (Φ k) K) :
    condR P ops .any (CW w0) LeW (PhiW P ops Φ) o k vals a ∧ ∀ v, (∃ u, CW w0 u ∧ PhiW P ops Φ k v u) → K v := by
  have fresh : ∀ (u : World) (ob : Obj), LeW u (u.alloc ob) := fun u ob => (Below.refl _ _).alloc (Nat.le_refl _) ob
  obtain ⟨dst, op, ty, pos, after, guard⟩ := o
  unfold erN at h
  cases op <;> simp only at h <;> first | exact h.elim | skip
  case call c =>
    obtain ⟨callee, args, ats⟩ := c
    have hall : ∀ {K : Value → Prop}, (allN P ty fun v => (∃ u, Below w0.heap.size w0 u ∧ Φ k v u) → K v) → ∀ v, (∃ u, CW w0 u ∧ PhiW P ops Φ k v u) → K v := by
      intro K h v ⟨u, hC, hs, hP⟩
      unfold shOk at hs
      rw [ho] at hs
      simp only at hs
      obtain ⟨v', rfl, hK⟩ := allN_spec hs h
      exact hK ⟨u, hC, hP⟩
    cases callee with
    | value fo =>
      simp only at h
      split at h
      · rename_i f first captured hf
        split at h
        · rename_i hb
          refine ⟨fun u hC hF => ?_, hall h.2⟩
          have hcall := hhy u hF _ (h.1 u hC)
          have hrun : (execOp a.eval ⟨dst, .call ⟨.value fo, args, ats⟩, ty, pos, after, guard⟩).run P u = .ok (.enter f (first ++ args.map a.eval ++ captured)) u := by
            have hrc := run_callFunc hb (first ++ args.map a.eval ++ captured) u
            unfold execOp resolve
            simp only [hf, Deferred.ofValue]
            rw [run_bind' P _ _ _ _ _ rfl]
            simp only [invoke, hrc]
          rw [hrun]
          exact calls_rel ho rfl hst hcall
        · exact h.elim
      · exact h.elim
    | invoke r name =>
      simp only at h
      split at h
      · rename_i t x hv
        obtain ⟨f, hf, h⟩ := optN_spec h
        split at h
        · rename_i hb
          refine ⟨fun u hC hF => ?_, hall h.2⟩
          have hcall := hhy u hF _ (h.1 u hC)
          obtain ⟨n, hn⟩ : ∃ n, P.types.size + Made.depth = n + 1 := ⟨P.types.size + Made.depth - 1, by omega⟩
          have hrun : (execOp a.eval ⟨dst, .call ⟨.invoke r name, args, ats⟩, ty, pos, after, guard⟩).run P u = .ok (.enter f (#[x] ++ args.map a.eval)) u := by
            unfold execOp resolve
            simp only [hv]
            rw [run_bind' P _ _ _ _ _ rfl]
            unfold invoke
            obtain ⟨xs, hxs⟩ : ∃ xs : List Value, args.map a.eval = xs.toArray := ⟨(args.map a.eval).toList, rfl⟩
            rw [hxs]
            have e0 : (#[Value.iface t x] ++ xs.toArray)[0]? = some (.iface t x) := by simp
            have e1 : (#[Value.iface t x] ++ xs.toArray).extract 1 (#[Value.iface t x] ++ xs.toArray).size = xs.toArray := by simp
            simp only [e0, e1]
            unfold callMethod
            simp only
            rw [run_bind' P _ _ _ _ _ (run_prog P _), hn, run_bind' P _ _ _ _ _ (run_method hf n x _)]
            exact run_callFunc hb _ _
          rw [hrun]
          exact calls_rel ho rfl hst hcall
        · exact h.elim
      · exact h.elim
    | builtin b =>
      cases b <;> simp only at h <;> first | exact h.elim | skip
      refine ⟨fun u hC hF => ?_, hall h.2⟩
      obtain ⟨v, u', d', hr, hs⟩ := hhy u hF _ (h.1 u hC) u.drawn
      rw [dr_self] at hr
      have hrun : (execOp a.eval ⟨dst, .call ⟨.builtin .append, args, ats⟩, ty, pos, after, guard⟩).run P u = .ok (.value v) (dr u' d') := by
        rw [show execOp a.eval ⟨dst, .call ⟨.builtin .append, args, ats⟩, ty, pos, after, guard⟩ = (do pure (.value (← Builtin.append_ ats ty (args.map a.eval)))) from rfl, run_bind' P _ _ _ _ _ hr]
        rfl
      rw [hrun]
      obtain ⟨v', rfl, hP, hB⟩ := shapeN_spec hs
      refine ⟨⟨?_, hst _ _ _ hP⟩, below_dr hB⟩
      unfold shOk
      rw [ho]
      exact shapeN_mono hs fun v' h => h.1
  case buildSlice t len parts =>
    obtain ⟨⟨e, cs⟩, hc, h1, h2⟩ := optN_spec h
    refine ⟨fun u hC hF => ?_, fun v ⟨u, hC, hs, hP⟩ => ?_⟩
    · have hfact := hhy u hF _ (h1 u hC)
      have hrun : (execOp a.eval ⟨dst, .buildSlice t len parts, ty, pos, after, guard⟩).run P u = .ok (.value (.slice (some ⟨u.heap.size, 0, none⟩) len len)) (u.alloc (.cells cs e)) := by
        have := litC_run hc u u.drawn
        rw [dr_self] at this
        show ((do pure (.value (← Instr.buildSlice t len (parts.map fun (i, x) => (i, a.eval x)))) : Sem Next)).run P u = _
        rw [run_bind' P _ _ _ _ _ this]
        rfl
      rw [hrun]
      exact ⟨⟨by unfold shOk; rw [ho]; exact ⟨_, rfl⟩, hfact⟩, fresh _ _⟩
    · unfold shOk at hs
      rw [ho] at hs
      obtain ⟨p, rfl⟩ := hs
      exact h2 p ⟨u, hC, hP⟩
  case alloc t =>
    unfold zeroC at h
    obtain ⟨cs, hc, h1, h2⟩ := optN_spec h
    refine ⟨fun u hC hF => ?_, fun v ⟨u, hC, hs, hP⟩ => ?_⟩
    · have hfact := hhy u hF _ (h1 u hC)
      cases hz : (P.info? t).bind (·.zero) with
      | none => rw [hz] at hc; cases hc
      | some z =>
        rw [hz] at hc
        simp only [Option.map_some, Option.some.injEq] at hc
        subst hc
        have hrun : (execOp a.eval ⟨dst, .alloc t, ty, pos, after, guard⟩).run P u = .ok (.value (.pointer (some ⟨u.heap.size, 0, none⟩))) (u.alloc (.cells z.cells t)) := by
          show ((do pure (.value (← Instr.alloc t true (.tuple #[]))) : Sem Next)).run P u = _
          unfold Instr.alloc
          rw [run_bind' P _ _ _ _ _ (by rw [run_bind' P _ _ _ _ _ (run_zero hz _)]; rfl)]
          rfl
        rw [hrun]
        exact ⟨⟨by unfold shOk; rw [ho]; exact ⟨_, rfl⟩, hfact⟩, fresh _ _⟩
    · unfold shOk at hs
      rw [ho] at hs
      obtain ⟨p, rfl⟩ := hs
      exact h2 p ⟨u, hC, hP⟩
  case box t x =>
    refine ⟨fun u hC hF => ?_, fun v ⟨u, hC, hs, hP⟩ => ?_⟩
    · have hfact := hhy u hF _ (h.1 u hC)
      have hrun : (execOp a.eval ⟨dst, .box t x, ty, pos, after, guard⟩).run P u = .ok (.value (.pointer (some ⟨u.heap.size, 0, none⟩))) (u.alloc (.cells (a.eval x).cells t)) := rfl
      rw [hrun]
      exact ⟨⟨by unfold shOk; rw [ho]; exact ⟨_, rfl⟩, hfact⟩, fresh _ _⟩
    · unfold shOk at hs
      rw [ho] at hs
      obtain ⟨p, rfl⟩ := hs
      exact h.2 p ⟨u, hC, hP⟩

theorem opsR_lex {P : Program} {ops : Array Oper} {w0 : World} {Φ : Nat → Value → World → Prop} {Q : Act → World → Prop} (hd : P.types.size + Made.depth ≠ 0) (hst : ∀ i v u d, Φ i v u → Φ i v (dr u d)) :
    ∀ (l : List Oper) (k : Nat) (T : List (List Nat)) (done : List Nat) (vals : Vals) (a : Act), (∀ j, l[j]? = ops[k + j]?) → T.length = k → (∀ p j, j ∈ T.getD p [] → j = p ∨ Anc ops .any j p) →
    opsR P ops w0 Φ Q l k T done vals a → lexR P ops .any (CW w0) LeW (PhiW P ops Φ) (isVal P) Q l k vals a
  | [], _, _, done, vals, a, _, _, _, h => fun u hC hF => hyps_spec (h u hC) fun j _ v hv => (hF j v hv).2
  | o :: rest, k, T, done, vals, a, hl, hT, hA, h => by
    have h0 : ops[k]? = some o := by simpa using (hl 0).symm
    have hl' : ∀ j, rest[j]? = ops[k + 1 + j]? := fun j => by have := hl (j + 1); simpa [Nat.add_assoc, Nat.add_comm 1 j] using this
    have hanc : ∀ j, j ∈ ancOf T o → Anc ops .any j k := by
      intro j hj
      rcases mem_ancE hj with ⟨e, he, hb, hm⟩ | hj
      · rcases hA _ _ hm with h | h
        · subst h; exact .base h0 (by simpa using he) hb
        · exact .step h0 (by simpa using he) hb h
      · cases hj
    have hT' : (T ++ [selfA P k o (ancOf T o)]).length = k + 1 := by simp [hT]
    have hA' : ∀ p j, j ∈ (T ++ [selfA P k o (ancOf T o)]).getD p [] → j = p ∨ Anc ops .any j p := by
      intro p j hj
      by_cases hp : p < T.length
      · rw [List.getD_eq_getElem?_getD, List.getElem?_append_left hp, ← List.getD_eq_getElem?_getD] at hj
        exact hA p j hj
      · rw [List.getD_eq_getElem?_getD, List.getElem?_append_right (by omega)] at hj
        by_cases hpk : p = k
        · subst hpk
          rw [hT, Nat.sub_self] at hj
          simp only [List.getElem?_cons_zero, Option.getD_some] at hj
          unfold selfA at hj
          split at hj
          · exact .inr (hanc j hj)
          · rcases mem_ins hj with h | h
            · exact .inl h
            · exact .inr (hanc j h)
        · rw [List.getElem?_eq_none (by simp; omega)] at hj
          cases hj
    have run : ∀ a : Act, (match isVal P o with
        | true => valN P a.eval o w0 fun v => opsR P ops w0 Φ Q rest (k + 1) (T ++ [selfA P k o (ancOf T o)]) done vals (a.put o.dst v)
        | false => erN P a.eval o w0 (fun u => hyps Φ vals u (ancOf T o)) (Φ k) fun v => opsR P ops w0 Φ Q rest (k + 1) (T ++ [selfA P k o (ancOf T o)]) (done ++ [k]) (up vals k v) (a.put o.dst v)) →
        relO P ops .any (CW w0) LeW (PhiW P ops Φ) (isVal P) o k (lexR P ops .any (CW w0) LeW (PhiW P ops Φ) (isVal P) Q rest (k + 1)) vals a := by
      intro a h
      unfold relO
      split
      · rename_i hv
        rw [hv] at h
        obtain ⟨v, hr, hK⟩ := valN_run (fun _ => rfl) h
        exact ⟨v, fun u hC => hr (Kp.below hC), opsR_lex hd hst rest (k + 1) _ _ _ _ hl' hT' hA' hK⟩
      · rename_i hv
        rw [hv] at h
        obtain ⟨h1, h2⟩ := erN_spec (ops := ops) (vals := vals) hd h0 (hst k) (fun u hF K hh => hyps_spec hh fun j hj v hv => (hF j (hanc j hj) v hv).2) h
        exact ⟨h1, fun v ⟨u, hC, hF⟩ => opsR_lex hd hst rest (k + 1) _ _ _ _ hl' hT' hA' (h2 v ⟨u, hC, hF k v (up_self _ _ _)⟩)⟩
    unfold opsR at h
    unfold lexR
    simp only at h
    split at h
    · rename_i hg
      have hw : Region.wanted o (yielded ops a.tmps) = true := by unfold Region.wanted; rw [hg]
      rw [if_pos hw]
      exact run a h
    · rename_i j want hg
      obtain ⟨r, hr, h⟩ := guardN_spec h
      have hw := hr o hg
      rw [hw]
      split at h
      · rename_i hb
        rw [if_pos (by simpa using hb)]
        exact run a h
      · rename_i hb
        rw [if_neg (by simpa using hb)]
        exact opsR_lex hd hst rest (k + 1) _ _ _ _ hl' hT' hA' h

theorem opsR_lexT {P : Program} {ops : Array Oper} {w0 : World} {Φ : Nat → Value → World → Prop} {Q : Act → World → Prop} (hd : P.types.size + Made.depth ≠ 0) (hst : ∀ i v u d, Φ i v u → Φ i v (dr u d)) :
    ∀ (l : List Oper) (k : Nat) (T : List (List Nat)) (done : List Nat) (vals : Vals) (a : Act), (∀ j, j < l.length → l[j]? = ops[k + j]?) → T.length = k → (∀ p j, j ∈ T.getD p [] → j = p ∨ Anc ops .any j p) →
    opsR P ops w0 Φ Q l k T done vals a → lexT P ops .any (CW w0) LeW (PhiW P ops Φ) (isVal P) (fun vals a => ∀ u, CW w0 u → Facts (PhiW P ops Φ) vals u → Q a u) l k vals a
  | [], _, _, done, vals, a, _, _, _, h => fun u hC hF => hyps_spec (h u hC) fun j _ v hv => (hF j v hv).2
  | o :: rest, k, T, done, vals, a, hl, hT, hA, h => by
    have h0 : ops[k]? = some o := by simpa using (hl 0 (by simp)).symm
    have hl' : ∀ j, j < rest.length → rest[j]? = ops[k + 1 + j]? := fun j hj => by have := hl (j + 1) (by simp; omega); simpa [Nat.add_assoc, Nat.add_comm 1 j] using this
    have hanc : ∀ j, j ∈ ancOf T o → Anc ops .any j k := by
      intro j hj
      rcases mem_ancE hj with ⟨e, he, hb, hm⟩ | hj
      · rcases hA _ _ hm with h | h
        · subst h; exact .base h0 (by simpa using he) hb
        · exact .step h0 (by simpa using he) hb h
      · cases hj
    have hT' : (T ++ [selfA P k o (ancOf T o)]).length = k + 1 := by simp [hT]
    have hA' : ∀ p j, j ∈ (T ++ [selfA P k o (ancOf T o)]).getD p [] → j = p ∨ Anc ops .any j p := by
      intro p j hj
      by_cases hp : p < T.length
      · rw [List.getD_eq_getElem?_getD, List.getElem?_append_left hp, ← List.getD_eq_getElem?_getD] at hj
        exact hA p j hj
      · rw [List.getD_eq_getElem?_getD, List.getElem?_append_right (by omega)] at hj
        by_cases hpk : p = k
        · subst hpk
          rw [hT, Nat.sub_self] at hj
          simp only [List.getElem?_cons_zero, Option.getD_some] at hj
          unfold selfA at hj
          split at hj
          · exact .inr (hanc j hj)
          · rcases mem_ins hj with h | h
            · exact .inl h
            · exact .inr (hanc j h)
        · rw [List.getElem?_eq_none (by simp; omega)] at hj
          cases hj
    have run : ∀ a : Act, (match isVal P o with
        | true => valN P a.eval o w0 fun v => opsR P ops w0 Φ Q rest (k + 1) (T ++ [selfA P k o (ancOf T o)]) done vals (a.put o.dst v)
        | false => erN P a.eval o w0 (fun u => hyps Φ vals u (ancOf T o)) (Φ k) fun v => opsR P ops w0 Φ Q rest (k + 1) (T ++ [selfA P k o (ancOf T o)]) (done ++ [k]) (up vals k v) (a.put o.dst v)) →
        relO P ops .any (CW w0) LeW (PhiW P ops Φ) (isVal P) o k (lexT P ops .any (CW w0) LeW (PhiW P ops Φ) (isVal P) (fun vals a => ∀ u, CW w0 u → Facts (PhiW P ops Φ) vals u → Q a u) rest (k + 1)) vals a := by
      intro a h
      unfold relO
      split
      · rename_i hv
        rw [hv] at h
        obtain ⟨v, hr, hK⟩ := valN_run (fun _ => rfl) h
        exact ⟨v, fun u hC => hr (Kp.below hC), opsR_lexT hd hst rest (k + 1) _ _ _ _ hl' hT' hA' hK⟩
      · rename_i hv
        rw [hv] at h
        obtain ⟨h1, h2⟩ := erN_spec (ops := ops) (vals := vals) hd h0 (hst k) (fun u hF K hh => hyps_spec hh fun j hj v hv => (hF j (hanc j hj) v hv).2) h
        exact ⟨h1, fun v ⟨u, hC, hF⟩ => opsR_lexT hd hst rest (k + 1) _ _ _ _ hl' hT' hA' (h2 v ⟨u, hC, hF k v (up_self _ _ _)⟩)⟩
    unfold opsR at h
    unfold lexT
    simp only at h
    split at h
    · rename_i hg
      have hw : Region.wanted o (yielded ops a.tmps) = true := by unfold Region.wanted; rw [hg]
      rw [if_pos hw]
      exact run a h
    · rename_i j want hg
      obtain ⟨r, hr, h⟩ := guardN_spec h
      have hw := hr o hg
      rw [hw]
      split at h
      · rename_i hb
        rw [if_pos (by simpa using hb)]
        exact run a h
      · rename_i hb
        rw [if_neg (by simpa using hb)]
        exact opsR_lexT hd hst rest (k + 1) _ _ _ _ hl' hT' hA' h

/-- How many operations stand ahead of the first store or append. -/
def headS : List Oper → Nat
  | [] => 0
  | o :: l => match o.op with
    | .store .. => 0
    | .call c => match c.callee with
      | .builtin .append => 0
      | _ => headS l + 1
    | _ => headS l + 1

def regT (P : Program) (ops : Array Oper) (Q : Act → World → Prop) (a : Act) (w0 : World) : Prop :=
  ∃ Φ : Nat → Value → World → Prop, (∀ i v u u', Φ i v u → Below u.heap.size u u' → Φ i v u') ∧
    opsR P ops w0 Φ (fun a u => opsN P ops Q (ops.toList.drop (headS ops.toList)) a u) (ops.toList.take (headS ops.toList)) 0 [] [] (fun _ => none) a

theorem regT_wp {P : Program} {id : Nat} {ops : Array Oper} {Q : Act → World → Prop} {Q' : Exit → Act → World → Prop} {a : Act} {w : World} (hm : P.follows .mixedOrders = true) (hd : P.types.size + Made.depth ≠ 0)
    (hok : Region.lexTailB .any ops (headS ops.toList) = true) (hq : ∀ a u d, Q a u → Q' .normal a (dr u d)) (h : regT P ops Q a w) (d : Nat) : (Code.region id ops true).wp P Q' a (dr w d) := by
  obtain ⟨Φ, hs, h⟩ := h
  have L : RelLaws (CW w) LeW (PhiW P ops Φ) := ⟨fun u u' hC hL => hC.trans (hL.mono hC.size), fun i v u u' _ hP hL => ⟨hP.1, hs _ _ _ _ hP.2 hL⟩⟩
  refine wp_region_tail (isV := isVal P) (headS ops.toList) L hm hok ⟨rfl, rfl, rfl, Nat.le_refl _, fun _ _ => rfl⟩ ?_
  have h2 := opsR_lexT (ops := ops) hd (fun i v u d hP => hs _ _ _ _ hP (below_dr (Below.refl _ _))) (ops.toList.take (headS ops.toList)) 0 [] [] (fun _ => none) a (fun j hj => by
    rw [List.getElem?_take, if_pos (by simp at hj; omega)]; simp) rfl (fun p j hj => by simp at hj) h
  have mono : ∀ (l : List Oper) (k : Nat) (vals : Vals) (a : Act) {G G' : Vals → Act → Prop}, (∀ vals a, G vals a → G' vals a) → lexT P ops .any (CW w) LeW (PhiW P ops Φ) (isVal P) G l k vals a → lexT P ops .any (CW w) LeW (PhiW P ops Φ) (isVal P) G' l k vals a := by
    intro l
    induction l with
    | nil => intro k vals a G G' hG hh; exact hG _ _ hh
    | cons o l ih =>
      intro k vals a G G' hG hh
      unfold lexT at hh ⊢
      split
      · rename_i hw
        rw [if_pos hw] at hh
        unfold relO at hh ⊢
        split
        · rename_i hv; rw [hv] at hh; obtain ⟨v, h1, h2⟩ := hh; exact ⟨v, h1, ih _ _ _ hG h2⟩
        · rename_i hv; rw [hv] at hh; exact ⟨hh.1, fun v hp => ih _ _ _ hG (hh.2 v hp)⟩
      · rename_i hw
        rw [if_neg hw] at hh
        exact ih _ _ _ hG hh
  refine mono _ _ _ _ (fun vals a hG u hC hF => ?_) h2
  have := opsN_list hd hq _ _ _ (hG u hC hF) u.drawn
  rwa [dr_self] at this

def regR (P : Program) (ops : Array Oper) (Q : Act → World → Prop) (a : Act) (w0 : World) : Prop :=
  ∃ Φ : Nat → Value → World → Prop, (∀ i v u u', Φ i v u → Below u.heap.size u u' → Φ i v u') ∧ opsR P ops w0 Φ Q ops.toList 0 [] [] (fun _ => none) a

theorem regR_wp {P : Program} {id : Nat} {ops : Array Oper} {Q : Act → World → Prop} {Q' : Exit → Act → World → Prop} {a : Act} {w : World} (hm : P.follows .mixedOrders = true) (hd : P.types.size + Made.depth ≠ 0)
    (hok : Region.lexB .any ops = true) (hq : ∀ a u d, Q a u → Q' .normal a (dr u d)) (h : regR P ops Q a w) (d : Nat) : (Code.region id ops true).wp P Q' a (dr w d) := by
  obtain ⟨Φ, hs, h⟩ := h
  have L : RelLaws (CW w) LeW (PhiW P ops Φ) := ⟨fun u u' hC hL => hC.trans (hL.mono hC.size), fun i v u u' _ hP hL => ⟨hP.1, hs _ _ _ _ hP.2 hL⟩⟩
  refine wp_region_rel (isV := isVal P) (Q := Q) L hm hok ⟨rfl, rfl, rfl, Nat.le_refl _, fun _ _ => rfl⟩ (fun a u _ hQ => ?_) (opsR_lex hd (fun i v u d hP => hs _ _ _ _ hP (below_dr (Below.refl _ _))) _ _ _ _ _ _ (by simp) rfl (fun p j hj => by simp at hj) h)
  have := hq _ _ u.drawn hQ
  rwa [dr_self] at this

def Lf.scal : Lf → Bool
  | .bool => true
  | .int _ => true
  | .float _ => true
  | .string => true
  | _ => false
/-- Are all effects calls that hand back plain numbers? -/
def scalB (P : Program) : List Oper → Bool
  | [] => true
  | o :: l => match isVal P o with
    | true => scalB P l
    | false => match o.op with
      | .call c => match c.callee with
        | .builtin _ => false
        | _ => match (lvs P 8 o.type).all Lf.scal with
          | true => scalB P l
          | false => false
      | _ => false

/-! ### code -/
/-- Notes beside code: which slots are kept where a part begins (whatever they say, what follows is sound). -/
inductive An where
  | nil
  | mk (keep : Option (List Nat)) (x y : An)

def An.fst : An → An
  | .nil => .nil
  | .mk _ x _ => x
def An.snd : An → An
  | .nil => .nil
  | .mk _ _ y => y
def An.keep : An → Option (List Nat)
  | .nil => none
  | .mk k _ _ => k

/-- The slots of a list (rising) as they are, the others by g. -/
def mixL (g : Nat → Value) : List Nat → Nat → List Value → List Value
  | _, _, [] => []
  | [], i, _ :: vs => g i :: mixL g [] (i + 1) vs
  | l :: ls, i, v :: vs => match Nat.beq i l with
    | true => v :: mixL g ls (i + 1) vs
    | false => g i :: mixL g (l :: ls) (i + 1) vs

def mix (L : List Nat) (g : Nat → Value) (a : Act) : Act := ⟨(mixL g L 0 a.tmps.toList).toArray, a.defers⟩
def clr (L : List Nat) (a : Act) : Act := mix L (fun _ => undef) a

theorem mixL_congr {g h : Nat → Value} : ∀ (vs : List Value) (L : List Nat) (i : Nat), (∀ j, i ≤ j → g j = h j) → mixL g L i vs = mixL h L i vs
  | [], L, i, _ => by cases L <;> rfl
  | v :: vs, [], i, hg => by
    simp only [mixL]
    rw [hg i (Nat.le_refl _), mixL_congr vs [] (i + 1) (fun j hj => hg j (by omega))]
  | v :: vs, l :: ls, i, hg => by
    simp only [mixL]
    rw [hg i (Nat.le_refl _), mixL_congr vs ls (i + 1) (fun j hj => hg j (by omega)), mixL_congr vs (l :: ls) (i + 1) (fun j hj => hg j (by omega))]

theorem mixL_back (h : Nat → Value) : ∀ (vs : List Value) (L : List Nat) (i : Nat), mixL (fun j => vs.getD (j - i) undef) L i (mixL h L i vs) = vs
  | [], L, i => by cases L <;> rfl
  | v :: vs, L, i => by
    have hc : ∀ j, i + 1 ≤ j → (v :: vs).getD (j - i) undef = vs.getD (j - (i + 1)) undef := by
      intro j hj
      rw [show j - i = (j - (i + 1)) + 1 by omega]
      rfl
    cases L with
    | nil =>
      simp only [mixL, Nat.sub_self, List.getD_cons_zero, List.cons.injEq, true_and]
      rw [mixL_congr _ _ _ hc]
      exact mixL_back h vs [] (i + 1)
    | cons l ls =>
      cases hb : Nat.beq i l with
      | true =>
        simp only [mixL, hb]
        rw [mixL_congr _ _ _ hc, mixL_back h vs ls (i + 1)]
      | false =>
        simp only [mixL, hb, Nat.sub_self, List.getD_cons_zero]
        rw [mixL_congr _ _ _ hc, mixL_back h vs (l :: ls) (i + 1)]

theorem mix_back (L : List Nat) (a : Act) : ∃ g, mix L g (clr L a) = a := by
  obtain ⟨⟨tm⟩, df⟩ := a
  exact ⟨_, by
    unfold mix clr mix
    simp only
    congr 1
    exact congrArg List.toArray (mixL_back (fun _ => undef) tm L 0)⟩

/-- A part of code begins, whatever stands in the slots that are not kept. -/
def startN (o : Option (List Nat)) (F : Act → World → Prop) (a : Act) (w : World) : Prop := match o with
  | none => F a w
  | some L => (fun a0 => ∀ g : Nat → Value, F (mix L g a0) w) (clr L a)

theorem startN_spec {o : Option (List Nat)} {F : Act → World → Prop} {a : Act} {w : World} (h : startN o F a w) : F a w := by
  cases o with
  | none => exact h
  | some L =>
    obtain ⟨g, hg⟩ := mix_back L a
    have := h g
    rwa [hg] at this

def loopN (L : List Nat) (body : (Exit → Act → World → Prop) → Act → World → Prop) (Q : Exit → Act → World → Prop) : Nat → Act → World → Prop
  | 0, _, _ => False
  | k + 1, a, w => ∀ g : Nat → Value, body (Exit.then (fun a w => loopN L body Q k (clr L a) w) Q) (mix L g a) w

def codeN (P : Program) : Code → An → (Exit → Act → World → Prop) → Act → World → Prop
  | .skip, _, Q, a, w => Q .normal a w
  | .region _ ops draw, _, Q, a, w => match okReg P ops draw with
    | true => opsN P ops (Q .normal) ops.toList a w
    | false => match Region.lexTailB .any ops (headS ops.toList) with
     | true => regT P ops (Q .normal) a w
     | false => match Region.lexB .any ops with
      | true => match scalB P ops.toList with
        | true => opsQ P ops w (Q .normal) ops.toList a
        | false => regR P ops (Q .normal) a w
      | false => False
  | .seq x y, n, Q, a, w => codeN P x n.fst (Exit.then (startN n.keep (codeN P y n.snd Q)) Q) a w
  | .cond c x y, n, Q, a, w => match a.eval c with
    | .bool b => onBool b (codeN P x n.fst Q a w) (codeN P y n.snd Q a w)
    | _ => False
  | .block id c, n, Q, a, w => codeN P c n.fst (Exit.inBlock id Q) a w
  | .loop c, n, Q, a, w => ∃ k, loopN (n.keep.getD []) (codeN P c n.fst) Q k (clr (n.keep.getD []) a) w
  | .exit id, _, Q, a, w => Q (.exit id) a w
  | .ret, _, Q, a, w => Q .ret a w
  | _, _, _, _, _ => False

/-- Up to draws. -/
def upD (Q : Exit → Act → World → Prop) : Exit → Act → World → Prop := fun e a w => ∃ u d, w = dr u d ∧ Q e a u

theorem Code.loop_rounds {P : Program} {c : Code} {n : An} {L : List Nat} {Q : Exit → Act → World → Prop} (step : ∀ (Q : Exit → Act → World → Prop) a w, codeN P c n Q a w → ∀ d, c.wp P (upD Q) a (dr w d)) :
    ∀ (k : Nat) (a : Act) (w : World), loopN L (codeN P c n) Q k (clr L a) w → ∀ d, ∀ (b : Frame) (kk : List Item) (cs : List Frame),
      ∃ e a' w', upD Q e a' w' ∧ Arrives P (lone (b.at a (.code c :: .inLoop c :: kk)) cs (dr w d)) b kk cs e a' w'
  | 0, _, _, h, _ => h.elim
  | k + 1, a, w, h, d => fun b kk cs => by
    obtain ⟨g, hg⟩ := mix_back L a
    have h := h g
    rw [hg] at h
    obtain ⟨e, a₁, w₁, ⟨u, d', hw, hq⟩, harr⟩ := step _ a w h d b (.inLoop c :: kk) cs
    subst hw
    cases e with
    | normal =>
      obtain ⟨e₂, a₂, w₂, hq₂, harr₂⟩ := Code.loop_rounds step k a₁ u hq d' b kk cs
      exact ⟨e₂, a₂, w₂, hq₂, .of_steps (Steps.trans harr (.one step_inLoop)) harr₂⟩
    | exit id => exact ⟨_, a₁, _, ⟨u, d', rfl, hq⟩, .pass (x := .inLoop c) rfl (fun _ _ => .inl (by simp)) harr⟩
    | goto l => exact ⟨_, a₁, _, ⟨u, d', rfl, hq⟩, .pass (x := .inLoop c) rfl (fun _ _ => .inl (by simp)) harr⟩
    | ret => exact ⟨_, a₁, _, ⟨u, d', rfl, hq⟩, .pass (x := .inLoop c) rfl (fun _ _ => .inl (by simp)) harr⟩
    | panic ch => exact ⟨_, a₁, _, ⟨u, d', rfl, hq⟩, .pass (x := .inLoop c) rfl (fun _ _ => .inl (by simp)) harr⟩
    | outgrown => exact ⟨_, a₁, _, ⟨u, d', rfl, hq⟩, .pass (x := .inLoop c) rfl (fun _ _ => .inl (by simp)) harr⟩

theorem codeN_wp {P : Program} (hm : P.follows .mixedOrders = true) (hd : P.types.size + Made.depth ≠ 0) : ∀ (c : Code) (n : An) (Q : Exit → Act → World → Prop) (a : Act) (w : World), codeN P c n Q a w → ∀ d, c.wp P (upD Q) a (dr w d)
  | .skip, n, Q, a, w, h, d => wp_skip ⟨w, d, rfl, h⟩
  | .region id ops draw, n, Q, a, w, h, d => by
    unfold codeN at h
    split at h
    · rename_i hok
      exact regN_wp hm hd hok (fun a u d hq => ⟨u, d, rfl, hq⟩) h d
    · rename_i hok
      cases draw with
      | false => cases hok
      | true =>
        split at h
        · rename_i htail
          exact regT_wp hm hd htail (fun a u d hq => ⟨u, d, rfl, hq⟩) h d
        · split at h
          · rename_i hlex
            split at h
            · exact regQ_wp hm hd hlex (fun a u d hq => ⟨u, d, rfl, hq⟩) h d
            · exact regR_wp hm hd hlex (fun a u d hq => ⟨u, d, rfl, hq⟩) h d
          · exact h.elim
  | .seq x y, n, Q, a, w, h, d => by
    refine wp_seq (wp_mono (codeN_wp hm hd x n.fst _ a w h d) ?_)
    rintro e a' w' ⟨u, d', rfl, hq⟩
    cases e with
    | normal => exact codeN_wp hm hd y n.snd Q a' u (startN_spec hq) d'
    | exit id => exact ⟨u, d', rfl, hq⟩
    | goto l => exact ⟨u, d', rfl, hq⟩
    | ret => exact ⟨u, d', rfl, hq⟩
    | panic ch => exact ⟨u, d', rfl, hq⟩
    | outgrown => exact ⟨u, d', rfl, hq⟩
  | .cond c x y, n, Q, a, w, h, d => by
    unfold codeN at h
    split at h
    · rename_i b hb
      rw [onBool_iff] at h
      refine wp_cond_split hb (fun ht => codeN_wp hm hd x n.fst Q a w (h.1 ht) d) (fun hf => codeN_wp hm hd y n.snd Q a w (h.2 hf) d)
    · exact h.elim
  | .block id c, n, Q, a, w, h, d => by
    refine wp_block (wp_mono (codeN_wp hm hd c n.fst _ a w h d) ?_)
    rintro e a' w' ⟨u, d', rfl, hq⟩
    cases e with
    | exit id' =>
      simp only [Exit.inBlock] at hq ⊢
      split
      · rename_i hid; rw [if_pos hid] at hq; exact ⟨u, d', rfl, hq⟩
      · rename_i hid; rw [if_neg hid] at hq; exact ⟨u, d', rfl, hq⟩
    | normal => exact ⟨u, d', rfl, hq⟩
    | goto l => exact ⟨u, d', rfl, hq⟩
    | ret => exact ⟨u, d', rfl, hq⟩
    | panic ch => exact ⟨u, d', rfl, hq⟩
    | outgrown => exact ⟨u, d', rfl, hq⟩
  | .loop c, n, Q, a, w, h, d => by
    obtain ⟨k, hk⟩ := h
    intro b kk cs
    obtain ⟨e, a', w', hq, harr⟩ := Code.loop_rounds (Q := Q) (fun Q a w h d => codeN_wp hm hd c n.fst Q a w h d) k a w hk d b kk cs
    exact ⟨e, a', w', hq, .of_steps (.one step_loop) harr⟩
  | .exit id, n, Q, a, w, h, d => wp_exit ⟨w, d, rfl, h⟩
  | .ret, n, Q, a, w, h, d => wp_ret ⟨w, d, rfl, h⟩
  | .scope _, _, _, _, _, h, _ => h.elim
  | .label _, _, _, _, _, h, _ => h.elim
  | .goto _, _, _, _, _, h, _ => h.elim
  | .rangeFunc .., _, _, _, _, h, _ => h.elim
  | .refuse _, _, _, _, _, h, _ => h.elim

end Go.E
