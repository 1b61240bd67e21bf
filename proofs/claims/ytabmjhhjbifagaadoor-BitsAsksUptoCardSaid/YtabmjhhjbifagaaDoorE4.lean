/- A function's weakest precondition as a proposition, sound for whatever program under mixed orders. -/
import Derived.Test.YtabmjhhjbifagaaDoorE3
import Derived.KernelRfl
set_option linter.unusedVariables false
set_option linter.unusedSimpArgs false
namespace Go.E
open Go Go.RowKit

def resL (P : Program) : List ResultVar → Array Value → World → (List Value → Prop) → Prop
  | [], _, _, K => K []
  | .tmp t :: rs, tm, w, K => resL P rs tm w fun vs => K (tm.getD t undef :: vs)
  | .cell a t :: rs, tm, w, K => ptrN (tm.getD a undef) fun ad => ldT P t w ad fun v => resL P rs tm w fun vs => K (v :: vs)

def resV : List Value → Value
  | [v] => v
  | vs => .tuple vs.toArray

/-- What a function's end asks. -/
def fin (P : Program) (fn : Func) (R : Value → World → Prop) : Exit → Act → World → Prop
  | .normal, a, u | .ret, a, u => match a.defers with
    | [] => resL P fn.results.toList a.tmps u fun vs => R (resV vs) u
    | _ => False
  | _, _, _ => False

def codeOf (fn : Func) : Code := match fn.body with
  | some c => c
  | none => .refuse ""

def frame0 (fn : Func) (args : Array Value) : Act := ⟨args ++ Array.replicate (fn.ntmps - args.size) undef, []⟩

def fnN (P : Program) (fn : Func) (n : An) (args : Array Value) (w : World) (R : Value → World → Prop) : Prop :=
  codeN P (codeOf fn) n (fin P fn R) (frame0 fn args) w

def resS (tm : Array Value) : ResultVar → Sem Value
  | .tmp t => pure (tm.getD t undef)
  | .cell a t => do loadVar t (← asAddr (tm.getD a undef))

theorem resL_run {P : Program} {w : World} : ∀ (rs : List ResultVar) (tm : Array Value) (K : List Value → Prop), resL P rs tm w K →
    ∃ vs, (∀ d, (rs.mapM (resS tm)).run P (dr w d) = .ok vs (dr w d)) ∧ K vs
  | [], tm, K, h => ⟨[], fun _ => rfl, h⟩
  | .tmp t :: rs, tm, K, h => by
    obtain ⟨vs, hr, hK⟩ := resL_run rs tm _ h
    refine ⟨_, fun d => ?_, hK⟩
    rw [List.mapM_cons, run_bind' P _ _ _ _ (tm.getD t undef) rfl, run_bind' P _ _ _ _ _ (hr d)]
    rfl
  | .cell a t :: rs, tm, K, h => by
    unfold resL at h
    obtain ⟨ad, ha, h⟩ := ptrN_spec h
    obtain ⟨v, hv, h⟩ := ldT_run h
    obtain ⟨vs, hr, hK⟩ := resL_run rs tm _ h
    refine ⟨_, fun d => ?_, hK⟩
    rw [List.mapM_cons, run_bind' P _ _ _ (dr w d) v (by
      unfold resS
      simp only [ha]
      rw [run_bind' P _ _ _ _ ad rfl]
      exact hv (Kp.dr w d)), run_bind' P _ _ _ _ _ (hr d)]
    rfl

theorem fin_post {P : Program} {fn : Func} {R : Value → World → Prop} {e : Exit} {a : Act} {u : World} (h : fin P fn R e a u) (d : Nat) :
    bodyPost P fn (fun e w' => ∃ v u d', e = .returned v ∧ w' = dr u d' ∧ R v u) e a (dr u d) := by
  have go : (match a.defers with | [] => resL P fn.results.toList a.tmps u fun vs => R (resV vs) u | _ => False) →
      a.defers = [] ∧ ∃ v, (results fn a.tmps).run P (dr u d) = .ok v (dr u d) ∧ ∃ v' u' d', Ending.returned v = .returned v' ∧ dr u d = dr u' d' ∧ R v' u' := by
    intro h
    split at h
    · rename_i hdf
      obtain ⟨vs, hr, hK⟩ := resL_run _ _ _ h
      refine ⟨hdf, resV vs, ?_, _, _, _, rfl, rfl, hK⟩
      have e : results fn a.tmps = (do
          let vs ← fn.results.mapM (resS a.tmps)
          pure (if h : vs.size = 1 then vs[0] else .tuple vs)) := by
        unfold results
        congr 1
      rw [e, Array.mapM_eq_mapM_toList]
      have := hr d
      rw [Sem.run_bind, Sem.run_map, this]
      simp only [Result.andThen_ok, Sem.run_pure]
      congr 1
      match vs with
      | [] => rfl
      | [v] => rfl
      | v :: v2 :: vs => rfl
    · exact h.elim
  cases e with
  | normal => exact go h
  | ret => exact go h
  | exit id => exact h.elim
  | goto l => exact h.elim
  | panic c => exact h.elim
  | outgrown => exact h.elim

theorem callsD_of {P : Program} {f : FuncId} {fn : Func} {n : An} {args : Array Value} {w : World} {R : Value → World → Prop} (hm : P.follows .mixedOrders = true) (hd : P.types.size + Made.depth ≠ 0)
    (hf : P.funcs[f]? = some fn) (hb : fn.body.isSome = true) (h : fnN P fn n args w R) : CallsD P f args w R := by
  intro d
  obtain ⟨c, hc⟩ := Option.isSome_iff_exists.1 hb
  refine calls_of_wp hf hc (wp_mono (codeN_wp hm hd c n _ _ w (by unfold fnN codeOf at h; rw [hc] at h; exact h) d) ?_)
  rintro e a w' ⟨u, d', rfl, hq⟩
  exact fin_post hq d'

/-- A piece of code: 0 the first part, 1 the second. -/
def sub : Code → List Nat → Code
  | c, [] => c
  | .seq x _, 0 :: p => sub x p
  | .seq _ y, (_ + 1) :: p => sub y p
  | .cond _ x _, 0 :: p => sub x p
  | .cond _ _ y, (_ + 1) :: p => sub y p
  | .block _ x, _ :: p => sub x p
  | .loop x, _ :: p => sub x p
  | c, _ => c

def nsub : An → List Nat → An
  | n, [] => n
  | .mk _ x _, 0 :: p => nsub x p
  | .mk _ _ y, (_ + 1) :: p => nsub y p
  | .nil, _ => .nil

/-- The world has a new name. -/
def nw (w : World) (K : World → Prop) : Prop := K w

/-- A package-level variable. -/
def gAt (n : Nat) : Addr := ⟨n, 0, none⟩

/-- Where the next block lies. -/
def na (w : World) : Addr := ⟨w.heap.size, 0, none⟩

end Go.E
