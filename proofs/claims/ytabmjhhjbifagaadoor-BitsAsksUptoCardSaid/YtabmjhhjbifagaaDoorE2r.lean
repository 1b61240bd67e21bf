/- Regions that draw their order, by facts of what each operation has yielded; sound for whatever program; no conditions. -/
import Derived.Test.YtabmjhhjbifagaaDoorE2
import Derived.Below
set_option linter.unusedVariables false
set_option linter.unusedSimpArgs false
namespace Go.E
open Go Go.RowKit

/-! ### regions in any order, whose operations only lay new blocks: facts of what each has yielded -/
abbrev Vals := Nat → Option Value
def up (vals : Vals) (i : Nat) (v : Value) : Vals := fun k => match Nat.beq k i with
  | true => some v
  | false => vals k
theorem up_self (vals : Vals) (i : Nat) (v : Value) : up vals i v i = some v := by unfold up; rw [show Nat.beq i i = true from Nat.beq_refl i]
theorem up_ne {vals : Vals} {i k : Nat} {v : Value} (h : k ≠ i) : up vals i v k = vals k := by
  unfold up
  cases hb : Nat.beq k i with
  | true => exact absurd (Nat.eq_of_beq_eq_true hb) h
  | false => rfl
theorem up_comm {vals : Vals} {i j : Nat} {v u : Value} (h : i ≠ j) : up (up vals i v) j u = up (up vals j u) i v := by
  funext k
  by_cases hi : k = i
  · subst hi; rw [up_ne h, up_self, up_self]
  · by_cases hj : k = j
    · subst hj; rw [up_self, up_ne hi, up_self]
    · rw [up_ne hj, up_ne hi, up_ne hi, up_ne hj]

inductive Anc (ops : Array Oper) (md : Region.Mode) : Nat → Nat → Prop where
  | base {j : Nat} {o : Oper} {e : Edge} : ops[j]? = some o → e ∈ o.after → Region.binds md e = true → Anc ops md e.on j
  | step {j k : Nat} {o : Oper} {e : Edge} : ops[j]? = some o → e ∈ o.after → Region.binds md e = true → Anc ops md k e.on → Anc ops md k j

def Dn (ops : Array Oper) (md : Region.Mode) (listed : Array Bool) : Prop :=
  ∀ k o, ops[k]? = some o → listed.getD k false = true → ∀ e ∈ o.after, Region.binds md e = true → listed.getD e.on false = true

theorem anc_listed {ops : Array Oper} {md : Region.Mode} {listed : Array Bool} (hd : Dn ops md listed) {k j : Nat} (h : Anc ops md k j) :
    (∀ o, ops[j]? = some o → ∀ e ∈ o.after, Region.binds md e = true → listed.getD e.on false = true) → listed.getD k false = true := by
  induction h with
  | base ho he hb => intro hj; exact hj _ ho _ he hb
  | step ho he hb h ih => intro hj; exact ih fun o' ho' => hd _ _ ho' (hj _ ho _ he hb)

theorem dn_set {ops : Array Oper} {md : Region.Mode} {listed : Array Bool} {i : Nat} (hd : Dn ops md listed) (hi : i ∈ Region.ready md ops listed) : Dn ops md (listed.setIfInBounds i true) := by
  intro k o ho hl e he hb
  refine getD_set_true ?_
  by_cases hki : k = i
  · subst hki
    obtain ⟨_, o', ho', hall⟩ := mem_ready.1 hi
    rw [ho] at ho'
    cases ho'
    exact hall e he hb
  · rw [getD_set_ne false (Ne.symm hki)] at hl
    exact hd k o ho hl e he hb

section
variable {P : Program} {ops : Array Oper} {md : Region.Mode} {C : World → Prop} {Le : World → World → Prop} {Φ : Nat → Value → World → Prop} {isV : Oper → Bool}

def Facts (Φ : Nat → Value → World → Prop) (vals : Vals) (u : World) : Prop := ∀ j v, vals j = some v → Φ j v u

def relUpon (P : Program) (Le : World → World → Prop) (Φ : Nat → Value → World → Prop) (i : Nat) (u : World) : Result Next → Prop
  | .ok (.value v) u' => Φ i v u' ∧ Le u u'
  | .ok .skip u' => Φ i undef u' ∧ Le u u'
  | .ok (.enter f args) u' => Calls P f args u' (fun e u'' => ∃ v, e = .returned v ∧ Φ i v u'' ∧ Le u u'')
  | _ => False

def condR (P : Program) (ops : Array Oper) (md : Region.Mode) (C : World → Prop) (Le : World → World → Prop) (Φ : Nat → Value → World → Prop) (o : Oper) (i : Nat) (vals : Vals) (a : Act) : Prop :=
  ∀ u, C u → (∀ j, Anc ops md j i → ∀ v, vals j = some v → Φ j v u) → relUpon P Le Φ i u ((execOp a.eval o).run P u)

def relO (P : Program) (ops : Array Oper) (md : Region.Mode) (C : World → Prop) (Le : World → World → Prop) (Φ : Nat → Value → World → Prop) (isV : Oper → Bool) (o : Oper) (i : Nat) (K : Vals → Act → Prop) (vals : Vals) (a : Act) : Prop :=
  match isV o with
  | true => ∃ v, (∀ u, C u → (execOp a.eval o).run P u = .ok (.value v) u) ∧ K vals (a.put o.dst v)
  | false => condR P ops md C Le Φ o i vals a ∧ ∀ v, (∃ u, C u ∧ Facts Φ (up vals i v) u) → K (up vals i v) (a.put o.dst v)

def rOp (P : Program) (ops : Array Oper) (md : Region.Mode) (C : World → Prop) (Le : World → World → Prop) (Φ : Nat → Value → World → Prop) (isV : Oper → Bool) (i : Nat) (K : Vals → Act → Prop) (vals : Vals) (a : Act) : Prop :=
  match ops[i]? with
  | none => K vals a
  | some o => if Region.wanted o (yielded ops a.tmps) then relO P ops md C Le Φ isV o i K vals a else K vals (a.put o.dst undef)

def wpAnyR (P : Program) (ops : Array Oper) (md : Region.Mode) (C : World → Prop) (Le : World → World → Prop) (Φ : Nat → Value → World → Prop) (isV : Oper → Bool) (Q : Act → World → Prop) : Nat → Array Bool → Vals → Act → Prop
  | 0, listed, vals, a => Region.ready md ops listed = [] ∧ ∀ u, C u → Facts Φ vals u → Q a u
  | fuel + 1, listed, vals, a => (Region.ready md ops listed = [] → ∀ u, C u → Facts Φ vals u → Q a u) ∧
    ∀ i ∈ Region.ready md ops listed, rOp P ops md C Le Φ isV i (wpAnyR P ops md C Le Φ isV Q fuel (listed.setIfInBounds i true)) vals a

structure RelLaws (C : World → Prop) (Le : World → World → Prop) (Φ : Nat → Value → World → Prop) : Prop where
  cls : ∀ u u', C u → Le u u' → C u'
  stable : ∀ i v u u', C u → Φ i v u → Le u u' → Φ i v u'

theorem facts_up {vals : Vals} {i : Nat} {v : Value} {u u' : World} (L : RelLaws C Le Φ) (hC : C u) (hF : Facts Φ vals u) (hv : Φ i v u') (hL : Le u u') : Facts Φ (up vals i v) u' := by
  intro j x hj
  by_cases hji : j = i
  · subst hji; rw [up_self] at hj; cases hj; exact hv
  · rw [up_ne hji] at hj; exact L.stable _ _ _ _ hC (hF j x hj) hL

/-- What an operation makes, one way at least. -/
theorem relUpon_ex {i : Nat} {u : World} {r : Result Next} (h : relUpon P Le Φ i u r) : ∃ v u', Φ i v u' ∧ Le u u' := by
  unfold relUpon at h
  split at h
  · exact ⟨_, _, h⟩
  · exact ⟨_, _, h⟩
  · obtain ⟨e, w', fr, ⟨v, _, h1, h2⟩, _⟩ := h []
    exact ⟨v, w', h1, h2⟩
  · exact h.elim

theorem condR_ex {o : Oper} {i : Nat} {vals : Vals} {a : Act} (L : RelLaws C Le Φ) (hn : ∃ u, C u ∧ Facts Φ vals u) (h : condR P ops md C Le Φ o i vals a) : ∃ v, ∃ u, C u ∧ Facts Φ (up vals i v) u := by
  obtain ⟨u, hC, hF⟩ := hn
  obtain ⟨v, u', h1, h2⟩ := relUpon_ex (h u hC fun j _ x hx => hF j x hx)
  exact ⟨v, u', L.cls _ _ hC h2, facts_up L hC hF h1 h2⟩

theorem condR_congr {o : Oper} {i : Nat} {vals vals' : Vals} {a a' : Act} (he : execOp a'.eval o = execOp a.eval o) (hv : ∀ j, Anc ops md j i → vals' j = vals j) (h : condR P ops md C Le Φ o i vals a) : condR P ops md C Le Φ o i vals' a' := by
  intro u hC hF
  rw [he]
  exact h u hC fun j hj x hx => hF j hj x (by rw [hv j hj]; exact hx)

theorem rOp_mono {i : Nat} {K K' : Vals → Act → Prop} {vals : Vals} {a : Act} (hn : ∃ u, C u ∧ Facts Φ vals u)
    (hk : ∀ vals' a', (∃ u, C u ∧ Facts Φ vals' u) → (∀ k, k ≠ i → vals' k = vals k) → K vals' a' → K' vals' a') (h : rOp P ops md C Le Φ isV i K vals a) : rOp P ops md C Le Φ isV i K' vals a := by
  unfold rOp at *
  split
  · rename_i ho; rw [ho] at h; exact hk _ _ hn (fun _ _ => rfl) h
  · rename_i o ho
    rw [ho] at h
    simp only at h
    split
    · rename_i hw
      rw [if_pos hw] at h
      unfold relO at *
      split
      · rename_i hv; rw [hv] at h; obtain ⟨v, h1, h2⟩ := h; exact ⟨v, h1, hk _ _ hn (fun _ _ => rfl) h2⟩
      · rename_i hv; rw [hv] at h; exact ⟨h.1, fun v hp => hk _ _ hp (fun k hk => up_ne hk) (h.2 v hp)⟩
    · rename_i hw
      rw [if_neg hw] at h
      exact hk _ _ hn (fun _ _ => rfl) h

theorem rOp_ex {i : Nat} {K : Vals → Act → Prop} {vals : Vals} {a : Act} (L : RelLaws C Le Φ) (hn : ∃ u, C u ∧ Facts Φ vals u) (h : rOp P ops md C Le Φ isV i K vals a) : ∃ vals' a', K vals' a' := by
  unfold rOp at h
  split at h
  · exact ⟨_, _, h⟩
  · split at h
    · unfold relO at h
      split at h
      · obtain ⟨v, _, h2⟩ := h; exact ⟨_, _, h2⟩
      · obtain ⟨v, hp⟩ := condR_ex L hn h.1; exact ⟨_, _, h.2 v hp⟩
    · exact ⟨_, _, h⟩

theorem facts_drop {vals : Vals} {i j : Nat} {v x : Value} {u : World} (hij : i ≠ j) (hj : vals j = none) (h : Facts Φ (up (up vals j x) i v) u) : Facts Φ (up vals i v) u := by
  intro k y hk
  by_cases hki : k = i
  · subst hki; rw [up_self] at hk; exact h k y (by rw [up_self]; exact hk)
  · rw [up_ne hki] at hk
    refine h k y ?_
    rw [up_ne hki]
    by_cases hkj : k = j
    · subst hkj; rw [hj] at hk; cases hk
    · rw [up_ne hkj]; exact hk

/-- Two operations, apart: which comes first makes no difference. -/
theorem rOp_swap {i j : Nat} {oi oj : Oper} {W : Vals → Act → Prop} {vals : Vals} {a : Act} (L : RelLaws C Le Φ) (hi : ops[i]? = some oi) (hj : ops[j]? = some oj) (hij : i ≠ j)
    (hap : oi.apart ops oj = true) (hsi : ∀ cs b, oi.op ≠ .select cs b) (hsj : ∀ cs b, oj.op ≠ .select cs b) (hvi : vals i = none) (hvj : vals j = none)
    (hai : ¬ Anc ops md i j) (haj : ¬ Anc ops md j i) (hn : ∃ u, C u ∧ Facts Φ vals u)
    (H : rOp P ops md C Le Φ isV i (rOp P ops md C Le Φ isV j W) vals a) : rOp P ops md C Le Φ isV j (rOp P ops md C Le Φ isV i W) vals a := by
  obtain ⟨h1, h2, h3⟩ := Oper.apart_spec hap
  have ej : ∀ (a : Act) v, execOp (a.put oi.dst v).eval oj = execOp a.eval oj := fun a v => execOp_put oj hsj a oi.dst v h1
  have ei : ∀ (a : Act) v, execOp (a.put oj.dst v).eval oi = execOp a.eval oi := fun a v => execOp_put oi hsi a oj.dst v h3
  have wj : ∀ (a : Act) v, Region.wanted oj (yielded ops (a.put oi.dst v).tmps) = Region.wanted oj (yielded ops a.tmps) := fun a v => wanted_put oj a oi.dst v h1
  have wi : ∀ (a : Act) v, Region.wanted oi (yielded ops (a.put oj.dst v).tmps) = Region.wanted oi (yielded ops a.tmps) := fun a v => wanted_put oi a oj.dst v h3
  have pc : ∀ (a : Act) v u, (a.put oi.dst v).put oj.dst u = (a.put oj.dst u).put oi.dst v := fun a v u => Act.put_comm a v u h2
  obtain ⟨u0, hC0, hF0⟩ := hn
  have ancj : ∀ v k, Anc ops md k j → up vals i v k = vals k := fun v k hk => up_ne fun h => hai (h ▸ hk)
  have anci : ∀ v k, Anc ops md k i → up vals j v k = vals k := fun v k hk => up_ne fun h => haj (h ▸ hk)
  unfold rOp at H ⊢
  simp only [hi, hj, wi, wj] at H ⊢
  unfold relO at H ⊢
  simp only [ei, ej, wi, wj] at H ⊢
  by_cases hwi : Region.wanted oi (yielded ops a.tmps) = true <;> by_cases hwj : Region.wanted oj (yielded ops a.tmps) = true <;> simp only [hwi, hwj, if_true, if_false] at H ⊢
  · cases hti : isV oi <;> cases htj : isV oj <;> simp only [hti, htj] at H ⊢
    · obtain ⟨ci, H⟩ := H
      obtain ⟨v0, hp0⟩ := condR_ex L ⟨u0, hC0, hF0⟩ ci
      obtain ⟨cj, _⟩ := H v0 hp0
      refine ⟨condR_congr (a := a.put oi.dst v0) (ej a v0).symm (fun k hk => (ancj v0 k hk).symm) cj, fun vj hpj => ⟨condR_congr (ei a vj) (fun k hk => anci vj k hk) ci, fun vi hpi => ?_⟩⟩
      obtain ⟨u, hC, hF⟩ := hpi
      have := (H vi ⟨u, hC, facts_drop hij hvj hF⟩).2 vj ⟨u, hC, by rw [up_comm hij]; exact hF⟩
      rwa [up_comm hij, pc] at this
    · obtain ⟨ci, H⟩ := H
      obtain ⟨v0, hp0⟩ := condR_ex L ⟨u0, hC0, hF0⟩ ci
      obtain ⟨vj, ejv, _⟩ := H v0 hp0
      refine ⟨vj, ejv, condR_congr (ei a vj) (fun _ _ => rfl) ci, fun vi hpi => ?_⟩
      obtain ⟨vj', ejv', hW⟩ := H vi hpi
      have : vj' = vj := by
        have e1 := ejv u0 hC0
        have e2 := ejv' u0 hC0
        rw [e1] at e2
        simpa using e2.symm
      subst this
      rwa [pc] at hW
    · obtain ⟨vi, eiv, cj, H⟩ := H
      refine ⟨condR_congr (a := a.put oi.dst vi) (ej a vi).symm (fun _ _ => rfl) cj, fun vj hpj => ⟨vi, eiv, ?_⟩⟩
      have := H vj hpj
      rwa [pc] at this
    · obtain ⟨vi, eiv, vj, ejv, H⟩ := H
      exact ⟨vj, ejv, vi, eiv, by rwa [pc] at H⟩
  · cases hti : isV oi <;> simp only [hti] at H ⊢
    · obtain ⟨ci, H⟩ := H
      exact ⟨condR_congr (ei a undef) (fun _ _ => rfl) ci, fun vi hpi => by have := H vi hpi; simp only [Bool.false_eq_true, if_false] at this; rwa [pc] at this⟩
    · obtain ⟨vi, eiv, H⟩ := H
      simp only [Bool.false_eq_true, if_false] at H
      exact ⟨vi, eiv, by rwa [pc] at H⟩
  · cases htj : isV oj <;> simp only [htj, Bool.false_eq_true, if_false] at H ⊢
    · obtain ⟨cj, H⟩ := H
      refine ⟨condR_congr (a := a.put oi.dst undef) (ej a undef).symm (fun _ _ => rfl) cj, fun vj hpj => ?_⟩
      have := H vj hpj
      rwa [pc] at this
    · obtain ⟨vj, ejv, H⟩ := H
      exact ⟨vj, ejv, by rwa [pc] at H⟩
  · simp only [Bool.false_eq_true, if_false] at H ⊢
    rwa [pc] at H

theorem wpAnyR_first {Q : Act → World → Prop} {i : Nat} {oi : Oper} (L : RelLaws C Le Φ) (hi : ops[i]? = some oi) (hsel : ∀ (j : Nat) (o : Oper) cs b, ops[j]? = some o → o.op ≠ .select cs b) :
    ∀ (fuel : Nat) (listed : Array Bool) (vals : Vals) (a : Act),
      (∀ j oj, ops[j]? = some oj → j ≠ i → listed.getD j true = false → (∀ e ∈ oj.after, Region.binds md e = true → e.on ≠ i) → oi.apart ops oj = true) →
      i ∈ Region.ready md ops listed → Dn ops md listed → (∀ k, listed.getD k true = false → vals k = none) → (∃ u, C u ∧ Facts Φ vals u) →
      rOp P ops md C Le Φ isV i (wpAnyR P ops md C Le Φ isV Q fuel (listed.setIfInBounds i true)) vals a → wpAnyR P ops md C Le Φ isV Q (fuel + 1) listed vals a := by
  intro fuel
  induction fuel with
  | zero =>
    intro listed vals a _ hr _ _ hn H
    refine ⟨fun h => (by rw [h] at hr; cases hr), fun j hj => ?_⟩
    by_cases hji : j = i
    · subst hji; exact H
    · obtain ⟨_, _, h0⟩ := rOp_ex L hn H
      have := ready_mono hj hji
      rw [h0.1] at this
      cases this
  | succ fuel ih =>
    intro listed vals a hfree hr hdn hnone hn H
    refine ⟨fun h => (by rw [h] at hr; cases hr), fun j hj => ?_⟩
    by_cases hji : j = i
    · subst hji; exact H
    · obtain ⟨hjun, oj, hoj, hall⟩ := mem_ready.1 hj
      obtain ⟨hiun, oi', hoi', halli⟩ := mem_ready.1 hr
      rw [hi] at hoi'
      cases hoi'
      have flip : ∀ k, listed.getD k true = false → listed.getD k false = true → False := by
        intro k h0 h1
        rcases Nat.lt_or_ge k listed.size with h' | h'
        · simp [h'] at h0 h1; rw [h0] at h1; cases h1
        · simp [Array.getElem?_eq_none h'] at h1
      have hnot : ∀ e ∈ oj.after, Region.binds md e = true → e.on ≠ i := fun e he hb heq => flip i hiun (by have := hall e he hb; rwa [heq] at this)
      have hai : ¬ Anc ops md i j := fun h => flip i hiun (anc_listed hdn h fun o ho => by rw [hoj] at ho; cases ho; exact hall)
      have haj : ¬ Anc ops md j i := fun h => flip j hjun (anc_listed hdn h fun o ho => by rw [hi] at ho; cases ho; exact halli)
      have H2 : rOp P ops md C Le Φ isV i (rOp P ops md C Le Φ isV j (wpAnyR P ops md C Le Φ isV Q fuel ((listed.setIfInBounds i true).setIfInBounds j true))) vals a :=
        rOp_mono hn (fun vals' a' _ _ h => h.2 j (ready_mono hj hji)) H
      have H3 := rOp_swap L hi hoj (Ne.symm hji) (hfree j oj hoj hji hjun hnot) (fun cs b => hsel i oi cs b hi) (fun cs b => hsel j oj cs b hoj) (hnone i hiun) (hnone j hjun) hai haj hn H2
      refine rOp_mono hn (fun vals' a' hn' hv' h => ?_) H3
      have hfree' : ∀ k ok, ops[k]? = some ok → k ≠ i → (listed.setIfInBounds j true).getD k true = false →
          (∀ e ∈ ok.after, Region.binds md e = true → e.on ≠ i) → oi.apart ops ok = true := fun k ok hk hki hun hno => by
        refine hfree k ok hk hki ?_ hno
        by_cases hjk : j = k
        · subst hjk; exact hjun
        · rw [getD_set_ne true hjk] at hun; exact hun
      refine ih (listed.setIfInBounds j true) vals' a' hfree' (ready_mono hr (Ne.symm hji)) (dn_set hdn hj) (fun k hk => ?_) hn' ?_
      · by_cases hjk : j = k
        · subst hjk
          exfalso
          rcases Nat.lt_or_ge j listed.size with h' | h'
          · rw [Array.getD_eq_getD_getElem?, Array.getElem?_setIfInBounds_self_of_lt h'] at hk
            cases hk
          · rw [Array.getD_eq_getD_getElem?, Array.getElem?_eq_none (by simpa using h')] at hk
            cases hk
        · rw [getD_set_ne true hjk] at hk
          rw [hv' k (Ne.symm hjk)]
          exact hnone k hk
      · rw [Array.setIfInBounds_comm _ _ hji]
        exact h

def lexR (P : Program) (ops : Array Oper) (md : Region.Mode) (C : World → Prop) (Le : World → World → Prop) (Φ : Nat → Value → World → Prop) (isV : Oper → Bool) (Q : Act → World → Prop) : List Oper → Nat → Vals → Act → Prop
  | [], _, vals, a => ∀ u, C u → Facts Φ vals u → Q a u
  | o :: l, k, vals, a => if Region.wanted o (yielded ops a.tmps) then relO P ops md C Le Φ isV o k (lexR P ops md C Le Φ isV Q l (k + 1)) vals a else lexR P ops md C Le Φ isV Q l (k + 1) vals (a.put o.dst undef)

theorem wpAnyR_lex {Q : Act → World → Prop} (L : RelLaws C Le Φ) (hs : Region.noSelect ops = true) : ∀ (l : List Oper) (k : Nat) (listed : Array Bool) (vals : Vals) (a : Act), (∀ j, l[j]? = ops[k + j]?) →
    Region.lexFrom md ops l.length k listed = true → Dn ops md listed → (∀ k, listed.getD k true = false → vals k = none) → (∃ u, C u ∧ Facts Φ vals u) →
    lexR P ops md C Le Φ isV Q l k vals a → wpAnyR P ops md C Le Φ isV Q l.length listed vals a
  | [], _, _, _, _, _, hB, _, _, _, h => ⟨by simpa [Region.lexFrom] using hB, h⟩
  | o :: l, k, listed, vals, a, hl, hB, hdn, hnone, hn, h => by
    have h0 : ops[k]? = some o := by simpa using (hl 0).symm
    simp only [List.length_cons, Region.lexFrom, Bool.and_eq_true] at hB
    obtain ⟨⟨hr, hf⟩, hB'⟩ := hB
    have hr' : k ∈ Region.ready md ops listed := by simpa using hr
    have hst : rOp P ops md C Le Φ isV k (lexR P ops md C Le Φ isV Q l (k + 1)) vals a := by unfold rOp; simp only [h0]; exact h
    refine wpAnyR_first L h0 (Region.noSelect_spec hs) l.length listed vals a (Region.free_spec h0 hf) hr' hdn hnone hn (rOp_mono hn (fun vals' a' hn' hv' h' => ?_) hst)
    refine wpAnyR_lex L hs l (k + 1) _ _ _ (fun j => by have := hl (j + 1); simpa [Nat.add_assoc, Nat.add_comm 1 j] using this) hB' (dn_set hdn hr') (fun j hj => ?_) hn' h'
    by_cases hjk : k = j
    · subst hjk
      exfalso
      rcases Nat.lt_or_ge k listed.size with h' | h'
      · rw [Array.getD_eq_getD_getElem?, Array.getElem?_setIfInBounds_self_of_lt h'] at hj
        cases hj
      · rw [Array.getD_eq_getD_getElem?, Array.getElem?_eq_none (by simpa using h')] at hj
        cases hj
    · rw [getD_set_ne true hjk] at hj
      rw [hv' j (Ne.symm hjk)]
      exact hnone j hj

theorem wp_of_relO {o : Oper} {i : Nat} {K : Vals → Act → Prop} {vals : Vals} {a : Act} {u : World} {K' : Act → World → Prop} {Q' : Exit → Act → World → Prop} (L : RelLaws C Le Φ) (hC : C u) (hF : Facts Φ vals u)
    (hk : ∀ vals' a' u', C u' → Facts Φ vals' u' → K vals' a' → K' a' u') (h : relO P ops md C Le Φ isV o i K vals a) : o.wp P a u K' Q' := by
  unfold relO at h
  unfold Oper.wp
  split at h
  · obtain ⟨v, hr, hK⟩ := h
    rw [hr u hC]
    exact hk _ _ _ hC hF hK
  · obtain ⟨hc, hK⟩ := h
    have hc := hc u hC fun j _ x hx => hF j x hx
    generalize (execOp a.eval o).run P u = r at *
    cases r with
    | ok n u' =>
      cases n <;> simp only [relUpon] at hc <;> simp only [Oper.upon]
      case value v => exact hk _ _ _ (L.cls _ _ hC hc.2) (facts_up L hC hF hc.1 hc.2) (hK v ⟨u', L.cls _ _ hC hc.2, facts_up L hC hF hc.1 hc.2⟩)
      case skip => exact hk _ _ _ (L.cls _ _ hC hc.2) (facts_up L hC hF hc.1 hc.2) (hK undef ⟨u', L.cls _ _ hC hc.2, facts_up L hC hF hc.1 hc.2⟩)
      case enter f args =>
        refine hc.mono fun e u'' ⟨v, he, h1, h2⟩ => ?_
        subst he
        exact hk _ _ _ (L.cls _ _ hC h2) (facts_up L hC hF h1 h2) (hK v ⟨u'', L.cls _ _ hC h2, facts_up L hC hF h1 h2⟩)
    | halt x u' => simp only [relUpon] at hc

theorem wpAny_of_rel {Q : Act → World → Prop} {Q' : Exit → Act → World → Prop} (L : RelLaws C Le Φ) (hQ : ∀ a u, C u → Q a u → Q' .normal a u) : ∀ (fuel : Nat) (listed : Array Bool) (vals : Vals) (a : Act) (u : World), C u → Facts Φ vals u →
    wpAnyR P ops md C Le Φ isV Q fuel listed vals a → wpAny P md ops Q' fuel listed a u
  | 0, _, _, _, _, hC, hF, h => ⟨h.1, hQ _ _ hC (h.2 _ hC hF)⟩
  | fuel + 1, listed, vals, a, u, hC, hF, h => ⟨fun h0 => hQ _ _ hC (h.1 h0 _ hC hF), fun i hi => by
    have h := h.2 i hi
    unfold rOp at h
    unfold wpOp
    split at h
    · rename_i ho; rw [ho]; exact wpAny_of_rel L hQ fuel _ _ _ _ hC hF h
    · rename_i o ho
      rw [ho]
      simp only
      split at h
      · rename_i hw
        rw [if_pos hw]
        exact .inl (wp_of_relO L hC hF (fun vals' a' u' hC' hF' hK => wpAny_of_rel L hQ fuel _ _ _ _ hC' hF' hK) h)
      · rename_i hw
        rw [if_neg hw]
        exact wpAny_of_rel L hQ fuel _ _ _ _ hC hF h⟩

/-- A region in any order, by facts. -/
theorem wp_region_rel {id : Nat} {Q : Act → World → Prop} {Q' : Exit → Act → World → Prop} {a : Act} {w : World} (L : RelLaws C Le Φ) (hm : P.follows .mixedOrders = true) (hB : Region.lexB .any ops = true) (hC : C { w with drawn := w.drawn + 1 })
    (hQ : ∀ a u, C u → Q a u → Q' .normal a u) (h : lexR P ops .any C Le Φ isV Q ops.toList 0 (fun _ => none) a) : (Code.region id ops true).wp P Q' a w := by
  simp only [Region.lexB, Bool.and_eq_true] at hB
  refine wp_region_any hm (wpAny_of_rel (isV := isV) (vals := fun _ => none) L hQ _ _ _ _ hC (fun j v hj => by cases hj) ?_)
  have := wpAnyR_lex (P := P) (md := .any) (isV := isV) (Q := Q) L hB.1 ops.toList 0 (Array.replicate ops.size false) (fun _ => none) a (by simp) (by simpa using hB.2)
    (fun k o ho hl => by rw [getD_replicate_false] at hl; cases hl) (fun _ _ => rfl) ⟨_, hC, fun j v hj => by cases hj⟩ h
  simpa using this
end
end Go.E
