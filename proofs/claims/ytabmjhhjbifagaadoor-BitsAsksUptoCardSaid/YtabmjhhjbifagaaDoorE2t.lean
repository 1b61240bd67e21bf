/- Part of a proof of laws of the seat YtabmjhhjbifagaaDoor: functions' weakest preconditions, each checked by the kernel, and contracts out of them; no conditions. -/
import Derived.Test.YtabmjhhjbifagaaDoorE2r
import Derived.StillTail
set_option linter.unusedVariables false
set_option linter.unusedSimpArgs false
namespace Go.E
open Go Go.RowKit

/-! ### a head in any order, by facts; a tail in forced order -/
section
variable {P : Program} {ops : Array Oper} {md : Region.Mode} {C : World → Prop} {Le : World → World → Prop} {Φ : Nat → Value → World → Prop} {isV : Oper → Bool}

def wpAnyT (P : Program) (ops : Array Oper) (md : Region.Mode) (C : World → Prop) (Le : World → World → Prop) (Φ : Nat → Value → World → Prop) (isV : Oper → Bool) (n : Nat) (L : Array Bool → Vals → Act → Prop) : Nat → Array Bool → Vals → Act → Prop
  | 0, listed, vals, a => L listed vals a
  | f + 1, listed, vals, a => Region.ready md ops listed ≠ [] ∧ ∀ i ∈ Region.ready md ops listed, i < n ∧ rOp P ops md C Le Φ isV i (wpAnyT P ops md C Le Φ isV n L f (listed.setIfInBounds i true)) vals a

theorem wpAny_of_relT {n g : Nat} {L : Array Bool → Vals → Act → Prop} {Q' : Exit → Act → World → Prop} (W : RelLaws C Le Φ) (hL : ∀ listed vals a u, L listed vals a → C u → Facts Φ vals u → wpAny P md ops Q' g listed a u) :
    ∀ (f : Nat) (listed : Array Bool) (vals : Vals) (a : Act) (u : World), C u → Facts Φ vals u → wpAnyT P ops md C Le Φ isV n L f listed vals a → wpAny P md ops Q' (f + g) listed a u
  | 0, listed, vals, a, u, hC, hF, h => by rw [Nat.zero_add]; exact hL _ _ _ _ h hC hF
  | f + 1, listed, vals, a, u, hC, hF, h => by
    rw [show f + 1 + g = (f + g) + 1 by omega]
    refine ⟨fun h0 => absurd h0 h.1, fun i hi => ?_⟩
    have h := (h.2 i hi).2
    unfold rOp at h
    unfold wpOp
    split at h
    · rename_i ho; rw [ho]; exact wpAny_of_relT W hL f _ _ _ _ hC hF h
    · rename_i o ho
      rw [ho]
      simp only
      split at h
      · rename_i hw
        rw [if_pos hw]
        exact .inl (wp_of_relO W hC hF (fun vals' a' u' hC' hF' hK => wpAny_of_relT W hL f _ _ _ _ hC' hF' hK) h)
      · rename_i hw
        rw [if_neg hw]
        exact wpAny_of_relT W hL f _ _ _ _ hC hF h

theorem wpAnyT_first {n i : Nat} {oi : Oper} {L : Array Bool → Vals → Act → Prop} (W : RelLaws C Le Φ) (hi : ops[i]? = some oi) (hsel : ∀ (j : Nat) (o : Oper) cs b, ops[j]? = some o → o.op ≠ .select cs b)
    (hs : Region.sinkB md ops n = true) (hc : Region.chainB md ops n = true) (hn : n < ops.size) (hin : i < n)
    (hdone : ∀ listed vals a, L listed vals a → ∀ j ∈ Region.ready md ops listed, n ≤ j) :
    ∀ (fuel : Nat) (listed : Array Bool) (vals : Vals) (a : Act), HeadInv md ops n listed →
      (∀ j oj, ops[j]? = some oj → j ≠ i → listed.getD j true = false → (∀ e ∈ oj.after, Region.binds md e = true → e.on ≠ i) → oi.apart ops oj = true) →
      i ∈ Region.ready md ops listed → Dn ops md listed → (∀ k, listed.getD k true = false → vals k = none) → (∃ u, C u ∧ Facts Φ vals u) →
      rOp P ops md C Le Φ isV i (wpAnyT P ops md C Le Φ isV n L fuel (listed.setIfInBounds i true)) vals a → wpAnyT P ops md C Le Φ isV n L (fuel + 1) listed vals a := by
  intro fuel
  induction fuel with
  | zero =>
    intro listed vals a inv _ hr hdn hnone hne H
    have hun := (mem_ready.1 hr).1
    refine ⟨fun h => (by rw [h] at hr; cases hr), fun j hj => ?_⟩
    have hjn : j < n := by
      rcases Nat.lt_or_ge j n with h | h
      · exact h
      · exact absurd hj (tail_waits hs hc hn inv _ i rfl hin hun j h)
    refine ⟨hjn, ?_⟩
    by_cases hji : j = i
    · subst hji; exact H
    · obtain ⟨vals', a', h0⟩ := rOp_ex W hne H
      have := hdone _ _ _ h0 j (ready_mono hj hji)
      omega
  | succ fuel ih =>
    intro listed vals a inv hfree hr hdn hnone hne H
    have hun := (mem_ready.1 hr).1
    refine ⟨fun h => (by rw [h] at hr; cases hr), fun j hj => ?_⟩
    have hjn : j < n := by
      rcases Nat.lt_or_ge j n with h | h
      · exact h
      · exact absurd hj (tail_waits hs hc hn inv _ i rfl hin hun j h)
    refine ⟨hjn, ?_⟩
    by_cases hji : j = i
    · subst hji; exact H
    · obtain ⟨hjun, oj, hoj, hall⟩ := mem_ready.1 hj
      obtain ⟨hiun, oi', hoi', halli⟩ := mem_ready.1 hr
      rw [hi] at hoi'
      cases hoi'
      have flip : ∀ k, listed.getD k true = false → listed.getD k false = true → False := by
        intro k h0 h1
        rcases Nat.lt_or_ge k listed.size with h' | h'
        · simp [h'] at h0 h1; rw [h0] at h1; cases h1
        · simp [Array.getElem?_eq_none h'] at h1
      have hnot : ∀ e ∈ oj.after, Region.binds md e = true → e.on ≠ i := fun e he hb heq => flip i hiun (by have := hall e he hb; rwa [heq] at this)
      have hai : ¬ Anc ops md i j := fun h => flip i hiun (anc_listed hdn h fun o ho => by rw [hoj] at ho; cases ho; exact hall)
      have haj : ¬ Anc ops md j i := fun h => flip j hjun (anc_listed hdn h fun o ho => by rw [hi] at ho; cases ho; exact halli)
      have H2 : rOp P ops md C Le Φ isV i (rOp P ops md C Le Φ isV j (wpAnyT P ops md C Le Φ isV n L fuel ((listed.setIfInBounds i true).setIfInBounds j true))) vals a :=
        rOp_mono hne (fun vals' a' _ _ h => (h.2 j (ready_mono hj hji)).2) H
      have H3 := rOp_swap W hi hoj (Ne.symm hji) (hfree j oj hoj hji hjun hnot) (fun cs b => hsel i oi cs b hi) (fun cs b => hsel j oj cs b hoj) (hnone i hiun) (hnone j hjun) hai haj hne H2
      refine rOp_mono hne (fun vals' a' hn' hv' h => ?_) H3
      have hfree' : ∀ k ok, ops[k]? = some ok → k ≠ i → (listed.setIfInBounds j true).getD k true = false →
          (∀ e ∈ ok.after, Region.binds md e = true → e.on ≠ i) → oi.apart ops ok = true := fun k ok hk hki hun hno => by
        refine hfree k ok hk hki ?_ hno
        by_cases hjk : j = k
        · subst hjk; exact hjun
        · rw [getD_set_ne true hjk] at hun; exact hun
      refine ih (listed.setIfInBounds j true) vals' a' (inv.set hj hjn) hfree' (ready_mono hr (Ne.symm hji)) (dn_set hdn hj) (fun k hk => ?_) hn' ?_
      · by_cases hjk : j = k
        · subst hjk
          exfalso
          rcases Nat.lt_or_ge j listed.size with h' | h'
          · rw [Array.getD_eq_getD_getElem?, Array.getElem?_setIfInBounds_self_of_lt h'] at hk
            cases hk
          · rw [Array.getD_eq_getD_getElem?, Array.getElem?_eq_none (by simpa using h')] at hk
            cases hk
        · rw [getD_set_ne true hjk] at hk
          rw [hv' k (Ne.symm hjk)]
          exact hnone k hk
      · rw [Array.setIfInBounds_comm _ _ hji]
        exact h

/-- The head, lexically; at its end G of the facts and the state. -/
def lexT (P : Program) (ops : Array Oper) (md : Region.Mode) (C : World → Prop) (Le : World → World → Prop) (Φ : Nat → Value → World → Prop) (isV : Oper → Bool) (G : Vals → Act → Prop) : List Oper → Nat → Vals → Act → Prop
  | [], _, vals, a => G vals a
  | o :: l, k, vals, a => if Region.wanted o (yielded ops a.tmps) then relO P ops md C Le Φ isV o k (lexT P ops md C Le Φ isV G l (k + 1)) vals a else lexT P ops md C Le Φ isV G l (k + 1) vals (a.put o.dst undef)

theorem wpAnyT_lex {n g : Nat} {G : Vals → Act → Prop} (W : RelLaws C Le Φ) (hsel : Region.noSelect ops = true) (hs : Region.sinkB md ops n = true) (hc : Region.chainB md ops n = true) (hn : n < ops.size) :
    ∀ (l : List Oper) (k : Nat) (listed : Array Bool) (vals : Vals) (a : Act), (∀ j, j < l.length → l[j]? = ops[k + j]?) → k + l.length = n → HeadInv md ops n listed →
    Region.lexHead md ops g l.length k listed = true → Dn ops md listed → (∀ k, listed.getD k true = false → vals k = none) → (∃ u, C u ∧ Facts Φ vals u) → lexT P ops md C Le Φ isV G l k vals a →
    wpAnyT P ops md C Le Φ isV n (fun listed' vals' a' => Region.seqB md ops g n listed' = true ∧ G vals' a') l.length listed vals a
  | [], k, listed, vals, a, _, hk, _, hB, _, _, _, h => by
    have : k = n := by simpa using hk
    subst this
    exact ⟨by simpa [Region.lexHead] using hB, h⟩
  | o :: l, k, listed, vals, a, hl, hk, inv, hB, hdn, hnone, hne, h => by
    have h0 : ops[k]? = some o := by simpa using (hl 0 (by simp)).symm
    simp only [List.length_cons, Region.lexHead, Bool.and_eq_true] at hB
    obtain ⟨⟨hr, hf⟩, hB'⟩ := hB
    have hkn : k < n := by simp only [List.length_cons] at hk; omega
    have hr' : k ∈ Region.ready md ops listed := by simpa using hr
    have hst : rOp P ops md C Le Φ isV k (lexT P ops md C Le Φ isV G l (k + 1)) vals a := by unfold rOp; simp only [h0]; exact h
    refine wpAnyT_first W h0 (Region.noSelect_spec hsel) hs hc hn hkn (fun listed' vals' a' hL => seqB_ready hL.1) l.length listed vals a inv (Region.free_spec h0 hf) hr' hdn hnone hne (rOp_mono hne (fun vals' a' hn' hv' h' => ?_) hst)
    refine wpAnyT_lex W hsel hs hc hn l (k + 1) _ _ _ (fun j hj => by have := hl (j + 1) (by simp; omega); simpa [Nat.add_assoc, Nat.add_comm 1 j] using this) (by simp only [List.length_cons] at hk; omega) (inv.set hr' hkn) hB' (dn_set hdn hr') (fun j hj => ?_) hn' h'
    by_cases hjk : k = j
    · subst hjk
      exfalso
      rcases Nat.lt_or_ge k listed.size with h' | h'
      · rw [Array.getD_eq_getD_getElem?, Array.getElem?_setIfInBounds_self_of_lt h'] at hj
        cases hj
      · rw [Array.getD_eq_getD_getElem?, Array.getElem?_eq_none (by simpa using h')] at hj
        cases hj
    · rw [getD_set_ne true hjk] at hj
      rw [hv' j (Ne.symm hjk)]
      exact hnone j hj

theorem wp_region_tail {id : Nat} {Q' : Exit → Act → World → Prop} {a : Act} {w : World} (n : Nat) (W : RelLaws C Le Φ) (hm : P.follows .mixedOrders = true) (hB : Region.lexTailB .any ops n = true) (hC : C { w with drawn := w.drawn + 1 })
    (h : lexT P ops .any C Le Φ isV (fun vals a' => ∀ u, C u → Facts Φ vals u → wpList P ops Q' (ops.toList.drop n) a' u) (ops.toList.take n) 0 (fun _ => none) a) : (Code.region id ops true).wp P Q' a w := by
  simp only [Region.lexTailB, Bool.and_eq_true, decide_eq_true_eq] at hB
  obtain ⟨⟨⟨⟨hsel, hn⟩, hs⟩, hc⟩, hlex⟩ := hB
  have htl : (ops.toList.take n).length = n := by simp; omega
  have hdl : (ops.toList.drop n).length = ops.size - n := by simp
  have inv0 : HeadInv .any ops n (Array.replicate ops.size false) :=
    ⟨by simp, fun j oj _ hl => (by rw [getD_replicate_false] at hl; cases hl), fun t _ ht => getD_in (by simpa using ht) (getD_replicate_false _ _)⟩
  have H := wpAnyT_lex (md := .any) (g := ops.size - n) W hsel hs hc hn (ops.toList.take n) 0 (Array.replicate ops.size false) (fun _ => none) a (fun j hj => by
    have hj' : j < n := by rw [htl] at hj; exact hj
    rw [List.getElem?_take, if_pos hj']; simp) (by simpa using htl) inv0 (by rw [htl]; exact hlex) (fun k o ho hl => by rw [getD_replicate_false] at hl; cases hl) (fun _ _ => rfl) ⟨_, hC, fun j v hj => by cases hj⟩ h
  refine wp_region_any hm ?_
  have := wpAny_of_relT (P := P) (Q' := Q') (g := ops.size - n) W (fun listed vals a' u hL hCu hF => by
    have := wpAny_of_seq (md := .any) (Q' := Q') (ops := ops) (ops.toList.drop n) n listed a' u (fun j => by simp [List.getElem?_drop]) (by rw [hdl]; exact hL.1) (hL.2 u hCu hF)
    rwa [hdl] at this) _ _ _ _ _ hC (fun j v hj => by cases hj) H
  rw [htl, show n + (ops.size - n) = ops.size by omega] at this
  exact this
end
end Go.E
