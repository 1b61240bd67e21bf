/- Part of a proof of laws of the seat Ytfcablfoenhiiaa: functions' weakest preconditions, each checked by the kernel, and contracts out of them; no conditions. -/
import Derived.Test.YtfcablfoenhiiaaL2
import Derived.Test.YtfcablfoenhiiaaE7
set_option linter.unusedVariables false
set_option linter.unusedSimpArgs false
namespace Go.Mir
open Go Go.E Go.RowKit

theorem fold8_bit (p : Nat → Bool) (k : Nat) : ∀ (n i : Nat) (acc : BitVec 8), i + n ≤ 8 → (fold8 p n i acc).getLsbD k = (acc.getLsbD k || (decide (i ≤ k ∧ k < i + n) && p k))
  | 0, i, acc, _ => by
    unfold fold8
    rw [decide_eq_false (by omega)]
    simp
  | n + 1, i, acc, h => by
    unfold fold8
    rw [fold8_bit p k n (i + 1) _ (by omega)]
    by_cases hk : k = i
    · subst hk
      rw [decide_eq_false (show ¬ (k + 1 ≤ k ∧ k < k + 1 + n) by omega), decide_eq_true (show k ≤ k ∧ k < k + (n + 1) by omega)]
      cases hp : p k <;> simp [BitVec.getLsbD_or, BitVec.getLsbD_twoPow]
      omega
    · rw [show decide (i + 1 ≤ k ∧ k < i + 1 + n) = decide (i ≤ k ∧ k < i + (n + 1)) from by rw [decide_eq_decide]; omega]
      cases hp : p i <;> simp [BitVec.getLsbD_or, BitVec.getLsbD_twoPow, hk, Ne.symm hk]
theorem drop8_bit (p : Nat → Bool) (k : Nat) : ∀ (n i : Nat) (acc : BitVec 8), i + n ≤ 8 → (drop8 p n i acc).getLsbD k = (acc.getLsbD k && !(decide (i ≤ k ∧ k < i + n) && p k))
  | 0, i, acc, _ => by
    unfold drop8
    rw [decide_eq_false (by omega)]
    simp
  | n + 1, i, acc, h => by
    unfold drop8
    rw [drop8_bit p k n (i + 1) _ (by omega)]
    by_cases hk8 : k < 8
    · by_cases hk : k = i
      · subst hk
        rw [decide_eq_false (show ¬ (k + 1 ≤ k ∧ k < k + 1 + n) by omega), decide_eq_true (show k ≤ k ∧ k < k + (n + 1) by omega)]
        cases hp : p k <;> simp [BitVec.getLsbD_and, BitVec.getLsbD_twoPow, BitVec.getLsbD_not, hk8]
      · rw [show decide (i + 1 ≤ k ∧ k < i + 1 + n) = decide (i ≤ k ∧ k < i + (n + 1)) from by rw [decide_eq_decide]; omega]
        cases hp : p i <;> simp [hk8, hk, Ne.symm hk]
    · rw [BitVec.getLsbD_of_ge _ _ (by omega), BitVec.getLsbD_of_ge _ _ (by omega)]
      simp

theorem outside_same (x : Nat → Nat) (cs : List Int) :
    fold8 (fun i => !nan (x i) && !isCat cs (x i)) 8 0 0 = drop8 (fun i => isCat cs (x i)) 8 0 (255#8 &&& ~~~ fold8 (fun i => nan (x i)) 8 0 0) := by
  apply BitVec.eq_of_getLsbD_eq
  intro k hk
  rw [fold8_bit _ _ _ _ _ (by omega), drop8_bit _ _ _ _ _ (by omega), BitVec.getLsbD_and, BitVec.getLsbD_not, fold8_bit _ _ _ _ _ (by omega)]
  have h255 : (255#8).getLsbD k = true := by
    have : ∀ k : Fin 8, (255#8).getLsbD k.val = true := by decide
    exact this ⟨k, hk⟩
  rw [decide_eq_true (show 0 ≤ k ∧ k < 0 + 8 by omega), h255, decide_eq_true hk]
  cases nan (x k) <;> cases isCat cs (x k) <;> simp

theorem under25 : Proofs.Try.prog.underlying 25 = some (.slice 3) := by kernel_rfl
theorem info3 : (Proofs.Try.prog.info? 3).map (fun i => (i.zero, i.size, i.bytes)) = some (some (.int .i64 0), 1, 8) := by kernel_rfl

theorem lanesBits_law (x : Nat → Nat) (t : Nat) (w : World) {a : Option Addr} {n c : Nat} {cs : List Int} (hc : Sl encI w a n cs) (hl : n ≤ 1048576) (hn0 : a = none → n = 0) :
    Pure Proofs.Try.prog 3 #[lv x, .float .f64 t, .slice a n c] w (.bool true) := by
  refine thicketlaw18_LanesBits.calls (R := fun v' u => v' = _ ∧ Below w.heap.size w u) ?_
  unfold thicketlaw18_LanesBits thicketlaw18_LanesBits.g0 nw
  obtain ⟨i3, hi3, h3⟩ := Option.map_eq_some_iff.1 info3
  simp only [Prod.mk.injEq] at h3
  obtain ⟨hz, hs, hby⟩ := h3
  have hb1 : Below w.heap.size w (w.alloc (.cells (lcells x) 24)) := below_new _ _
  have hb2 : Below w.heap.size w ((w.alloc (.cells (lcells x) 24)).alloc (.cells #[] 3)) := bthen hb1 (below_new _ _)
  have hown : ((w.alloc (.cells (lcells x) 24)).alloc (.cells #[] 3)).ownsRow w.heap.size 3 i3.size (.slice (some (na (w.alloc (.cells (lcells x) 24)))) 0 0) 0 [] := by
    rw [hs]
    exact ⟨rfl, .inr ⟨_, 0, #[], rfl, by simp, heap_alloc_new _ _, Nat.le_refl _, Nat.zero_le _, rfl, rfl⟩⟩
  have hc2 := hc.keep hb2
  refine rawN_append under25 hi3 hz (by rw [hs]; rfl) (by omega) hown (a := a) (m := n) (c := c) (news := cs.map encI) (by rw [hs, List.length_map, hc.len, Nat.mul_one]) (fun j u hj => ?_) hn0 ?_ (by simp only [maxLen]; omega) (by rw [hby]; omega) (by simp; omega) ?_
  · obtain ⟨y, hy, rfl⟩ := Option.map_eq_some_iff.1 (by simpa using hj)
    exact hc2.get j y hy
  · intro u hu
    obtain ⟨y, _, rfl⟩ := List.mem_map.1 hu
    rfl
  intro v' u hrow hgr
  rw [hs] at hrow
  obtain ⟨ga, gc, rfl, hg, _, _⟩ := own_sl (xs := cs) (by simpa using hrow)
  have hbu : Below w.heap.size w u := hb2.grown hgr hb2.size (fun k hk => by
    simp only [Value.ownBlock, na, Option.some.injEq] at hk
    subst hk
    simp)
  have hub : ∀ u', Below u.heap.size u u' → Below w.heap.size w u' := fun u' h => bthen hbu h
  have hn : ∀ i, i < 8 → u.cell? ((na w).add i) = some (.float .f64 (x i)) := fun i hi => by
    have h1 : ((w.alloc (.cells (lcells x) 24)).alloc (.cells #[] 3)).cell? ((na w).add i) = some (.float .f64 (x i)) := bkeep (below_new _ _) (by rw [cell_new]; exact lcells_get x hi)
    exact hgr.cell h1 (by simp only [Value.ownBlock, na, add_block]; simp)
  simp only [Nat.zero_add] at hg ⊢
  have L8 : ∀ {K : Nat → Nat → Nat → Nat → Nat → Nat → Nat → Nat → Prop}, K (x 0) (x 1) (x 2) (x 3) (x 4) (x 5) (x 6) (x 7) →
      ∃ f0 : Nat, u.cell? ((na w).add 0) = some (.float .f64 f0) ∧ ∃ f1 : Nat, u.cell? ((na w).add 1) = some (.float .f64 f1) ∧ ∃ f2 : Nat, u.cell? ((na w).add 2) = some (.float .f64 f2) ∧ ∃ f3 : Nat, u.cell? ((na w).add 3) = some (.float .f64 f3) ∧
        ∃ f4 : Nat, u.cell? ((na w).add 4) = some (.float .f64 f4) ∧ ∃ f5 : Nat, u.cell? ((na w).add 5) = some (.float .f64 f5) ∧ ∃ f6 : Nat, u.cell? ((na w).add 6) = some (.float .f64 f6) ∧ ∃ f7 : Nat, u.cell? ((na w).add 7) = some (.float .f64 f7) ∧ K f0 f1 f2 f3 f4 f5 f6 f7 :=
    fun h => ⟨_, hn 0 (by omega), _, hn 1 (by omega), _, hn 2 (by omega), _, hn 3 (by omega), _, hn 4 (by omega), _, hn 5 (by omega), _, hn 6 (by omega), _, hn 7 (by omega), h⟩
  refine ⟨ga, n, gc, rfl, ?_⟩
  refine L8 ⟨_, fun u' hu' => (lanesAbove x t u').quiet hu', ?_⟩
  refine L8 ⟨_, fun u' hu' => (refAbove x t u').quiet hu', ?_⟩
  rw [show ∀ z : Int, (z == z) = true from fun z => by simp, onBool_t]
  refine L8 ⟨_, fun u' hu' => (lanesOutside x u' (hg.keep hu') (by omega)).quiet hu', ?_⟩
  refine L8 ⟨_, fun u' hu' => (refOutside x u' (hc.keep (hub u' hu')) (by omega)).quiet hu', ?_⟩
  rw [outside_same, show ∀ z : Int, (z == z) = true from fun z => by simp, onBool_t]
  refine L8 ⟨_, fun u' hu' => (lanesLost x u').quiet hu', ?_⟩
  refine L8 ⟨_, fun u' hu' => (refLost x u').quiet hu', ?_⟩
  rw [show ∀ z : Int, (z == z) = true from fun z => by simp, onBool_t]
  refine ⟨_, fun u' hu' => (ints (hg.keep hu') (hc.keep (hub u' hu')) (by omega)).quiet hu', fun u' hu' => ⟨by simp, hub u' hu'⟩⟩
end Go.Mir
