/- Part of a proof of laws of the seat YtpllehijaidinaaDoor: functions' weakest preconditions, each checked by the kernel, contracts out of them, plain lemmas; no conditions. -/
import Derived.Test.YtpllehijaidinaaDoorKA
import Derived.Test.YtpllehijaidinaaDoorKLExit
set_option linter.unusedVariables false
set_option linter.unusedSimpArgs false
set_option maxRecDepth 100000
namespace Go.Mir
open Go Go.E Go.RowKit Go.Tr
section
variable {w w1 u W : World} {o : Int} {a a1 b : Option Addr} {n c n1 c1 m d : Nat} {F : Nat → Prop} {nodes : List ND} {xs : List Nat}
/-- Exit says what Leaf says, where there are not too many leaves. -/
theorem exit_leaf (h : ¬ ((shapeP nanB nodes).1 = 0 ∧ 4096 < (thoseP nodes false).length)) : falseE nodes xs.length = wayE nodes xs.length ∧ exK nodes xs = leafK nodes xs ∧ exV nodes xs = leafV nodes xs := by
  have e : falseE nodes xs.length = wayE nodes xs.length := by
    unfold falseE wayE lvE
    by_cases h0 : (shapeP nanB nodes).1 = 0
    · rw [if_pos h0, if_pos h0, if_neg (fun hm => h ⟨h0, hm⟩), if_pos rfl]
    · rw [if_neg h0, if_neg h0]
  refine ⟨e, ?_, ?_⟩
  · unfold exK leafK; rw [e]; split <;> rfl
  · unfold exV leafV; rw [e]; split <;> rfl
/-- The law MaskExit. -/
theorem maskExit_law (hTab : Go.Bi.Tab w) (hG : Good F w a n c nodes) (hx : Sl enF w a1 n1 xs) (hm1 : n1 ≤ 1048576) : Pure Go.Proofs.Tryd.prog 7 #[vT o a n c, .slice a1 n1 c1] w (.bool true) := by
  refine thicketlaw13_MaskExit.calls (R := fun v' u => v' = _ ∧ Below w.heap.size w u) ?_
  unfold thicketlaw13_MaskExit thicketlaw13_MaskExit.g0
  refine box2T fun w1 _ hT hk1 => ?_
  refine E.CallsD.mono (lives_c (hTab.kept hk1)) fun v u2 ⟨hv, e2⟩ => ⟨_, hv, ob_f ?_⟩
  have k2 := Kept.trans hk1 e2
  have hT2 := hT.kept e2
  refine ⟨_, hT2.c0, _, _, _, hT2.c1, ?_⟩
  refine E.CallsD.mono (Exit_c (o := o) (c1 := c1) (hTab.kept k2) (hG.kept k2) (hx.keep k2)) fun v u3 ⟨hv, e3⟩ => ⟨_, _, _, hv, ?_⟩
  have k3 := Kept.trans k2 e3
  have hT3 := hT2.kept e3
  refine ⟨_, hT3.c0, _, _, _, hT3.c1, ?_⟩
  refine E.CallsD.mono (Leaf_c (o := o) (c1 := c1) (hG.kept k3) (hx.keep k3) hm1) fun v u4 ⟨hv, e4⟩ => ⟨_, _, _, hv, ?_⟩
  have k4 := Kept.trans k3 e4
  have hT4 := hT3.kept e4
  refine ⟨_, hT4.c0, _, _, _, hT4.c1, ?_⟩
  refine E.CallsD.mono (Leaves_c (o := o) (hG.kept k4)) fun v u5 ⟨a5, n5, c5, hv, h5⟩ => ⟨_, _, _, _, hv, ?_⟩
  have k5 := Kept.trans k4 h5.kept
  have h5l := h5.len
  rw [natL_length] at h5l
  refine onEq (fun h0 => onDec (fun hm => ⟨?_, k5⟩) fun hm => ?_) fun h0 => ?_
  · have e : falseE nodes xs.length = 3 := by
      have := (lv_many (nodes := nodes) h0 (by omega)).1
      rw [falseE_bad (by rw [this]; decide), this]
    rw [e]; rfl
  · obtain ⟨q1, q2, q3⟩ := exit_leaf (nodes := nodes) (xs := xs) (fun h => by omega)
    exact onEq_t q1 (onEq_t q2 ⟨by rw [q3]; simp, k5⟩)
  · obtain ⟨q1, q2, q3⟩ := exit_leaf (nodes := nodes) (xs := xs) (fun h => h0 h.1)
    exact onEq_t q1 (onEq_t q2 ⟨by rw [q3]; simp, k5⟩)
end
end Go.Mir
