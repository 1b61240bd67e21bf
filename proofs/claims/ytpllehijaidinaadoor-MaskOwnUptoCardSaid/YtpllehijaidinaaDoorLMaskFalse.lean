/- Part of a proof of laws of the seat YtpllehijaidinaaDoor: functions' weakest preconditions, each checked by the kernel, contracts out of them, plain lemmas; no conditions. -/
import Derived.Test.YtpllehijaidinaaDoorKA
import Derived.Test.YtpllehijaidinaaDoorKLFalse
set_option linter.unusedVariables false
set_option linter.unusedSimpArgs false
set_option maxRecDepth 100000
namespace Go.Mir
open Go Go.E Go.RowKit Go.Tr
section
variable {w w1 u W : World} {o : Int} {a a1 b : Option Addr} {n c n1 c1 m d : Nat} {F : Nat → Prop} {nodes : List ND} {xs : List Nat}
theorem reach_len : (reachP nodes xs).length ≤ 16777216 := by
  unfold reachP
  split
  · rename_i h
    obtain ⟨hlv, _⟩ := falseE_lv h
    have := (marks_bd hlv).1
    rw [reachB_len]
    unfold Go.Bi.nW
    omega
  · simp
/-- The law MaskFalse. -/
theorem maskFalse_law (hTab : Go.Bi.Tab w) (hG : Good F w a n c nodes) (hx : Sl enF w a1 n1 xs) : Pure Go.Proofs.Tryd.prog 3 #[vT o a n c, .slice a1 n1 c1] w (.bool true) := by
  refine thicketlaw13_MaskFalse.calls (R := fun v' u => v' = _ ∧ Below w.heap.size w u) ?_
  unfold thicketlaw13_MaskFalse thicketlaw13_MaskFalse.g0
  refine box2T fun w1 _ hT hk1 => ⟨_, hT.c0, _, _, _, hT.c1, ?_⟩
  refine E.CallsD.mono (False_c (o := o) (c1 := c1) (hG.kept hk1) (hx.keep hk1)) fun v u2 ⟨a2, n2, c2, hv, h2⟩ => ⟨_, _, _, _, hv, ?_⟩
  have e2 := h2.kept
  have k2 := Kept.trans hk1 e2
  have hT2 := hT.kept e2
  refine ⟨_, hT2.c0, _, _, _, hT2.c1, ?_⟩
  refine E.CallsD.mono (refFalse_c (o := o) (c1 := c1) (hG.kept k2) (hx.keep k2)) fun v u3 ⟨a3, n3, c3, hv, h3⟩ => ⟨_, _, _, _, hv, ?_⟩
  have e3 := h3.kept
  have k3 := Kept.trans k2 e3
  have hT3 := hT2.kept e3
  refine ⟨_, hT3.c0, _, _, _, hT3.c1, ?_⟩
  refine E.CallsD.mono (Reach_c (o := o) (c1 := c1) (hG.kept k3) (hx.keep k3)) fun v u4 ⟨a4, n4, c4, hv, h4⟩ => ⟨_, _, _, _, hv, ?_⟩
  have e4 := h4.kept
  have k4 := Kept.trans k3 e4
  have hT4 := hT3.kept e4
  refine ⟨_, hT4.c0, _, _, _, hT4.c1, ?_⟩
  refine E.CallsD.mono (refReach_c (o := o) (c1 := c1) (hG.kept k4) (hx.keep k4)) fun v u5 ⟨a5, n5, c5, hv, h5, e5⟩ => ⟨_, _, _, _, hv, ?_⟩
  have k5 := Kept.trans k4 e5
  have hT5 := hT4.kept e5
  refine ⟨_, hT5.c0, _, _, _, hT5.c1, ?_⟩
  refine E.CallsD.mono (Exit_c (o := o) (c1 := c1) (hTab.kept k5) (hG.kept k5) (hx.keep k5)) fun v u6 ⟨hv, e6⟩ => ⟨_, _, _, hv, ?_⟩
  have k6 := Kept.trans k5 e6
  have hT6 := hT5.kept e6
  refine ⟨_, hT6.c0, _, _, _, hT6.c1, ?_⟩
  refine E.CallsD.mono (refExit_c (o := o) (c1 := c1) (hG.kept k6) (hx.keep k6)) fun v u7 ⟨hv, e7⟩ => ⟨_, _, _, hv, ?_⟩
  have k7 := Kept.trans k6 e7
  refine E.CallsD.mono (lives_c (hTab.kept k7)) fun v u8 ⟨hv, e8⟩ => ⟨_, hv, ob_t ?_⟩
  have k48 := Kept.trans (Kept.trans (Kept.trans e5 e6) e7) e8
  have hml := false_le (xs := xs) hG.len hG.max
  have h2l := h2.len
  refine E.CallsD.mono (sameM_yes (c := c2) (d := c3) (h2.slk.keep (Kept.trans (Kept.trans e3 e4) k48)) (h3.slk.keep (Kept.trans e4 k48)) (by omega)) fun v u9 ⟨hv, e9⟩ => ⟨_, hv, ob_t (onEq_t rfl ?_)⟩
  have h4s := (h4.then (Kept.trans k48 e9)).sl
  have h4l := h4s.len
  have hrl := reach_len (nodes := nodes) (xs := xs)
  refine E.CallsD.mono (Go.Bi.Same_c (c := c4) (d := c5) h4s (h5.keep (Kept.trans (Kept.trans (Kept.trans e6 e7) e8) e9)) (by omega)) fun v u10 ⟨hv, e10⟩ => ⟨_, hv, ?_⟩
  rw [decide_eq_true rfl]
  refine ob_t (onEq_t rfl (onEq_t rfl (onEq_t rfl ⟨?_, Kept.trans (Kept.trans (Kept.trans k7 e8) e9) e10⟩)))
  simp
end
end Go.Mir
