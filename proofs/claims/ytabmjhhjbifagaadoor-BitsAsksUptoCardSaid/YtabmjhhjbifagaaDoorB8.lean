/- Part of a proof of laws of the seat YtabmjhhjbifagaaDoor: functions' weakest preconditions, each checked by the kernel, and contracts out of them; no conditions. -/
import Derived.Test.YtabmjhhjbifagaaDoorB7
import Derived.Test.YtabmjhhjbifagaaDoorBM3
import Derived.Test.YtabmjhhjbifagaaDoorBM4
set_option linter.unusedVariables false
set_option linter.unusedSimpArgs false
namespace Go.Mir
open Go Go.E Go.RowKit Go.Bt
section
variable {w : World} {a b : Option Addr} {n c m d g : Nat} {xs ys : W} {i : Int}
theorem lives_c (hT : Tab w) : Pure Go.Proofs.Tryd.prog 20 #[] w (.bool true) := by
  refine thicketlaw05_lives.calls (R := fun v' u => v' = _ ∧ Below w.heap.size w u) ?_
  unfold thicketlaw05_lives thicketlaw05_lives.g0
  refine E.CallsD.mono (Mask_ok (n := 4) (f := 1) (t := 3) (by omega) (by omega) (by omega) (by omega) (by omega) w) fun v u1 ⟨a, c, hv, hn⟩ => ⟨_, _, _, _, hv, ?_⟩
  have k1 := hn.kept
  refine E.CallsD.mono (Words_ok (n := 65) (by omega) (by omega) u1) fun v u2 ⟨hv, k2⟩ => ⟨_, _, hv, ?_⟩
  have k2' := Kept.trans k1 k2
  refine nw_mk ?_
  have k3 := Kept.trans k2' (Kept.new u2 (.cells #[.int .u64 5] 56))
  refine E.CallsD.mono (Print_c (xs := [5#64]) (Sl.new enW 56 u2 [5#64] _ rfl) (by simp) 3) fun v u4 ⟨hv, k4⟩ => ⟨_, _, hv, ?_⟩
  have k4' := Kept.trans k3 k4
  have e1 : prOf [5#64] 3 = ([49, 48, 49], 0) := by decide +kernel
  have w4 : nW 4 = 1 := by decide
  have w65 : nW 65 = 2 := by decide
  rw [e1]
  refine onEq_t (by omega) ?_
  refine onEq_t (by omega) ?_
  have hs := (hn.sl.keep (Kept.trans k2 (Kept.trans (Kept.new u2 (.cells #[.int .u64 5] 56)) k4)))
  have e2 : maskB 4 1 3 = [9#64] := by decide +kernel
  rw [e2] at hs
  refine hs.read (i := 0) (by decide) fun p hp => chk_mk (by decide) ⟨9, by simpa [enW] using hp, ?_⟩
  refine onEq_t (by omega) ?_
  refine onEq_t (by omega) ?_
  refine onEq_t (by omega) ?_
  refine onEq_t (by omega) ?_
  have e3 : ((⟨[49, 48, 49].toArray⟩ : ByteArray).toList == (⟨#[49, 48, 49]⟩ : ByteArray).toList) = true := by simp
  rw [e3, onBool_t]
  refine nw_mk ?_
  have k5 := Kept.trans k4' (Kept.new u4 (.cells #[.int .u64 0, .int .u64 4] 56))
  refine E.CallsD.mono (Lowest_c (xs := [0#64, 4#64]) (hT.kept k5) (Sl.new enW 56 u4 [0#64, 4#64] _ rfl) (by simp)) fun v u6 ⟨hv, k6⟩ => ⟨_, hv, ?_⟩
  have k6' := Kept.trans k5 k6
  have e4 : low [0#64, 4#64] = 66 := by decide +kernel
  rw [e4]
  refine onEq_t (by omega) ?_
  refine nw_mk ?_
  have k7 := Kept.trans k6' (Kept.new u6 (.cells #[.int .u64 7, .int .u64 1] 56))
  refine E.CallsD.mono (Count_c (xs := [7#64, 1#64]) (Sl.new enW 56 u6 [7#64, 1#64] _ rfl) (by simp)) fun v u8 ⟨hv, k8⟩ => ⟨_, hv, ?_⟩
  have e5 : count [7#64, 1#64] = 4 := by decide +kernel
  rw [e5]
  exact ⟨rfl, Kept.trans k7 k8⟩
theorem Same_yes (h : Sl enW w a n xs) (h2 : Sl enW w b m xs) (hm : n ≤ 16777216) : Pure Go.Proofs.Tryd.prog 21 #[.slice a n c, .slice b m d] w (.bool true) := by
  have := Same_c (c := c) (d := d) h h2 hm
  rwa [decide_eq_true rfl] at this
theorem Sl.nil {α : Type} (en : α → Value) (w : World) : Sl en w none 0 [] := ⟨rfl, fun i x h => by simp at h⟩
/-- Both ways of one answer: a new slice or none, and the error. -/
def Ans (w u : World) (v : Value) (xs : W) (e : Int) : Prop := ∃ a n c, v = .tuple #[.slice a n c, .int .i64 e] ∧ Sl enW u a n xs ∧ Kept w u
theorem Ans.of {w u : World} {v : Value} {xs : W} {n : Nat} {e : Int} (h : ∃ a c, v = .tuple #[.slice a n c, .int .i64 e] ∧ New enW 56 w u a n c xs) : Ans w u v xs e := by
  obtain ⟨a, c, hv, hn⟩ := h
  exact ⟨_, _, _, hv, hn.sl, hn.kept⟩
theorem Ans.no {w u : World} {v : Value} {e : Int} (h : v = .tuple #[.slice none 0 0, .int .i64 e] ∧ Kept w u) : Ans w u v [] e := ⟨_, _, _, h.1, Sl.nil _ _, h.2⟩
def okN (n : Int) : Prop := 0 ≤ n ∧ n ≤ 1048576
instance (n : Int) : Decidable (okN n) := by unfold okN; infer_instance
def okM (n f t : Int) : Prop := 0 ≤ n ∧ n ≤ 1048576 ∧ 0 ≤ f ∧ f ≤ t ∧ t ≤ n
instance (n f t : Int) : Decidable (okM n f t) := by unfold okM; infer_instance
def errOf (p : Bool) : Int := if p then 0 else 2
theorem Full_a (n : Int) (w : World) : E.CallsD Go.Proofs.Tryd.prog 13 #[.int .i64 n] w fun v u => Ans w u v (if okN n then fullB n else []) (errOf (decide (okN n))) := by
  by_cases h : okN n
  · simp only [h, if_true, decide_true, errOf]; exact E.CallsD.mono (Full_ok h.1 h.2 w) fun v u h => Ans.of h
  · simp only [h, if_false, decide_false, errOf]; exact E.CallsD.mono (Full_no (by unfold okN at h; omega) w) fun v u h => Ans.no h
theorem Empty_a (n : Int) (w : World) : E.CallsD Go.Proofs.Tryd.prog 14 #[.int .i64 n] w fun v u => Ans w u v (if okN n then ofB (nW n) (fun _ => false) else []) (errOf (decide (okN n))) := by
  by_cases h : okN n
  · simp only [h, if_true, decide_true, errOf]; exact E.CallsD.mono (Empty_ok h.1 h.2 w) fun v u h => Ans.of h
  · simp only [h, if_false, decide_false, errOf]; exact E.CallsD.mono (Empty_no (by unfold okN at h; omega) w) fun v u h => Ans.no h
theorem Mask_a (n f t : Int) (w : World) : E.CallsD Go.Proofs.Tryd.prog 15 #[.int .i64 n, .int .i64 f, .int .i64 t] w fun v u => Ans w u v (if okM n f t then maskB n f t else []) (errOf (decide (okM n f t))) := by
  by_cases h : okM n f t
  · simp only [h, if_true, decide_true, errOf]; exact E.CallsD.mono (Mask_ok h.1 h.2.1 h.2.2.1 h.2.2.2.1 h.2.2.2.2 w) fun v u h => Ans.of h
  · simp only [h, if_false, decide_false, errOf]; exact E.CallsD.mono (Mask_no (by unfold okM at h; omega) w) fun v u h => Ans.no h
theorem refFull_a (n : Int) (w : World) : E.CallsD Go.Proofs.Tryd.prog 17 #[.int .i64 n] w fun v u => Ans w u v (if okN n then fullB n else []) (errOf (decide (okN n))) := by
  by_cases h : okN n
  · simp only [h, if_true, decide_true, errOf]; exact E.CallsD.mono (refFull_ok h.1 h.2 w) fun v u h => Ans.of h
  · simp only [h, if_false, decide_false, errOf]; exact E.CallsD.mono (refFull_no (by unfold okN at h; omega) w) fun v u h => Ans.no h
theorem refEmpty_a (n : Int) (w : World) : E.CallsD Go.Proofs.Tryd.prog 18 #[.int .i64 n] w fun v u => Ans w u v (if okN n then ofB (nW n) (fun _ => false) else []) (errOf (decide (okN n))) := by
  by_cases h : okN n
  · simp only [h, if_true, decide_true, errOf]; exact E.CallsD.mono (refEmpty_ok h.1 h.2 w) fun v u h => Ans.of h
  · simp only [h, if_false, decide_false, errOf]; exact E.CallsD.mono (refEmpty_no (by unfold okN at h; omega) w) fun v u h => Ans.no h
theorem refMask_a (n f t : Int) (w : World) : E.CallsD Go.Proofs.Tryd.prog 19 #[.int .i64 n, .int .i64 f, .int .i64 t] w fun v u => Ans w u v (if okM n f t then maskB n f t else []) (errOf (decide (okM n f t))) := by
  by_cases h : okM n f t
  · simp only [h, if_true, decide_true, errOf]; exact E.CallsD.mono (refMask_ok h.1 h.2.1 h.2.2.1 h.2.2.2.1 h.2.2.2.2 w) fun v u h => Ans.of h
  · simp only [h, if_false, decide_false, errOf]; exact E.CallsD.mono (refMask_no (by unfold okM at h; omega) w) fun v u h => Ans.no h
theorem Words_a (n : Int) (w : World) : Pure Go.Proofs.Tryd.prog 12 #[.int .i64 n] w (.tuple #[.int .i64 (if okN n then (nW n : Int) else 0), .int .i64 (errOf (decide (okN n)))]) := by
  by_cases h : okN n
  · simp only [h, if_true, decide_true, errOf]; exact Words_ok h.1 h.2 w
  · simp only [h, if_false, decide_false, errOf]; exact Words_no (by unfold okN at h; omega) w
theorem refWords_a (n : Int) (w : World) : Pure Go.Proofs.Tryd.prog 16 #[.int .i64 n] w (.tuple #[.int .i64 (if okN n then (nW n : Int) else 0), .int .i64 (errOf (decide (okN n)))]) := by
  by_cases h : okN n
  · simp only [h, if_true, decide_true, errOf]; exact refWords_ok h.1 h.2 w
  · simp only [h, if_false, decide_false, errOf]; exact refWords_no (by unfold okN at h; omega) w

/-- The law BitsMade. -/
theorem bitsMade_law {n f t : Int} (hT : Tab w) : Pure Go.Proofs.Tryd.prog 3 #[.int .i64 n, .int .i64 f, .int .i64 t] w (.bool true) := by
  refine thicketlaw05_BitsMade.calls (R := fun v' u => v' = _ ∧ Below w.heap.size w u) ?_
  unfold thicketlaw05_BitsMade thicketlaw05_BitsMade.g0
  refine E.CallsD.mono (Words_a n w) fun v u1 ⟨hv, k1⟩ => ⟨_, _, hv, ?_⟩
  refine E.CallsD.mono (Full_a n u1) fun v u2 ⟨a2, n2, c2, hv, s2, k2⟩ => ⟨_, _, _, _, hv, ?_⟩
  refine E.CallsD.mono (Empty_a n u2) fun v u3 ⟨a3, n3, c3, hv, s3, k3⟩ => ⟨_, _, _, _, hv, ?_⟩
  refine E.CallsD.mono (Mask_a n f t u3) fun v u4 ⟨a4, n4, c4, hv, s4, k4⟩ => ⟨_, _, _, _, hv, ?_⟩
  refine E.CallsD.mono (refWords_a n u4) fun v u5 ⟨hv, k5⟩ => ⟨_, _, hv, ?_⟩
  refine E.CallsD.mono (refFull_a n u5) fun v u6 ⟨a6, n6, c6, hv, s6, k6⟩ => ⟨_, _, _, _, hv, ?_⟩
  refine E.CallsD.mono (refEmpty_a n u6) fun v u7 ⟨a7, n7, c7, hv, s7, k7⟩ => ⟨_, _, _, _, hv, ?_⟩
  refine E.CallsD.mono (refMask_a n f t u7) fun v u8 ⟨a8, n8, c8, hv, s8, k8⟩ => ⟨_, _, _, _, hv, ?_⟩
  have k38 := Kept.trans k4 (Kept.trans k5 (Kept.trans k6 (Kept.trans k7 k8)))
  have k08 := Kept.trans k1 (Kept.trans k2 (Kept.trans k3 k38))
  refine E.CallsD.mono (lives_c (hT.kept k08)) fun v u9 ⟨hv, k9⟩ => ⟨_, hv, ?_⟩
  rw [onBool_t]
  have h2 : n2 ≤ 16777216 := by
    rw [s2.len]; by_cases h : okN n
    · rw [if_pos h]; have := nW_le h.2; simp [fullB]; omega
    · rw [if_neg h]; simp
  have h3 : n3 ≤ 16777216 := by
    rw [s3.len]; by_cases h : okN n
    · rw [if_pos h]; have := nW_le h.2; simp; omega
    · rw [if_neg h]; simp
  have h4 : n4 ≤ 16777216 := by
    rw [s4.len]; by_cases h : okM n f t
    · rw [if_pos h]; have := nW_le h.2.1; simp [maskB]; omega
    · rw [if_neg h]; simp
  have k09 := Kept.trans k08 k9
  refine onEq_t (by omega) ?_
  refine E.CallsD.mono (Same_yes (s2.keep (Kept.trans k3 (Kept.trans k38 k9))) (s6.keep (Kept.trans k7 (Kept.trans k8 k9))) h2) fun v u10 ⟨hv, k10⟩ => ⟨_, hv, ?_⟩
  rw [onBool_t]
  refine E.CallsD.mono (Same_yes (s3.keep (Kept.trans k38 (Kept.trans k9 k10))) (s7.keep (Kept.trans k8 (Kept.trans k9 k10))) h3) fun v u11 ⟨hv, k11⟩ => ⟨_, hv, ?_⟩
  rw [onBool_t]
  refine E.CallsD.mono (Same_yes (s4.keep (Kept.trans k5 (Kept.trans k6 (Kept.trans k7 (Kept.trans k8 (Kept.trans k9 (Kept.trans k10 k11))))))) (s8.keep (Kept.trans k9 (Kept.trans k10 k11))) h4) fun v u12 ⟨hv, k12⟩ => ⟨_, hv, ?_⟩
  rw [onBool_t]
  refine onEq_t (by omega) ?_
  refine onEq_t (by omega) ?_
  refine onEq_t (by omega) ?_
  exact ⟨by simp, Kept.trans k09 (Kept.trans k10 (Kept.trans k11 k12))⟩
end
end Go.Mir
