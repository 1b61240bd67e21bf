/- Part of a proof of laws of the seat YtpllehijaidinaaDoor: functions' weakest preconditions, each checked by the kernel, contracts out of them, plain lemmas; no conditions. -/
import Derived.Test.YtpllehijaidinaaDoorKA
import Derived.Test.YtpllehijaidinaaDoorTD
import Derived.Test.YtpllehijaidinaaDoorKLMarks
set_option linter.unusedVariables false
set_option linter.unusedSimpArgs false
set_option maxRecDepth 100000
namespace Go.Mir
open Go Go.E Go.RowKit Go.Tr
section
variable {w w1 u W : World} {o : Int} {a a1 b : Option Addr} {n c n1 c1 m d : Nat} {F : Nat → Prop} {nodes : List ND} {xs : List Nat}
/-- What is known in MaskMarks. -/
def FMk (B n : Nat) (nodes : List ND) : Nat → Value → World → Prop := fun i v u => (i = 4 → ∃ a c, v = .slice a n c ∧ OwnN B u a n c nodes) ∧ (i = 6 → ∃ Bw : World, v = .pointer (some (na Bw)) ∧ B ≤ Bw.heap.size ∧ Blk u Bw.heap.size #[.int .i64 0, .slice none 0 0] 24)
theorem FMk.keep {B n : Nat} {nodes : List ND} (i : Nat) (v : Value) (u u' : World) (h : FMk B n nodes i v u) (hk : Below u.heap.size u u') : FMk B n nodes i v u' := ⟨fun hi => by
  obtain ⟨a, c, h1, h2⟩ := h.1 hi
  exact ⟨a, c, h1, h2.kept hk⟩, fun hi => by
  obtain ⟨Bw, h1, h2, h3⟩ := h.2 hi
  exact ⟨Bw, h1, h2, h3.keep hk⟩⟩
theorem fill2T {b0 : World} {o : Int} {a : Option Addr} {n c : Nat} {ty : Nat} (h : Blk w b0.heap.size #[.int .i64 0, .slice none 0 0] ty) {K : World → Prop} (hk : ∀ u, At2 u (na b0) o a n c → Only (b0.heap.size + 1) w u → K u) :
    okSt w ((na b0).add 0) ∧ (nw (w.setCell ((na b0).add 0) (.int .i64 o)) fun w1 => okSt w1 ((na b0).add 1) ∧ (nw (w1.setCell ((na b0).add 1) (.slice a n c)) fun w2 => K w2)) :=
  h.wr (by simp) fun u1 b1 o1 => b1.wr (by simp) fun u2 b2 o2 => hk u2 ⟨b2.rd rfl, b2.rd rfl⟩ (o1.trans o2 (fun _ _ h => h) (fun _ _ h => h))
theorem masks_len : ∀ xs ∈ masksP nodes, xs.length ≤ 16777216 := by
  intro xs hx
  unfold masksP at hx
  obtain ⟨m, hm, rfl⟩ := List.mem_map.1 hx
  rw [mkW_len]
  have : lvN nodes ≤ 4096 := by
    by_cases h0 : lvE nodes = 0
    · exact (marks_bd h0).1
    · unfold lvN; rw [if_neg h0]; omega
  omega
/-- The law MaskMarks. -/
theorem maskMarks_law (hTab : Go.Bi.Tab w) (hG : Good F w a n c nodes) : Pure Go.Proofs.Tryd.prog 5 #[vT o a n c] w (.bool true) := by
  refine thicketlaw13_MaskMarks.calls (R := fun v' u => v' = _ ∧ Below w.heap.size w u) ?_
  unfold thicketlaw13_MaskMarks thicketlaw13_MaskMarks.g0
  have hn := hG.len
  have hmx := hG.max
  have hml := marks_le hG.len hG.max
  refine box2T fun w1 _ hT hk1 => ⟨FMk w1.heap.size n nodes, FMk.keep, _, hT.c0, _, _, _, hT.c1, fun u hu => ?_, fun a2 n2 c2 ⟨u2, hu2, hF2⟩ => ⟨fun u hu => ⟨fun h => by omega, fun _ => ⟨u, rfl, hu.size, Blk.new u _ _⟩⟩, fun q ⟨_, _, hq⟩ u hu hF4 hF6 => ?_⟩⟩
  · refine E.CallsD.mono (refNodes_c (hG.kept (Kept.trans hk1 hu))) fun v u' ⟨a', c', hv, ho, hk⟩ => ⟨_, _, _, hv, ⟨fun _ => ⟨_, _, rfl, ho.weak hu.size⟩, fun h => by omega⟩, hk⟩
  obtain ⟨a', c', hv, ho⟩ := hF4.1 rfl
  simp only [Value.slice.injEq] at hv
  obtain ⟨rfl, rfl, rfl⟩ := hv
  obtain ⟨Bw, hv, hBw, hblk⟩ := hF6.2 rfl
  simp only [Value.pointer.injEq, Option.some.injEq] at hv
  subst hv
  refine fill2T hblk fun u3 h2 ho3 => ⟨_, h2.c0, _, _, _, h2.c1, ?_⟩
  have hoN := ho.modS ho3 (Blk.apartS hblk (by decide))
  have hf3 : From w1.heap.size w1 u3 := ((Kept.fr hu).only ho3 (.inr (by omega)))
  have k3 := Kept.trans hk1 (From.kept hf3)
  have hT3 := hT.kept (From.kept hf3)
  have hGc := hoN.good hmx hG.short
  refine E.CallsD.mono (Marks_c (o := o) hGc) fun v u4 ⟨a4, n4, c4, hv, h4⟩ => ⟨_, _, _, _, hv, ?_⟩
  have k4 := Kept.trans k3 h4.kept
  have hT4 := hT3.kept h4.kept
  refine ⟨_, hT4.c0, _, _, _, hT4.c1, ?_⟩
  refine E.CallsD.mono (refMarks_c (o := o) (hG.kept k4)) fun v u5 ⟨a5, n5, c5, hv, h5⟩ => ⟨_, _, _, _, hv, ?_⟩
  have k35 := Kept.trans h4.kept h5.kept
  have k5 := Kept.trans k3 k35
  have h25 := h2.kept k35
  refine ⟨_, h25.c0, _, _, _, h25.c1, ?_⟩
  refine E.CallsD.mono (Masks_c (o := o) (hGc.kept k35)) fun v u6 ⟨a6, n6, c6, l6, g6, hv, h6, e6, hk6⟩ => ⟨_, _, _, _, hv, ?_⟩
  have k36 := Kept.trans k35 hk6
  have k6 := Kept.trans k3 k36
  have hT6 := hT3.kept k36
  refine ⟨_, hT6.c0, _, _, _, hT6.c1, ?_⟩
  refine E.CallsD.mono (refMasks_c (o := o) (hG.kept k6)) fun v u7 ⟨a7, n7, c7, l7, g7, hv, h7, e7, hk7⟩ => ⟨_, _, _, _, hv, ?_⟩
  have k37 := Kept.trans k36 hk7
  have k7 := Kept.trans k3 k37
  refine E.CallsD.mono (lives_c (hTab.kept k7)) fun v u8 ⟨hv, hk8⟩ => ⟨_, hv, ob_t ?_⟩
  have k48 := Kept.trans (Kept.trans (Kept.trans h5.kept hk6) hk7) hk8
  have k58 := Kept.trans (Kept.trans hk6 hk7) hk8
  have h4l := h4.len
  refine E.CallsD.mono (sameM_yes (c := c4) (d := c5) (h4.slk.keep k48) (h5.slk.keep k58) (by omega)) fun v u9 ⟨hv, hk9⟩ => ⟨_, hv, ob_t (onEq_t rfl ?_)⟩
  have h6s := h6.sl2
  have h7s := h7.sl2
  rw [e6] at h6s
  rw [e7] at h7s
  have h6l := h6s.len
  have hms : (masksP nodes).length = (marksP nodes).length := by unfold masksP; simp
  refine E.CallsD.mono (sets_yes (c := c6) (d := c7) (h6s.keep (Kept.trans (Kept.trans hk7 hk8) hk9)) (h7s.keep (Kept.trans hk8 hk9)) (by omega) masks_len) fun v u10 ⟨hv, hk10⟩ => ⟨_, hv, ob_t (onEq_t rfl ?_)⟩
  have k310 := Kept.trans (Kept.trans (Kept.trans k37 hk8) hk9) hk10
  have h210 := h2.kept k310
  have hT10 := hT3.kept k310
  refine ⟨_, h210.c0, _, _, _, h210.c1, _, hT10.c0, _, _, _, hT10.c1, ?_⟩
  refine E.CallsD.mono (refAlike_c (o := o) (o1 := o) (hGc.kept k310) (hG.kept (Kept.trans k3 k310))) fun v u11 ⟨hv, hk11⟩ => ⟨_, hv, ?_, Kept.trans (Kept.trans k3 k310) hk11⟩
  rw [decB_t ⟨rfl, rfl⟩]
end
end Go.Mir
