/- Part of a proof of laws of the seat Ytdealcfgobobiaa: functions' weakest preconditions, each checked by the kernel, contracts out of them, plain lemmas; no conditions. -/
import Derived.Test.YtdealcfgobobiaaT28
set_option linter.unusedVariables false
set_option linter.unusedSimpArgs false
set_option maxRecDepth 100000
namespace Go.Mir
open Go Go.E Go.RowKit Go.Tr
theorem canon_len (nodes : List ND) : (canonP nodes).length ≤ nodes.length := by
  by_cases h : (shapeP nanB nodes).1 = 0
  · rw [canonP_ok h, canonN_length, (treeP_spec h).length]; exact Nat.le_refl _
  · rw [canonP_no h]; simp
theorem canon_short {nodes : List ND} {N : Nat} (hs : Short N nodes) : Short N (canonP nodes) := by
  by_cases h : (shapeP nanB nodes).1 = 0
  · rw [canonP_ok h]
    intro y hy
    unfold canonN at hy
    obtain ⟨i, hi, rfl⟩ := List.mem_map.1 hy
    have hlt := ((treeP_spec h).mem i).1 hi
    rw [renum_cats, List.getD_eq_getElem?_getD, List.getElem?_eq_getElem hlt]
    exact hs _ (List.getElem_mem hlt)
  · rw [canonP_no h]; intro y hy; cases hy
/-- What is known in TreesCopies. -/
def FCp (o : Int) (B n : Nat) (nodes : List ND) : Nat → Value → World → Prop := fun i v u => (i ≠ 4 → v = .bool true) ∧ (i = 4 → ∃ a c, v = vT o a n c ∧ OwnN B u a n c nodes)
theorem FCp.keep {o : Int} {B n : Nat} {nodes : List ND} (i : Nat) (v : Value) (u u' : World) (h : FCp o B n nodes i v u) (hk : Below u.heap.size u u') : FCp o B n nodes i v u' := ⟨h.1, fun hi => by
  obtain ⟨a, c, h1, h2⟩ := h.2 hi
  exact ⟨a, c, h1, h2.kept hk⟩⟩
theorem bool_true {b : Bool} (h : Value.bool b = .bool true) : b = true := by simpa using h
section
variable {w u w1 : World} {p : Addr} {o : Int} {a a1 : Option Addr} {n c n1 c1 g B B' : Nat} {F S : Nat → Prop} {nodes : List ND} {xs : List Nat} {ts : List TD} {e : ED} {f b t : SH}
theorem OwnN.goodS (h : OwnN B w a n c nodes) {nodes0 : List ND} (hl : nodes.length ≤ nodes0.length) (hm : nodes0.length ≤ 1048576) (hs : Short 1048576 nodes) : Good (newB B w) w a n c nodes := h.good (by rw [h.len]; omega) hs
/-- The law TreesCopies. -/
theorem treesCopies_law (hG : Good F w a n c nodes) : Pure Go.Proofs.Try.prog 10 #[vT o a n c] w (.bool true) := by
  refine thicketlaw07_TreesCopies.calls (R := fun v' u => v' = _ ∧ Below w.heap.size w u) ?_
  unfold thicketlaw07_TreesCopies thicketlaw07_TreesCopies.g0
  have hn := hG.len
  have hmx := hG.max
  refine box2T fun w1 _ hT hk1 => ⟨_, hT.c0, _, _, _, hT.c1, ?_⟩
  refine E.CallsD.mono (copied_c (o := o) (hG.kept hk1)) fun v w2 ⟨a2, c2, hv, ho2, hk2⟩ => ⟨_, _, _, _, hv, ?_⟩
  have hG2 := ho2.good hmx hG.short
  refine E.CallsD.mono (Canon_c (o := o) hG2) fun v w3 ⟨a3, n3, c3, hv, ho3, hk3⟩ => ⟨_, _, _, _, _, hv, ?_⟩
  refine box2Tz fun w4 _ hTc hk4 => ?_
  have k14 := Kept.trans hk2 (Kept.trans hk3 hk4)
  have hT4 := hT.kept k14
  have k4 := Kept.trans hk1 k14
  refine ⟨_, hT4.c0, _, _, _, hT4.c1, ?_⟩
  refine E.CallsD.mono (Canon_c (o := o) (hG.kept k4)) fun v w5 ⟨a5, n5, c5, hv, ho5, hk5⟩ => ⟨_, _, _, _, _, hv, ?_⟩
  refine box2Tz fun w6 _ hTd hk6 => ?_
  have k46 := Kept.trans hk5 hk6
  have k6 := Kept.trans k4 k46
  have hT6 := hT4.kept k46
  have hTc6 := hTc.kept k46
  have ho3' := ho3.kept (Kept.trans hk4 k46)
  have ho5' := ho5.kept hk6
  have hcl := canon_len nodes
  have hcs := canon_short hG.short
  refine ⟨FCp o w.heap.size n nodes, FCp.keep, fun u hu => E.CallsD.mono (lives_c u) fun v u' ⟨hv, hk⟩ => ⟨_, hv, ⟨fun _ => rfl, fun h => by omega⟩, hk⟩, fun b0 ⟨_, _, hb0⟩ => ?_⟩
  obtain rfl := bool_true (hb0.1 (by omega))
  refine ob_t ⟨_, hT6.c0, _, _, _, hT6.c1, _, hT6.c0, _, _, _, hT6.c1, fun u hu _ => ?_, fun o7 a7 n7 c7 ⟨_, _, hb7⟩ => ⟨fun u hu _ hF4 => ?_, fun b8 ⟨_, _, hb8⟩ => ?_⟩⟩
  · refine E.CallsD.mono (copied_c (o := o) (hG.kept (Kept.trans k6 hu))) fun v u' ⟨a', c', hv, ho, hk⟩ => ⟨_, _, _, _, hv, ⟨fun h => absurd rfl h, fun _ => ⟨_, _, rfl, ho.weak (Kept.trans k6 hu).size⟩⟩, hk⟩
  · obtain ⟨a8, c8, hv, ho8⟩ := hF4.2 rfl
    simp only [Value.agg.injEq, Array.mk.injEq, List.cons.injEq, Value.int.injEq, Value.slice.injEq, and_true, true_and] at hv
    obtain ⟨rfl, rfl, rfl, rfl⟩ := hv
    refine E.CallsD.mono (Alike_c (o := o7) (o1 := o7) (hG.kept (Kept.trans k6 hu)) (ho8.good hmx hG.short)) fun v u' ⟨hv, hk⟩ => ⟨_, hv, ⟨fun _ => ?_, fun h => by omega⟩, hk⟩
    rw [decB_t ⟨rfl, rfl⟩]
  obtain rfl := bool_true (hb8.1 (by omega))
  refine ob_t (onEq_t rfl ⟨_, hTc6.c0, _, _, _, hTc6.c1, _, hTd.c0, _, _, _, hTd.c1, fun u hu _ _ _ => ?_, fun b9 ⟨_, _, hb9⟩ u hu _ _ _ _ => ⟨hb9.1 (by omega), Kept.trans k6 hu⟩⟩)
  refine E.CallsD.mono (Alike_c (o := canonO o nodes) (o1 := canonO o nodes) ((ho3'.goodS hcl (by omega) hcs).kept hu) ((ho5'.goodS hcl (by omega) hcs).kept hu)) fun v u' ⟨hv, hk⟩ => ⟨_, hv, ⟨fun _ => ?_, fun h => by omega⟩, hk⟩
  rw [decB_t ⟨rfl, rfl⟩]
end
end Go.Mir
