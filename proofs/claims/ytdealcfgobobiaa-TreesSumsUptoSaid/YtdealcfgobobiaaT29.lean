/- Part of a proof of laws of the seat Ytdealcfgobobiaa: functions' weakest preconditions, each checked by the kernel, contracts out of them, plain lemmas; no conditions. -/
import Derived.Test.YtdealcfgobobiaaT28
set_option linter.unusedVariables false
set_option linter.unusedSimpArgs false
set_option maxRecDepth 100000
namespace Go.Mir
open Go Go.E Go.RowKit Go.Tr
theorem canon_len (nodes : List ND) : (canonP nodes).length ≤ nodes.length := by
  by_cases h : (shapeP nanB nodes).1 = 0
  · rw [canonP_ok h, canonN_length, (treeP_spec h).length]; exact Nat.le_refl _
  · rw [canonP_no h]; simp
theorem canon_short {nodes : List ND} {N : Nat} (hs : Short N nodes) : Short N (canonP nodes) := by
  by_cases h : (shapeP nanB nodes).1 = 0
  · rw [canonP_ok h]
    intro y hy
    unfold canonN at hy
    obtain ⟨i, hi, rfl⟩ := List.mem_map.1 hy
    have hlt := ((treeP_spec h).mem i).1 hi
    rw [renum_cats, List.getD_eq_getElem?_getD, List.getElem?_eq_getElem hlt]
    exact hs _ (List.getElem_mem hlt)
  · rw [canonP_no h]; intro y hy; cases hy
theorem bool_true {b : Bool} (h : Value.bool b = .bool true) : b = true := by simpa using h
section
variable {w u w1 : World} {p : Addr} {o : Int} {a a1 : Option Addr} {n c n1 c1 g B B' : Nat} {F S : Nat → Prop} {nodes : List ND} {xs : List Nat} {ts : List TD} {e : ED} {f b t : SH}
theorem OwnN.goodS (h : OwnN B w a n c nodes) {nodes0 : List ND} (hl : nodes.length ≤ nodes0.length) (hm : nodes0.length ≤ 1048576) (hs : Short 1048576 nodes) : Good (newB B w) w a n c nodes := h.good (by rw [h.len]; omega) hs
end
end Go.Mir
