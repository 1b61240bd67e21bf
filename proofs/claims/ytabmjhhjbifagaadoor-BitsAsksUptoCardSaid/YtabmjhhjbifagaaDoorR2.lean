/- Part of a proof of laws of the seat YtabmjhhjbifagaaDoor: functions' weakest preconditions, each checked by the kernel, and contracts out of them; no conditions. -/
import Derived.Test.YtabmjhhjbifagaaDoorR1
import Derived.Test.YtabmjhhjbifagaaDoorM5
set_option linter.unusedVariables false
set_option linter.unusedSimpArgs false
namespace Go.Mir
open Go Go.E Go.RowKit Go.ChangeShapes Go.WideShapes Go.ChangeAt
open Go.Proofs.YtabmjhhjbifagaaDoor (Rows.uptoBulk Rows.uptoBulkAll Rows.uptoSmall)
section
variable {H : Type} {enc : TypeId × Value → H} {w : World}
theorem bulk_string {s : ByteArray} {d : DataW H} (h : d = .lit (.string s.data.toList)) : s.size ≤ Rows.uptoBulk d := by
  subst h
  have : s.size = s.data.toList.length := by rw [Array.length_toList]; rfl
  rw [Rows.uptoBulk]
  omega
/-- A struct of two whole numbers. -/
theorem opens_R : Opens enc Go.Proofs.Tryd.prog w Rows.uptoBulk tR 58 (fun _ _ => True) := fun cs y hy => by
  have hS : ∃ fs, Go.Proofs.Tryd.prog.underlying 58 = some (.struct fs) ∧ fs = ((Go.Proofs.Tryd.prog).fieldsOf 58) := ⟨_, by kernel_rfl, rfl⟩
  obtain ⟨fs, hS, hfs⟩ := hS
  have hf0 : (fs[0]?).map (fun f => (f.type, f.offset)) = some (3, 0) := by rw [hfs]; kernel_rfl
  have hf1 : (fs[1]?).map (fun f => (f.type, f.offset)) = some (3, 1) := by rw [hfs]; kernel_rfl
  obtain ⟨f0, h0, e0⟩ := Option.map_eq_some_iff.1 hf0
  obtain ⟨f1, h1, e1⟩ := Option.map_eq_some_iff.1 hf1
  obtain ⟨hl, parts, _, hp⟩ := tr_struct hS hy
  rw [show (Go.Proofs.Tryd.prog).cellsOf 58 = 2 from by kernel_rfl] at hl
  have c1 : (Go.Proofs.Tryd.prog).cellsOf 3 = 1 := by kernel_rfl
  obtain ⟨y0, hy0, _, _⟩ := hp 0 f0 h0
  obtain ⟨y1, hy1, _, _⟩ := hp 1 f1 h1
  simp only [Prod.mk.injEq] at e0 e1
  rw [e0.1, e0.2, c1] at hy0
  rw [e1.1, e1.2, c1] at hy1
  have u : Go.Proofs.Tryd.prog.underlying 3 = some (.int .i64) := by kernel_rfl
  obtain ⟨n0, hn0, _⟩ := tr_int u hy0
  obtain ⟨n1, hn1, _⟩ := tr_int u hy1
  refine ⟨(n0, n1), ?_, trivial⟩
  show cs = [_, _]
  match cs, hl with
  | [p, q], _ =>
    simp at hn0 hn1
    rw [hn0, hn1]
end
end Go.Mir
