/- Part of a proof of laws of the seat Ytfcablfoenhiiaa: functions' weakest preconditions, each checked by the kernel, and contracts out of them; no conditions. -/
import Derived.Test.YtfcablfoenhiiaaL4
import Derived.Test.YtfcablfoenhiiaaLE
set_option linter.unusedVariables false
set_option linter.unusedSimpArgs false
namespace Go.Mir
open Go Go.E Go.RowKit Go.ChangeShapes Go.WideShapes Go.ChangeAt
open Go.Proofs.Ytfcablfoenhiiaa (Rows.uptoBulk Rows.uptoBulkAll Rows.uptoSmall)

section
variable {H : Type} {enc : TypeId × Value → H} {w : World}
theorem under48 : Proofs.Try.prog.underlying 48 = some (.slice 22) := by kernel_rfl
theorem under31 : Proofs.Try.prog.underlying 31 = some (.slice 48) := by kernel_rfl
theorem under50 : Proofs.Try.prog.underlying 50 = some (.slice 24) := by kernel_rfl
theorem under32 : Proofs.Try.prog.underlying 32 = some (.slice 50) := by kernel_rfl
theorem cells48 : Proofs.Try.prog.cellsOf 48 = 1 := by kernel_rfl
theorem cells50 : Proofs.Try.prog.cellsOf 50 = 1 := by kernel_rfl

theorem floats_el {cs : List Value} {y : DataW H × List MemPlace} (h : TR enc Proofs.Try.prog w 22 cs y) : ∃ v, cs = [encF v] ∧ True := by
  obtain ⟨n, hn, _⟩ := tr_float under22 h
  exact ⟨n, hn, trivial⟩

theorem open_rows {r : Reach} {b0 : Nat} {v : Value} {d : DataW H} {ps : List MemPlace} (hv : Value.okWide Proofs.Try.prog w r b0 31 v) (h : DataW.Trod enc Proofs.Try.prog w 0 (fun _ => true) true 31 v d ps) :
    ∃ a n c l, v = .slice a n c ∧ Sl2 encF w a n l ∧ n ≤ Rows.uptoBulk d ∧ ∀ row ∈ l, row.length ≤ Rows.uptoBulk d := by
  obtain ⟨a, n, c, rfl⟩ := okWide_slice under31 hv
  obtain ⟨a', n', c', xss, hcs, hs, _, hb, hall⟩ := tr_slp (I := fun w a n xs => Sl encF w a n xs) (G := fun xs b => xs.length ≤ b) meas under31 cells48 (fun cs y hy => by
    obtain ⟨a, n, c, xs, rfl, hs, _, _, hb, _⟩ := tr_sl (G := fun _ _ => True) (en := encF) meas under48 cells22 (fun cs y hy => floats_el hy) hy
    exact ⟨a, n, c, xs, rfl, hs, by have := hs.len; omega⟩) h
  simp only [Value.cells, List.cons.injEq, Value.slice.injEq] at hcs
  obtain ⟨⟨rfl, rfl, rfl⟩, _⟩ := hcs
  exact ⟨_, _, _, xss, rfl, ⟨hs.len, hs.get⟩, hb, fun row hr => by obtain ⟨b, h1, h2⟩ := hall row hr; exact Nat.le_trans h1 h2⟩

theorem open_groups {r : Reach} {b0 : Nat} {v : Value} {d : DataW H} {ps : List MemPlace} (hv : Value.okWide Proofs.Try.prog w r b0 32 v) (h : DataW.Trod enc Proofs.Try.prog w 0 (fun _ => true) true 32 v d ps) :
    ∃ a n c gs, v = .slice a n c ∧ SlG w a n gs ∧ n ≤ Rows.uptoBulk d := by
  obtain ⟨a, n, c, rfl⟩ := okWide_slice under32 hv
  obtain ⟨a', n', c', xss, hcs, hs, _, hb, _⟩ := tr_slp (I := fun w a n xs => SlK 8 encL w a n xs) (G := fun _ _ => True) meas under32 cells50 (fun cs y hy => by
    obtain ⟨a, n, c, xs, rfl, hs, _, _⟩ := tr_slk (en := encL) meas under50 cells24 (fun cs y hy => tr_lane hy) hy
    exact ⟨a, n, c, xs, rfl, hs, trivial⟩) h
  simp only [Value.cells, List.cons.injEq, Value.slice.injEq] at hcs
  obtain ⟨⟨rfl, rfl, rfl⟩, _⟩ := hcs
  exact ⟨_, _, _, xss, rfl, hs, hb⟩
theorem i64_wf {n : Int} (h : (Lit.int .i64 n).wf = true) : -9223372036854775808 ≤ n ∧ n ≤ 9223372036854775807 := by
  simpa [Lit.wf, IntKind.min, IntKind.max, IntKind.signed, IntKind.bits] using h
end
end Go.Mir
