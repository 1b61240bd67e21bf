/- Part of a proof of laws of the seat Ytfcablfoenhiiaa: functions' weakest preconditions, each checked by the kernel, and contracts out of them; no conditions. -/
import Derived.Test.YtfcablfoenhiiaaL3
import Derived.Test.YtfcablfoenhiiaaRows
import Derived.ChangeShapes
import Derived.Laws.Cover2
import Derived.OpenShut
import Derived.ProofKit
set_option linter.unusedVariables false
set_option linter.unusedSimpArgs false
namespace Go.Mir
open Go Go.E Go.RowKit Go.ChangeShapes Go.WideShapes Go.ChangeAt
open Go.Proofs.Ytfcablfoenhiiaa (Rows.uptoBulk Rows.uptoBulkAll Rows.uptoSmall)

section
variable {H : Type} {enc : TypeId × Value → H} {w : World}
theorem bulk_one (d : DataW H) : 1 ≤ Rows.uptoBulk d := by
  cases d with
  | lit l => cases l <;> simp [Rows.uptoBulk]
  | nil => simp [Rows.uptoBulk]
  | ptr d => simp [Rows.uptoBulk]
  | slice elems spare => simp [Rows.uptoBulk]
  | agg parts => simp [Rows.uptoBulk]
  | iface t d => simp [Rows.uptoBulk]
  | map entries => simp [Rows.uptoBulk]
  | held h => simp [Rows.uptoBulk]
theorem bulk_part {d : DataW H} {l : List (DataW H)} (h : d ∈ l) : Rows.uptoBulk d ≤ Rows.uptoBulkAll l := by
  induction l with
  | nil => cases h
  | cons x r ih =>
    simp only [Rows.uptoBulkAll]
    cases List.mem_cons.1 h with
    | inl e => subst e; omega
    | inr e => have := ih e; omega
theorem bulk_len (l : List (DataW H)) : l.length ≤ Rows.uptoBulkAll l := by
  induction l with
  | nil => simp [Rows.uptoBulkAll]
  | cons x r ih => have := bulk_one x; simp only [Rows.uptoBulkAll, List.length_cons]; omega
theorem meas : Meas (H := H) Rows.uptoBulk where
  len es sp := by have := bulk_len es; simp only [Rows.uptoBulk]; omega
  elem es sp d h := by have := bulk_part h; simp only [Rows.uptoBulk]; omega
  part ps d h := by have := bulk_part h; simp only [Rows.uptoBulk]; omega
theorem small_part {d : DataW H} {l : List (DataW H)} (hk : Rows.uptoSmall H l = true) (h : d ∈ l) : Rows.uptoBulk d ≤ 1048576 := by
  have h1 : Rows.uptoBulkAll l ≤ 1048576 := of_decide_eq_true hk
  have := bulk_part h
  omega

theorem under24 : Proofs.Try.prog.underlying 24 = some (.array 8 22) := by kernel_rfl
theorem under22 : Proofs.Try.prog.underlying 22 = some (.float .f64) := by kernel_rfl
theorem under3 : Proofs.Try.prog.underlying 3 = some (.int .i64) := by kernel_rfl
theorem under4 : Proofs.Try.prog.underlying 4 = some .bool := by kernel_rfl
theorem cells24 : Proofs.Try.prog.cellsOf 24 = 8 := by kernel_rfl
theorem cells22 : Proofs.Try.prog.cellsOf 22 = 1 := by kernel_rfl
theorem cells3 : Proofs.Try.prog.cellsOf 3 = 1 := by kernel_rfl

theorem tr_lane {cs : List Value} {y : DataW H × List MemPlace} (h : TR enc Proofs.Try.prog w 24 cs y) : ∃ x, cs = (lcells x).toList := by
  obtain ⟨hl, _, _, hp⟩ := tr_array under24 h
  rw [cells24] at hl
  have each : ∀ i : Fin 8, ∃ n, cs[i.val]? = some (.float .f64 n) := by
    intro i
    obtain ⟨z, hz, _⟩ := hp i.val i.isLt
    obtain ⟨n, hn, _⟩ := tr_float under22 hz
    rw [cells22, Nat.mul_one] at hn
    refine ⟨n, ?_⟩
    have := congrArg (fun l => l[0]?) hn
    simpa using this
  obtain ⟨f, hf⟩ := Classical.axiomOfChoice each
  refine ⟨fun i => if h : i < 8 then f ⟨i, h⟩ else 0, ?_⟩
  apply List.ext_getElem?
  intro i
  by_cases hi : i < 8
  · have := hf ⟨i, hi⟩
    rw [this]
    have h2 := lcells_get (fun i => if h : i < 8 then f ⟨i, h⟩ else 0) hi
    simp only [hi, dif_pos] at h2
    simpa using h2.symm
  · rw [List.getElem?_eq_none (by omega), List.getElem?_eq_none (by simp; omega)]

theorem open_lane {r : Reach} {b0 : Nat} {v : Value} {d : DataW H} {ps : List MemPlace} (hv : Value.okWide Proofs.Try.prog w r b0 24 v) (h : DataW.Trod enc Proofs.Try.prog w 0 (fun _ => true) true 24 v d ps) : ∃ x, v = lv x := by
  unfold Value.okWide at hv
  rw [under24] at hv
  obtain ⟨cs, rfl, _⟩ := hv
  obtain ⟨x, hx⟩ := tr_lane h
  refine ⟨x, ?_⟩
  show Value.agg cs = Value.agg (lcells x)
  congr 1
  exact Array.toList_inj.1 hx

theorem ints_el {cs : List Value} {y : DataW H × List MemPlace} (h : TR enc Proofs.Try.prog w 3 cs y) : ∃ v, cs = [encI v] ∧ True := by
  obtain ⟨n, hn, _⟩ := tr_int under3 h
  exact ⟨n, hn, trivial⟩

theorem Sl_none {α : Type} {en : α → Value} {a : Option Addr} {n : Nat} {xs : List α} (h : Sl en w a n xs) (ha : a = none) : n = 0 := by
  subst ha
  cases xs with
  | nil => exact h.len
  | cons x xs => obtain ⟨p, hp, _⟩ := h.get 0 x rfl; cases hp

theorem open_islice {r : Reach} {b0 : Nat} {v : Value} {d : DataW H} {ps : List MemPlace} (hv : Value.okWide Proofs.Try.prog w r b0 25 v) (h : DataW.Trod enc Proofs.Try.prog w 0 (fun _ => true) true 25 v d ps) :
    ∃ a n c cs, v = .slice a n c ∧ Sl encI w a n cs ∧ n ≤ Rows.uptoBulk d := by
  obtain ⟨a, n, c, rfl⟩ := okWide_slice under25 hv
  obtain ⟨a', n', c', xs, hcs, hs, _, _, hb, _⟩ := tr_sl (G := fun _ _ => True) (en := encI) meas under25 cells3 (fun cs y hy => ints_el hy) h
  simp only [Value.cells, List.cons.injEq, Value.slice.injEq] at hcs
  obtain ⟨⟨rfl, rfl, rfl⟩, _⟩ := hcs
  exact ⟨_, _, _, xs, rfl, hs, hb⟩
end
end Go.Mir
