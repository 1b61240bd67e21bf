/- Part of a proof of laws of the seat YtabmjhhjbifagaaDoor: functions' weakest preconditions, each checked by the kernel, and contracts out of them; no conditions. -/
import Derived.Test.YtabmjhhjbifagaaDoorM3
set_option linter.unusedVariables false
set_option linter.unusedSimpArgs false
namespace Go.E
open Go Go.RowKit Go.ChangeShapes
section
variable {H : Type} {enc : TypeId × Value → H} {P : Program} {w : World} {t e : TypeId} {B : DataW H → Nat} {α : Type}
/-- What lies in memory as type t reads as data of this kind, of which G holds by its measure. -/
def Opens (enc : TypeId × Value → H) (P : Program) (w : World) (B : DataW H → Nat) (T : Ty α) (t : TypeId) (G : α → Nat → Prop) : Prop :=
  ∀ cs y, TR enc P w t cs y → ∃ x, T.rd (fun b => b < w.heap.size) w x cs ∧ G x (B y.1)
theorem Opens.weak {T : Ty α} {G G' : α → Nat → Prop} (h : Opens enc P w B T t G) (hG : ∀ x b, G x b → G' x b) : Opens enc P w B T t G' := fun cs y hy => let ⟨x, h1, h2⟩ := h cs y hy; ⟨x, h1, hG _ _ h2⟩
theorem opens_int {k : IntKind} (ht : P.underlying t = some (.int k)) : Opens enc P w B (tInt k) t (fun x _ => (Lit.int k x).wf = true) := fun cs y hy => by
  obtain ⟨n, rfl, hw⟩ := tr_int ht hy
  exact ⟨n, rfl, hw⟩
theorem opens_word (ht : P.underlying t = some (.int .u64)) : Opens enc P w B tW t (fun _ _ => True) := fun cs y hy => by
  obtain ⟨n, rfl, hw⟩ := tr_int ht hy
  have hw' : 0 ≤ n ∧ n ≤ 18446744073709551615 := by simpa [Lit.wf, IntKind.min, IntKind.max, IntKind.signed, IntKind.bits] using hw
  refine ⟨BitVec.ofNat 64 n.toNat, ?_, trivial⟩
  show _ = [enW _]
  unfold enW
  rw [BitVec.toNat_ofNat, Nat.mod_eq_of_lt (by omega), show ((n.toNat : Nat) : Int) = n from by omega]
theorem opens_float (ht : P.underlying t = some (.float .f64)) : Opens enc P w B tF64 t (fun x _ => (Lit.float .f64 x).wf = true) := fun cs y hy => by
  obtain ⟨n, rfl, hw⟩ := tr_float ht hy
  exact ⟨n, rfl, hw⟩
theorem opens_bool (ht : P.underlying t = some .bool) : Opens enc P w B tBool t (fun _ _ => True) := fun cs y hy => by
  obtain ⟨n, rfl⟩ := tr_bool ht hy
  exact ⟨n, rfl, trivial⟩
theorem opens_sl {T : Ty α} {G : α → Nat → Prop} (hB : Meas B) (ht : P.underlying t = some (.slice e)) (hc : P.cellsOf e = T.k) (hk0 : T.k ≠ 0) (h : Opens enc P w B T e G) :
    Opens enc P w B T.sl t (fun xs b => xs.length ≤ b ∧ ∀ x ∈ xs, ∃ b', b' ≤ b ∧ G x b') := fun cs y hy => by
  obtain ⟨a, n, c, rfl, h1, _, h3, h4, h5⟩ := tr_slice hB ht hy
  cases a with
  | none =>
    obtain ⟨rfl, rfl⟩ := h4 rfl
    exact ⟨[], ⟨none, 0, 0, rfl, Ls.nil _ _ _ _ _⟩, Nat.zero_le _, fun x hx => by cases hx⟩
  | some p =>
    have each : ∀ i : Fin n, ∃ x, (∃ cs, T.rd (fun b => b < w.heap.size) w x cs ∧ ∀ j v, cs[j]? = some v → w.cell? (p.add (i * T.k + j)) = some v) ∧ ∃ b', b' ≤ B y.1 ∧ G x b' := by
      intro i
      obtain ⟨cs', z, hc1, hz, hb⟩ := h5 p rfl i i.isLt
      obtain ⟨x, hx, hG⟩ := h cs' z hz
      refine ⟨x, ⟨cs', hx, fun j v hj => ?_⟩, _, hb, hG⟩
      rw [hc] at hc1
      rw [← add_add]
      exact cells_at hc1 j v hj
    obtain ⟨f, hf⟩ := Classical.axiomOfChoice each
    have hp : 0 < n → T.k ≠ 0 → p.block < w.heap.size := fun hn hk => by
      obtain ⟨⟨cs, hr, hcs⟩, _⟩ := hf ⟨0, hn⟩
      have hl := T.len hr
      have := hcs 0 (cs[0]'(by omega)) (List.getElem?_eq_getElem _)
      have := block_lt_of_cell this
      rwa [add_block] at this
    refine ⟨List.ofFn f, ⟨some p, n, c, rfl, by simp, h1, fun i x hi => ?_⟩, by simpa using h3, fun x hx => ?_⟩
    · obtain ⟨hlt, rfl⟩ := List.getElem?_eq_some_iff.1 hi
      simp only [List.length_ofFn] at hlt
      obtain ⟨⟨cs, hr, hcs⟩, _⟩ := hf ⟨i, hlt⟩
      exact ⟨p, cs, rfl, hp (by omega) hk0, by simpa using hr, hcs⟩
    · obtain ⟨i, rfl⟩ := List.mem_ofFn.1 hx
      exact (hf i).2
end
end Go.E
