/- Part of a proof of laws of the seat YtabmjhhjbifagaaDoor: functions' weakest preconditions, each checked by the kernel, and contracts out of them; no conditions. -/
import Derived.Test.YtabmjhhjbifagaaDoorBS2
set_option linter.unusedVariables false
set_option linter.unusedSimpArgs false
/-! Runs of bits: plain lemmas. -/
namespace Go.Bt
abbrev Rs := List (Int × Int)
/-- A bit more: the last run grows, or a new one begins. -/
def stepR (out : Rs) (x : Nat) : Rs := match out.getLast? with
  | some r => if r.2 = x then out.dropLast ++ [(r.1, (x : Int) + 1)] else out ++ [((x : Int), (x : Int) + 1)]
  | none => out ++ [((x : Int), (x : Int) + 1)]
/-- The runs of the bits below i. -/
def runsTo (a : W) (i : Nat) : Rs := ((List.range i).filter (bit a)).foldl stepR []
def runsOf (a : W) : Rs := (all a).foldl stepR []
theorem runsOf_to (a : W) : runsOf a = runsTo a (64 * a.length) := rfl
theorem runsTo_no {a : W} {i : Nat} (h : bit a i = false) : runsTo a (i + 1) = runsTo a i := by
  unfold runsTo
  rw [List.range_succ, List.filter_append]
  simp [h]
theorem runsTo_yes {a : W} {i : Nat} (h : bit a i = true) : runsTo a (i + 1) = stepR (runsTo a i) i := by
  unfold runsTo
  rw [List.range_succ, List.filter_append]
  simp [h]
/-- The last run ends where the last bit is. -/
theorem runsTo_last {a : W} : ∀ {i : Nat} {r : Int × Int}, (runsTo a i).getLast? = some r → r.2 ≤ i
  | 0, r, h => by simp [runsTo] at h
  | i + 1, r, h => by
    by_cases hb : bit a i = true
    · rw [runsTo_yes hb] at h
      unfold stepR at h
      split at h
      · split at h <;> simp at h <;> subst h <;> simp
      · simp at h; subst h; simp
    · rw [runsTo_no (by simpa using hb)] at h
      have := runsTo_last h
      omega
/-- A run of ones from f up to j. -/
theorem runsTo_run {a : W} {f : Nat} (hl : ∀ r, (runsTo a f).getLast? = some r → r.2 < f) : ∀ d, 0 < d → (∀ j, f ≤ j → j < f + d → bit a j = true) → runsTo a (f + d) = runsTo a f ++ [((f : Int), ((f + d : Nat) : Int))]
  | 0, h, _ => by omega
  | d + 1, _, hb => by
    rw [← Nat.add_assoc, runsTo_yes (hb (f + d) (by omega) (by omega))]
    cases d with
    | zero =>
      simp only [Nat.add_zero]
      unfold stepR
      split
      · rename_i r hr
        have := hl r hr
        rw [if_neg (by omega)]
        simp
      · simp
    | succ d =>
      rw [runsTo_run hl (d + 1) (by omega) (fun j h1 h2 => hb j h1 (by omega))]
      unfold stepR
      rw [List.getLast?_append]
      simp
theorem runs_len (a : W) : ∀ i, (runsTo a i).length ≤ i
  | 0 => by simp [runsTo]
  | i + 1 => by
    have := runs_len a i
    by_cases hb : bit a i = true
    · rw [runsTo_yes hb]
      unfold stepR
      split
      · split <;> simp <;> omega
      · simp; omega
    · rw [runsTo_no (by simpa using hb)]; omega
end Go.Bt
