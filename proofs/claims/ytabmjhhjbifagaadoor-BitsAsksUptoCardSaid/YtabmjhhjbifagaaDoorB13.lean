/- Part of a proof of laws of the seat YtabmjhhjbifagaaDoor: functions' weakest preconditions, each checked by the kernel, and contracts out of them; no conditions. -/
import Derived.Test.YtabmjhhjbifagaaDoorB12
import Derived.Test.YtabmjhhjbifagaaDoorBM8
set_option linter.unusedVariables false
set_option linter.unusedSimpArgs false
namespace Go.Mir
open Go Go.E Go.RowKit Go.Bt
section
variable {w : World} {a b : Option Addr} {n c m d g : Nat} {xs ys : W}
theorem ans_len {xs : W} {w u : World} {a : Option Addr} {n : Nat} (s : Sl enW u a n xs) (h : xs.length ≤ 16777216) : n ≤ 16777216 := by rw [s.len]; exact h
theorem readOf_len (s : ByteArray) : (readOf s).1.length ≤ 16777216 := by
  unfold readOf
  split
  · simp
  · rename_i h
    split
    · simp
    · have := nW_le (n := (s.size : Int)) (by omega)
      simp; omega
theorem ofAns_len (N : Int) (l : Rs) : (ofAns N l).1.length ≤ 16777216 := by
  unfold ofAns
  split
  · rename_i h
    split
    · have := nW_le h.2
      simp [ofR]; omega
    · simp
  · simp
/-- The law BitsTexts. -/
theorem bitsTexts_law {N : Int} {s : ByteArray} (hT : Tab w) (hx : Sl enW w a n xs) (hm : n ≤ 16777216) (hs : s.size ≤ 9223372036854775000) : Pure Go.Proofs.Tryd.prog 5 #[.slice a n c, .int .i64 N, .string s] w (.bool true) := by
  refine thicketlaw05_BitsTexts.calls (R := fun v' u => v' = _ ∧ Below w.heap.size w u) ?_
  unfold thicketlaw05_BitsTexts thicketlaw05_BitsTexts.g0
  refine E.CallsD.mono (Print_c hx hm N) fun v u1 ⟨hv, k1⟩ => ⟨_, _, hv, ?_⟩
  refine E.CallsD.mono (refPrint_c (hx.keep k1) hm N) fun v u2 ⟨hv, k2⟩ => ⟨_, _, hv, ?_⟩
  have k12 := Kept.trans k1 k2
  refine E.CallsD.mono (Read_c u2) fun v u3 ⟨a3, n3, c3, hv, s3, k3⟩ => ⟨_, _, _, _, _, _, hv, ?_⟩
  refine E.CallsD.mono (refRead_c hs u3) fun v u4 ⟨a4, n4, c4, hv, s4, k4⟩ => ⟨_, _, _, _, _, _, hv, ?_⟩
  have k14 := Kept.trans k12 (Kept.trans k3 k4)
  refine E.CallsD.mono (lives_c (hT.kept k14)) fun v u5 ⟨hv, k5⟩ => ⟨_, hv, ?_⟩
  rw [onBool_t, show ∀ x : List UInt8, (x == x) = true from fun x => by simp, onBool_t]
  refine onEq_t (by omega) ?_
  refine E.CallsD.mono (Same_yes (s3.keep (Kept.trans k4 k5)) (s4.keep k5) (by rw [s3.len]; exact readOf_len s)) fun v u6 ⟨hv, k6⟩ => ⟨_, hv, ?_⟩
  rw [onBool_t]
  refine onEq_t (by omega) ?_
  refine onEq_t (by omega) ?_
  exact ⟨by simp, Kept.trans k14 (Kept.trans k5 k6)⟩
/-- The law BitsRuns. -/
theorem bitsRuns_law {N : Int} {l : Rs} (hT : Tab w) (hx : Sl enW w a n xs) (hm : n ≤ 16777216) (hl : SlK 2 enR w b m l) (hlm : m ≤ 1048576) : Pure Go.Proofs.Tryd.prog 7 #[.slice a n c, .int .i64 N, .slice b m d] w (.bool true) := by
  refine thicketlaw05_BitsRuns.calls (R := fun v' u => v' = _ ∧ Below w.heap.size w u) ?_
  unfold thicketlaw05_BitsRuns thicketlaw05_BitsRuns.g0
  refine E.CallsD.mono (Of_c N hl hlm) fun v u1 ⟨a1, n1, c1, hv, s1, k1⟩ => ⟨_, _, _, _, hv, ?_⟩
  refine E.CallsD.mono (refOf_c N (hl.keep k1) hlm) fun v u2 ⟨a2, n2, c2, hv, s2, k2⟩ => ⟨_, _, _, _, hv, ?_⟩
  have k12 := Kept.trans k1 k2
  refine E.CallsD.mono (lives_c (hT.kept k12)) fun v u3 ⟨hv, k3⟩ => ⟨_, hv, ?_⟩
  rw [onBool_t]
  have k13 := Kept.trans k12 k3
  refine E.CallsD.mono (Runs_c (hx.keep k13) hm) fun v u4 ⟨a4, n4, c4, hv, g4, h4, _, k4⟩ => ⟨_, _, _, hv, ?_⟩
  have k14 := Kept.trans k13 k4
  refine E.CallsD.mono (refRuns_c (hx.keep k14) hm) fun v u5 ⟨a5, n5, c5, hv, g5, h5, _, k5⟩ => ⟨_, _, _, hv, ?_⟩
  have hrl := runs_len xs (64 * xs.length)
  have hxl := hx.len
  have h4l := h4.len2
  rw [runsOf_to] at h4l
  refine E.CallsD.mono (runs_yes (h4.kept k5).slk2 h5.slk2 (by omega)) fun v u6 ⟨hv, k6⟩ => ⟨_, hv, ?_⟩
  rw [onBool_t]
  have k26 := Kept.trans k3 (Kept.trans k4 (Kept.trans k5 k6))
  refine E.CallsD.mono (Same_yes (s1.keep (Kept.trans k2 k26)) (s2.keep k26) (by rw [s1.len]; exact ofAns_len N l)) fun v u7 ⟨hv, k7⟩ => ⟨_, hv, ?_⟩
  rw [onBool_t]
  exact ⟨by simp, Kept.trans k12 (Kept.trans k26 k7)⟩

end
/-! ### back -/
theorem prB_get {xs : W} {N i : Nat} (h : i < N) : (⟨(prB xs N).toArray⟩ : ByteArray)[i]? = some (if bit xs i then 49 else 48) := by
  have hl : i < (⟨(prB xs N).toArray⟩ : ByteArray).size := by simp [ByteArray.size, prB, h]
  rw [byte_get hl]
  congr 1
  have := prB_at (xs := xs) h
  have e : (⟨(prB xs N).toArray⟩ : ByteArray)[i] = (prB xs N)[i]'(by simp [prB, h]) := rfl
  rw [e]
  rw [List.getElem?_eq_getElem (by simp [prB, h])] at this
  exact Option.some.inj this
theorem prB_size (xs : W) (N : Nat) : (⟨(prB xs N).toArray⟩ : ByteArray).size = N := by simp [ByteArray.size, prB]
theorem prB_scan (xs : W) (N : Nat) : ∀ k i, i + k = N → scan ⟨(prB xs N).toArray⟩ k i = none
  | 0, i, _ => rfl
  | k + 1, i, h => by
    rw [scan_succ (prB_get (by omega)), if_pos (by cases bit xs i <;> simp), prB_scan xs N k (i + 1) (by omega)]
theorem high_lt {xs : W} {N : Int} (h : ¬ high xs ≥ N) : ∀ j : Nat, N ≤ j → bit xs j = false := by
  intro j hj
  cases hb : bit xs j with
  | false => rfl
  | true =>
    have hm := mem_all.2 hb
    have hs := all_sorted xs
    unfold high at h
    cases he : (all xs).getLast? with
    | none => rw [List.getLast?_eq_none_iff] at he; rw [he] at hm; cases hm
    | some i =>
      rw [he] at h
      simp only at h
      obtain ⟨l, hl2⟩ := List.getLast?_eq_some_iff.1 he
      rw [hl2] at hm hs
      rcases List.mem_append.1 hm with h1 | h1
      · have h2 : j < i := (List.pairwise_append.1 hs).2.2 j h1 i (by simp)
        omega
      · have := List.mem_singleton.1 h1
        omega
/-- The text of a set, read: the set. -/
theorem read_print {xs : W} {N : Nat} (hN : N ≤ 1048576) (hl : nW N = xs.length) (hh : ∀ j : Nat, N ≤ j → bit xs j = false) : readOf ⟨(prB xs N).toArray⟩ = (xs, (N : Int), 0, 0) := by
  unfold readOf
  rw [prB_size, if_neg (by omega), prB_scan xs N N 0 (by omega)]
  simp only [Prod.mk.injEq, and_true]
  refine ext (by simpa using hl) fun i hi => ?_
  rw [bit_ofB]
  simp only [ofB_length] at hi
  rw [decide_eq_true hi, Bool.true_and]
  unfold isOne
  by_cases h : i < N
  · rw [prB_get h]
    cases bit xs i <;> simp
  · have e : (⟨(prB xs N).toArray⟩ : ByteArray)[i]? = none := getElem?_neg _ i (by have := prB_size xs N; omega)
    rw [e, hh i (by omega)]
theorem runsTo_wf {xs : W} : ∀ (i : Nat) (r : Int × Int), r ∈ runsTo xs i → 0 ≤ r.1 ∧ r.1 < r.2 ∧ r.2 ≤ (i : Int) := by
  intro i
  induction i with
  | zero => intro r hr; simp [runsTo] at hr
  | succ i ih =>
    intro r hr
    cases hb : bit xs i with
    | false => rw [runsTo_no hb] at hr; have := ih r hr; omega
    | true =>
      rw [runsTo_yes hb] at hr
      unfold stepR at hr
      split at hr
      · rename_i q hq
        split at hr
        · rcases List.mem_append.1 hr with h | h
          · have := ih r (List.dropLast_subset _ h); omega
          · have hq2 := ih q (List.mem_of_getLast? hq)
            have := List.mem_singleton.1 h
            subst this
            simp only
            omega
        · rcases List.mem_append.1 hr with h | h
          · have := ih r h; omega
          · have := List.mem_singleton.1 h
            subst this
            simp only
            omega
      · rcases List.mem_append.1 hr with h | h
        · have := ih r h; omega
        · have := List.mem_singleton.1 h
          subst this
          simp only
          omega
/-- What runs hold. -/
theorem inR_runsTo {xs : W} : ∀ i j, inR (runsTo xs i) j = (decide (j < i) && bit xs j)
  | 0, j => by simp [runsTo, inR]
  | i + 1, j => by
    cases hb : bit xs i with
    | false =>
      rw [runsTo_no hb, inR_runsTo i j]
      by_cases hj : j = i
      · subst hj; simp [hb]
      · congr 1; exact decide_eq_decide.2 (by omega)
    | true =>
      rw [runsTo_yes hb]
      have ih := inR_runsTo (xs := xs) i j
      have e : (decide (j < i + 1) && bit xs j) = ((decide (j < i) && bit xs j) || decide (j = i)) := by
        by_cases hj : j = i
        · subst hj; simp [hb]
        · rw [decide_eq_false hj, Bool.or_false]; congr 1; exact decide_eq_decide.2 (by omega)
      rw [e, ← ih]
      have single : ∀ (o : Rs) (r : Int × Int), inR (o ++ [r]) j = (inR o j || (decide (r.1 ≤ (j : Int)) && decide ((j : Int) < r.2))) := fun o r => by unfold inR; simp [List.any_append]
      have one : (decide ((i : Int) ≤ (j : Int)) && decide ((j : Int) < (i : Int) + 1)) = decide (j = i) := by
        rw [← Bool.decide_and]; exact decide_eq_decide.2 (by omega)
      unfold stepR
      split
      · rename_i r hr
        split
        · rename_i he
          have hlast := runsTo_last hr
          obtain ⟨o, ho⟩ := List.getLast?_eq_some_iff.1 hr
          rw [ho, List.dropLast_concat, single, single]
          have hr1 : r.1 ≤ (i : Int) := by
            have := runsTo_wf (xs := xs) i r (by rw [ho]; simp)
            omega
          rw [Bool.or_assoc]
          congr 1
          by_cases hj : j = i
          · subst hj; simp [hr1]; omega
          · rw [decide_eq_false hj, Bool.or_false]; congr 1; exact decide_eq_decide.2 (by omega)
        · rw [single, one]
      · rw [single, one]

/-- Where the last run ends. -/
def endOf (last : Int) (o : Rs) : Int := match o.getLast? with
  | none => last
  | some q => q.2
theorem okR_concat (n : Int) (r : Int × Int) : ∀ (o : Rs) (last : Int), okR n last (o ++ [r]) = (okR n last o && decide (endOf last o ≤ r.1 ∧ r.1 < r.2 ∧ r.2 ≤ n))
  | [], last => by rw [List.nil_append, okR, okR, okR, Bool.and_true, Bool.true_and]; rfl
  | q :: o, last => by
    rw [List.cons_append, okR, okR, okR_concat n r o q.2, Bool.and_assoc]
    have e : endOf last (q :: o) = endOf q.2 o := by
      unfold endOf
      rw [List.getLast?_cons]
      cases o.getLast? <;> rfl
    rw [e]
theorem okR_runs {xs : W} {N : Int} (hh : ∀ j : Nat, N ≤ j → bit xs j = false) : ∀ i, okR N 0 (runsTo xs i) = true
  | 0 => rfl
  | i + 1 => by
    have ih := okR_runs hh i
    cases hb : bit xs i with
    | false => rw [runsTo_no hb]; exact ih
    | true =>
      have hi : ¬ N ≤ i := fun h => by rw [hh i h] at hb; cases hb
      rw [runsTo_yes hb]
      unfold stepR
      split
      · rename_i r hr
        have hlast := runsTo_last hr
        split
        · obtain ⟨o, ho⟩ := List.getLast?_eq_some_iff.1 hr
          rw [ho, okR_concat, Bool.and_eq_true, decide_eq_true_iff] at ih
          rw [ho, List.dropLast_concat, okR_concat, ih.1, decide_eq_true (by simp only; omega)]
          rfl
        · rw [okR_concat, ih, decide_eq_true (by unfold endOf; rw [hr]; simp only; omega)]
          rfl
      · rename_i hr
        rw [okR_concat, ih, decide_eq_true (by unfold endOf; rw [hr]; simp only; omega)]
        rfl
/-- The runs of a set, put together: the set. -/
theorem of_runs {xs : W} {N : Int} (hN : okN N) (hl : nW N = xs.length) (hh : ∀ j : Nat, N ≤ j → bit xs j = false) : ofAns N (runsOf xs) = (xs, 0) := by
  unfold ofAns
  rw [if_pos hN, runsOf_to, okR_runs hh, if_pos rfl]
  congr 1
  refine ext (by simpa [ofR] using hl) fun i hi => ?_
  unfold ofR at hi ⊢
  simp only [ofB_length] at hi
  rw [bit_ofB, decide_eq_true hi, Bool.true_and, inR_runsTo, decide_eq_true (by omega), Bool.true_and]
/-- The law BitsBack. -/
theorem bitsBack_law {w : World} {a : Option Addr} {n c : Nat} {xs : W} {N : Int} (hT : Tab w) (hx : Sl enW w a n xs) (hm : n ≤ 16777216) : Pure Go.Proofs.Tryd.prog 9 #[.slice a n c, .int .i64 N] w (.bool true) := by
  refine thicketlaw05_BitsBack.calls (R := fun v' u => v' = _ ∧ Below w.heap.size w u) ?_
  unfold thicketlaw05_BitsBack thicketlaw05_BitsBack.g0
  have hlen := hx.len
  refine E.CallsD.mono (lives_c hT) fun v u1 ⟨hv, k1⟩ => ⟨_, hv, ?_⟩
  show onBool (!true) _ _
  rw [Bool.not_true, onBool_f]
  refine E.CallsD.mono (Print_c (hx.keep k1) hm N) fun v u2 ⟨hv, k2⟩ => ⟨_, _, hv, ?_⟩
  have k12 := Kept.trans k1 k2
  unfold prOf
  by_cases h0 : N < 0 ∨ 1048576 < N
  · rw [if_pos h0]
    refine onNe_t (by omega) ?_
    refine E.CallsD.mono (Words_no h0 u2) fun v u3 ⟨hv, k3⟩ => ⟨_, _, hv, ?_⟩
    refine onNe_t (by omega) ?_
    exact ⟨rfl, Kept.trans k12 k3⟩
  · rw [if_neg h0]
    by_cases h1 : nW N ≠ xs.length
    · rw [if_pos h1]
      refine onNe_t (by omega) ?_
      refine E.CallsD.mono (Words_ok (n := N) (by omega) (by omega) u2) fun v u3 ⟨hv, k3⟩ => ⟨_, _, hv, ?_⟩
      refine onNe_f (by omega) ?_
      refine onNe_t (by omega) ?_
      exact ⟨rfl, Kept.trans k12 k3⟩
    · rw [if_neg h1]
      by_cases h2 : high xs ≥ N
      · rw [if_pos h2]
        refine onNe_t (by omega) ?_
        refine E.CallsD.mono (Words_ok (n := N) (by omega) (by omega) u2) fun v u3 ⟨hv, k3⟩ => ⟨_, _, hv, ?_⟩
        refine onNe_f (by omega) ?_
        refine onNe_f (by omega) ?_
        have k13 := Kept.trans k12 k3
        refine E.CallsD.mono (Highest_c (hx.keep k13) hm) fun v u4 ⟨hv, k4⟩ => ⟨_, hv, ?_⟩
        rw [decide_eq_true h2]
        exact ⟨rfl, Kept.trans k13 k4⟩
      · rw [if_neg h2]
        refine onNe_f (by omega) ?_
        have hh := high_lt h2
        have e1 := read_print (xs := xs) (N := N.toNat) (by omega) (by rw [show ((N.toNat : Nat) : Int) = N from by omega]; omega) (fun j hj => hh j (by omega))
        refine E.CallsD.mono (Read_c (s := ⟨(prB xs N.toNat).toArray⟩) u2) fun v u3 ⟨a3, n3, c3, hv, s3, k3⟩ => ⟨_, _, _, _, _, _, hv, ?_⟩
        rw [e1] at s3 ⊢
        have k13 := Kept.trans k12 k3
        refine E.CallsD.mono (Runs_c (hx.keep k13) hm) fun v u4 ⟨a4, n4, c4, hv, g4, h4, _, k4⟩ => ⟨_, _, _, hv, ?_⟩
        have hrl := runs_len xs (64 * xs.length)
        have hnn := nW_le (n := N) (by omega)
        have h4l := h4.len2
        rw [runsOf_to] at h4l
        refine E.CallsD.mono (Of_c N h4.slk2 (by omega)) fun v u5 ⟨a5, n5, c5, hv, s5, k5⟩ => ⟨_, _, _, _, hv, ?_⟩
        rw [of_runs ⟨by omega, by omega⟩ (by omega) hh] at s5 ⊢
        have k15 := Kept.trans k13 (Kept.trans k4 k5)
        have hsz : ((⟨(prB xs N.toNat).toArray⟩ : ByteArray).size : Int) = N := by rw [prB_size]; omega
        have hsz2 : ((N.toNat : Nat) : Int) = N := by omega
        dsimp only
        refine onEq_t (by omega) ?_
        refine onEq_t (by omega) ?_
        refine onEq_t (by omega) ?_
        refine onEq_t (by omega) ?_
        refine E.CallsD.mono (Same_yes (hx.keep k15) (s3.keep (Kept.trans k4 k5)) hm) fun v u6 ⟨hv, k6⟩ => ⟨_, hv, ?_⟩
        rw [onBool_t]
        refine E.CallsD.mono (Same_yes (hx.keep (Kept.trans k15 k6)) (s5.keep k6) hm) fun v u7 ⟨hv, k7⟩ => ⟨_, hv, rfl, Kept.trans k15 (Kept.trans k6 k7)⟩
end Go.Mir
