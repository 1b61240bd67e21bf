/- Part of a proof of laws of the seat YtabmjhhjbifagaaDoor: functions' weakest preconditions, each checked by the kernel, and contracts out of them; no conditions. -/
import Derived.Test.YtabmjhhjbifagaaDoorB10
import Derived.Test.YtabmjhhjbifagaaDoorM5
import Derived.Test.YtabmjhhjbifagaaDoorBS3
import Derived.Test.YtabmjhhjbifagaaDoorBM6
import Derived.Laws.StructEq
set_option linter.unusedVariables false
set_option linter.unusedSimpArgs false
namespace Go.Mir
open Go Go.E Go.RowKit Go.Bt
section
variable {w : World} {a b : Option Addr} {n c m d g : Nat} {xs ys : W}
def NewK {α : Type} (k : Nat) (en : α → List Value) (e : Nat) (w u : World) (a : Option Addr) (n c : Nat) (xs : List α) : Prop := ∃ g, ArrK k en e u a n c xs g ∧ (w.heap.size < g ∨ g = 0) ∧ Kept w u
theorem S_R : SliceT Go.Proofs.Tryd.prog 44 58 2 16 := sliceT (by kernel_rfl)
/-- What is kept where a row of one's own is written. -/
theorem Kept.own {w w1 u : World} {g : Nat} (h : Kept w w1) (ho : Only g w1 u) (hg : w.heap.size < g ∨ g = 0) : Kept w u := by
  rcases hg with hg | hg
  · exact Kept.only h ho hg
  · exact Kept.trans h (ho.kept fun k h5 h6 => by omega)
theorem runsTo_ge {xs : W} {i : Nat} : ∀ d, 64 * xs.length ≤ i → runsTo xs (i + d) = runsTo xs i
  | 0, _ => rfl
  | d + 1, h => by rw [← Nat.add_assoc, runsTo_no (bit_out (by omega)), runsTo_ge d h]

/-! ### Runs -/
theorem Runs_in {R : Value → World → Prop} {b10 : Option Addr → Nat → Nat → Option Addr → Nat → Nat → Int → Int → World → Prop} {w0 : World} {a : Option Addr} {n c f : Nat} {b : Option Addr} {m d g : Nat} (hx : Sl enW w0 a n xs) (hm : n ≤ 16777216)
    (hl : ∀ r, (runsTo xs f).getLast? = some r → r.2 < f) (hf : bit xs f = true) (hg : w0.heap.size < g ∨ g = 0)
    (H : ∀ (j : Nat) a' m' d' g' u, f < j → j ≤ 64 * n → (∀ r, (runsTo xs (j + 1)).getLast? = some r → r.2 < (j + 1 : Nat)) → ArrK 2 enR 58 u a' m' d' (runsTo xs (j + 1)) g' → (w0.heap.size < g' ∨ g' = 0) → Kept w0 u → b10 a n c a' m' d' (64 * n : Nat) (j + 1 : Nat) u) :
    ∀ (k j : Nat) (w : World), j + k = 64 * n → f ≤ j → (∀ i, f ≤ i → i < j → bit xs i = true) → ArrK 2 enR 58 w b m d (runsTo xs f) g → Kept w0 w → bits_Runs.l29 R b10 (k + 1) a n c b m d (64 * n : Nat) j f w := by
  have hn := hx.len
  have fin : ∀ (j : Nat) (w : World), f < j → j ≤ 64 * n → (∀ i, f ≤ i → i < j → bit xs i = true) → bit xs j = false → ArrK 2 enR 58 w b m d (runsTo xs f) g → Kept w0 w →
      nw (w.alloc (.cells #[.int .i64 f, .int .i64 j] 58)) fun w28 => rawN Go.Proofs.Tryd.prog (Builtin.append_ #[44, 44] 44 #[.slice b m d, .slice (some (na w)) 1 1]) w28 fun yv29 u30 =>
        ∃ ya_31 : Option Addr, ∃ yn_31 : Nat, ∃ yc_31 : Nat, yv29 = .slice ya_31 yn_31 yc_31 ∧ (nv (IntKind.i64.wrap ((j : Int) + 1)) fun t32 => b10 a n c ya_31 yn_31 yc_31 (64 * n : Nat) t32 u30) := by
    intro j w hfj hj hb hbj ha hk
    have hml := ha.len2
    have hrl := runs_len xs f
    have hff : f < 64 * xs.length := by
      apply Nat.lt_of_not_le
      intro hle
      rw [bit_out hle] at hf
      cases hf
    refine ArrK.push S_R (fun _ => rfl) (by omega) ha (x := ((f : Int), (j : Int))) rfl (by simp [Value.oneCell']) (by simp only [maxLen]; omega) (by omega) fun a' c' g' u h1 h2 h3 h4 => ⟨_, _, _, rfl, ?_⟩
    refine nv_succ (by omega) ?_
    have e := runsTo_run hl (j - f) (by omega) (fun i h5 h6 => hb i h5 (by omega))
    rw [show f + (j - f) = j from by omega] at e
    have hsz := hk.size
    refine H j a' (m + 1) c' g' u hfj hj ?_ (by rw [runsTo_no hbj, e]; exact h1) (by omega) (Kept.own hk h4 hg)
    intro r hr
    rw [runsTo_no hbj] at hr
    have := runsTo_last hr
    omega
  intro k
  induction k with
  | zero =>
    intro j w hj hfj hb ha hk
    unfold bits_Runs.l29 bits_Runs.g29
    refine onDec_f (by omega) ?_
    have hne : f ≠ j := by rintro rfl; rw [bit_out (by omega)] at hf; cases hf
    exact fin j w (by omega) (by omega) hb (bit_out (by omega)) ha hk
  | succ k ih =>
    intro j w hj hfj hb ha hk
    unfold bits_Runs.l29 bits_Runs.g29
    refine onDec_t (by omega) ?_
    refine E.CallsD.mono (Has_c (hx.keep hk) (by omega)) fun v u ⟨hv, hu⟩ => ⟨_, hv, ?_⟩
    rw [show has xs (j : Int) = bit xs j from by unfold has; simp]
    refine onBool_mk (fun hbj => ?_) (fun hbj => ?_)
    · refine nv_succ (by omega) ?_
      refine ih (j + 1) u (by omega) (by omega) (fun i h1 h2 => ?_) (ha.kept hu) (Kept.trans hk hu)
      by_cases h : i = j
      · subst h; exact hbj
      · exact hb i h1 (by omega)
    · have hne : f ≠ j := by rintro rfl; rw [hbj] at hf; cases hf
      exact fin j u (by omega) (by omega) hb hbj (ha.kept hu) (Kept.trans hk hu)
theorem Runs_out {R : Value → World → Prop} {w0 : World} {a : Option Addr} {n c : Nat} (hx : Sl enW w0 a n xs) (hm : n ≤ 16777216)
    (hR : ∀ a' m' d' g' u, ArrK 2 enR 58 u a' m' d' (runsOf xs) g' → (w0.heap.size < g' ∨ g' = 0) → Kept w0 u → R (.slice a' m' d') u) :
    ∀ (k i : Nat) (b : Option Addr) (m d g : Nat) (w : World), 64 * n + 1 < i + k → i ≤ 64 * n + 1 → (∀ r, (runsTo xs i).getLast? = some r → r.2 < i) → ArrK 2 enR 58 w b m d (runsTo xs i) g → (w0.heap.size < g ∨ g = 0) → Kept w0 w →
      bits_Runs.l10 R k a n c b m d (64 * n : Nat) i w
  | 0, i, b, m, d, g, w, h1, h2, hl, ha, hg, hk => by omega
  | k + 1, i, b, m, d, g, w, h1, h2, hl, ha, hg, hk => by
    have hn := hx.len
    unfold bits_Runs.l10 bits_Runs.g10
    refine onDec (fun hlt => ?_) (fun hge => ?_)
    · refine E.CallsD.mono (Has_c (hx.keep hk) (by omega)) fun v u ⟨hv, hu⟩ => ⟨_, hv, ?_⟩
      rw [show has xs (i : Int) = bit xs i from by unfold has; simp]
      cases hb : bit xs i with
      | false =>
        show onBool true _ _
        rw [onBool_t]
        refine nv_succ (by omega) ?_
        refine Runs_out hx hm hR k (i + 1) b m d g u (by omega) (by omega) (fun r hr => ?_) (by rw [runsTo_no hb]; exact ha.kept hu) hg (Kept.trans hk hu)
        rw [runsTo_no hb] at hr
        have := hl r hr
        omega
      | true =>
        show onBool false _ _
        rw [onBool_f]
        refine ⟨64 * n - i + 1, Runs_in hx hm hl hb hg (fun j a' m' d' g' u' h3 h4 h5 h6 h7 h8 => ?_) (64 * n - i) i u (by omega) (Nat.le_refl _) (fun j h3 h4 => by omega) (ha.kept hu) (Kept.trans hk hu)⟩
        exact Runs_out hx hm hR k (j + 1) a' m' d' g' u' (by omega) (by omega) h5 h6 h7 h8
    · obtain ⟨e, rfl⟩ : ∃ e, i = 64 * xs.length + e := ⟨i - 64 * xs.length, by omega⟩
      rw [runsTo_ge e (Nat.le_refl _), ← runsOf_to] at ha
      exact hR _ _ _ g w ha hg hk
theorem Runs_c (hx : Sl enW w a n xs) (hm : n ≤ 16777216) : E.CallsD Go.Proofs.Tryd.prog 37 #[.slice a n c] w fun v u => ∃ a' n' c', v = .slice a' n' c' ∧ NewK 2 enR 58 w u a' n' c' (runsOf xs) := by
  refine bits_Runs.calls ?_
  unfold bits_Runs bits_Runs.g0
  refine nv_mk (y := ((64 * n : Nat) : Int)) (by rw [i64_id (by omega) (by omega)]; omega) ?_
  refine ⟨64 * n + 2, Runs_out hx hm (fun a' m' d' g' u h1 h2 h3 => ⟨_, _, _, rfl, g', h1, h2, h3⟩) (64 * n + 2) 0 none 0 0 0 w (by omega) (by omega) (fun r hr => by simp [runsTo] at hr) (ArrK.nil _ _ _ _) (by omega) (Kept.refl _)⟩

/-! ### the document's Runs -/
theorem getLast_at {α : Type} {l : List α} {r : α} (h : l.getLast? = some r) : 0 < l.length ∧ l[l.length - 1]? = some r := by
  have hp : 0 < l.length := by cases l with
    | nil => cases h
    | cons x l => simp
  exact ⟨hp, by rwa [List.getLast?_eq_getElem?] at h⟩
theorem foldl_take {α β : Type} {f : β → α → β} {b : β} {l : List α} {i : Nat} {x : α} (h : l[i]? = some x) : (l.take (i + 1)).foldl f b = f ((l.take i).foldl f b) x := by
  rw [List.take_add_one, h, List.foldl_append]
  rfl
theorem fold_len : ∀ (l : List Nat) (out : Rs), (l.foldl stepR out).length ≤ out.length + l.length
  | [], out => by simp
  | x :: l, out => by
    rw [List.foldl_cons]
    have := fold_len l (stepR out x)
    have h2 : (stepR out x).length ≤ out.length + 1 := by
      unfold stepR
      split
      · split <;> simp <;> omega
      · simp
    simp only [List.length_cons]
    omega
theorem stepR_some {out : Rs} {r : Int × Int} (h : out.getLast? = some r) (x : Nat) : stepR out x = if r.2 = x then out.dropLast ++ [(r.1, (x : Int) + 1)] else out ++ [((x : Int), (x : Int) + 1)] := by
  unfold stepR
  rw [h]
theorem refRuns_loop {R : Value → World → Prop} {w0 : World} {l : List Nat} {a : Option Addr} {n c g0 : Nat} (hn : n ≤ 1073741824) (hb : ∀ x ∈ l, x ≤ 1073741824)
    (hR : ∀ a' m' d' g' u, ArrK 2 enR 58 u a' m' d' (l.foldl stepR []) g' → (w0.heap.size < g' ∨ g' = 0) → Kept w0 u → R (.slice a' m' d') u) :
    ∀ (k i : Nat) (b : Option Addr) (m d g : Nat) (w : World), i + k = n → ArrK 2 enR 58 w b m d ((l.take i).foldl stepR []) g → (w0.heap.size < g ∨ g = 0) → g ≠ g0 ∨ g = 0 → g0 ≤ w.heap.size → Arr enN 3 w a n c l g0 → Kept w0 w → thicketref05_Runs.l8 R (k + 1) b m d a n c n i w
  | 0, i, b, m, d, g, w, hi, ha, hg, hg0, hle, hx, hk => by
    unfold thicketref05_Runs.l8 thicketref05_Runs.g8
    refine onDec_f (by omega) ?_
    rw [List.take_of_length_le (by have := hx.len; omega)] at ha
    exact hR _ _ _ g w ha hg hk
  | k + 1, i, b, m, d, g, w, hi, ha, hg, hg0, hle, hx, hk => by
    have hml := ha.len2
    have hfl := fold_len (l.take i) []
    simp only [List.length_nil, List.length_take, Nat.zero_add] at hfl
    have hll := hx.len
    unfold thicketref05_Runs.l8 thicketref05_Runs.g8
    refine onDec_t (by omega) ?_
    refine Sl.rdN hx.sl (by omega) (by omega) fun x hxi => ?_
    rw [Int.toNat_natCast] at hxi
    have hxb := hb x (List.mem_of_getElem? hxi)
    have hft := foldl_take (f := stepR) (b := []) hxi
    have push : ∀ (ha2 : (l.take (i + 1)).foldl stepR [] = (l.take i).foldl stepR [] ++ [((x : Int), (x : Int) + 1)]), thicketref05_Runs.j21 R (thicketref05_Runs.l8 R (k + 1)) b m d x a n c n i false w := by
      intro ha2
      unfold thicketref05_Runs.j21 thicketref05_Runs.g21
      rw [onBool_f]
      refine nv_i64 (by omega) (by omega) ?_
      refine ArrK.push S_R (fun _ => rfl) (by omega) ha (x := ((x : Int), (x : Int) + 1)) rfl (by simp [Value.oneCell']) (by simp only [maxLen]; omega) (by omega) fun a' c' g' u h1 h2 h3 h4 => ⟨_, _, _, rfl, ?_⟩
      refine nv_succ (by omega) ?_
      have hsz := hk.size
      have hsz2 := h4.size
      exact refRuns_loop hn hb hR k (i + 1) a' (m + 1) c' g' u (by omega) (by rw [ha2]; exact h1) (by omega) (by omega) (by omega) (hx.mod h4 fun k h5 h6 => by omega) (Kept.own hk h4 hg)
    by_cases hm0 : m = 0
    · refine onDec_f (by omega) ?_
      have e : (l.take i).foldl stepR [] = [] := List.eq_nil_of_length_eq_zero (by omega)
      refine push ?_
      rw [hft, e]
      rfl
    · refine onDec_t (by omega) ?_
      refine nv_i64 (by omega) (by omega) ?_
      refine SlK.rdSnd ha.slk2 (by omega) (by omega) fun r hr => ?_
      rw [show ((m : Int) - 1).toNat = m - 1 from by omega] at hr
      have hlast : ((l.take i).foldl stepR []).getLast? = some r := by rw [List.getLast?_eq_getElem?, ← hml]; exact hr
      by_cases he : r.2 = x
      · rw [show (r.2 == (x : Int)) = true from by simp [he]]
        unfold thicketref05_Runs.j21 thicketref05_Runs.g21
        rw [onBool_t]
        refine nv_i64 (by omega) (by omega) ?_
        refine nv_i64 (by omega) (by omega) ?_
        refine ArrK.wrSnd ha (by omega) (by omega) (x := r) (by rw [show ((m : Int) - 1).toNat = m - 1 from by omega]; exact hr) fun u h1 h4 => ?_
        refine nv_succ (by omega) ?_
        rw [show ((m : Int) - 1).toNat = m - 1 from by omega] at h1
        have hsz2 := h4.size
        have ha2 : (l.take (i + 1)).foldl stepR [] = ((l.take i).foldl stepR []).set (m - 1) (r.1, (x : Int) + 1) := by
          rw [hft]
          have e1 : stepR ((l.take i).foldl stepR []) x = ((l.take i).foldl stepR []).dropLast ++ [(r.1, (x : Int) + 1)] := by
            rw [stepR_some hlast, if_pos he]
          rw [e1]
          generalize (l.take i).foldl stepR [] = o at hml hlast
          have hp : 0 < o.length := by omega
          rw [List.dropLast_eq_take, hml]
          apply List.ext_getElem?
          intro j
          rw [List.getElem?_set]
          by_cases hj : o.length - 1 = j
          · subst hj
            rw [if_pos rfl, if_pos (by omega), List.getElem?_append_right (by simp)]
            simp
          · rw [if_neg hj]
            by_cases hj2 : j < o.length - 1
            · rw [List.getElem?_append_left (by simp; omega), List.getElem?_take, if_pos hj2]
            · rw [List.getElem?_eq_none (by simp; omega), List.getElem?_eq_none (by omega)]
        exact refRuns_loop hn hb hR k (i + 1) b m d g u (by omega) (by rw [ha2]; exact h1) hg hg0 (by omega) (hx.mod h4 fun k h5 h6 => by omega) (Kept.own hk h4 hg)
      · rw [show (r.2 == (x : Int)) = false from by simp [he]]
        refine push ?_
        rw [hft]
        rw [stepR_some hlast, if_neg he]
theorem all_lt {xs : W} {x : Nat} (h : x ∈ all xs) : x < 64 * xs.length := by
  unfold all at h
  exact List.mem_range.1 (List.mem_filter.1 h).1
theorem refRuns_c (hx : Sl enW w a n xs) (hm : n ≤ 16777216) : E.CallsD Go.Proofs.Tryd.prog 38 #[.slice a n c] w fun v u => ∃ a' n' c', v = .slice a' n' c' ∧ NewK 2 enR 58 w u a' n' c' (runsOf xs) := by
  refine thicketref05_Runs.calls ?_
  unfold thicketref05_Runs thicketref05_Runs.g0
  have hn := hx.len
  have hc := count_le xs
  refine E.CallsD.mono (All_c hx hm) fun v u ⟨a', c', hv, g0, ha, hg, hk⟩ => ⟨_, _, _, hv, ?_⟩
  refine ⟨count xs + 1, refRuns_loop (l := all xs) (by omega) (fun x hx => by have := all_lt hx; omega) (fun a' m' d' g' u h1 h2 h3 => ⟨_, _, _, rfl, g', h1, h2, h3⟩) (count xs) 0 none 0 0 0 u (by omega) (ArrK.nil _ _ _ _) (by omega) (by omega) ha.le ha hk⟩
end
end Go.Mir
