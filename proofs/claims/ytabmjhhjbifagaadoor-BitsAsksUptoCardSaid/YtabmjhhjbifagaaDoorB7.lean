/- Part of a proof of laws of the seat YtabmjhhjbifagaaDoor: functions' weakest preconditions, each checked by the kernel, and contracts out of them; no conditions. -/
import Derived.Test.YtabmjhhjbifagaaDoorB6
import Derived.Test.YtabmjhhjbifagaaDoorBM4
set_option linter.unusedVariables false
set_option linter.unusedSimpArgs false
namespace Go.Mir
open Go Go.E Go.RowKit Go.Bt
section
variable {w : World} {a b : Option Addr} {n c m d g : Nat} {xs ys : W} {i : Int}

/-! ### All -/
theorem filt_skip {p : Nat → Bool} {i : Nat} : ∀ d, (∀ j, i ≤ j → j < i + d → p j = false) → (List.range (i + d)).filter p = (List.range i).filter p
  | 0, _ => rfl
  | d + 1, h => by
    rw [← Nat.add_assoc, List.range_succ, List.filter_append, filt_skip d fun j h1 h2 => h j h1 (by omega), List.filter_cons, h (i + d) (by omega) (by omega)]
    simp
theorem All_loop {R : Value → World → Prop} {w0 : World} {a : Option Addr} {n c : Nat} (hx : Sl enW w0 a n xs) (hm : n ≤ 16777216)
    (hR : ∀ a' n' c' g u, Arr enN 3 u a' n' c' (all xs) g → (w0.heap.size < g ∨ g = 0) → Kept w0 u → R (.slice a' n' c') u) :
    ∀ (k i : Nat) (b : Option Addr) (m d g : Nat) (w : World), 64 * n < i + k → i ≤ 64 * n → Arr enN 3 w b m d ((List.range i).filter (bit xs)) g → (w0.heap.size < g ∨ g = 0) → Kept w0 w → thicketref05_All.l8 R k a n c b m d i w
  | 0, i, b, m, d, g, w, hi, hi2, ha, hg, hk => by omega
  | k + 1, i, b, m, d, g, w, hi, hi2, ha, hg, hk => by
    have hl := hx.len
    unfold thicketref05_All.l8 thicketref05_All.g8
    refine nv_i64 (by omega) (by omega) ?_
    have hlen : m ≤ i := by have := ha.len; have := List.length_filter_le (bit xs) (List.range i); simp at this; omega
    refine onDec (fun hlt => ?_) (fun hge => ?_)
    · refine nv_div (by omega) (by omega) (by omega) ?_
      refine Sl.rdW (hx.keep hk) (fun _ => rfl) (by omega) (by omega) fun x hxi => ?_
      rw [show ((i : Int) / 64).toNat = i / 64 from by omega] at hxi
      refine onEq (fun h0 => ?_) (fun h0 => ?_)
      · refine nv_mod (by omega) ?_
        refine nv_i64 (by omega) (by omega) ?_
        refine nv_i64 (by omega) (by omega) ?_
        refine nv_i64 (by omega) (by omega) ?_
        obtain ⟨d', hd⟩ : ∃ d' : Nat, d' = 64 * (i / 64) + 64 - i := ⟨_, rfl⟩
        rw [show (i : Int) + (63 - (i : Int) % 64) + 1 = ((i + d' : Nat) : Int) from by omega]
        have hi3 : i / 64 < n := by omega
        refine All_loop hx hm hR k (i + d') b m d g w (by omega) (by omega) ?_ hg hk
        rw [filt_skip d' fun j h1 h2 => ?_]
        · exact ha
        · have e := bit_word (j := j % 64) hxi (by omega)
          rw [show 64 * (i / 64) + j % 64 = j from by omega] at e
          rw [e]
          exact zero_word.1 (by omega) _ (by omega)
      · refine E.CallsD.mono (refHas_c (hx.keep hk) (by omega)) fun v u ⟨hv, hu⟩ => ⟨_, hv, ?_⟩
        rw [show has xs (i : Int) = bit xs i from by unfold has; simp]
        have hr : (List.range (i + 1)).filter (bit xs) = (List.range i).filter (bit xs) ++ if bit xs i then [i] else [] := by
          rw [List.range_succ, List.filter_append]
          simp only [List.filter_cons, List.filter_nil]
        refine onBool_mk (fun hb => ?_) (fun hb => ?_)
        · rw [hb, if_pos rfl] at hr
          refine Arr.push S_I (ha.kept hu) (x := i) rfl rfl (by simp only [maxLen]; omega) (by omega) fun a' c' g' u' h1 h2 h3 h4 => ⟨_, _, _, rfl, ?_⟩
          refine nv_succ (by omega) ?_
          have hsz := (Kept.trans hk hu).size
          refine All_loop hx hm hR k (i + 1) a' (m + 1) c' g' u' (by omega) (by omega) (by rw [hr]; exact h1) (by omega) ?_
          rcases hg with hg | hg
          · exact Kept.only (Kept.trans hk hu) h4 hg
          · exact Kept.trans (Kept.trans hk hu) (h4.kept fun k h5 h6 => by omega)
        · rw [hb] at hr
          refine nv_succ (by omega) ?_
          exact All_loop hx hm hR k (i + 1) b m d g u (by omega) (by omega) (by rw [hr]; simpa using ha.kept hu) hg (Kept.trans hk hu)
    · obtain rfl : i = 64 * xs.length := by omega
      exact hR _ _ _ g w ha hg hk
theorem All_c (hx : Sl enW w a n xs) (hm : n ≤ 16777216) : E.CallsD Go.Proofs.Tryd.prog 47 #[.slice a n c] w fun v u => ∃ a' c', v = .slice a' (count xs) c' ∧ New enN 3 w u a' (count xs) c' (all xs) := by
  refine thicketref05_All.calls ?_
  unfold thicketref05_All thicketref05_All.g0
  refine ⟨64 * n + 1, All_loop hx hm (fun a' n' c' g u h1 h2 h3 => ?_) (64 * n + 1) 0 none 0 0 0 w (by omega) (by omega) (Arr.nil _ _ _) (by omega) (Kept.refl _)⟩
  obtain rfl : n' = count xs := h1.len
  exact ⟨_, _, rfl, g, h1, h2, h3⟩
theorem New.sl {α : Type} {en : α → Value} {e : Nat} {w u : World} {a : Option Addr} {n c : Nat} {xs : List α} (h : New en e w u a n c xs) : Sl en u a n xs := by obtain ⟨g, h, _⟩ := h; exact h.sl
theorem New.kept {α : Type} {en : α → Value} {e : Nat} {w u : World} {a : Option Addr} {n c : Nat} {xs : List α} (h : New en e w u a n c xs) : Kept w u := by obtain ⟨g, _, _, h⟩ := h; exact h
theorem Sl.rdN {xs : List Nat} {w : World} {a : Option Addr} {n : Nat} {i : Int} (h : Sl enN w a n xs) {K : Int → Prop} (h0 : 0 ≤ i) (hi : i < n) (hk : ∀ x : Nat, xs[i.toNat]? = some x → K (x : Int)) :
    optN a fun q => chk (0 ≤ i ∧ i < (n : Int)) (∃ y : Int, w.cell? (q.add (i.toNat * 1)) = some (.int .i64 y) ∧ K y) := h.rd (f := fun y => .int .i64 y) (sel := fun x => (x : Int)) (fun _ => rfl) h0 hi hk
theorem refHighest_c (hx : Sl enW w a n xs) (hm : n ≤ 16777216) : Pure Go.Proofs.Tryd.prog 46 #[.slice a n c] w (.int .i64 (high xs)) := by
  refine thicketref05_Highest.calls (R := fun v' u => v' = _ ∧ Below w.heap.size w u) ?_
  unfold thicketref05_Highest thicketref05_Highest.g0
  refine E.CallsD.mono (All_c hx hm) fun v u ⟨a', c', hv, hn⟩ => ⟨_, _, _, hv, ?_⟩
  have hc := count_le xs
  have hl := hx.len
  refine onEq (fun h0 => ⟨?_, hn.kept⟩) (fun h0 => ?_)
  · have : all xs = [] := List.eq_nil_of_length_eq_zero (by unfold count at h0; omega)
    unfold high
    rw [this]
    rfl
  · refine nv_i64 (by omega) (by omega) ?_
    refine Sl.rdN hn.sl (by omega) (by omega) fun x hx => ⟨?_, hn.kept⟩
    unfold high
    rw [List.getLast?_eq_getElem?, show (all xs).length - 1 = ((count xs : Int) - 1).toNat from by unfold count; omega, hx]
theorem refLowest_c (hx : Sl enW w a n xs) (hm : n ≤ 16777216) : Pure Go.Proofs.Tryd.prog 44 #[.slice a n c] w (.int .i64 (low xs)) := by
  refine thicketref05_Lowest.calls (R := fun v' u => v' = _ ∧ Below w.heap.size w u) ?_
  unfold thicketref05_Lowest thicketref05_Lowest.g0
  refine E.CallsD.mono (All_c hx hm) fun v u ⟨a', c', hv, hn⟩ => ⟨_, _, _, hv, ?_⟩
  unfold low
  cases he : all xs with
  | nil =>
    have hc : count xs = 0 := by unfold count; rw [he]; rfl
    refine onEq_t (by omega) ?_
    exact ⟨rfl, hn.kept⟩
  | cons i l =>
    have hc : count xs = l.length + 1 := by unfold count; rw [he]; rfl
    refine onEq_f (by omega) ?_
    have := Sl.rdN (i := 0) hn.sl (K := fun y => y = (i : Int)) (by omega) (by omega) fun x hx => by rw [he] at hx; cases hx; rfl
    cases ha : a' with
    | none => rw [ha] at this; exact this.elim
    | some q =>
      rw [ha] at this
      obtain ⟨y, h1, rfl⟩ := (chk_iff.1 this).2
      exact chk_mk (by omega) ⟨_, h1, rfl, hn.kept⟩
/-! ### the document's Print -/
theorem refPrint_loop {R : Value → World → Prop} {w0 : World} {a : Option Addr} {n c N : Nat} (hx : Sl enW w0 a n xs) (hN : N ≤ 1048576)
    (hR : ∀ u, Kept w0 u → R (.tuple #[.string ⟨(prB xs N).toArray⟩, .int .i64 0]) u) :
    ∀ (k i : Nat) (b : Option Addr) (m d g : Nat) (w : World), i + k = N → Arr enB 5 w b m d (prB xs i) g → (w0.heap.size < g ∨ g = 0) → Kept w0 w → thicketref05_Print.l32 R (k + 1) a n c N b m d i w
  | 0, i, b, m, d, g, w, hi, ha, hg, hk => by
    unfold thicketref05_Print.l32 thicketref05_Print.g32
    refine onDec_f (by omega) ?_
    obtain rfl : i = N := by omega
    exact rawN_bytes (e := 5) (by kernel_rfl) (by kernel_rfl) (by kernel_rfl) ha.sl ⟨_, rfl, hR w hk⟩
  | k + 1, i, b, m, d, g, w, hi, ha, hg, hk => by
    have hlen : m = i := by have := ha.len; simp [prB] at this; omega
    unfold thicketref05_Print.l32 thicketref05_Print.g32
    refine onDec_t (by omega) ?_
    refine E.CallsD.mono (refHas_c (hx.keep hk) (by omega)) fun v u ⟨hv, hu⟩ => ⟨_, hv, ?_⟩
    rw [show has xs (i : Int) = bit xs i from by unfold has; simp]
    have hsz := (Kept.trans hk hu).size
    have hr : prB xs (i + 1) = prB xs i ++ [if bit xs i then 49 else 48] := by unfold prB; rw [List.range_succ, List.map_append]; rfl
    have hkk : ∀ {g' : Nat} {u' : World}, Only g u u' → Kept w0 u' := fun h4 => by
      rcases hg with hg | hg
      · exact Kept.only (Kept.trans hk hu) h4 hg
      · exact Kept.trans (Kept.trans hk hu) (h4.kept fun k h5 h6 => by omega)
    refine onBool_mk (fun hb => ?_) (fun hb => ?_)
    · rw [hb] at hr
      refine Arr.push S_B (ha.kept hu) (x := 49) rfl rfl (by simp only [maxLen]; omega) (by omega) fun a' c' g' u' h1 h2 h3 h4 => ⟨_, _, _, rfl, ?_⟩
      refine nv_succ (by omega) ?_
      exact refPrint_loop hx hN hR k (i + 1) a' (m + 1) c' g' u' (by omega) (by rw [hr]; exact h1) (by omega) (hkk (g' := 0) h4)
    · rw [hb] at hr
      refine Arr.push S_B (ha.kept hu) (x := 48) rfl rfl (by simp only [maxLen]; omega) (by omega) fun a' c' g' u' h1 h2 h3 h4 => ⟨_, _, _, rfl, ?_⟩
      refine nv_succ (by omega) ?_
      exact refPrint_loop hx hN hR k (i + 1) a' (m + 1) c' g' u' (by omega) (by rw [hr]; exact h1) (by omega) (hkk (g' := 0) h4)
theorem refPrint_c (hx : Sl enW w a n xs) (hm : n ≤ 16777216) (N : Int) : Pure Go.Proofs.Tryd.prog 27 #[.slice a n c, .int .i64 N] w (.tuple #[.string ⟨(prOf xs N).1.toArray⟩, .int .i64 (prOf xs N).2]) := by
  refine thicketref05_Print.calls (R := fun v' u => v' = _ ∧ Below w.heap.size w u) ?_
  unfold thicketref05_Print thicketref05_Print.g0
  have hl := hx.len
  unfold prOf
  refine onDec (fun h0 => ?_) (fun h0 => onDec (fun h1 => ?_) (fun h1 => ?_))
  · rw [if_pos (.inl h0)]; exact ⟨rfl, Below.refl _ _⟩
  · rw [if_pos (.inr h1)]; exact ⟨rfl, Below.refl _ _⟩
  · rw [if_neg (by omega)]
    refine nv_i64 (by omega) (by omega) ?_
    refine nv_div (by omega) (by omega) (by omega) ?_
    have hW : (nW N : Int) = (N + 63) / 64 := by unfold nW; omega
    by_cases h1 : nW N ≠ xs.length
    · rw [if_pos h1]
      refine onNe_t (by omega) ?_
      exact ⟨rfl, Below.refl _ _⟩
    · rw [if_neg h1]
      refine onNe_f (by omega) ?_
      refine E.CallsD.mono (refHighest_c hx hm) fun v u ⟨hv, hk⟩ => ⟨_, hv, ?_⟩
      by_cases h2 : high xs ≥ N
      · rw [if_pos h2]
        refine onDec_t (by omega) ?_
        exact ⟨rfl, hk⟩
      · rw [if_neg h2]
        refine onDec_f (by omega) ?_
        have e : N = ((N.toNat : Nat) : Int) := by omega
        rw [e]
        refine ⟨N.toNat + 1, refPrint_loop (hx.keep hk) (by omega) (fun u3 ho => ⟨rfl, Kept.trans hk ho⟩) N.toNat 0 none 0 0 0 u (by omega) (Arr.nil _ _ _) (by omega) (Kept.refl _)⟩
end
end Go.Mir
