/- Part of a proof of laws of the seat YtabmjhhjbifagaaDoor: functions' weakest preconditions, each checked by the kernel, and contracts out of them; no conditions. -/
import Derived.Test.YtabmjhhjbifagaaDoorB3
import Derived.Test.YtabmjhhjbifagaaDoorBM6
import Derived.Test.YtabmjhhjbifagaaDoorBM7
import Derived.Test.YtabmjhhjbifagaaDoorBM8
set_option linter.unusedVariables false
set_option linter.unusedSimpArgs false
namespace Go.Mir
open Go Go.E Go.RowKit Go.Bt
section
variable {w : World} {a b : Option Addr} {n c m d g : Nat} {xs ys : W} {i : Int}

theorem Sl.bits (h : Sl enW w a n xs) : n = xs.length := h.len
/-- Is a bit in, of any number? -/
def has (a : W) (i : Int) : Bool := decide (0 ≤ i) && bit a i.toNat
theorem within_c (hi : i ≤ 9223372036854775807) : Pure Go.Proofs.Tryd.prog 54 #[.slice a n c, .int .i64 i] w (.bool (decide (0 ≤ i) && decide (i / 64 < n))) := by
  refine bits_within.calls (R := fun v' u => v' = _ ∧ Below w.heap.size w u) ?_
  unfold bits_within bits_within.g0
  refine onDec (fun h => ?_) (fun h => ?_)
  · refine nv_div (by omega) (by omega) (by omega) ?_
    exact ⟨by simp [h], Below.refl _ _⟩
  · exact ⟨by rw [decide_eq_false (by omega)]; rfl, Below.refl _ _⟩
theorem Has_c (h : Sl enW w a n xs) (hi : i ≤ 9223372036854775807) : Pure Go.Proofs.Tryd.prog 24 #[.slice a n c, .int .i64 i] w (.bool (has xs i)) := by
  have hl := h.len
  refine bits_Has.calls (R := fun v' u => v' = _ ∧ Below w.heap.size w u) ?_
  unfold bits_Has bits_Has.g0
  refine E.CallsD.mono (within_c hi) fun v u ⟨hv, hu⟩ => ⟨_, hv, onBool_mk (fun hb => ?_) (fun hb => ?_)⟩
  · simp only [Bool.and_eq_true, decide_eq_true_eq] at hb
    refine nv_div (by omega) (by omega) (by omega) ?_
    refine Sl.rdW (h.keep hu) (fun _ => rfl) (by omega) (by omega) fun x hx => ?_
    refine nv_mod (by omega) ?_
    refine nchk_mk (by omega) ?_
    rw [shr64]
    refine nv_mk rfl (nv_mk rfl ?_)
    rw [bit_ask]
    refine ⟨?_, hu⟩
    unfold has
    rw [decide_eq_true hb.1, Bool.true_and]
    have := bit_word (j := (i % 64).toNat) hx (by omega)
    rw [show 64 * (i / 64).toNat + (i % 64).toNat = i.toNat from by omega] at this
    rw [this]
  · refine ⟨?_, hu⟩
    unfold has
    by_cases h0 : 0 ≤ i
    · rw [decide_eq_true h0, Bool.true_and] at hb
      have hb := of_decide_eq_false hb
      rw [bit_out (by omega), Bool.and_false]
    · rw [decide_eq_false h0]; rfl
theorem refHas_c (h : Sl enW w a n xs) (hi : i ≤ 9223372036854775807) : Pure Go.Proofs.Tryd.prog 42 #[.slice a n c, .int .i64 i] w (.bool (has xs i)) := by
  have hl := h.len
  refine thicketref05_Has.calls (R := fun v' u => v' = _ ∧ Below w.heap.size w u) ?_
  unfold thicketref05_Has thicketref05_Has.g0
  unfold has
  refine onDec (fun h0 => ?_) (fun h0 => ?_)
  · rw [decide_eq_true (show 0 ≤ i from h0), Bool.true_and]
    refine nv_div (by omega) (by omega) (by omega) ?_
    refine onDec (fun h1 => ?_) (fun h1 => ?_)
    · refine nv_div (by omega) (by omega) (by omega) ?_
      refine Sl.rdW h (fun _ => rfl) (by omega) (by omega) fun x hx => ?_
      refine nv_mod (by omega) ?_
      refine nv_u64 (by omega) (by omega) ?_
      refine nchk_mk (by omega) ?_
      rw [shr64]
      refine nv_mk rfl (nv_mk rfl ?_)
      rw [bit_ask]
      refine ⟨?_, Below.refl _ _⟩
      have := bit_word (j := (i % 64).toNat) hx (by omega)
      rw [show 64 * (i / 64).toNat + (i % 64).toNat = i.toNat from by omega] at this
      rw [this]
    · exact ⟨by rw [bit_out (by omega)], Below.refl _ _⟩
  · exact ⟨by rw [decide_eq_false (by omega)]; rfl, Below.refl _ _⟩

theorem OnesCount64_c (x : BitVec 64) (w : World) : Pure Go.Proofs.Tryd.prog 55 #[.int .u64 x.toNat] w (.int .i64 (pop x : Nat)) := by rw [← pop_popN]; exact OnesCount64_n _ x.isLt w
/-! ### Lowest, Highest, Count -/
theorem Lowest_loop {R : Value → World → Prop} (hT : Tab w) (h : Sl enW w a n xs) (hm : n ≤ 16777216) (hR : ∀ u, Kept w u → R (.int .i64 (low xs)) u) :
    ∀ (k i : Nat), i + k = n → (∀ j, j < 64 * i → bit xs j = false) → bits_Lowest.l6 R (k + 1) a n c n i w
  | 0, i, hi, hz => by
    have hl := h.len
    unfold bits_Lowest.l6 bits_Lowest.g6
    refine onDec_f (by omega) ?_
    rw [← low_none (a := xs) fun j => ?_]
    · exact hR _ (Kept.refl _)
    · by_cases hj : j < 64 * i
      · exact hz j hj
      · exact bit_out (by omega)
  | k + 1, i, hi, hz => by
    have hl := h.len
    unfold bits_Lowest.l6 bits_Lowest.g6
    refine onDec_t (by omega) ?_
    refine Sl.rdW h (fun _ => rfl) (by omega) (by omega) fun x hx => ?_
    rw [Int.toNat_natCast] at hx
    refine onNe (fun hne => ?_) (fun he => ?_)
    · refine nv_i64 (by omega) (by omega) ?_
      have hx0 : x.toNat ≠ 0 := by omega
      obtain ⟨c1, c2, c3⟩ := ctz_low x.isLt hx0
      refine E.CallsD.mono (tz64 x.toNat x.isLt hx0 hT) fun v u ⟨hv, hu⟩ => ⟨_, hv, ?_⟩
      refine nv_i64 (by omega) (by omega) ?_
      have : low xs = (64 * i + Lib.ctz 64 x.toNat : Nat) := by
        refine low_at ?_ fun j hj => ?_
        · rw [bit_word hx c1]; exact c2
        · by_cases hj2 : j < 64 * i
          · exact hz j hj2
          · have := bit_word hx (j := j - 64 * i) (by omega)
            rw [show 64 * i + (j - 64 * i) = j from by omega] at this
            rw [this]
            exact c3 _ (by omega)
      have e := hR u hu
      rw [this] at e
      simpa using e
    · refine nv_succ (by omega) ?_
      refine Lowest_loop hT h hm hR k (i + 1) (by omega) fun j hj => ?_
      by_cases hj2 : j < 64 * i
      · exact hz j hj2
      · have := bit_word hx (j := j - 64 * i) (by omega)
        rw [show 64 * i + (j - 64 * i) = j from by omega] at this
        rw [this]
        exact zero_word.1 (by omega) _ (by omega)
theorem Lowest_c (hT : Tab w) (h : Sl enW w a n xs) (hm : n ≤ 16777216) : Pure Go.Proofs.Tryd.prog 43 #[.slice a n c] w (.int .i64 (low xs)) := by
  refine bits_Lowest.calls (R := fun v' u => v' = _ ∧ Below w.heap.size w u) ?_
  unfold bits_Lowest bits_Lowest.g0
  exact ⟨n + 1, Lowest_loop hT h hm (fun u hu => ⟨rfl, hu⟩) n 0 (by omega) (fun j hj => by omega)⟩
theorem Highest_loop {R : Value → World → Prop} (h : Sl enW w a n xs) (hm : n ≤ 16777216) (hR : ∀ u, Kept w u → R (.int .i64 (high xs)) u) :
    ∀ (k : Nat), k ≤ n → (∀ j, 64 * k ≤ j → bit xs j = false) → bits_Highest.l6 R (k + 1) a n c ((k : Int) - 1) w
  | 0, hi, hz => by
    unfold bits_Highest.l6 bits_Highest.g6
    refine onDec_f (by omega) ?_
    rw [← high_none (a := xs) fun j => hz j (by omega)]
    exact hR _ (Kept.refl _)
  | k + 1, hi, hz => by
    have hl := h.len
    unfold bits_Highest.l6 bits_Highest.g6
    rw [show ((k + 1 : Nat) : Int) - 1 = (k : Int) from by omega]
    refine onDec_t (by omega) ?_
    refine Sl.rdW h (fun _ => rfl) (by omega) (by omega) fun x hx => ?_
    rw [Int.toNat_natCast] at hx
    refine onNe (fun hne => ?_) (fun he => ?_)
    · refine nv_i64 (by omega) (by omega) ?_
      refine Sl.rdW h (fun _ => rfl) (by omega) (by omega) fun x2 hx2 => ?_
      rw [Int.toNat_natCast, hx] at hx2
      obtain rfl := Option.some.inj hx2
      have hx0 : x.toNat ≠ 0 := by omega
      obtain ⟨c2, c3⟩ := bl_high hx0
      have c1 := bl_le (x := x.toNat) (n := 64) x.isLt
      have c0 : 0 < bl x.toNat := by unfold bl; rw [if_neg hx0]; omega
      refine E.CallsD.mono (Len64 x.toNat x.isLt w) fun v u ⟨hv, hu⟩ => ⟨_, hv, ?_⟩
      refine nv_i64 (by omega) (by omega) ?_
      refine nv_i64 (by omega) (by omega) ?_
      have : high xs = (64 * k + (bl x.toNat - 1) : Nat) := by
        refine high_at ?_ fun j hj => ?_
        · rw [bit_word hx (by omega)]; exact c2
        · by_cases hj2 : 64 * (k + 1) ≤ j
          · exact hz j hj2
          · have := bit_word hx (j := j - 64 * k) (by omega)
            rw [show 64 * k + (j - 64 * k) = j from by omega] at this
            rw [this]
            exact c3 _ (by omega)
      have e := hR u hu
      rw [this] at e
      rwa [show ((64 * k + (bl x.toNat - 1) : Nat) : Int) = 64 * (k : Int) + (bl x.toNat : Int) - 1 from by omega] at e
    · refine nv_i64 (by omega) (by omega) ?_
      refine Highest_loop h hm hR k (by omega) fun j hj => ?_
      by_cases hj2 : 64 * (k + 1) ≤ j
      · exact hz j hj2
      · have := bit_word hx (j := j - 64 * k) (by omega)
        rw [show 64 * k + (j - 64 * k) = j from by omega] at this
        rw [this]
        exact zero_word.1 (by omega) _ (by omega)
theorem Highest_c (h : Sl enW w a n xs) (hm : n ≤ 16777216) : Pure Go.Proofs.Tryd.prog 45 #[.slice a n c] w (.int .i64 (high xs)) := by
  refine bits_Highest.calls (R := fun v' u => v' = _ ∧ Below w.heap.size w u) ?_
  unfold bits_Highest bits_Highest.g0
  refine nv_i64 (by omega) (by omega) ?_
  exact ⟨n + 1, Highest_loop h hm (fun u hu => ⟨rfl, hu⟩) n (Nat.le_refl _) (fun j hj => bit_out (by have := h.len; omega))⟩
theorem Count_loop {R : Value → World → Prop} {w0 : World} (h : Sl enW w0 a n xs) (hm : n ≤ 16777216) (hR : ∀ u, Kept w0 u → R (.int .i64 (count xs : Nat)) u) :
    ∀ (k i acc : Nat) (w : World), i + k = n → acc + count (xs.drop i) = count xs → Kept w0 w → bits_Count.l8 R (k + 1) acc a n c n i w
  | 0, i, acc, w, hi, hz, hk => by
    have hl := h.len
    unfold bits_Count.l8 bits_Count.g8
    refine onDec_f (by omega) ?_
    rw [List.drop_of_length_le (by omega)] at hz
    rw [show acc = count xs from by simpa [count, all] using hz]
    exact hR _ hk
  | k + 1, i, acc, w, hi, hz, hk => by
    have hl := h.len
    have hc := count_le xs
    unfold bits_Count.l8 bits_Count.g8
    refine onDec_t (by omega) ?_
    refine Sl.rdW (h.keep hk) (fun _ => rfl) (by omega) (by omega) fun x hx => ?_
    rw [Int.toNat_natCast] at hx
    obtain ⟨hlt, rfl⟩ := List.getElem?_eq_some_iff.1 hx
    rw [List.drop_eq_getElem_cons hlt, count_cons] at hz
    refine E.CallsD.mono (OnesCount64_c (xs[i]) w) fun v u ⟨hv, hu⟩ => ⟨_, hv, ?_⟩
    have hp := pop_le (xs[i])
    obtain ⟨p, hpd⟩ : ∃ p, p = pop (xs[i]) := ⟨_, rfl⟩
    rw [← hpd] at hz hp ⊢
    refine nv_mk (y := ((acc + p : Nat) : Int)) (i64_id (by omega) (by omega)) ?_
    refine nv_succ (by omega) ?_
    exact Count_loop h hm hR k (i + 1) _ u (by omega) (by omega) (Kept.trans hk hu)
theorem Count_c (h : Sl enW w a n xs) (hm : n ≤ 16777216) : Pure Go.Proofs.Tryd.prog 25 #[.slice a n c] w (.int .i64 (count xs : Nat)) := by
  refine bits_Count.calls (R := fun v' u => v' = _ ∧ Below w.heap.size w u) ?_
  unfold bits_Count bits_Count.g0
  exact ⟨n + 1, Count_loop h hm (fun u hu => ⟨rfl, hu⟩) n 0 0 w (by omega) (by simp) (Kept.refl _)⟩

/-! ### Same, copied, Meet -/
theorem Same_loop {R : Value → World → Prop} (h : Sl enW w a n xs) (h2 : Sl enW w b n ys) (hm : n ≤ 16777216) (hR : R (.bool (decide (xs = ys))) w) :
    ∀ (k i : Nat), i + k = n → (∀ j, j < i → xs[j]? = ys[j]?) → thicketref05_Same.l14 R (k + 1) a n c b n d n i w
  | 0, i, hi, hz => by
    have := h.len
    have := h2.len
    unfold thicketref05_Same.l14 thicketref05_Same.g14
    refine onDec_f (by omega) ?_
    have e : xs = ys := List.ext_getElem? fun j => by
      by_cases hj : j < i
      · exact hz j hj
      · rw [List.getElem?_eq_none (by omega), List.getElem?_eq_none (by omega)]
    rw [decide_eq_true e] at hR
    exact hR
  | k + 1, i, hi, hz => by
    unfold thicketref05_Same.l14 thicketref05_Same.g14
    refine onDec_t (by omega) ?_
    refine Sl.rdW h (fun _ => rfl) (by omega) (by omega) fun x hx => ?_
    refine Sl.rdW h2 (fun _ => rfl) (by omega) (by omega) fun y hy => ?_
    rw [Int.toNat_natCast] at hx hy
    refine onNe (fun hne => ?_) (fun he => ?_)
    · rw [decide_eq_false (fun e => by subst e; rw [hx] at hy; exact hne (by rw [Option.some.inj hy]))] at hR
      exact hR
    · refine nv_succ (by omega) ?_
      refine Same_loop h h2 hm hR k (i + 1) (by omega) fun j hj => ?_
      by_cases hj2 : j < i
      · exact hz j hj2
      · obtain rfl : j = i := by omega
        rw [hx, hy]
        congr 1
        exact BitVec.eq_of_toNat_eq (by omega)
theorem Same_c (h : Sl enW w a n xs) (h2 : Sl enW w b m ys) (hm : n ≤ 16777216) : Pure Go.Proofs.Tryd.prog 21 #[.slice a n c, .slice b m d] w (.bool (decide (xs = ys))) := by
  refine thicketref05_Same.calls (R := fun v' u => v' = _ ∧ Below w.heap.size w u) ?_
  unfold thicketref05_Same thicketref05_Same.g0
  have := h.len
  have := h2.len
  refine onNe (fun hne => ?_) (fun he => ?_)
  · exact ⟨by rw [decide_eq_false (fun e => by subst e; omega)], Below.refl _ _⟩
  · obtain rfl : n = m := by omega
    exact ⟨n + 1, Same_loop h h2 hm ⟨rfl, Below.refl _ _⟩ n 0 (by omega) (fun j hj => by omega)⟩
theorem S_W : SliceT Go.Proofs.Tryd.prog 25 56 1 8 := sliceT (by kernel_rfl)
theorem copied_c (h : Sl enW w a n xs) (hm : n ≤ 16777216) : E.CallsD Go.Proofs.Tryd.prog 22 #[.slice a n c] w fun v u => ∃ a' c', v = .slice a' n c' ∧ New enW 56 w u a' n c' xs := by
  refine thicketlaw05_copied.calls ?_
  unfold thicketlaw05_copied thicketlaw05_copied.g0
  refine Arr.pushes S_W (Arr.nil enW _ w) (fun _ => rfl) h (by simp only [maxLen]; omega) (by omega) fun a' c' g' u ha hg ho => ?_
  rw [Nat.zero_add] at ha
  refine ⟨_, _, _, by rw [Nat.zero_add], a', c', rfl, g', by simpa using ha, by omega, ho.kept fun k _ hk => by omega⟩
theorem Meet_loop {R : Value → World → Prop} {w0 : World} (hl : xs.length = n) (hm : n ≤ 16777216) (h2 : ∀ u, Only g w0 u → Sl enW u b n ys)
    (hR : ∀ u, Arr enW 56 u a n c (xs.zipWith (· &&& ·) ys) g → Only g w0 u → R (.int .i64 0) u) :
    ∀ (k i : Nat) (w : World), i + k = n → Arr enW 56 w a n c (mix (xs.zipWith (· &&& ·) ys) xs i) g → Only g w0 w → bits_Meet.l14 R (k + 1) a n c b n d n i w
  | 0, i, w, hi, ha, ho => by
    have hl2 := (h2 _ ho).len
    unfold bits_Meet.l14 bits_Meet.g14
    refine onDec_f (by omega) ?_
    obtain rfl : i = xs.length := by omega
    rw [mix_full (by simp; omega)] at ha
    exact hR w ha ho
  | k + 1, i, w, hi, ha, ho => by
    have hl2 := (h2 _ ho).len
    have hll : xs.length = (xs.zipWith (· &&& ·) ys).length := by simp; omega
    unfold bits_Meet.l14 bits_Meet.g14
    refine onDec_t (by omega) ?_
    refine Sl.rdW ha.sl (fun _ => rfl) (by omega) (by omega) fun x hx => ?_
    refine Sl.rdW (h2 _ ho) (fun _ => rfl) (by omega) (by omega) fun y hy => ?_
    rw [Int.toNat_natCast] at hx hy
    rw [mix_get hll (by omega)] at hx
    rw [and64]
    refine nv_mk rfl ?_
    refine Arr.wr ha (by omega) (by omega) (x := x &&& y) rfl fun u hu mu => ?_
    refine nv_succ (by omega) ?_
    rw [Int.toNat_natCast, mix_step hll (x := x &&& y) (by rw [List.getElem?_zipWith, hx, hy])] at hu
    exact Meet_loop hl hm h2 hR k (i + 1) u (by omega) hu (ho.trans mu (fun _ _ h => h) (fun _ _ h => h))
theorem Meet_c (h : Arr enW 56 w a n c xs g) (h2 : ∀ u, Only g w u → Sl enW u b n ys) (hm : n ≤ 16777216) :
    E.CallsD Go.Proofs.Tryd.prog 23 #[.slice a n c, .slice b n d] w fun v u => v = .int .i64 0 ∧ Arr enW 56 u a n c (xs.zipWith (· &&& ·) ys) g ∧ Only g w u := by
  refine bits_Meet.calls ?_
  unfold bits_Meet bits_Meet.g0
  refine onNe_f (by omega) ?_
  exact ⟨n + 1, Meet_loop h.len.symm hm h2 (fun u hu ho => ⟨rfl, hu, ho⟩) n 0 w (by omega) (by rwa [mix_zero]) (Mod.refl _)⟩
theorem Meet_no (hne : n ≠ m) : Pure Go.Proofs.Tryd.prog 23 #[.slice a n c, .slice b m d] w (.int .i64 6) := by
  refine bits_Meet.calls (R := fun v' u => v' = _ ∧ Below w.heap.size w u) ?_
  unfold bits_Meet bits_Meet.g0
  refine onNe_t (by omega) ?_
  exact ⟨rfl, Below.refl _ _⟩
end
end Go.Mir
