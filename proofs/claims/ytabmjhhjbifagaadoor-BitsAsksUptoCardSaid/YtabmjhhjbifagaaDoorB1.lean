/- Part of a proof of laws of the seat YtabmjhhjbifagaaDoor: functions' weakest preconditions, each checked by the kernel, and contracts out of them; no conditions. -/
import Derived.Test.YtabmjhhjbifagaaDoorBI
import Derived.Test.YtabmjhhjbifagaaDoorBM1
set_option linter.unusedVariables false
set_option linter.unusedSimpArgs false
namespace Go.Mir
open Go Go.E Go.RowKit Go.Bt

/-- A new slice. -/
def New {α : Type} (en : α → Value) (e : Nat) (w u : World) (a : Option Addr) (n c : Nat) (xs : List α) : Prop := ∃ g, Arr en e u a n c xs g ∧ (w.heap.size < g ∨ g = 0) ∧ Kept w u
def nW (n : Int) : Nat := ((n + 63) / 64).toNat
theorem New.len {α : Type} {en : α → Value} {e : Nat} {w u : World} {a : Option Addr} {n c : Nat} {xs : List α} (h : New en e w u a n c xs) : n = xs.length := by obtain ⟨g, h, _⟩ := h; exact h.len

theorem Words_ok {n : Int} (h0 : 0 ≤ n) (h1 : n ≤ 1048576) (w : World) : Pure Go.Proofs.Tryd.prog 12 #[.int .i64 n] w (.tuple #[.int .i64 (nW n), .int .i64 0]) := by
  refine bits_Words.calls (R := fun v' u => v' = _ ∧ Below w.heap.size w u) ?_
  unfold bits_Words bits_Words.g0
  refine onDec_f (by omega) ?_
  refine onDec_f (by omega) ?_
  refine nv_i64 (by omega) (by omega) ?_
  refine nv_div (by omega) (by omega) (by omega) ?_
  exact ⟨by simp [nW]; omega, Below.refl _ _⟩
theorem Words_no {n : Int} (h : n < 0 ∨ 1048576 < n) (w : World) : Pure Go.Proofs.Tryd.prog 12 #[.int .i64 n] w (.tuple #[.int .i64 0, .int .i64 2]) := by
  refine bits_Words.calls (R := fun v' u => v' = _ ∧ Below w.heap.size w u) ?_
  unfold bits_Words bits_Words.g0
  refine onDec (fun h1 => ⟨rfl, Below.refl _ _⟩) (fun h1 => ?_)
  refine onDec_t (by omega) ?_
  exact ⟨rfl, Below.refl _ _⟩

theorem Empty_ok {n : Int} (h0 : 0 ≤ n) (h1 : n ≤ 1048576) (w : World) :
    E.CallsD Go.Proofs.Tryd.prog 14 #[.int .i64 n] w fun v u => ∃ a c, v = .tuple #[.slice a (nW n) c, .int .i64 0] ∧ New enW 56 w u a (nW n) c (ofB (nW n) fun _ => false) := by
  refine bits_Empty.calls ?_
  unfold bits_Empty bits_Empty.g0
  refine E.CallsD.mono (Words_ok h0 h1 w) fun v u ⟨hv, hu⟩ => ⟨_, _, hv, ?_⟩
  refine onNe_f (by omega) ?_
  refine Arr.make (en := enW) (x := 0#64) rfl (by omega) (by unfold nW; omega) (by unfold nW; omega) fun u' ha hk => ?_
  refine ⟨_, _, rfl, _, by simpa [zeros] using ha, ?_, Kept.trans hu hk⟩
  have := hu.size
  omega
theorem Empty_no {n : Int} (h : n < 0 ∨ 1048576 < n) (w : World) : Pure Go.Proofs.Tryd.prog 14 #[.int .i64 n] w (.tuple #[.slice none 0 0, .int .i64 2]) := by
  refine bits_Empty.calls (R := fun v' u => v' = _ ∧ Below w.heap.size w u) ?_
  unfold bits_Empty bits_Empty.g0
  refine E.CallsD.mono (Words_no h w) fun v u ⟨hv, hu⟩ => ⟨_, _, hv, ?_⟩
  refine onNe_t (by omega) ?_
  exact ⟨rfl, hu⟩

/-! ### fill -/
def fillW (xs : W) (f t : Int) : W := ofB xs.length fun i => bit xs i || (decide (f ≤ (i : Int)) && decide ((i : Int) < t))
theorem fillW_skip {xs : W} {f t : Int} {k : Nat} {x : BitVec 64} (hx : xs[k]? = some x) (h : ¬ max (f - 64 * k) 0 < min (t - 64 * k) 64) : (fillW xs f t)[k]? = some x := by
  unfold fillW
  rw [ofB_get (getD_lt hx)]
  congr 1
  symm
  apply word_eq
  intro j hj
  rw [bit_word hx hj]
  have : (decide (f ≤ ((64 * k + j : Nat) : Int)) && decide (((64 * k + j : Nat) : Int) < t)) = false := by
    rw [Bool.and_eq_false_iff, decide_eq_false_iff_not, decide_eq_false_iff_not]
    omega
  rw [this, Bool.or_false]
theorem fillW_put {xs : W} {f t : Int} {k lo hi : Nat} {x : BitVec 64} (hx : xs[k]? = some x) (hlo : (lo : Int) = max (f - 64 * k) 0) (hhi : (hi : Int) = min (t - 64 * k) 64) (h : lo < hi) :
    (fillW xs f t)[k]? = some (x ||| ((BitVec.allOnes 64 >>> (64 - (hi - lo))) <<< lo)) := by
  unfold fillW
  rw [ofB_get (getD_lt hx)]
  congr 1
  symm
  apply word_eq
  intro j hj
  rw [BitVec.getLsbD_or, ones lo hi h (by omega) j hj, bit_word hx hj]
  congr 1
  rw [← Bool.decide_and, ← Bool.decide_and]
  apply decide_eq_decide.2
  omega
theorem fillW_length (xs : W) (f t : Int) : (fillW xs f t).length = xs.length := by simp [fillW]

theorem fill_loop {R : Value → World → Prop} {w0 : World} {a : Option Addr} {n c g : Nat} {xs : W} {f t : Int} (hn : n = xs.length) (hm : n ≤ 16777216) (hf : -4611686018427387904 ≤ f ∧ f ≤ 4611686018427387904) (ht : -4611686018427387904 ≤ t ∧ t ≤ 4611686018427387904)
    (hR : ∀ u, Arr enW 56 u a n c (fillW xs f t) g → Only g w0 u → R (.tuple #[]) u) :
    ∀ (k i : Nat) (w : World), i + k = n → Arr enW 56 w a n c (mix (fillW xs f t) xs i) g → Only g w0 w → bits_fill.l3 R (k + 1) a n c f t n i w
  | 0, i, w, hi, ha, ho => by
    unfold bits_fill.l3 bits_fill.g3
    refine onDec_f (by omega) ?_
    obtain rfl : i = xs.length := by omega
    rw [mix_full (by simp [fillW_length])] at ha
    exact hR w ha ho
  | k + 1, i, w, hi, ha, ho => by
    have hx : xs[i]? = some (xs[i]'(by omega)) := List.getElem?_eq_getElem _
    have hx' : (mix (fillW xs f t) xs i)[i]? = some (xs[i]'(by omega)) := by rw [mix_get (by simp [fillW_length]) (by omega), hx]
    unfold bits_fill.l3 bits_fill.g3
    refine onDec_t (by omega) ?_
    refine nv_i64 (by omega) (by omega) ?_
    refine nv_i64 (by omega) (by omega) ?_
    refine nv_mk (y := max (f - 64 * i) 0) (by split <;> omega) ?_
    refine nv_i64 (by omega) (by omega) ?_
    refine nv_i64 (by omega) (by omega) ?_
    refine nv_mk (y := min (t - 64 * i) 64) (by split <;> omega) ?_
    refine onDec (fun hlt => ?_) (fun hge => ?_)
    · refine Sl.rdW ha.sl (fun _ => rfl) (by omega) (by omega) fun x hx2 => ?_
      obtain ⟨lo, hlo⟩ : ∃ lo : Nat, (lo : Int) = max (f - 64 * i) 0 := ⟨(max (f - 64 * i) 0).toNat, by omega⟩
      obtain ⟨hi2, hhi⟩ : ∃ hi : Nat, (hi : Int) = min (t - 64 * i) 64 := ⟨(min (t - 64 * i) 64).toNat, by omega⟩
      rw [← hlo, ← hhi]
      refine nv_i64 (by omega) (by omega) ?_
      refine nv_i64 (by omega) (by omega) ?_
      refine nchk_mk (by omega) ?_
      rw [ones_shr]
      refine nv_mk rfl ?_
      refine nchk_mk (by omega) ?_
      rw [shl64]
      refine nv_mk rfl ?_
      rw [or64]
      refine nv_mk rfl ?_
      obtain rfl : x = xs[i]'(by omega) := by
        have : (mix (fillW xs f t) xs i)[i]? = some x := hx2
        rw [hx'] at this
        exact (Option.some.inj this).symm
      have hput := fillW_put (f := f) (t := t) (lo := lo) (hi := hi2) hx hlo hhi (by omega)
      rw [show 64 - (hi2 - lo) = (64 - ((hi2 : Int) - lo)).toNat from by omega, show lo = (lo : Int).toNat from by simp] at hput
      refine Arr.wr ha (by omega) (by omega) (x := _) rfl fun u hu mu => ?_
      refine nv_succ (by omega) ?_
      refine fill_loop hn hm hf ht hR k (i + 1) u (by omega) ?_ (ho.trans mu (fun _ _ h => h) (fun _ _ h => h))
      rw [show ((i : Int)).toNat = i from by simp] at hu
      rwa [mix_step (by simp [fillW_length]) (by simpa using hput)] at hu
    · refine nv_succ (by omega) ?_
      refine fill_loop hn hm hf ht hR k (i + 1) w (by omega) ?_ ho
      rw [← mix_step (by simp [fillW_length]) (fillW_skip hx hge)]
      have hlen : i < (mix (fillW xs f t) xs i).length := by rw [mix_length (by simp [fillW_length])]; omega
      rw [List.getElem?_eq_getElem hlen] at hx'
      rw [← Option.some.inj hx', List.set_getElem_self]
      exact ha
theorem fill_c {w : World} {a : Option Addr} {n c g : Nat} {xs : W} {f t : Int} (h : Arr enW 56 w a n c xs g) (hm : n ≤ 16777216) (hf : -4611686018427387904 ≤ f ∧ f ≤ 4611686018427387904) (ht : -4611686018427387904 ≤ t ∧ t ≤ 4611686018427387904) :
    E.CallsD Go.Proofs.Tryd.prog 52 #[.slice a n c, .int .i64 f, .int .i64 t] w fun v u => v = .tuple #[] ∧ Arr enW 56 u a n c (fillW xs f t) g ∧ Only g w u := by
  refine bits_fill.calls ?_
  unfold bits_fill bits_fill.g0
  exact ⟨n + 1, fill_loop h.len hm hf ht (fun u hu ho => ⟨rfl, hu, ho⟩) n 0 w (by omega) (by rwa [mix_zero]) (Mod.refl _)⟩
end Go.Mir
