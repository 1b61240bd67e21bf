/- Part of a proof of laws of the seat YtabmjhhjbifagaaDoor: functions' weakest preconditions, each checked by the kernel, and contracts out of them; no conditions. -/
import Derived.Test.YtabmjhhjbifagaaDoorB4
import Derived.Test.YtabmjhhjbifagaaDoorM3
set_option linter.unusedVariables false
set_option linter.unusedSimpArgs false
namespace Go.Mir
open Go Go.E Go.RowKit Go.Bt
section
variable {w : World} {a b : Option Addr} {n c m d g : Nat} {xs ys : W} {i : Int}

/-! ### Full, Mask -/
def fullB (n : Int) : W := ofB (nW n) fun i => decide ((i : Int) < n)
theorem nW_le {n : Int} (h : n ≤ 1048576) : nW n ≤ 16384 := by unfold nW; omega
theorem Full_ok {n : Int} (h0 : 0 ≤ n) (h1 : n ≤ 1048576) (w : World) :
    E.CallsD Go.Proofs.Tryd.prog 13 #[.int .i64 n] w fun v u => ∃ a c, v = .tuple #[.slice a (nW n) c, .int .i64 0] ∧ New enW 56 w u a (nW n) c (fullB n) := by
  refine bits_Full.calls ?_
  unfold bits_Full bits_Full.g0
  refine E.CallsD.mono (Empty_ok h0 h1 w) fun v u ⟨a, c, hv, g, ha, hg, hk⟩ => ⟨_, _, _, _, hv, ?_⟩
  have hL := nW_le h1
  refine E.CallsD.mono (fill_c (f := 0) (t := n) ha (by omega) (by omega) (by omega)) fun v u' ⟨hv, ha', ho⟩ => ⟨hv, ?_⟩
  refine ⟨_, _, rfl, g, ?_, hg, ?_⟩
  · have e : fillW (ofB (nW n) fun _ => false) 0 n = fullB n := by
      unfold fillW fullB
      rw [ofB_length]
      apply ofB_ext
      intro i hi
      rw [bit_ofB]
      simp
    rwa [e] at ha'
  · exact (Mod.trans (S := fun _ => False) (T := fun k => k + 1 = g) (U := fun k => w.heap.size ≤ k) (Kept.mod hk) ho (fun _ _ h => h.elim) (fun k hk2 h => by omega)).kept fun k hk2 hk3 => by omega
theorem fill_nil {f t : Int} {w : World} : Pure Go.Proofs.Tryd.prog 52 #[.slice none 0 0, .int .i64 f, .int .i64 t] w (.tuple #[]) := by
  refine bits_fill.calls (R := fun v' u => v' = _ ∧ Below w.heap.size w u) ?_
  unfold bits_fill bits_fill.g0
  refine ⟨1, ?_⟩
  unfold bits_fill.l3 bits_fill.g3
  refine onDec_f (by omega) ?_
  exact ⟨rfl, Below.refl _ _⟩
theorem Full_no {n : Int} (h : n < 0 ∨ 1048576 < n) (w : World) : Pure Go.Proofs.Tryd.prog 13 #[.int .i64 n] w (.tuple #[.slice none 0 0, .int .i64 2]) := by
  refine bits_Full.calls (R := fun v' u => v' = _ ∧ Below w.heap.size w u) ?_
  unfold bits_Full bits_Full.g0
  refine E.CallsD.mono (Empty_no h w) fun v u ⟨hv, hk⟩ => ⟨_, _, _, _, hv, ?_⟩
  refine E.CallsD.mono fill_nil fun v u' ⟨hv, hk'⟩ => ⟨hv, ?_⟩
  exact ⟨rfl, Kept.trans hk hk'⟩

def maskB (n f t : Int) : W := ofB (nW n) fun i => decide ((i : Int) < n) && !(decide (f ≤ (i : Int)) && decide ((i : Int) < t))
theorem Mask_loop {R : Value → World → Prop} {w0 : World} (hl : xs.length = n) (hm : n ≤ 16777216) (h2 : ∀ u, Only g w0 u → Sl enW u b n ys)
    (hR : ∀ u, Arr enW 56 u a n c (xs.zipWith (fun x y => x &&& ~~~y) ys) g → Only g w0 u → R (.tuple #[.slice a n c, .int .i64 0]) u) :
    ∀ (k i : Nat) (w : World), i + k = n → Arr enW 56 w a n c (mix (xs.zipWith (fun x y => x &&& ~~~y) ys) xs i) g → Only g w0 w → bits_Mask.l28 R (k + 1) a n c b n d n i w
  | 0, i, w, hi, ha, ho => by
    have hl2 := (h2 _ ho).len
    unfold bits_Mask.l28 bits_Mask.g28
    refine onDec_f (by omega) ?_
    obtain rfl : i = xs.length := by omega
    rw [mix_full (by simp; omega)] at ha
    exact hR w ha ho
  | k + 1, i, w, hi, ha, ho => by
    have hl2 := (h2 _ ho).len
    have hll : xs.length = (xs.zipWith (fun x y => x &&& ~~~y) ys).length := by simp; omega
    unfold bits_Mask.l28 bits_Mask.g28
    refine onDec_t (by omega) ?_
    refine Sl.rdW ha.sl (fun _ => rfl) (by omega) (by omega) fun x hx => ?_
    refine Sl.rdW (h2 _ ho) (fun _ => rfl) (by omega) (by omega) fun y hy => ?_
    rw [Int.toNat_natCast] at hx hy
    rw [mix_get hll (by omega)] at hx
    rw [andNot64]
    refine nv_mk rfl ?_
    refine Arr.wr ha (by omega) (by omega) (x := x &&& ~~~y) rfl fun u hu mu => ?_
    refine nv_succ (by omega) ?_
    rw [Int.toNat_natCast, mix_step hll (x := x &&& ~~~y) (by rw [List.getElem?_zipWith, hx, hy])] at hu
    exact Mask_loop hl hm h2 hR k (i + 1) u (by omega) hu (ho.trans mu (fun _ _ h => h) (fun _ _ h => h))
theorem zip_ofB (L : Nat) (p q : Nat → Bool) (f : BitVec 64 → BitVec 64 → BitVec 64) (r : Nat → Bool) (h : ∀ k, f (word p k) (word q k) = word r k) : (ofB L p).zipWith f (ofB L q) = ofB L r := by
  apply List.ext_getElem?
  intro k
  rw [List.getElem?_zipWith]
  by_cases hk : k < L
  · rw [ofB_get hk, ofB_get hk, ofB_get hk]
    simp [h]
  · rw [List.getElem?_eq_none (l := ofB L p) (by simp; omega), List.getElem?_eq_none (l := ofB L r) (by simp; omega)]
theorem Mask_ok {n f t : Int} (h0 : 0 ≤ n) (h1 : n ≤ 1048576) (hf : 0 ≤ f) (hft : f ≤ t) (ht : t ≤ n) (w : World) :
    E.CallsD Go.Proofs.Tryd.prog 15 #[.int .i64 n, .int .i64 f, .int .i64 t] w fun v u => ∃ a c, v = .tuple #[.slice a (nW n) c, .int .i64 0] ∧ New enW 56 w u a (nW n) c (maskB n f t) := by
  refine bits_Mask.calls ?_
  unfold bits_Mask bits_Mask.g0
  refine E.CallsD.mono (Full_ok h0 h1 w) fun v u ⟨a, c, hv, g, ha, hg, hk⟩ => ⟨_, _, _, _, hv, ?_⟩
  have hL := nW_le h1
  refine onNe_f (by omega) ?_
  refine onDec_f (by omega) ?_
  refine onDec_f (by omega) ?_
  refine onDec_f (by omega) ?_
  refine Arr.make (en := enW) (x := 0#64) rfl (by omega) (by omega) (by omega) fun u1 hb hk1 => ?_
  rw [Int.toNat_natCast] at hb ⊢
  have hle := ha.le
  refine E.CallsD.mono (fill_c (f := f) (t := t) hb (by omega) (by omega) (by omega)) fun v u2 ⟨hv, hb2, ho⟩ => ⟨hv, ?_⟩
  have ha2 := (ha.kept hk1).mod ho fun k hk3 hk4 => by omega
  refine ⟨_, Mask_loop (w0 := u2) (g := g) (ys := fillW (List.replicate (nW n) 0#64) f t) ha.len.symm (by omega) (fun u3 h3 => (hb2.mod h3 fun k h4 h5 => ?_).sl) (fun u3 hr h3 => ?_) (nW n) 0 u2 (by omega) (by rwa [mix_zero]) (Mod.refl _)⟩
  · omega
  · refine ⟨_, _, rfl, g, ?_, hg, ?_⟩
    · have e : (fullB n).zipWith (fun x y => x &&& ~~~y) (fillW (List.replicate (nW n) 0#64) f t) = maskB n f t := by
        unfold fullB fillW maskB
        rw [zeros, ofB_length]
        refine zip_ofB _ _ _ _ _ fun k => ?_
        rw [word_andNot]
        congr 1
        funext i
        rw [bit_ofB]
        simp
      rwa [e] at hr
    · have s1 : From w.heap.size w u := Kept.mod hk
      have s2 := From.keptThen s1 hk1
      have := hk.size
      have s3 := From.then s2 ho fun k h4 h5 => by omega
      exact (From.then s3 h3 fun k h4 h5 => by omega).kept
theorem Mask_no {n f t : Int} (h : n < 0 ∨ 1048576 < n ∨ f < 0 ∨ t < f ∨ n < t) (w : World) : E.CallsD Go.Proofs.Tryd.prog 15 #[.int .i64 n, .int .i64 f, .int .i64 t] w fun v u => v = .tuple #[.slice none 0 0, .int .i64 2] ∧ Kept w u := by
  refine bits_Mask.calls ?_
  unfold bits_Mask bits_Mask.g0
  by_cases h0 : n < 0 ∨ 1048576 < n
  · refine E.CallsD.mono (Full_no h0 w) fun v u ⟨hv, hk⟩ => ⟨_, _, _, _, hv, ?_⟩
    refine onNe_t (by omega) ?_
    exact ⟨rfl, hk⟩
  · refine E.CallsD.mono (Full_ok (by omega) (by omega) w) fun v u ⟨a, c, hv, g, ha, hg, hk⟩ => ⟨_, _, _, _, hv, ?_⟩
    refine onNe_f (by omega) ?_
    refine onDec (fun _ => ⟨rfl, hk⟩) fun _ => onDec (fun _ => ⟨rfl, hk⟩) fun _ => ?_
    refine onDec_t (by omega) ?_
    exact ⟨rfl, hk⟩

/-! ### the document -/
theorem refWords_ok {n : Int} (h0 : 0 ≤ n) (h1 : n ≤ 1048576) (w : World) : Pure Go.Proofs.Tryd.prog 16 #[.int .i64 n] w (.tuple #[.int .i64 (nW n), .int .i64 0]) := by
  refine thicketref05_Words.calls (R := fun v' u => v' = _ ∧ Below w.heap.size w u) ?_
  unfold thicketref05_Words thicketref05_Words.g0
  refine onDec_f (by omega) ?_
  refine onDec_f (by omega) ?_
  refine nv_i64 (by omega) (by omega) ?_
  refine nv_div (by omega) (by omega) (by omega) ?_
  exact ⟨by simp [nW]; omega, Below.refl _ _⟩
theorem refWords_no {n : Int} (h : n < 0 ∨ 1048576 < n) (w : World) : Pure Go.Proofs.Tryd.prog 16 #[.int .i64 n] w (.tuple #[.int .i64 0, .int .i64 2]) := by
  refine thicketref05_Words.calls (R := fun v' u => v' = _ ∧ Below w.heap.size w u) ?_
  unfold thicketref05_Words thicketref05_Words.g0
  refine onDec (fun h1 => ⟨rfl, Below.refl _ _⟩) (fun h1 => ?_)
  refine onDec_t (by omega) ?_
  exact ⟨rfl, Below.refl _ _⟩
def madeB (n f t : Int) (q : Bool) : W := ofB (nW n) fun i => decide ((i : Int) < n) && ((decide (f ≤ (i : Int)) && decide ((i : Int) < t)) == q)
theorem put_step {p : Nat → Bool} {L j : Nat} {x : BitVec 64} (hx : (ofB L p)[j / 64]? = some x) : (ofB L p).set (j / 64) (x ||| BitVec.twoPow 64 (j % 64)) = ofB L fun i => p i || decide (i = j) := by
  apply ext (by simp)
  intro i hi
  rw [put_in hx (by omega), bit_ofB, bit_ofB]
  simp at hi
  rw [Nat.div_add_mod]
  simp [hi]
theorem made_loop {R : Value → World → Prop} {w0 : World} {a : Option Addr} {c g : Nat} {n f t : Int} {q : Bool} (h0 : 0 ≤ n) (h1 : n ≤ 1048576)
    (hR : ∀ u, Arr enW 56 u a (nW n) c (madeB n f t q) g → Only g w0 u → R (.slice a (nW n) c) u) :
    ∀ (k i : Nat) (w : World), (i : Int) + k = n → Arr enW 56 w a (nW n) c (ofB (nW n) fun j => decide (j < i) && ((decide (f ≤ (j : Int)) && decide ((j : Int) < t)) == q)) g → Only g w0 w → thicketref05_made.l8 R (k + 1) n f t q a (nW n) c i w
  | 0, i, w, hi, ha, ho => by
    unfold thicketref05_made.l8 thicketref05_made.g8
    refine onDec_f (by omega) ?_
    refine hR w ?_ ho
    have e : madeB n f t q = ofB (nW n) fun j => decide (j < i) && ((decide (f ≤ (j : Int)) && decide ((j : Int) < t)) == q) := by
      unfold madeB
      apply ofB_ext
      intro j _
      congr 1
      exact decide_eq_decide.2 (by omega)
    rw [e]
    exact ha
  | k + 1, i, w, hi, ha, ho => by
    have hiL : i / 64 < nW n := by unfold nW; omega
    have key : thicketref05_made.j19 R (thicketref05_made.l8 R (k + 1)) n f t q a (nW n) c i ((decide (f ≤ (i : Int)) && decide ((i : Int) < t)) == q) w := by
      unfold thicketref05_made.j19 thicketref05_made.g19
      refine onBool_mk (fun hq => ?_) (fun hq => ?_)
      · refine nv_div (by omega) (by omega) (by omega) ?_
        refine nv_div (by omega) (by omega) (by omega) ?_
        refine Sl.rdW ha.sl (fun _ => rfl) (by omega) (by omega) fun x hx => ?_
        refine nv_mod (by omega) ?_
        refine nv_u64 (by omega) (by omega) ?_
        refine nchk_mk (by omega) ?_
        rw [shl1]
        refine nv_mk rfl ?_
        rw [or64]
        refine nv_mk rfl ?_
        refine Arr.wr ha (by omega) (by omega) (x := x ||| BitVec.twoPow 64 (((i : Int) % 64).toNat)) rfl fun u hu mu => ?_
        refine nv_succ (by omega) ?_
        refine made_loop h0 h1 hR k (i + 1) u (by omega) ?_ (ho.trans mu (fun _ _ h => h) (fun _ _ h => h))
        rw [show ((i : Int) / 64).toNat = i / 64 from by omega] at hx hu
        rw [show ((i : Int) % 64).toNat = i % 64 from by omega, put_step hx] at hu
        have e : ∀ j, (decide (j < i) && ((decide (f ≤ (j : Int)) && decide ((j : Int) < t)) == q) || decide (j = i)) = (decide (j < i + 1) && ((decide (f ≤ (j : Int)) && decide ((j : Int) < t)) == q)) := by
          intro j
          by_cases hj : j = i
          · subst hj; rw [hq]; simp
          · simp only [hj, decide_false, Bool.or_false]
            congr 1
            exact decide_eq_decide.2 (by omega)
        rw [show (fun j => (decide (j < i) && ((decide (f ≤ (j : Int)) && decide ((j : Int) < t)) == q) || decide (j = i))) = _ from funext e] at hu
        exact hu
      · refine nv_succ (by omega) ?_
        refine made_loop h0 h1 hR k (i + 1) w (by omega) ?_ ho
        have e : ∀ j, (decide (j < i + 1) && ((decide (f ≤ (j : Int)) && decide ((j : Int) < t)) == q)) = (decide (j < i) && ((decide (f ≤ (j : Int)) && decide ((j : Int) < t)) == q)) := by
          intro j
          by_cases hj : j = i
          · subst hj; rw [hq]; simp
          · congr 1
            exact decide_eq_decide.2 (by omega)
        rw [show (fun j => (decide (j < i + 1) && ((decide (f ≤ (j : Int)) && decide ((j : Int) < t)) == q))) = _ from funext e]
        exact ha
    unfold thicketref05_made.l8 thicketref05_made.g8
    refine onDec_t (by omega) ?_
    refine onDec (fun h2 => ?_) (fun h2 => ?_)
    · rw [decide_eq_true (show f ≤ (i : Int) from h2), Bool.true_and] at key
      exact key
    · rw [decide_eq_false (show ¬ f ≤ (i : Int) from h2), Bool.false_and] at key
      exact key
theorem made_c {n f t : Int} {q : Bool} (h0 : 0 ≤ n) (h1 : n ≤ 1048576) (w : World) :
    E.CallsD Go.Proofs.Tryd.prog 53 #[.int .i64 n, .int .i64 f, .int .i64 t, .bool q] w fun v u => ∃ a c, v = .slice a (nW n) c ∧ New enW 56 w u a (nW n) c (madeB n f t q) := by
  refine thicketref05_made.calls ?_
  unfold thicketref05_made thicketref05_made.g0
  refine nv_i64 (by omega) (by omega) ?_
  refine nv_div (by omega) (by omega) (by omega) ?_
  refine Arr.make (en := enW) (x := 0#64) rfl (by omega) (by omega) (by omega) fun u1 hb hk1 => ?_
  obtain ⟨k, hk⟩ : ∃ k : Nat, n = k := ⟨n.toNat, by omega⟩
  have e : ((n + 63) / 64).toNat = nW n := rfl
  rw [e] at hb ⊢
  refine ⟨k + 1, made_loop (w0 := u1) (g := w.heap.size + 1) h0 h1 (fun u hu ho => ?_) k 0 u1 (by omega) ?_ (Mod.refl _)⟩
  · refine ⟨_, _, rfl, _, hu, by omega, ?_⟩
    exact (From.then (From.keptThen (Mod.refl w) hk1) ho fun k h4 h5 => by omega).kept
  · rw [zeros] at hb
    simpa using hb
theorem refMask_ok {n f t : Int} (h0 : 0 ≤ n) (h1 : n ≤ 1048576) (hf : 0 ≤ f) (hft : f ≤ t) (ht : t ≤ n) (w : World) :
    E.CallsD Go.Proofs.Tryd.prog 19 #[.int .i64 n, .int .i64 f, .int .i64 t] w fun v u => ∃ a c, v = .tuple #[.slice a (nW n) c, .int .i64 0] ∧ New enW 56 w u a (nW n) c (maskB n f t) := by
  refine thicketref05_Mask.calls ?_
  unfold thicketref05_Mask thicketref05_Mask.g0
  refine onDec_f (by omega) ?_
  refine onDec_f (by omega) ?_
  refine onDec_f (by omega) ?_
  refine onDec_f (by omega) ?_
  refine onDec_f (by omega) ?_
  refine E.CallsD.mono (made_c h0 h1 w) fun v u ⟨a, c, hv, hn⟩ => ⟨_, _, _, hv, _, _, rfl, ?_⟩
  have e : madeB n f t false = maskB n f t := by unfold madeB maskB; congr 1; funext i; simp
  rwa [e] at hn
theorem refMask_no {n f t : Int} (h : n < 0 ∨ 1048576 < n ∨ f < 0 ∨ t < f ∨ n < t) (w : World) : E.CallsD Go.Proofs.Tryd.prog 19 #[.int .i64 n, .int .i64 f, .int .i64 t] w fun v u => v = .tuple #[.slice none 0 0, .int .i64 2] ∧ Kept w u := by
  refine thicketref05_Mask.calls ?_
  unfold thicketref05_Mask thicketref05_Mask.g0
  have r : (fun v u => v = Value.tuple #[.slice none 0 0, .int .i64 2] ∧ Kept w u) (.tuple #[.slice none 0 0, .int .i64 2]) w := ⟨rfl, Kept.refl _⟩
  refine onDec (fun _ => r) fun _ => onDec (fun _ => r) fun _ => onDec (fun _ => r) fun _ => onDec (fun _ => r) fun _ => onDec (fun _ => r) fun _ => ?_
  omega
theorem refFull_ok {n : Int} (h0 : 0 ≤ n) (h1 : n ≤ 1048576) (w : World) :
    E.CallsD Go.Proofs.Tryd.prog 17 #[.int .i64 n] w fun v u => ∃ a c, v = .tuple #[.slice a (nW n) c, .int .i64 0] ∧ New enW 56 w u a (nW n) c (fullB n) := by
  refine thicketref05_Full.calls ?_
  unfold thicketref05_Full thicketref05_Full.g0
  refine onDec_f (by omega) ?_
  refine onDec_f (by omega) ?_
  refine E.CallsD.mono (made_c h0 h1 w) fun v u ⟨a, c, hv, hn⟩ => ⟨_, _, _, hv, _, _, rfl, ?_⟩
  have e : madeB n 0 0 false = fullB n := by
    unfold madeB fullB; congr 1; funext i
    have : (decide ((0 : Int) ≤ i) && decide ((i : Int) < 0)) = false := by simp
    rw [this]; simp
  rwa [e] at hn
theorem refFull_no {n : Int} (h : n < 0 ∨ 1048576 < n) (w : World) : Pure Go.Proofs.Tryd.prog 17 #[.int .i64 n] w (.tuple #[.slice none 0 0, .int .i64 2]) := by
  refine thicketref05_Full.calls (R := fun v' u => v' = _ ∧ Below w.heap.size w u) ?_
  unfold thicketref05_Full thicketref05_Full.g0
  refine onDec (fun _ => ⟨rfl, Below.refl _ _⟩) fun _ => ?_
  refine onDec_t (by omega) ?_
  exact ⟨rfl, Below.refl _ _⟩
theorem refEmpty_ok {n : Int} (h0 : 0 ≤ n) (h1 : n ≤ 1048576) (w : World) :
    E.CallsD Go.Proofs.Tryd.prog 18 #[.int .i64 n] w fun v u => ∃ a c, v = .tuple #[.slice a (nW n) c, .int .i64 0] ∧ New enW 56 w u a (nW n) c (ofB (nW n) fun _ => false) := by
  refine thicketref05_Empty.calls ?_
  unfold thicketref05_Empty thicketref05_Empty.g0
  refine onDec_f (by omega) ?_
  refine onDec_f (by omega) ?_
  refine E.CallsD.mono (made_c h0 h1 w) fun v u ⟨a, c, hv, hn⟩ => ⟨_, _, _, hv, _, _, rfl, ?_⟩
  have e : madeB n 0 0 true = ofB (nW n) fun _ => false := by
    unfold madeB; congr 1; funext i
    have : (decide ((0 : Int) ≤ i) && decide ((i : Int) < 0)) = false := by simp
    rw [this]; simp
  rwa [e] at hn
theorem refEmpty_no {n : Int} (h : n < 0 ∨ 1048576 < n) (w : World) : Pure Go.Proofs.Tryd.prog 18 #[.int .i64 n] w (.tuple #[.slice none 0 0, .int .i64 2]) := by
  refine thicketref05_Empty.calls (R := fun v' u => v' = _ ∧ Below w.heap.size w u) ?_
  unfold thicketref05_Empty thicketref05_Empty.g0
  refine onDec (fun _ => ⟨rfl, Below.refl _ _⟩) fun _ => ?_
  refine onDec_t (by omega) ?_
  exact ⟨rfl, Below.refl _ _⟩
end
end Go.Mir
