/- Part of a proof of laws of the seat YtpllehijaidinaaDoor: functions' weakest preconditions, each checked by the kernel, contracts out of them, plain lemmas; no conditions. -/
import Derived.WalkKit
import Derived.Laws.Bits64b
import Derived.Lib.TrailingZeros
import Derived.Test.YtpllehijaidinaaDoorEB
import Derived.Test.YtpllehijaidinaaDoorBSA
import Derived.Test.YtpllehijaidinaaDoorBMA
set_option linter.unusedVariables false
set_option linter.unusedSimpArgs false
namespace Go.E
open Go Go.RowKit
theorem or64 (a b : BitVec 64) : bitsI .or .u64 a.toNat b.toNat = (a ||| b).toNat := by
  show IntKind.u64.wrap (((BitVec.ofInt 64 (a.toNat : Int)) ||| (BitVec.ofInt 64 (b.toNat : Int))).toNat : Int) = _
  rw [ofInt_toNat, ofInt_toNat]
  exact u64_wrap_toNat _
theorem and64 (a b : BitVec 64) : bitsI .and .u64 a.toNat b.toNat = (a &&& b).toNat := by
  show IntKind.u64.wrap (((BitVec.ofInt 64 (a.toNat : Int)) &&& (BitVec.ofInt 64 (b.toNat : Int))).toNat : Int) = _
  rw [ofInt_toNat, ofInt_toNat]
  exact u64_wrap_toNat _
theorem xor64 (a b : BitVec 64) : bitsI .xor .u64 a.toNat b.toNat = (a ^^^ b).toNat := by
  show IntKind.u64.wrap (((BitVec.ofInt 64 (a.toNat : Int)) ^^^ (BitVec.ofInt 64 (b.toNat : Int))).toNat : Int) = _
  rw [ofInt_toNat, ofInt_toNat]
  exact u64_wrap_toNat _
theorem andNot64 (a b : BitVec 64) : bitsI .andNot .u64 a.toNat b.toNat = (a &&& ~~~b).toNat := by
  show IntKind.u64.wrap (((BitVec.ofInt 64 (a.toNat : Int)) &&& ~~~(BitVec.ofInt 64 (b.toNat : Int))).toNat : Int) = _
  rw [ofInt_toNat, ofInt_toNat]
  exact u64_wrap_toNat _
theorem shr64 (a : BitVec 64) (s : Nat) : Int.fdiv (a.toNat : Int) (2 ^ (min s 64)) = ((a >>> s).toNat : Int) := by
  have e : (2 : Int) ^ (min s 64) = ((2 ^ (min s 64) : Nat) : Int) := by simp
  rw [e, Int.fdiv_eq_ediv_of_nonneg _ (Int.natCast_nonneg _), ← Int.natCast_ediv, BitVec.toNat_ushiftRight, Nat.shiftRight_eq_div_pow]
  congr 1
  by_cases h : s ≤ 64
  · rw [Nat.min_eq_left h]
  · rw [Nat.min_eq_right (by omega), Nat.div_eq_of_lt a.isLt, Nat.div_eq_of_lt (Nat.lt_of_lt_of_le a.isLt (Nat.pow_le_pow_right (by omega) (by omega)))]
theorem shl64 (a : BitVec 64) (s : Nat) : IntKind.u64.wrap ((a.toNat : Int) * 2 ^ (min s 64)) = ((a <<< s).toNat : Int) := by
  have e : (2 : Int) ^ (min s 64) = ((2 ^ (min s 64) : Nat) : Int) := by simp
  rw [e, IntKind.wrap_u64, BitVec.toNat_shiftLeft, Nat.shiftLeft_eq]
  have e2 : (18446744073709551616 : Int) = ((2 ^ 64 : Nat) : Int) := by decide
  rw [e2, ← Int.natCast_mul, ← Int.natCast_emod]
  congr 1
  by_cases h : s ≤ 64
  · rw [Nat.min_eq_left h]
  · rw [Nat.min_eq_right (by omega), Nat.mul_mod_left]
    obtain ⟨d, rfl⟩ : ∃ d, s = 64 + d := ⟨s - 64, by omega⟩
    rw [Nat.pow_add, Nat.mul_comm (2 ^ 64), ← Nat.mul_assoc, Nat.mul_mod_left]
theorem shl1 {s : Nat} : IntKind.u64.wrap (1 * 2 ^ (min s 64)) = ((BitVec.twoPow 64 s).toNat : Int) := by
  have := shl64 1#64 s
  rw [show ((1#64).toNat : Int) = 1 from rfl] at this
  rw [this, BitVec.twoPow_eq]
/-- 'out[i/64] = out[i/64] | 1<<(i%64)': the parts. -/
theorem ones_shr (s : Nat) : Int.fdiv 18446744073709551615 (2 ^ (min s 64)) = ((BitVec.allOnes 64 >>> s).toNat : Int) := by
  have := shr64 (BitVec.allOnes 64) s
  rwa [show ((BitVec.allOnes 64).toNat : Int) = 18446744073709551615 from by decide] at this
/-- Bit j of a word, as Go asks for it. -/
theorem bit_ask (a : BitVec 64) (j : Nat) : (bitsI .and .u64 ((a >>> j).toNat) 1 == 1) = a.getLsbD j := by
  have h := and64 (a >>> j) 1#64
  rw [show ((1#64).toNat : Int) = 1 from rfl] at h
  rw [h]
  have e : (a >>> j) &&& 1#64 = if (a >>> j).getLsbD 0 then 1#64 else 0#64 := by
    apply BitVec.eq_of_getLsbD_eq
    intro i hi
    rw [BitVec.getLsbD_and, BitVec.getLsbD_one]
    by_cases h0 : i = 0
    · subst h0; cases (a >>> j).getLsbD 0 <;> simp
    · cases (a >>> j).getLsbD 0 <;> simp [h0, BitVec.getLsbD_one]
  rw [e, BitVec.getLsbD_ushiftRight, Nat.add_zero]
  cases a.getLsbD j <;> decide
end Go.E

namespace Go.Bi
open Go Go.E Go.RowKit Go.Bt Go.Mir

/-- A new slice. -/
def New {α : Type} (en : α → Value) (e : Nat) (w u : World) (a : Option Addr) (n c : Nat) (xs : List α) : Prop := ∃ g, Arr en e u a n c xs g ∧ (w.heap.size < g ∨ g = 0) ∧ Kept w u
def nW (n : Int) : Nat := ((n + 63) / 64).toNat
theorem New.len {α : Type} {en : α → Value} {e : Nat} {w u : World} {a : Option Addr} {n c : Nat} {xs : List α} (h : New en e w u a n c xs) : n = xs.length := by obtain ⟨g, h, _⟩ := h; exact h.len

theorem Words_ok {n : Int} (h0 : 0 ≤ n) (h1 : n ≤ 1048576) (w : World) : Pure Go.Proofs.Tryd.prog 67 #[.int .i64 n] w (.tuple #[.int .i64 (nW n), .int .i64 0]) := by
  refine bits_Words.calls (R := fun v' u => v' = _ ∧ Below w.heap.size w u) ?_
  unfold bits_Words bits_Words.g0
  refine onDec_f (by omega) ?_
  refine onDec_f (by omega) ?_
  refine nv_i64 (by omega) (by omega) ?_
  refine nv_div (by omega) (by omega) (by omega) ?_
  exact ⟨by simp [nW]; omega, Below.refl _ _⟩
theorem Words_no {n : Int} (h : n < 0 ∨ 1048576 < n) (w : World) : Pure Go.Proofs.Tryd.prog 67 #[.int .i64 n] w (.tuple #[.int .i64 0, .int .i64 2]) := by
  refine bits_Words.calls (R := fun v' u => v' = _ ∧ Below w.heap.size w u) ?_
  unfold bits_Words bits_Words.g0
  refine onDec (fun h1 => ⟨rfl, Below.refl _ _⟩) (fun h1 => ?_)
  refine onDec_t (by omega) ?_
  exact ⟨rfl, Below.refl _ _⟩

theorem Empty_ok {n : Int} (h0 : 0 ≤ n) (h1 : n ≤ 1048576) (w : World) :
    E.CallsD Go.Proofs.Tryd.prog 53 #[.int .i64 n] w fun v u => ∃ a c, v = .tuple #[.slice a (nW n) c, .int .i64 0] ∧ New enW 58 w u a (nW n) c (ofB (nW n) fun _ => false) := by
  refine bits_Empty.calls ?_
  unfold bits_Empty bits_Empty.g0
  refine E.CallsD.mono (Words_ok h0 h1 w) fun v u ⟨hv, hu⟩ => ⟨_, _, hv, ?_⟩
  refine onNe_f (by omega) ?_
  refine Arr.make (en := enW) (x := 0#64) rfl (by omega) (by unfold nW; omega) (by unfold nW; omega) fun u' ha hk => ?_
  refine ⟨_, _, rfl, _, by simpa [zeros] using ha, ?_, Kept.trans hu hk⟩
  have := hu.size
  omega
theorem Empty_no {n : Int} (h : n < 0 ∨ 1048576 < n) (w : World) : Pure Go.Proofs.Tryd.prog 53 #[.int .i64 n] w (.tuple #[.slice none 0 0, .int .i64 2]) := by
  refine bits_Empty.calls (R := fun v' u => v' = _ ∧ Below w.heap.size w u) ?_
  unfold bits_Empty bits_Empty.g0
  refine E.CallsD.mono (Words_no h w) fun v u ⟨hv, hu⟩ => ⟨_, _, hv, ?_⟩
  refine onNe_t (by omega) ?_
  exact ⟨rfl, hu⟩

/-! ### fill -/
def fillW (xs : W) (f t : Int) : W := ofB xs.length fun i => bit xs i || (decide (f ≤ (i : Int)) && decide ((i : Int) < t))
theorem fillW_skip {xs : W} {f t : Int} {k : Nat} {x : BitVec 64} (hx : xs[k]? = some x) (h : ¬ max (f - 64 * k) 0 < min (t - 64 * k) 64) : (fillW xs f t)[k]? = some x := by
  unfold fillW
  rw [ofB_get (getD_lt hx)]
  congr 1
  symm
  apply word_eq
  intro j hj
  rw [bit_word hx hj]
  have : (decide (f ≤ ((64 * k + j : Nat) : Int)) && decide (((64 * k + j : Nat) : Int) < t)) = false := by
    rw [Bool.and_eq_false_iff, decide_eq_false_iff_not, decide_eq_false_iff_not]
    omega
  rw [this, Bool.or_false]
theorem fillW_put {xs : W} {f t : Int} {k lo hi : Nat} {x : BitVec 64} (hx : xs[k]? = some x) (hlo : (lo : Int) = max (f - 64 * k) 0) (hhi : (hi : Int) = min (t - 64 * k) 64) (h : lo < hi) :
    (fillW xs f t)[k]? = some (x ||| ((BitVec.allOnes 64 >>> (64 - (hi - lo))) <<< lo)) := by
  unfold fillW
  rw [ofB_get (getD_lt hx)]
  congr 1
  symm
  apply word_eq
  intro j hj
  rw [BitVec.getLsbD_or, ones lo hi h (by omega) j hj, bit_word hx hj]
  congr 1
  rw [← Bool.decide_and, ← Bool.decide_and]
  apply decide_eq_decide.2
  omega
theorem fillW_length (xs : W) (f t : Int) : (fillW xs f t).length = xs.length := by simp [fillW]

theorem fill_loop {R : Value → World → Prop} {w0 : World} {a : Option Addr} {n c g : Nat} {xs : W} {f t : Int} (hn : n = xs.length) (hm : n ≤ 16777216) (hf : -4611686018427387904 ≤ f ∧ f ≤ 4611686018427387904) (ht : -4611686018427387904 ≤ t ∧ t ≤ 4611686018427387904)
    (hR : ∀ u, Arr enW 58 u a n c (fillW xs f t) g → Only g w0 u → R (.tuple #[]) u) :
    ∀ (k i : Nat) (w : World), i + k = n → Arr enW 58 w a n c (mix (fillW xs f t) xs i) g → Only g w0 w → bits_fill.l3 R (k + 1) a n c f t n i w
  | 0, i, w, hi, ha, ho => by
    unfold bits_fill.l3 bits_fill.g3
    refine onDec_f (by omega) ?_
    obtain rfl : i = xs.length := by omega
    rw [mix_full (by simp [fillW_length])] at ha
    exact hR w ha ho
  | k + 1, i, w, hi, ha, ho => by
    have hx : xs[i]? = some (xs[i]'(by omega)) := List.getElem?_eq_getElem _
    have hx' : (mix (fillW xs f t) xs i)[i]? = some (xs[i]'(by omega)) := by rw [mix_get (by simp [fillW_length]) (by omega), hx]
    unfold bits_fill.l3 bits_fill.g3
    refine onDec_t (by omega) ?_
    refine nv_i64 (by omega) (by omega) ?_
    refine nv_i64 (by omega) (by omega) ?_
    refine nv_mk (y := max (f - 64 * i) 0) (by split <;> omega) ?_
    refine nv_i64 (by omega) (by omega) ?_
    refine nv_i64 (by omega) (by omega) ?_
    refine nv_mk (y := min (t - 64 * i) 64) (by split <;> omega) ?_
    refine onDec (fun hlt => ?_) (fun hge => ?_)
    · refine Sl.rdW ha.sl (fun _ => rfl) (by omega) (by omega) fun x hx2 => ?_
      obtain ⟨lo, hlo⟩ : ∃ lo : Nat, (lo : Int) = max (f - 64 * i) 0 := ⟨(max (f - 64 * i) 0).toNat, by omega⟩
      obtain ⟨hi2, hhi⟩ : ∃ hi : Nat, (hi : Int) = min (t - 64 * i) 64 := ⟨(min (t - 64 * i) 64).toNat, by omega⟩
      rw [← hlo, ← hhi]
      refine nv_i64 (by omega) (by omega) ?_
      refine nv_i64 (by omega) (by omega) ?_
      refine nchk_mk (by omega) ?_
      rw [ones_shr]
      refine nv_mk rfl ?_
      refine nchk_mk (by omega) ?_
      rw [shl64]
      refine nv_mk rfl ?_
      rw [or64]
      refine nv_mk rfl ?_
      obtain rfl : x = xs[i]'(by omega) := by
        have : (mix (fillW xs f t) xs i)[i]? = some x := hx2
        rw [hx'] at this
        exact (Option.some.inj this).symm
      have hput := fillW_put (f := f) (t := t) (lo := lo) (hi := hi2) hx hlo hhi (by omega)
      rw [show 64 - (hi2 - lo) = (64 - ((hi2 : Int) - lo)).toNat from by omega, show lo = (lo : Int).toNat from by simp] at hput
      refine Arr.wr ha (by omega) (by omega) (x := _) rfl fun u hu mu => ?_
      refine nv_succ (by omega) ?_
      refine fill_loop hn hm hf ht hR k (i + 1) u (by omega) ?_ (ho.trans mu (fun _ _ h => h) (fun _ _ h => h))
      rw [show ((i : Int)).toNat = i from by simp] at hu
      rwa [mix_step (by simp [fillW_length]) (by simpa using hput)] at hu
    · refine nv_succ (by omega) ?_
      refine fill_loop hn hm hf ht hR k (i + 1) w (by omega) ?_ ho
      rw [← mix_step (by simp [fillW_length]) (fillW_skip hx hge)]
      have hlen : i < (mix (fillW xs f t) xs i).length := by rw [mix_length (by simp [fillW_length])]; omega
      rw [List.getElem?_eq_getElem hlen] at hx'
      rw [← Option.some.inj hx', List.set_getElem_self]
      exact ha
theorem fill_c {w : World} {a : Option Addr} {n c g : Nat} {xs : W} {f t : Int} (h : Arr enW 58 w a n c xs g) (hm : n ≤ 16777216) (hf : -4611686018427387904 ≤ f ∧ f ≤ 4611686018427387904) (ht : -4611686018427387904 ≤ t ∧ t ≤ 4611686018427387904) :
    E.CallsD Go.Proofs.Tryd.prog 54 #[.slice a n c, .int .i64 f, .int .i64 t] w fun v u => v = .tuple #[] ∧ Arr enW 58 u a n c (fillW xs f t) g ∧ Only g w u := by
  refine bits_fill.calls ?_
  unfold bits_fill bits_fill.g0
  exact ⟨n + 1, fill_loop h.len hm hf ht (fun u hu ho => ⟨rfl, hu, ho⟩) n 0 w (by omega) (by rwa [mix_zero]) (Mod.refl _)⟩
end Go.Bi

namespace Go.Bi
open Go Go.E Go.RowKit Go.Bt Go.Mir

/-! ### OnesCount64 -/
theorem andN {a b : Nat} (ha : a < 18446744073709551616) (hb : b < 18446744073709551616) : bitsI .and .u64 (a : Int) (b : Int) = ((a &&& b : Nat) : Int) := by
  have := and64 (BitVec.ofNat 64 a) (BitVec.ofNat 64 b)
  rw [BitVec.toNat_ofNat, BitVec.toNat_ofNat, Nat.mod_eq_of_lt (by omega), Nat.mod_eq_of_lt (by omega), BitVec.toNat_and, BitVec.toNat_ofNat, BitVec.toNat_ofNat, Nat.mod_eq_of_lt (by omega), Nat.mod_eq_of_lt (by omega)] at this
  exact this
theorem fdivN (a b : Nat) : Int.fdiv (a : Int) (b : Int) = ((a / b : Nat) : Int) := by
  rw [Int.fdiv_eq_ediv_of_nonneg _ (Int.natCast_nonneg _), ← Int.natCast_ediv]
theorem and127 {n : Nat} : bitsI .and .i64 (IntKind.i64.wrap (n : Int)) 127 = ((n % 128 : Nat) : Int) := by
  show IntKind.i64.wrap (((BitVec.ofInt 64 (IntKind.i64.wrap (n : Int))) &&& (BitVec.ofInt 64 127)).toNat : Int) = _
  have e1 : BitVec.ofInt 64 (IntKind.i64.wrap (n : Int)) = BitVec.ofNat 64 n := by
    apply BitVec.eq_of_toNat_eq
    rw [BitVec.toNat_ofInt, BitVec.toNat_ofNat, IntKind.wrap_i64]
    omega
  rw [e1, BitVec.toNat_and, BitVec.toNat_ofNat, show (BitVec.ofInt 64 127).toNat = 2 ^ 7 - 1 from rfl, Nat.and_two_pow_sub_one_eq_mod, i64_id (by omega) (by omega)]
  congr 1
  omega
theorem S1_lt : ∀ k x, S1 k x < 16 ^ k
  | 0, x => by simp [S1, mk]
  | k + 1, x => by
    rw [S1_step, Nat.pow_succ]
    have := q1_lt (x % 16) (by omega)
    have := S1_lt k (x / 16)
    omega
theorem P4_le : ∀ k x, P4 k x * 15 + 4 ≤ 4 * 16 ^ k
  | 0, x => by simp [P4]
  | k + 1, x => by
    rw [P4, Nat.pow_succ]
    have := p4_le (x % 16) (by omega)
    have := P4_le k (x / 16)
    omega
theorem E3_lt : ∀ k x, E3 k x < 256 ^ k
  | 0, x => by simp [E3]
  | k + 1, x => by
    rw [E3, Nat.pow_succ]
    have := E3_lt k (x / 256)
    omega
theorem OnesCount64_n (x : Nat) (hx : x < 18446744073709551616) (w : World) : Pure Go.Proofs.Tryd.prog 57 #[.int .u64 x] w (.int .i64 (popN 64 x : Nat)) := by
  refine bits_OnesCount64.calls (R := fun v' u => v' = _ ∧ Below w.heap.size w u) ?_
  unfold bits_OnesCount64 bits_OnesCount64.g0
  have m1 : mk 5 16 16 = 6148914691236517205 := by decide
  have m2 : mk 3 16 16 = 3689348814741910323 := by decide
  have m3 : mk 15 256 8 = 1085102592571150095 := by decide
  have b1 := S1_lt 16 x
  have b2 := P4_le 16 x
  rw [show (16 : Nat) ^ 16 = 18446744073709551616 from by decide] at b1 b2
  have b3 := E3_lt 8 (P4 16 x / 16 + P4 16 x)
  rw [show (256 : Nat) ^ 8 = 18446744073709551616 from by decide] at b3
  have hS1 : S1 16 x = (x / 2 &&& 6148914691236517205) + (x &&& 6148914691236517205) := by unfold S1; rw [m1]
  have hS2 : P4 16 x = (S1 16 x / 4 &&& 3689348814741910323) + (S1 16 x &&& 3689348814741910323) := by rw [← S12]; unfold S2; rw [m2]
  have hE3 := and_E3 8 (P4 16 x / 16 + P4 16 x)
  rw [m3] at hE3
  refine nv_mk (fdivN x 2) ?_
  refine nv_mk (andN (a := x / 2) (b := 6148914691236517205) (by omega) (by decide)) ?_
  refine nv_mk (andN (a := x) (b := 6148914691236517205) (by omega) (by decide)) ?_
  refine nv_mk (y := ((S1 16 x : Nat) : Int)) (by rw [hS1, u64_id (by omega) (by omega)]; rfl) ?_
  refine nv_mk (fdivN (S1 16 x) 4) ?_
  refine nv_mk (andN (a := S1 16 x / 4) (b := 3689348814741910323) (by omega) (by decide)) ?_
  refine nv_mk (andN (a := S1 16 x) (b := 3689348814741910323) (by omega) (by decide)) ?_
  refine nv_mk (y := ((P4 16 x : Nat) : Int)) (by rw [hS2, u64_id (by omega) (by omega)]; rfl) ?_
  clear hS1 hS2 m1 m2 m3
  refine nv_mk (fdivN (P4 16 x) 16) ?_
  refine nv_mk (y := ((P4 16 x / 16 + P4 16 x : Nat) : Int)) (by rw [u64_id (by omega) (by omega)]; rfl) ?_
  refine nv_mk (y := ((E3 8 (P4 16 x / 16 + P4 16 x) : Nat) : Int)) (by rw [← hE3]; exact andN (b := 1085102592571150095) (by omega) (by decide)) ?_
  have hsw := pop_swar x
  unfold fin3 at hsw
  simp only at hsw
  generalize E3 8 (P4 16 x / 16 + P4 16 x) = y at hsw b3 ⊢
  have wn : ∀ n : Nat, IntKind.u64.wrap (n : Int) = ((n % 18446744073709551616 : Nat) : Int) := fun n => by rw [IntKind.wrap_u64]; omega
  refine nv_mk (fdivN y 256) ?_
  refine nv_mk (wn (y + y / 256)) ?_
  generalize (y + y / 256) % 18446744073709551616 = a at hsw ⊢
  refine nv_mk (fdivN a 65536) ?_
  refine nv_mk (wn (a + a / 65536)) ?_
  generalize (a + a / 65536) % 18446744073709551616 = b at hsw ⊢
  refine nv_mk (fdivN b 4294967296) ?_
  refine nv_mk (wn (b + b / 4294967296)) ?_
  refine nv_mk rfl ?_
  refine nv_mk and127 ?_
  exact ⟨by rw [hsw], Below.refl _ _⟩
end Go.Bi

namespace Go.Bi
open Go Go.E Go.RowKit Go.Bt Go.Mir

/-! ### TrailingZeros64 -/
/-- The table of math/bits lies in its variable. -/
def Tab (w : World) : Prop := ∀ j, j < 64 → w.cell? ⟨1, j, none⟩ = some (.int .u8 (Lib.deBruijn64tab.getD j 0 : Nat))
theorem Tab.kept {w u : World} (h : Tab w) (hk : Kept w u) : Tab u := fun j hj => bkeep hk (h j hj)
theorem Tab.lt {w : World} (h : Tab w) : 1 < w.heap.size := block_lt_of_cell (h 0 (by omega))
theorem Tab.mod {w u : World} {S : Nat → Prop} (h : Tab w) (hm : Mod S w u) (hn : ¬ S 1) : Tab u := fun j hj => hm.cell (a := ⟨1, j, none⟩) hn (h j hj)
set_option maxHeartbeats 1000000 in
theorem tz64_core (x k idx : Nat) (w : World) (hx0 : ((x : Int) == 0) = false)
    (key : IntKind.u64.wrap (Go.bits BinOp.and IntKind.u64 (x : Int) (IntKind.u64.wrap (-(x : Int))) * 285870213051353865) / 288230376151711744 = (idx : Int))
    (hi : idx < 64) (hk : k < 64) (hcell : w.cell? ⟨1, idx, none⟩ = some (.int .u8 k)) :
    Calls Go.Proofs.Tryd.prog 61 #[.int .u64 x] w fun e w' => e = .returned (.int .i64 k) ∧ w' = w := by
  go_enter Go.Proofs.Tryd.func61, Go.Proofs.Tryd.ntmps61
  go_wp2_with (simp only [key])
  go_ret
  exact ⟨rfl, rfl⟩
theorem tz64_zero (w : World) : Calls Go.Proofs.Tryd.prog 61 #[.int .u64 0] w fun e w' => e = .returned (.int .i64 64) ∧ w' = w := by
  go_enter Go.Proofs.Tryd.func61, Go.Proofs.Tryd.ntmps61
  go_wp2
  go_ret
  exact ⟨rfl, rfl⟩
theorem tz64_key (x a : Nat) (hx : x < 18446744073709551616) (hx0 : x ≠ 0) (hlow : x &&& (18446744073709551616 - x) = a) :
    IntKind.u64.wrap (Go.bits BinOp.and IntKind.u64 (x : Int) (IntKind.u64.wrap (-(x : Int))) * 285870213051353865) / 288230376151711744 = ((a * 285870213051353865 % 18446744073709551616 / 288230376151711744 : Nat) : Int) := by
  have e1 : IntKind.u64.wrap (-(x : Int)) = ((18446744073709551616 - x : Nat) : Int) := by rw [IntKind.wrap_u64]; omega
  rw [e1, bits_and_u64_nat x _ hx (by omega), hlow, IntKind.wrap_u64]
  omega
theorem tz64 (x : Nat) (hx : x < 18446744073709551616) (hx0 : x ≠ 0) {w : World} (hT : Tab w) : Pure Go.Proofs.Tryd.prog 61 #[.int .u64 x] w (.int .i64 (Lib.ctz 64 x)) := by
  intro d
  obtain ⟨hlow, hk⟩ := Lib.lowest_bit 64 x hx0 hx
  obtain ⟨hi, htab⟩ := Lib.deBruijn64_at _ hk
  have hcell := hT _ hi
  rw [htab] at hcell
  refine (tz64_core x _ _ (dr w d) (by simp; omega) (tz64_key x _ hx hx0 hlow) hi hk hcell).mono fun e w' ⟨he, hw⟩ => ?_
  exact ⟨_, w, d, he, hw, rfl, Below.refl _ _⟩
/-- The lowest bit. -/
theorem ctz_low {x : Nat} (hx : x < 18446744073709551616) (hx0 : x ≠ 0) : Lib.ctz 64 x < 64 ∧ x.testBit (Lib.ctz 64 x) = true ∧ ∀ j, j < Lib.ctz 64 x → x.testBit j = false := by
  have e : Lib.ctz 64 x = Lib.ctzFrom 64 x := by simp [Lib.ctz, hx0]
  obtain ⟨m, hm, hk⟩ := Lib.ctzFrom_spec 64 x (by omega) hx
  rw [e]
  generalize Lib.ctzFrom 64 x = c at hm hk ⊢
  subst hm
  refine ⟨hk, ?_, fun j hj => ?_⟩
  · rw [Nat.mul_comm, Nat.testBit_mul_two_pow]
    simp
  · rw [Nat.mul_comm, Nat.testBit_mul_two_pow]
    simp; omega

/-! ### Len64 -/
def bl (x : Nat) : Nat := if x = 0 then 0 else x.log2 + 1
theorem bl_lt (x : Nat) : x < 2 ^ bl x := by
  unfold bl
  split
  · subst_vars; decide
  · exact Nat.lt_log2_self
theorem bl_ge {x : Nat} (h : x ≠ 0) : 2 ^ bl x ≤ 2 * x := by
  unfold bl
  rw [if_neg h, Nat.pow_succ]
  have := Nat.log2_self_le h
  omega
theorem bl_uniq {x L : Nat} (h0 : x ≠ 0) (h1 : x < 2 ^ L) (h2 : 2 ^ L ≤ 2 * x) : bl x = L := by
  have a := bl_lt x
  have b := bl_ge h0
  rcases Nat.lt_trichotomy (bl x) L with h | h | h
  · have : 2 ^ (bl x + 1) ≤ 2 ^ L := Nat.pow_le_pow_right (by omega) h
    rw [Nat.pow_succ] at this
    omega
  · exact h
  · have : 2 ^ (L + 1) ≤ 2 ^ bl x := Nat.pow_le_pow_right (by omega) h
    rw [Nat.pow_succ] at this
    omega
theorem bl_div {x k : Nat} (h : 2 ^ k ≤ x) : bl x = k + bl (x / 2 ^ k) := by
  have hp : 0 < 2 ^ k := Nat.pow_pos (by omega)
  have hq : x / 2 ^ k ≠ 0 := by have := Nat.div_le_div_right (c := 2 ^ k) h; rw [Nat.div_self hp] at this; omega
  have a := bl_lt (x / 2 ^ k)
  have b := bl_ge hq
  refine bl_uniq (by omega) ?_ ?_
  · rw [Nat.pow_add]
    have := (Nat.div_lt_iff_lt_mul hp).1 a
    rwa [Nat.mul_comm] at this
  · rw [Nat.pow_add]
    have := Nat.mul_le_mul_left (2 ^ k) b
    have h3 := Nat.mul_div_le x (2 ^ k)
    rw [← Nat.mul_assoc, Nat.mul_comm (2 ^ k) 2, Nat.mul_assoc] at this
    omega
theorem bl_le {x n : Nat} (h : x < 2 ^ n) : bl x ≤ n := by
  by_cases h0 : x = 0
  · subst h0; simp [bl]
  · have b := bl_ge h0
    apply Nat.le_of_not_lt
    intro hlt
    have : 2 ^ (n + 1) ≤ 2 ^ bl x := Nat.pow_le_pow_right (by omega) hlt
    rw [Nat.pow_succ] at this
    omega
def tabOk (t : ByteArray) : Bool := (List.range 256).all fun i => match t[i]? with
  | some c => c.toNat == bl i
  | none => false
theorem tab_step {t : ByteArray} {i : Nat} {K : UInt8 → Prop} (h : tabOk t = true) (hi : i < 256) (hk : ∀ c : UInt8, c.toNat = bl i → K c) : ∃ c : UInt8, t[i]? = some c ∧ K c := by
  unfold tabOk at h
  have := List.all_eq_true.1 h i (by simpa using hi)
  split at this
  · rename_i c hc
    exact ⟨c, hc, hk c (by simpa using this)⟩
  · cases this
/-- The highest bit. -/
theorem bl_high {x : Nat} (h : x ≠ 0) : x.testBit (bl x - 1) = true ∧ ∀ j, bl x ≤ j → x.testBit j = false := by
  have a := bl_lt x
  have b := bl_ge h
  have c : 0 < bl x := by unfold bl; rw [if_neg h]; omega
  obtain ⟨m, hm⟩ : ∃ m, bl x = m + 1 := ⟨bl x - 1, by omega⟩
  rw [hm] at a b ⊢
  rw [Nat.pow_succ] at a b
  refine ⟨?_, fun j hj => Nat.testBit_lt_two_pow ?_⟩
  · rw [Nat.add_sub_cancel, Nat.testBit_eq_decide_div_mod_eq]
    have hp : 0 < 2 ^ m := Nat.pow_pos (by omega)
    have : x / 2 ^ m = 1 := by
      apply Nat.le_antisymm
      · have := (Nat.div_lt_iff_lt_mul hp (x := x) (y := 2)).2 (by omega); omega
      · exact (Nat.le_div_iff_mul_le hp).2 (by omega)
    rw [this]
    decide
  · refine Nat.lt_of_lt_of_le a ?_
    rw [← Nat.pow_succ]
    exact Nat.pow_le_pow_right (by omega) hj
end Go.Bi

namespace Go.Bi
open Go Go.E Go.RowKit Go.Bt Go.Mir
section
variable {w : World} {a b : Option Addr} {n c m d g : Nat} {xs ys : W} {i : Int}

theorem Sl.bits (h : Sl enW w a n xs) : n = xs.length := h.len
/-- Is a bit in, of any number? -/
def has (a : W) (i : Int) : Bool := decide (0 ≤ i) && bit a i.toNat
theorem within_c (hi : i ≤ 9223372036854775807) : Pure Go.Proofs.Tryd.prog 55 #[.slice a n c, .int .i64 i] w (.bool (decide (0 ≤ i) && decide (i / 64 < n))) := by
  refine bits_within.calls (R := fun v' u => v' = _ ∧ Below w.heap.size w u) ?_
  unfold Mir.bits_within bits_within.g0
  refine onDec (fun h => ?_) (fun h => ?_)
  · refine nv_div (by omega) (by omega) (by omega) ?_
    exact ⟨by simp [h], Below.refl _ _⟩
  · exact ⟨by rw [decide_eq_false (by omega)]; rfl, Below.refl _ _⟩
theorem Has_c (h : Sl enW w a n xs) (hi : i ≤ 9223372036854775807) : Pure Go.Proofs.Tryd.prog 32 #[.slice a n c, .int .i64 i] w (.bool (has xs i)) := by
  have hl := h.len
  refine bits_Has.calls (R := fun v' u => v' = _ ∧ Below w.heap.size w u) ?_
  unfold bits_Has bits_Has.g0
  refine E.CallsD.mono (within_c hi) fun v u ⟨hv, hu⟩ => ⟨_, hv, onBool_mk (fun hb => ?_) (fun hb => ?_)⟩
  · simp only [Bool.and_eq_true, decide_eq_true_eq] at hb
    refine nv_div (by omega) (by omega) (by omega) ?_
    refine Sl.rdW (h.keep hu) (fun _ => rfl) (by omega) (by omega) fun x hx => ?_
    refine nv_mod (by omega) ?_
    refine nchk_mk (by omega) ?_
    rw [shr64]
    refine nv_mk rfl (nv_mk rfl ?_)
    rw [bit_ask]
    refine ⟨?_, hu⟩
    unfold has
    rw [decide_eq_true hb.1, Bool.true_and]
    have := bit_word (j := (i % 64).toNat) hx (by omega)
    rw [show 64 * (i / 64).toNat + (i % 64).toNat = i.toNat from by omega] at this
    rw [this]
  · refine ⟨?_, hu⟩
    unfold has
    by_cases h0 : 0 ≤ i
    · rw [decide_eq_true h0, Bool.true_and] at hb
      have hb := of_decide_eq_false hb
      rw [bit_out (by omega), Bool.and_false]
    · rw [decide_eq_false h0]; rfl
theorem refHas_c (h : Sl enW w a n xs) (hi : i ≤ 9223372036854775807) : Pure Go.Proofs.Tryd.prog 69 #[.slice a n c, .int .i64 i] w (.bool (has xs i)) := by
  have hl := h.len
  refine thicketref05_Has.calls (R := fun v' u => v' = _ ∧ Below w.heap.size w u) ?_
  unfold thicketref05_Has thicketref05_Has.g0
  unfold has
  refine onDec (fun h0 => ?_) (fun h0 => ?_)
  · rw [decide_eq_true (show 0 ≤ i from h0), Bool.true_and]
    refine nv_div (by omega) (by omega) (by omega) ?_
    refine onDec (fun h1 => ?_) (fun h1 => ?_)
    · refine nv_div (by omega) (by omega) (by omega) ?_
      refine Sl.rdW h (fun _ => rfl) (by omega) (by omega) fun x hx => ?_
      refine nv_mod (by omega) ?_
      refine nv_u64 (by omega) (by omega) ?_
      refine nchk_mk (by omega) ?_
      rw [shr64]
      refine nv_mk rfl (nv_mk rfl ?_)
      rw [bit_ask]
      refine ⟨?_, Below.refl _ _⟩
      have := bit_word (j := (i % 64).toNat) hx (by omega)
      rw [show 64 * (i / 64).toNat + (i % 64).toNat = i.toNat from by omega] at this
      rw [this]
    · exact ⟨by rw [bit_out (by omega)], Below.refl _ _⟩
  · exact ⟨by rw [decide_eq_false (by omega)]; rfl, Below.refl _ _⟩

theorem OnesCount64_c (x : BitVec 64) (w : World) : Pure Go.Proofs.Tryd.prog 57 #[.int .u64 x.toNat] w (.int .i64 (pop x : Nat)) := by rw [← pop_popN]; exact OnesCount64_n _ x.isLt w
/-! ### Lowest, Highest, Count -/
theorem Lowest_loop {R : Value → World → Prop} (hT : Tab w) (h : Sl enW w a n xs) (hm : n ≤ 16777216) (hR : ∀ u, Kept w u → R (.int .i64 (low xs)) u) :
    ∀ (k i : Nat), i + k = n → (∀ j, j < 64 * i → bit xs j = false) → bits_Lowest.l6 R (k + 1) a n c n i w
  | 0, i, hi, hz => by
    have hl := h.len
    unfold bits_Lowest.l6 bits_Lowest.g6
    refine onDec_f (by omega) ?_
    rw [← low_none (a := xs) fun j => ?_]
    · exact hR _ (Kept.refl _)
    · by_cases hj : j < 64 * i
      · exact hz j hj
      · exact bit_out (by omega)
  | k + 1, i, hi, hz => by
    have hl := h.len
    unfold bits_Lowest.l6 bits_Lowest.g6
    refine onDec_t (by omega) ?_
    refine Sl.rdW h (fun _ => rfl) (by omega) (by omega) fun x hx => ?_
    rw [Int.toNat_natCast] at hx
    refine onNe (fun hne => ?_) (fun he => ?_)
    · refine nv_i64 (by omega) (by omega) ?_
      have hx0 : x.toNat ≠ 0 := by omega
      obtain ⟨c1, c2, c3⟩ := ctz_low x.isLt hx0
      refine E.CallsD.mono (tz64 x.toNat x.isLt hx0 hT) fun v u ⟨hv, hu⟩ => ⟨_, hv, ?_⟩
      refine nv_i64 (by omega) (by omega) ?_
      have : low xs = (64 * i + Lib.ctz 64 x.toNat : Nat) := by
        refine low_at ?_ fun j hj => ?_
        · rw [bit_word hx c1]; exact c2
        · by_cases hj2 : j < 64 * i
          · exact hz j hj2
          · have := bit_word hx (j := j - 64 * i) (by omega)
            rw [show 64 * i + (j - 64 * i) = j from by omega] at this
            rw [this]
            exact c3 _ (by omega)
      have e := hR u hu
      rw [this] at e
      simpa using e
    · refine nv_succ (by omega) ?_
      refine Lowest_loop hT h hm hR k (i + 1) (by omega) fun j hj => ?_
      by_cases hj2 : j < 64 * i
      · exact hz j hj2
      · have := bit_word hx (j := j - 64 * i) (by omega)
        rw [show 64 * i + (j - 64 * i) = j from by omega] at this
        rw [this]
        exact zero_word.1 (by omega) _ (by omega)
theorem Lowest_c (hT : Tab w) (h : Sl enW w a n xs) (hm : n ≤ 16777216) : Pure Go.Proofs.Tryd.prog 41 #[.slice a n c] w (.int .i64 (low xs)) := by
  refine bits_Lowest.calls (R := fun v' u => v' = _ ∧ Below w.heap.size w u) ?_
  unfold bits_Lowest bits_Lowest.g0
  exact ⟨n + 1, Lowest_loop hT h hm (fun u hu => ⟨rfl, hu⟩) n 0 (by omega) (fun j hj => by omega)⟩
theorem Count_loop {R : Value → World → Prop} {w0 : World} (h : Sl enW w0 a n xs) (hm : n ≤ 16777216) (hR : ∀ u, Kept w0 u → R (.int .i64 (count xs : Nat)) u) :
    ∀ (k i acc : Nat) (w : World), i + k = n → acc + count (xs.drop i) = count xs → Kept w0 w → bits_Count.l8 R (k + 1) acc a n c n i w
  | 0, i, acc, w, hi, hz, hk => by
    have hl := h.len
    unfold bits_Count.l8 bits_Count.g8
    refine onDec_f (by omega) ?_
    rw [List.drop_of_length_le (by omega)] at hz
    rw [show acc = count xs from by simpa [count, all] using hz]
    exact hR _ hk
  | k + 1, i, acc, w, hi, hz, hk => by
    have hl := h.len
    have hc := count_le xs
    unfold bits_Count.l8 bits_Count.g8
    refine onDec_t (by omega) ?_
    refine Sl.rdW (h.keep hk) (fun _ => rfl) (by omega) (by omega) fun x hx => ?_
    rw [Int.toNat_natCast] at hx
    obtain ⟨hlt, rfl⟩ := List.getElem?_eq_some_iff.1 hx
    rw [List.drop_eq_getElem_cons hlt, count_cons] at hz
    refine E.CallsD.mono (OnesCount64_c (xs[i]) w) fun v u ⟨hv, hu⟩ => ⟨_, hv, ?_⟩
    have hp := pop_le (xs[i])
    obtain ⟨p, hpd⟩ : ∃ p, p = pop (xs[i]) := ⟨_, rfl⟩
    rw [← hpd] at hz hp ⊢
    refine nv_mk (y := ((acc + p : Nat) : Int)) (i64_id (by omega) (by omega)) ?_
    refine nv_succ (by omega) ?_
    exact Count_loop h hm hR k (i + 1) _ u (by omega) (by omega) (Kept.trans hk hu)
theorem Count_c (h : Sl enW w a n xs) (hm : n ≤ 16777216) : Pure Go.Proofs.Tryd.prog 56 #[.slice a n c] w (.int .i64 (count xs : Nat)) := by
  refine bits_Count.calls (R := fun v' u => v' = _ ∧ Below w.heap.size w u) ?_
  unfold bits_Count bits_Count.g0
  exact ⟨n + 1, Count_loop h hm (fun u hu => ⟨rfl, hu⟩) n 0 0 w (by omega) (by simp) (Kept.refl _)⟩

/-! ### Same, copied, Meet -/
theorem Same_loop {R : Value → World → Prop} (h : Sl enW w a n xs) (h2 : Sl enW w b n ys) (hm : n ≤ 16777216) (hR : R (.bool (decide (xs = ys))) w) :
    ∀ (k i : Nat), i + k = n → (∀ j, j < i → xs[j]? = ys[j]?) → thicketref05_Same.l14 R (k + 1) a n c b n d n i w
  | 0, i, hi, hz => by
    have := h.len
    have := h2.len
    unfold thicketref05_Same.l14 thicketref05_Same.g14
    refine onDec_f (by omega) ?_
    have e : xs = ys := List.ext_getElem? fun j => by
      by_cases hj : j < i
      · exact hz j hj
      · rw [List.getElem?_eq_none (by omega), List.getElem?_eq_none (by omega)]
    rw [decide_eq_true e] at hR
    exact hR
  | k + 1, i, hi, hz => by
    unfold thicketref05_Same.l14 thicketref05_Same.g14
    refine onDec_t (by omega) ?_
    refine Sl.rdW h (fun _ => rfl) (by omega) (by omega) fun x hx => ?_
    refine Sl.rdW h2 (fun _ => rfl) (by omega) (by omega) fun y hy => ?_
    rw [Int.toNat_natCast] at hx hy
    refine onNe (fun hne => ?_) (fun he => ?_)
    · rw [decide_eq_false (fun e => by subst e; rw [hx] at hy; exact hne (by rw [Option.some.inj hy]))] at hR
      exact hR
    · refine nv_succ (by omega) ?_
      refine Same_loop h h2 hm hR k (i + 1) (by omega) fun j hj => ?_
      by_cases hj2 : j < i
      · exact hz j hj2
      · obtain rfl : j = i := by omega
        rw [hx, hy]
        congr 1
        exact BitVec.eq_of_toNat_eq (by omega)
theorem Same_c (h : Sl enW w a n xs) (h2 : Sl enW w b m ys) (hm : n ≤ 16777216) : Pure Go.Proofs.Tryd.prog 17 #[.slice a n c, .slice b m d] w (.bool (decide (xs = ys))) := by
  refine thicketref05_Same.calls (R := fun v' u => v' = _ ∧ Below w.heap.size w u) ?_
  unfold thicketref05_Same thicketref05_Same.g0
  have := h.len
  have := h2.len
  refine onNe (fun hne => ?_) (fun he => ?_)
  · exact ⟨by rw [decide_eq_false (fun e => by subst e; omega)], Below.refl _ _⟩
  · obtain rfl : n = m := by omega
    exact ⟨n + 1, Same_loop h h2 hm ⟨rfl, Below.refl _ _⟩ n 0 (by omega) (fun j hj => by omega)⟩
theorem S_W : SliceT Go.Proofs.Tryd.prog 30 58 1 8 := sliceT (by kernel_rfl)
theorem Meet_loop {R : Value → World → Prop} {w0 : World} (hl : xs.length = n) (hm : n ≤ 16777216) (h2 : ∀ u, Only g w0 u → Sl enW u b n ys)
    (hR : ∀ u, Arr enW 58 u a n c (xs.zipWith (· &&& ·) ys) g → Only g w0 u → R (.int .i64 0) u) :
    ∀ (k i : Nat) (w : World), i + k = n → Arr enW 58 w a n c (mix (xs.zipWith (· &&& ·) ys) xs i) g → Only g w0 w → bits_Meet.l14 R (k + 1) a n c b n d n i w
  | 0, i, w, hi, ha, ho => by
    have hl2 := (h2 _ ho).len
    unfold bits_Meet.l14 bits_Meet.g14
    refine onDec_f (by omega) ?_
    obtain rfl : i = xs.length := by omega
    rw [mix_full (by simp; omega)] at ha
    exact hR w ha ho
  | k + 1, i, w, hi, ha, ho => by
    have hl2 := (h2 _ ho).len
    have hll : xs.length = (xs.zipWith (· &&& ·) ys).length := by simp; omega
    unfold bits_Meet.l14 bits_Meet.g14
    refine onDec_t (by omega) ?_
    refine Sl.rdW ha.sl (fun _ => rfl) (by omega) (by omega) fun x hx => ?_
    refine Sl.rdW (h2 _ ho) (fun _ => rfl) (by omega) (by omega) fun y hy => ?_
    rw [Int.toNat_natCast] at hx hy
    rw [mix_get hll (by omega)] at hx
    rw [and64]
    refine nv_mk rfl ?_
    refine Arr.wr ha (by omega) (by omega) (x := x &&& y) rfl fun u hu mu => ?_
    refine nv_succ (by omega) ?_
    rw [Int.toNat_natCast, mix_step hll (x := x &&& y) (by rw [List.getElem?_zipWith, hx, hy])] at hu
    exact Meet_loop hl hm h2 hR k (i + 1) u (by omega) hu (ho.trans mu (fun _ _ h => h) (fun _ _ h => h))
theorem Meet_c (h : Arr enW 58 w a n c xs g) (h2 : ∀ u, Only g w u → Sl enW u b n ys) (hm : n ≤ 16777216) :
    E.CallsD Go.Proofs.Tryd.prog 31 #[.slice a n c, .slice b n d] w fun v u => v = .int .i64 0 ∧ Arr enW 58 u a n c (xs.zipWith (· &&& ·) ys) g ∧ Only g w u := by
  refine bits_Meet.calls ?_
  unfold bits_Meet bits_Meet.g0
  refine onNe_f (by omega) ?_
  exact ⟨n + 1, Meet_loop h.len.symm hm h2 (fun u hu ho => ⟨rfl, hu, ho⟩) n 0 w (by omega) (by rwa [mix_zero]) (Mod.refl _)⟩
theorem Meet_no (hne : n ≠ m) : Pure Go.Proofs.Tryd.prog 31 #[.slice a n c, .slice b m d] w (.int .i64 6) := by
  refine bits_Meet.calls (R := fun v' u => v' = _ ∧ Below w.heap.size w u) ?_
  unfold bits_Meet bits_Meet.g0
  refine onNe_t (by omega) ?_
  exact ⟨rfl, Below.refl _ _⟩
end
end Go.Bi

namespace Go.Bi
open Go Go.E Go.RowKit Go.Bt Go.Mir
section
variable {w : World} {a b : Option Addr} {n c m d g : Nat} {xs ys : W} {i : Int}

/-! ### Full, Mask -/
def fullB (n : Int) : W := ofB (nW n) fun i => decide ((i : Int) < n)
theorem nW_le {n : Int} (h : n ≤ 1048576) : nW n ≤ 16384 := by unfold nW; omega
theorem Full_ok {n : Int} (h0 : 0 ≤ n) (h1 : n ≤ 1048576) (w : World) :
    E.CallsD Go.Proofs.Tryd.prog 29 #[.int .i64 n] w fun v u => ∃ a c, v = .tuple #[.slice a (nW n) c, .int .i64 0] ∧ New enW 58 w u a (nW n) c (fullB n) := by
  refine bits_Full.calls ?_
  unfold bits_Full bits_Full.g0
  refine E.CallsD.mono (Empty_ok h0 h1 w) fun v u ⟨a, c, hv, g, ha, hg, hk⟩ => ⟨_, _, _, _, hv, ?_⟩
  have hL := nW_le h1
  refine E.CallsD.mono (fill_c (f := 0) (t := n) ha (by omega) (by omega) (by omega)) fun v u' ⟨hv, ha', ho⟩ => ⟨hv, ?_⟩
  refine ⟨_, _, rfl, g, ?_, hg, ?_⟩
  · have e : fillW (ofB (nW n) fun _ => false) 0 n = fullB n := by
      unfold fillW fullB
      rw [ofB_length]
      apply ofB_ext
      intro i hi
      rw [bit_ofB]
      simp
    rwa [e] at ha'
  · exact (Mod.trans (S := fun _ => False) (T := fun k => k + 1 = g) (U := fun k => w.heap.size ≤ k) (Kept.mod hk) ho (fun _ _ h => h.elim) (fun k hk2 h => by omega)).kept fun k hk2 hk3 => by omega
theorem fill_nil {f t : Int} {w : World} : Pure Go.Proofs.Tryd.prog 54 #[.slice none 0 0, .int .i64 f, .int .i64 t] w (.tuple #[]) := by
  refine bits_fill.calls (R := fun v' u => v' = _ ∧ Below w.heap.size w u) ?_
  unfold bits_fill bits_fill.g0
  refine ⟨1, ?_⟩
  unfold bits_fill.l3 bits_fill.g3
  refine onDec_f (by omega) ?_
  exact ⟨rfl, Below.refl _ _⟩
theorem Full_no {n : Int} (h : n < 0 ∨ 1048576 < n) (w : World) : Pure Go.Proofs.Tryd.prog 29 #[.int .i64 n] w (.tuple #[.slice none 0 0, .int .i64 2]) := by
  refine bits_Full.calls (R := fun v' u => v' = _ ∧ Below w.heap.size w u) ?_
  unfold bits_Full bits_Full.g0
  refine E.CallsD.mono (Empty_no h w) fun v u ⟨hv, hk⟩ => ⟨_, _, _, _, hv, ?_⟩
  refine E.CallsD.mono fill_nil fun v u' ⟨hv, hk'⟩ => ⟨hv, ?_⟩
  exact ⟨rfl, Kept.trans hk hk'⟩

def maskB (n f t : Int) : W := ofB (nW n) fun i => decide ((i : Int) < n) && !(decide (f ≤ (i : Int)) && decide ((i : Int) < t))
theorem Mask_loop {R : Value → World → Prop} {w0 : World} (hl : xs.length = n) (hm : n ≤ 16777216) (h2 : ∀ u, Only g w0 u → Sl enW u b n ys)
    (hR : ∀ u, Arr enW 58 u a n c (xs.zipWith (fun x y => x &&& ~~~y) ys) g → Only g w0 u → R (.tuple #[.slice a n c, .int .i64 0]) u) :
    ∀ (k i : Nat) (w : World), i + k = n → Arr enW 58 w a n c (mix (xs.zipWith (fun x y => x &&& ~~~y) ys) xs i) g → Only g w0 w → bits_Mask.l28 R (k + 1) a n c b n d n i w
  | 0, i, w, hi, ha, ho => by
    have hl2 := (h2 _ ho).len
    unfold bits_Mask.l28 bits_Mask.g28
    refine onDec_f (by omega) ?_
    obtain rfl : i = xs.length := by omega
    rw [mix_full (by simp; omega)] at ha
    exact hR w ha ho
  | k + 1, i, w, hi, ha, ho => by
    have hl2 := (h2 _ ho).len
    have hll : xs.length = (xs.zipWith (fun x y => x &&& ~~~y) ys).length := by simp; omega
    unfold bits_Mask.l28 bits_Mask.g28
    refine onDec_t (by omega) ?_
    refine Sl.rdW ha.sl (fun _ => rfl) (by omega) (by omega) fun x hx => ?_
    refine Sl.rdW (h2 _ ho) (fun _ => rfl) (by omega) (by omega) fun y hy => ?_
    rw [Int.toNat_natCast] at hx hy
    rw [mix_get hll (by omega)] at hx
    rw [andNot64]
    refine nv_mk rfl ?_
    refine Arr.wr ha (by omega) (by omega) (x := x &&& ~~~y) rfl fun u hu mu => ?_
    refine nv_succ (by omega) ?_
    rw [Int.toNat_natCast, mix_step hll (x := x &&& ~~~y) (by rw [List.getElem?_zipWith, hx, hy])] at hu
    exact Mask_loop hl hm h2 hR k (i + 1) u (by omega) hu (ho.trans mu (fun _ _ h => h) (fun _ _ h => h))
theorem zip_ofB (L : Nat) (p q : Nat → Bool) (f : BitVec 64 → BitVec 64 → BitVec 64) (r : Nat → Bool) (h : ∀ k, f (word p k) (word q k) = word r k) : (ofB L p).zipWith f (ofB L q) = ofB L r := by
  apply List.ext_getElem?
  intro k
  rw [List.getElem?_zipWith]
  by_cases hk : k < L
  · rw [ofB_get hk, ofB_get hk, ofB_get hk]
    simp [h]
  · rw [List.getElem?_eq_none (l := ofB L p) (by simp; omega), List.getElem?_eq_none (l := ofB L r) (by simp; omega)]
theorem Mask_ok {n f t : Int} (h0 : 0 ≤ n) (h1 : n ≤ 1048576) (hf : 0 ≤ f) (hft : f ≤ t) (ht : t ≤ n) (w : World) :
    E.CallsD Go.Proofs.Tryd.prog 30 #[.int .i64 n, .int .i64 f, .int .i64 t] w fun v u => ∃ a c, v = .tuple #[.slice a (nW n) c, .int .i64 0] ∧ New enW 58 w u a (nW n) c (maskB n f t) := by
  refine bits_Mask.calls ?_
  unfold bits_Mask bits_Mask.g0
  refine E.CallsD.mono (Full_ok h0 h1 w) fun v u ⟨a, c, hv, g, ha, hg, hk⟩ => ⟨_, _, _, _, hv, ?_⟩
  have hL := nW_le h1
  refine onNe_f (by omega) ?_
  refine onDec_f (by omega) ?_
  refine onDec_f (by omega) ?_
  refine onDec_f (by omega) ?_
  refine Arr.make (en := enW) (x := 0#64) rfl (by omega) (by omega) (by omega) fun u1 hb hk1 => ?_
  rw [Int.toNat_natCast] at hb ⊢
  have hle := ha.le
  refine E.CallsD.mono (fill_c (f := f) (t := t) hb (by omega) (by omega) (by omega)) fun v u2 ⟨hv, hb2, ho⟩ => ⟨hv, ?_⟩
  have ha2 := (ha.kept hk1).mod ho fun k hk3 hk4 => by omega
  refine ⟨_, Mask_loop (w0 := u2) (g := g) (ys := fillW (List.replicate (nW n) 0#64) f t) ha.len.symm (by omega) (fun u3 h3 => (hb2.mod h3 fun k h4 h5 => ?_).sl) (fun u3 hr h3 => ?_) (nW n) 0 u2 (by omega) (by rwa [mix_zero]) (Mod.refl _)⟩
  · omega
  · refine ⟨_, _, rfl, g, ?_, hg, ?_⟩
    · have e : (fullB n).zipWith (fun x y => x &&& ~~~y) (fillW (List.replicate (nW n) 0#64) f t) = maskB n f t := by
        unfold fullB fillW maskB
        rw [zeros, ofB_length]
        refine zip_ofB _ _ _ _ _ fun k => ?_
        rw [word_andNot]
        congr 1
        funext i
        rw [bit_ofB]
        simp
      rwa [e] at hr
    · have s1 : From w.heap.size w u := Kept.mod hk
      have s2 := From.keptThen s1 hk1
      have := hk.size
      have s3 := From.then s2 ho fun k h4 h5 => by omega
      exact (From.then s3 h3 fun k h4 h5 => by omega).kept
theorem Mask_no {n f t : Int} (h : n < 0 ∨ 1048576 < n ∨ f < 0 ∨ t < f ∨ n < t) (w : World) : E.CallsD Go.Proofs.Tryd.prog 30 #[.int .i64 n, .int .i64 f, .int .i64 t] w fun v u => v = .tuple #[.slice none 0 0, .int .i64 2] ∧ Kept w u := by
  refine bits_Mask.calls ?_
  unfold bits_Mask bits_Mask.g0
  by_cases h0 : n < 0 ∨ 1048576 < n
  · refine E.CallsD.mono (Full_no h0 w) fun v u ⟨hv, hk⟩ => ⟨_, _, _, _, hv, ?_⟩
    refine onNe_t (by omega) ?_
    exact ⟨rfl, hk⟩
  · refine E.CallsD.mono (Full_ok (by omega) (by omega) w) fun v u ⟨a, c, hv, g, ha, hg, hk⟩ => ⟨_, _, _, _, hv, ?_⟩
    refine onNe_f (by omega) ?_
    refine onDec (fun _ => ⟨rfl, hk⟩) fun _ => onDec (fun _ => ⟨rfl, hk⟩) fun _ => ?_
    refine onDec_t (by omega) ?_
    exact ⟨rfl, hk⟩

/-! ### the document -/
def madeB (n f t : Int) (q : Bool) : W := ofB (nW n) fun i => decide ((i : Int) < n) && ((decide (f ≤ (i : Int)) && decide ((i : Int) < t)) == q)
theorem put_step {p : Nat → Bool} {L j : Nat} {x : BitVec 64} (hx : (ofB L p)[j / 64]? = some x) : (ofB L p).set (j / 64) (x ||| BitVec.twoPow 64 (j % 64)) = ofB L fun i => p i || decide (i = j) := by
  apply ext (by simp)
  intro i hi
  rw [put_in hx (by omega), bit_ofB, bit_ofB]
  simp at hi
  rw [Nat.div_add_mod]
  simp [hi]
theorem made_loop {R : Value → World → Prop} {w0 : World} {a : Option Addr} {c g : Nat} {n f t : Int} {q : Bool} (h0 : 0 ≤ n) (h1 : n ≤ 1048576)
    (hR : ∀ u, Arr enW 58 u a (nW n) c (madeB n f t q) g → Only g w0 u → R (.slice a (nW n) c) u) :
    ∀ (k i : Nat) (w : World), (i : Int) + k = n → Arr enW 58 w a (nW n) c (ofB (nW n) fun j => decide (j < i) && ((decide (f ≤ (j : Int)) && decide ((j : Int) < t)) == q)) g → Only g w0 w → thicketref05_made.l8 R (k + 1) n f t q a (nW n) c i w
  | 0, i, w, hi, ha, ho => by
    unfold thicketref05_made.l8 thicketref05_made.g8
    refine onDec_f (by omega) ?_
    refine hR w ?_ ho
    have e : madeB n f t q = ofB (nW n) fun j => decide (j < i) && ((decide (f ≤ (j : Int)) && decide ((j : Int) < t)) == q) := by
      unfold madeB
      apply ofB_ext
      intro j _
      congr 1
      exact decide_eq_decide.2 (by omega)
    rw [e]
    exact ha
  | k + 1, i, w, hi, ha, ho => by
    have hiL : i / 64 < nW n := by unfold nW; omega
    have key : thicketref05_made.j19 R (thicketref05_made.l8 R (k + 1)) n f t q a (nW n) c i ((decide (f ≤ (i : Int)) && decide ((i : Int) < t)) == q) w := by
      unfold thicketref05_made.j19 thicketref05_made.g19
      refine onBool_mk (fun hq => ?_) (fun hq => ?_)
      · refine nv_div (by omega) (by omega) (by omega) ?_
        refine nv_div (by omega) (by omega) (by omega) ?_
        refine Sl.rdW ha.sl (fun _ => rfl) (by omega) (by omega) fun x hx => ?_
        refine nv_mod (by omega) ?_
        refine nv_u64 (by omega) (by omega) ?_
        refine nchk_mk (by omega) ?_
        rw [shl1]
        refine nv_mk rfl ?_
        rw [or64]
        refine nv_mk rfl ?_
        refine Arr.wr ha (by omega) (by omega) (x := x ||| BitVec.twoPow 64 (((i : Int) % 64).toNat)) rfl fun u hu mu => ?_
        refine nv_succ (by omega) ?_
        refine made_loop h0 h1 hR k (i + 1) u (by omega) ?_ (ho.trans mu (fun _ _ h => h) (fun _ _ h => h))
        rw [show ((i : Int) / 64).toNat = i / 64 from by omega] at hx hu
        rw [show ((i : Int) % 64).toNat = i % 64 from by omega, put_step hx] at hu
        have e : ∀ j, (decide (j < i) && ((decide (f ≤ (j : Int)) && decide ((j : Int) < t)) == q) || decide (j = i)) = (decide (j < i + 1) && ((decide (f ≤ (j : Int)) && decide ((j : Int) < t)) == q)) := by
          intro j
          by_cases hj : j = i
          · subst hj; rw [hq]; simp
          · simp only [hj, decide_false, Bool.or_false]
            congr 1
            exact decide_eq_decide.2 (by omega)
        rw [show (fun j => (decide (j < i) && ((decide (f ≤ (j : Int)) && decide ((j : Int) < t)) == q) || decide (j = i))) = _ from funext e] at hu
        exact hu
      · refine nv_succ (by omega) ?_
        refine made_loop h0 h1 hR k (i + 1) w (by omega) ?_ ho
        have e : ∀ j, (decide (j < i + 1) && ((decide (f ≤ (j : Int)) && decide ((j : Int) < t)) == q)) = (decide (j < i) && ((decide (f ≤ (j : Int)) && decide ((j : Int) < t)) == q)) := by
          intro j
          by_cases hj : j = i
          · subst hj; rw [hq]; simp
          · congr 1
            exact decide_eq_decide.2 (by omega)
        rw [show (fun j => (decide (j < i + 1) && ((decide (f ≤ (j : Int)) && decide ((j : Int) < t)) == q))) = _ from funext e]
        exact ha
    unfold thicketref05_made.l8 thicketref05_made.g8
    refine onDec_t (by omega) ?_
    refine onDec (fun h2 => ?_) (fun h2 => ?_)
    · rw [decide_eq_true (show f ≤ (i : Int) from h2), Bool.true_and] at key
      exact key
    · rw [decide_eq_false (show ¬ f ≤ (i : Int) from h2), Bool.false_and] at key
      exact key
theorem made_c {n f t : Int} {q : Bool} (h0 : 0 ≤ n) (h1 : n ≤ 1048576) (w : World) :
    E.CallsD Go.Proofs.Tryd.prog 60 #[.int .i64 n, .int .i64 f, .int .i64 t, .bool q] w fun v u => ∃ a c, v = .slice a (nW n) c ∧ New enW 58 w u a (nW n) c (madeB n f t q) := by
  refine thicketref05_made.calls ?_
  unfold thicketref05_made thicketref05_made.g0
  refine nv_i64 (by omega) (by omega) ?_
  refine nv_div (by omega) (by omega) (by omega) ?_
  refine Arr.make (en := enW) (x := 0#64) rfl (by omega) (by omega) (by omega) fun u1 hb hk1 => ?_
  obtain ⟨k, hk⟩ : ∃ k : Nat, n = k := ⟨n.toNat, by omega⟩
  have e : ((n + 63) / 64).toNat = nW n := rfl
  rw [e] at hb ⊢
  refine ⟨k + 1, made_loop (w0 := u1) (g := w.heap.size + 1) h0 h1 (fun u hu ho => ?_) k 0 u1 (by omega) ?_ (Mod.refl _)⟩
  · refine ⟨_, _, rfl, _, hu, by omega, ?_⟩
    exact (From.then (From.keptThen (Mod.refl w) hk1) ho fun k h4 h5 => by omega).kept
  · rw [zeros] at hb
    simpa using hb
theorem refMask_ok {n f t : Int} (h0 : 0 ≤ n) (h1 : n ≤ 1048576) (hf : 0 ≤ f) (hft : f ≤ t) (ht : t ≤ n) (w : World) :
    E.CallsD Go.Proofs.Tryd.prog 48 #[.int .i64 n, .int .i64 f, .int .i64 t] w fun v u => ∃ a c, v = .tuple #[.slice a (nW n) c, .int .i64 0] ∧ New enW 58 w u a (nW n) c (maskB n f t) := by
  refine thicketref05_Mask.calls ?_
  unfold thicketref05_Mask thicketref05_Mask.g0
  refine onDec_f (by omega) ?_
  refine onDec_f (by omega) ?_
  refine onDec_f (by omega) ?_
  refine onDec_f (by omega) ?_
  refine onDec_f (by omega) ?_
  refine E.CallsD.mono (made_c h0 h1 w) fun v u ⟨a, c, hv, hn⟩ => ⟨_, _, _, hv, _, _, rfl, ?_⟩
  have e : madeB n f t false = maskB n f t := by unfold madeB maskB; congr 1; funext i; simp
  rwa [e] at hn
theorem refMask_no {n f t : Int} (h : n < 0 ∨ 1048576 < n ∨ f < 0 ∨ t < f ∨ n < t) (w : World) : E.CallsD Go.Proofs.Tryd.prog 48 #[.int .i64 n, .int .i64 f, .int .i64 t] w fun v u => v = .tuple #[.slice none 0 0, .int .i64 2] ∧ Kept w u := by
  refine thicketref05_Mask.calls ?_
  unfold thicketref05_Mask thicketref05_Mask.g0
  have r : (fun v u => v = Value.tuple #[.slice none 0 0, .int .i64 2] ∧ Kept w u) (.tuple #[.slice none 0 0, .int .i64 2]) w := ⟨rfl, Kept.refl _⟩
  refine onDec (fun _ => r) fun _ => onDec (fun _ => r) fun _ => onDec (fun _ => r) fun _ => onDec (fun _ => r) fun _ => onDec (fun _ => r) fun _ => ?_
  omega
theorem refFull_ok {n : Int} (h0 : 0 ≤ n) (h1 : n ≤ 1048576) (w : World) :
    E.CallsD Go.Proofs.Tryd.prog 39 #[.int .i64 n] w fun v u => ∃ a c, v = .tuple #[.slice a (nW n) c, .int .i64 0] ∧ New enW 58 w u a (nW n) c (fullB n) := by
  refine thicketref05_Full.calls ?_
  unfold thicketref05_Full thicketref05_Full.g0
  refine onDec_f (by omega) ?_
  refine onDec_f (by omega) ?_
  refine E.CallsD.mono (made_c h0 h1 w) fun v u ⟨a, c, hv, hn⟩ => ⟨_, _, _, hv, _, _, rfl, ?_⟩
  have e : madeB n 0 0 false = fullB n := by
    unfold madeB fullB; congr 1; funext i
    have : (decide ((0 : Int) ≤ i) && decide ((i : Int) < 0)) = false := by simp
    rw [this]; simp
  rwa [e] at hn
theorem refFull_no {n : Int} (h : n < 0 ∨ 1048576 < n) (w : World) : Pure Go.Proofs.Tryd.prog 39 #[.int .i64 n] w (.tuple #[.slice none 0 0, .int .i64 2]) := by
  refine thicketref05_Full.calls (R := fun v' u => v' = _ ∧ Below w.heap.size w u) ?_
  unfold thicketref05_Full thicketref05_Full.g0
  refine onDec (fun _ => ⟨rfl, Below.refl _ _⟩) fun _ => ?_
  refine onDec_t (by omega) ?_
  exact ⟨rfl, Below.refl _ _⟩
end
end Go.Bi

namespace Go.Bi
open Go Go.E Go.RowKit Go.Bt Go.Mir
theorem Kept.only {w w1 u : World} {g : Nat} (h : Kept w w1) (ho : Only g w1 u) (hg : w.heap.size < g) : Kept w u := by
  have s1 : From w.heap.size w w1 := Kept.mod h
  exact (From.then s1 ho fun k h4 h5 => by omega).kept
theorem Kept.own {w w1 u : World} {g : Nat} (h : Kept w w1) (ho : Only g w1 u) (hg : w.heap.size < g ∨ g = 0) : Kept w u := by
  rcases hg with hg | hg
  · exact Kept.only h ho hg
  · exact Kept.trans h (ho.kept fun k h5 h6 => by omega)
theorem Only.kept {w u x : World} {g : Nat} (h : Only g w u) (k : Kept u x) : Only g w x := Mod.trans (S := fun k => k + 1 = g) h (Kept.mod (S := fun _ => False) k) (fun _ _ h => h) (fun _ _ h => h.elim)
theorem Only.then {w u x : World} {g : Nat} (h : Only g w u) (k : Only g u x) : Only g w x := Mod.trans (S := fun k => k + 1 = g) h k (fun _ _ h => h) (fun _ _ h => h)
section
variable {w : World} {a b : Option Addr} {n c m d g : Nat} {xs ys : W} {i : Int}
abbrev enN (i : Nat) : Value := .int .i64 (i : Int)
theorem S_I : SliceT Go.Proofs.Tryd.prog 40 3 1 8 := sliceT (by kernel_rfl)
/-! ### Print -/
def prB (xs : W) (n : Nat) : List UInt8 := (List.range n).map fun i => if bit xs i then 49 else 48
theorem prB_at {xs : W} {n i : Nat} (h : i < n) : (prB xs n)[i]? = some (if bit xs i then 49 else 48) := by simp [prB, h]
/-- What is printed, and the error. -/
def prOf (xs : W) (n : Int) : List UInt8 × Int := if n < 0 ∨ 1048576 < n then ([], 2) else if nW n ≠ xs.length then ([], 6) else if high xs ≥ n then ([], 50) else (prB xs n.toNat, 0)
end
end Go.Bi

namespace Go.Bi
open Go Go.E Go.RowKit Go.Bt Go.Mir
section
variable {w : World} {a b : Option Addr} {n c m d g : Nat} {xs ys : W} {i : Int}

/-! ### All -/
theorem filt_skip {p : Nat → Bool} {i : Nat} : ∀ d, (∀ j, i ≤ j → j < i + d → p j = false) → (List.range (i + d)).filter p = (List.range i).filter p
  | 0, _ => rfl
  | d + 1, h => by
    rw [← Nat.add_assoc, List.range_succ, List.filter_append, filt_skip d fun j h1 h2 => h j h1 (by omega), List.filter_cons, h (i + d) (by omega) (by omega)]
    simp
theorem All_loop {R : Value → World → Prop} {w0 : World} {a : Option Addr} {n c : Nat} (hx : Sl enW w0 a n xs) (hm : n ≤ 16777216)
    (hR : ∀ a' n' c' g u, Arr enN 3 u a' n' c' (all xs) g → (w0.heap.size < g ∨ g = 0) → Kept w0 u → R (.slice a' n' c') u) :
    ∀ (k i : Nat) (b : Option Addr) (m d g : Nat) (w : World), 64 * n < i + k → i ≤ 64 * n → Arr enN 3 w b m d ((List.range i).filter (bit xs)) g → (w0.heap.size < g ∨ g = 0) → Kept w0 w → thicketref05_All.l8 R k a n c b m d i w
  | 0, i, b, m, d, g, w, hi, hi2, ha, hg, hk => by omega
  | k + 1, i, b, m, d, g, w, hi, hi2, ha, hg, hk => by
    have hl := hx.len
    unfold thicketref05_All.l8 thicketref05_All.g8
    refine nv_i64 (by omega) (by omega) ?_
    have hlen : m ≤ i := by have := ha.len; have := List.length_filter_le (bit xs) (List.range i); simp at this; omega
    refine onDec (fun hlt => ?_) (fun hge => ?_)
    · refine nv_div (by omega) (by omega) (by omega) ?_
      refine Sl.rdW (hx.keep hk) (fun _ => rfl) (by omega) (by omega) fun x hxi => ?_
      rw [show ((i : Int) / 64).toNat = i / 64 from by omega] at hxi
      refine onEq (fun h0 => ?_) (fun h0 => ?_)
      · refine nv_mod (by omega) ?_
        refine nv_i64 (by omega) (by omega) ?_
        refine nv_i64 (by omega) (by omega) ?_
        refine nv_i64 (by omega) (by omega) ?_
        obtain ⟨d', hd⟩ : ∃ d' : Nat, d' = 64 * (i / 64) + 64 - i := ⟨_, rfl⟩
        rw [show (i : Int) + (63 - (i : Int) % 64) + 1 = ((i + d' : Nat) : Int) from by omega]
        have hi3 : i / 64 < n := by omega
        refine All_loop hx hm hR k (i + d') b m d g w (by omega) (by omega) ?_ hg hk
        rw [filt_skip d' fun j h1 h2 => ?_]
        · exact ha
        · have e := bit_word (j := j % 64) hxi (by omega)
          rw [show 64 * (i / 64) + j % 64 = j from by omega] at e
          rw [e]
          exact zero_word.1 (by omega) _ (by omega)
      · refine E.CallsD.mono (refHas_c (hx.keep hk) (by omega)) fun v u ⟨hv, hu⟩ => ⟨_, hv, ?_⟩
        rw [show has xs (i : Int) = bit xs i from by unfold has; simp]
        have hr : (List.range (i + 1)).filter (bit xs) = (List.range i).filter (bit xs) ++ if bit xs i then [i] else [] := by
          rw [List.range_succ, List.filter_append]
          simp only [List.filter_cons, List.filter_nil]
        refine onBool_mk (fun hb => ?_) (fun hb => ?_)
        · rw [hb, if_pos rfl] at hr
          refine Arr.push S_I (ha.kept hu) (x := i) rfl rfl (by simp only [maxLen]; omega) (by omega) fun a' c' g' u' h1 h2 h3 h4 => ⟨_, _, _, rfl, ?_⟩
          refine nv_succ (by omega) ?_
          have hsz := (Kept.trans hk hu).size
          refine All_loop hx hm hR k (i + 1) a' (m + 1) c' g' u' (by omega) (by omega) (by rw [hr]; exact h1) (by omega) ?_
          rcases hg with hg | hg
          · exact Kept.only (Kept.trans hk hu) h4 hg
          · exact Kept.trans (Kept.trans hk hu) (h4.kept fun k h5 h6 => by omega)
        · rw [hb] at hr
          refine nv_succ (by omega) ?_
          exact All_loop hx hm hR k (i + 1) b m d g u (by omega) (by omega) (by rw [hr]; simpa using ha.kept hu) hg (Kept.trans hk hu)
    · obtain rfl : i = 64 * xs.length := by omega
      exact hR _ _ _ g w ha hg hk
theorem All_c (hx : Sl enW w a n xs) (hm : n ≤ 16777216) : E.CallsD Go.Proofs.Tryd.prog 63 #[.slice a n c] w fun v u => ∃ a' c', v = .slice a' (count xs) c' ∧ New enN 3 w u a' (count xs) c' (all xs) := by
  refine thicketref05_All.calls ?_
  unfold thicketref05_All thicketref05_All.g0
  refine ⟨64 * n + 1, All_loop hx hm (fun a' n' c' g u h1 h2 h3 => ?_) (64 * n + 1) 0 none 0 0 0 w (by omega) (by omega) (Arr.nil _ _ _) (by omega) (Kept.refl _)⟩
  obtain rfl : n' = count xs := h1.len
  exact ⟨_, _, rfl, g, h1, h2, h3⟩
theorem New.sl {α : Type} {en : α → Value} {e : Nat} {w u : World} {a : Option Addr} {n c : Nat} {xs : List α} (h : New en e w u a n c xs) : Sl en u a n xs := by obtain ⟨g, h, _⟩ := h; exact h.sl
theorem New.kept {α : Type} {en : α → Value} {e : Nat} {w u : World} {a : Option Addr} {n c : Nat} {xs : List α} (h : New en e w u a n c xs) : Kept w u := by obtain ⟨g, _, _, h⟩ := h; exact h
theorem Sl.rdN {xs : List Nat} {w : World} {a : Option Addr} {n : Nat} {i : Int} (h : Sl enN w a n xs) {K : Int → Prop} (h0 : 0 ≤ i) (hi : i < n) (hk : ∀ x : Nat, xs[i.toNat]? = some x → K (x : Int)) :
    optN a fun q => chk (0 ≤ i ∧ i < (n : Int)) (∃ y : Int, w.cell? (q.add (i.toNat * 1)) = some (.int .i64 y) ∧ K y) := h.rd (f := fun y => .int .i64 y) (sel := fun x => (x : Int)) (fun _ => rfl) h0 hi hk
theorem refLowest_c (hx : Sl enW w a n xs) (hm : n ≤ 16777216) : Pure Go.Proofs.Tryd.prog 43 #[.slice a n c] w (.int .i64 (low xs)) := by
  refine thicketref05_Lowest.calls (R := fun v' u => v' = _ ∧ Below w.heap.size w u) ?_
  unfold thicketref05_Lowest thicketref05_Lowest.g0
  refine E.CallsD.mono (All_c hx hm) fun v u ⟨a', c', hv, hn⟩ => ⟨_, _, _, hv, ?_⟩
  unfold low
  cases he : all xs with
  | nil =>
    have hc : count xs = 0 := by unfold count; rw [he]; rfl
    refine onEq_t (by omega) ?_
    exact ⟨rfl, hn.kept⟩
  | cons i l =>
    have hc : count xs = l.length + 1 := by unfold count; rw [he]; rfl
    refine onEq_f (by omega) ?_
    have := Sl.rdN (i := 0) hn.sl (K := fun y => y = (i : Int)) (by omega) (by omega) fun x hx => by rw [he] at hx; cases hx; rfl
    cases ha : a' with
    | none => rw [ha] at this; exact this.elim
    | some q =>
      rw [ha] at this
      obtain ⟨y, h1, rfl⟩ := (chk_iff.1 this).2
      exact chk_mk (by omega) ⟨_, h1, rfl, hn.kept⟩
/-! ### the document's Print -/
theorem putR {K : World → Prop} {i : Nat} (ha : Arr enW 58 w a n c xs g) (hi : i / 64 < n) (hb : i ≤ 4611686018427387904) (hk : ∀ u x, xs[i / 64]? = some x → Arr enW 58 u a n c (xs.set (i / 64) (x ||| BitVec.twoPow 64 (i % 64))) g → Only g w u → K u) :
    nv (IntKind.i64.wrap (Int.tdiv (i : Int) 64)) fun t17 => nv (IntKind.i64.wrap (Int.tdiv (i : Int) 64)) fun t18 => optN a fun q19 => chk ((0 : Int) ≤ t18 ∧ t18 < (n : Int)) (∃ yx_20 : Int, w.cell? (q19.add (t18.toNat * 1)) = some (.int .u64 yx_20) ∧
      (nv (Int.tmod (i : Int) 64) fun t20 => nv (IntKind.u64.wrap t20) fun t21 => nchk (t21 < 0) (nv (IntKind.u64.wrap (1 * 2 ^ (min t21.toNat 64))) fun t22 => nv (bitsI .or .u64 yx_20 t22) fun t23 => optN a fun q24 =>
        chk ((0 : Int) ≤ t17 ∧ t17 < (n : Int)) (okSt w ((q24.add (t17.toNat * 1)).add 0) ∧ nw (w.setCell ((q24.add (t17.toNat * 1)).add 0) (.int .u64 t23)) K)))) := by
  refine nv_div (by omega) (by omega) (by omega) ?_
  refine nv_div (by omega) (by omega) (by omega) ?_
  refine Sl.rdW ha.sl (fun _ => rfl) (by omega) (by omega) fun x hx => ?_
  refine nv_mod (by omega) ?_
  refine nv_u64 (by omega) (by omega) ?_
  refine nchk_mk (by omega) ?_
  rw [shl1]
  refine nv_mk rfl ?_
  rw [or64]
  refine nv_mk rfl ?_
  refine Arr.wr ha (by omega) (by omega) (x := x ||| BitVec.twoPow 64 (((i : Int) % 64).toNat)) rfl fun u hu mu => ?_
  rw [show ((i : Int) / 64).toNat = i / 64 from by omega] at hx hu
  rw [show ((i : Int) % 64).toNat = i % 64 from by omega] at hu
  exact hk u x hx hu mu
end
end Go.Bi
