/- Part of a proof of laws of the seat Ytdealcfgobobiaa: functions' weakest preconditions, each checked by the kernel, contracts out of them, plain lemmas; no conditions. -/
import Derived.Test.YtdealcfgobobiaaTM0
set_option linter.unusedVariables false
set_option linter.unusedSimpArgs false
set_option linter.unusedVariables false
set_option maxRecDepth 100000
namespace Go.Mir
open Go Go.E Go.RowKit
-- thicket/thicketlaw07.sample
def thicketlaw07_sample.an : An := An.nil
def thicketlaw07_sample.g0 (R : Value → World → Prop) (w : World) : Prop :=
 nw (w.alloc (.cells #[.int .i64 0, .slice none 0 0] 33)) fun w8 =>
 nw (w8.alloc (.cells #[.int .i64 1, .int .i64 3] 3)) fun w9 =>
 nw (w9.alloc (.cells #[.int .u8 2, .int .i64 0, .int .i64 1, .float .f64 4602678819172646912, .slice none 0 0, .int .u8 2, .int .i64 2, .int .i64 1, .int .u8 1, .int .i64 30, .int .i64 0, .float .f64 0, .slice none 0 0, .int .u8 0, .int .i64 0, .int .i64 0, .int .u8 3, .int .i64 0, .int .i64 0, .float .f64 0, .slice (some (na w8)) 2 2, .int .u8 1, .int .i64 3, .int .i64 4, .int .u8 1, .int .i64 10, .int .i64 0, .float .f64 0, .slice none 0 0, .int .u8 0, .int .i64 0, .int .i64 0, .int .u8 1, .int .i64 20, .int .i64 0, .float .f64 0, .slice none 0 0, .int .u8 0, .int .i64 0, .int .i64 0] 27)) fun w10 =>
 okSt w10 ((na w).add 0) ∧
 (nw (w10.setCell ((na w).add 0) (.int .i64 0)) fun w11 =>
 okSt w11 ((na w).add 1) ∧
 (nw (w11.setCell ((na w).add 1) (.slice (some (na w9)) 5 5)) fun w12 =>
 ∃ yx_13 : Int, w12.cell? ((na w).add 0) = some (.int .i64 yx_13) ∧
 (∃ ya_14 : Option Addr, ∃ yn_14 : Nat, ∃ yc_14 : Nat, w12.cell? ((na w).add 1) = some (.slice ya_14 yn_14 yc_14) ∧
 (R (.agg #[.int .i64 yx_13, .slice ya_14 yn_14 yc_14]) w12))))
def thicketlaw07_sample (R : Value → World → Prop) (w : World) : Prop := thicketlaw07_sample.g0 R  w
theorem thicketlaw07_sample.root0 (R : Value → World → Prop) (w : World) : fnN Go.Proofs.Try.prog Go.Proofs.Try.f43 thicketlaw07_sample.an #[] w R = thicketlaw07_sample.g0 R  w := by kernel_rfl
theorem thicketlaw07_sample.calls {R : Value → World → Prop} {w : World} (h : thicketlaw07_sample R  w) : Go.E.CallsD Go.Proofs.Try.prog 43 #[] w R := by
  refine callsD_of (n := thicketlaw07_sample.an) M_follows M_sizes Go.Proofs.Try.func43 (by rfl) ?_
  rw [thicketlaw07_sample.root0]
  unfold thicketlaw07_sample at h
  exact h
-- math.NaN
def math_NaN.an : An := An.nil
def math_NaN.g0 (R : Value → World → Prop) (w : World) : Prop :=
 ∃ yf_2 : Nat, RunV Go.Proofs.Try.prog (callFunc 68 #[.int .u64 9221120237041090561]) w (.float .f64 yf_2) ∧
 (R (.float .f64 yf_2) w)
def math_NaN (R : Value → World → Prop) (w : World) : Prop := math_NaN.g0 R  w
theorem math_NaN.root0 (R : Value → World → Prop) (w : World) : fnN Go.Proofs.Try.prog Go.Proofs.Try.f44 math_NaN.an #[] w R = math_NaN.g0 R  w := by kernel_rfl
theorem math_NaN.calls {R : Value → World → Prop} {w : World} (h : math_NaN R  w) : Go.E.CallsD Go.Proofs.Try.prog 44 #[] w R := by
  refine callsD_of (n := math_NaN.an) M_follows M_sizes Go.Proofs.Try.func44 (by rfl) ?_
  rw [math_NaN.root0]
  unfold math_NaN at h
  exact h
-- thicket/trees.kind
def trees_kind.an : An := An.nil
def trees_kind.g0 (R : Value → World → Prop) (x0_0 : Int) (x0_1 : Int) (x0_2 : Int) (f0_3 : Nat) (a0_4 : Option Addr) (n0_4 : Nat) (c0_4 : Nat) (x0_5 : Int) (x0_6 : Int) (x0_7 : Int) (w : World) : Prop :=
 nw (w.alloc (.cells #[.int .u8 x0_0, .int .i64 x0_1, .int .i64 x0_2, .float .f64 f0_3, .slice a0_4 n0_4 c0_4, .int .u8 x0_5, .int .i64 x0_6, .int .i64 x0_7] 27)) fun w7 =>
 ∃ yx_8 : Int, w7.cell? ((na w).add 0) = some (.int .u8 yx_8) ∧
 (onBool (yx_8 == 2)
 (∃ yf_9 : Nat, w7.cell? ((na w).add 3) = some (.float .f64 yf_9) ∧
 (∃ yx_10 : Int, w7.cell? ((na w).add 5) = some (.int .u8 yx_10) ∧
 (R (.iface 95 (.agg #[.float .f64 yf_9, .int .u8 yx_10])) w7)))
 (onBool (yx_8 == 3)
 (∃ ya_11 : Option Addr, ∃ yn_11 : Nat, ∃ yc_11 : Nat, w7.cell? ((na w).add 4) = some (.slice ya_11 yn_11 yc_11) ∧
 (∃ yx_12 : Int, w7.cell? ((na w).add 5) = some (.int .u8 yx_12) ∧
 (R (.iface 97 (.agg #[.slice ya_11 yn_11 yc_11, .int .u8 yx_12])) w7)))
 (R (.iface 99 (.agg #[])) w7)))
def trees_kind (R : Value → World → Prop) (x0_0 : Int) (x0_1 : Int) (x0_2 : Int) (f0_3 : Nat) (a0_4 : Option Addr) (n0_4 : Nat) (c0_4 : Nat) (x0_5 : Int) (x0_6 : Int) (x0_7 : Int) (w : World) : Prop := trees_kind.g0 R x0_0 x0_1 x0_2 f0_3 a0_4 n0_4 c0_4 x0_5 x0_6 x0_7 w
theorem trees_kind.root0 (R : Value → World → Prop) (x0_0 : Int) (x0_1 : Int) (x0_2 : Int) (f0_3 : Nat) (a0_4 : Option Addr) (n0_4 : Nat) (c0_4 : Nat) (x0_5 : Int) (x0_6 : Int) (x0_7 : Int) (w : World) : fnN Go.Proofs.Try.prog Go.Proofs.Try.f45 trees_kind.an #[.agg #[.int .u8 x0_0, .int .i64 x0_1, .int .i64 x0_2, .float .f64 f0_3, .slice a0_4 n0_4 c0_4, .int .u8 x0_5, .int .i64 x0_6, .int .i64 x0_7]] w R = trees_kind.g0 R x0_0 x0_1 x0_2 f0_3 a0_4 n0_4 c0_4 x0_5 x0_6 x0_7 w := by kernel_rfl
theorem trees_kind.calls {R : Value → World → Prop} {x0_0 : Int} {x0_1 : Int} {x0_2 : Int} {f0_3 : Nat} {a0_4 : Option Addr} {n0_4 : Nat} {c0_4 : Nat} {x0_5 : Int} {x0_6 : Int} {x0_7 : Int} {w : World} (h : trees_kind R x0_0 x0_1 x0_2 f0_3 a0_4 n0_4 c0_4 x0_5 x0_6 x0_7 w) : Go.E.CallsD Go.Proofs.Try.prog 45 #[.agg #[.int .u8 x0_0, .int .i64 x0_1, .int .i64 x0_2, .float .f64 f0_3, .slice a0_4 n0_4 c0_4, .int .u8 x0_5, .int .i64 x0_6, .int .i64 x0_7]] w R := by
  refine callsD_of (n := trees_kind.an) M_follows M_sizes Go.Proofs.Try.func45 (by rfl) ?_
  rw [trees_kind.root0]
  unfold trees_kind at h
  exact h
-- thicket/thicketref07.nan
def thicketref07_nan.an : An := An.nil
def thicketref07_nan.g0 (R : Value → World → Prop) (f0 : Nat) (w : World) : Prop :=
 R (.bool (FloatKind.f64.format.order f0 f0 != some .eq)) w
def thicketref07_nan (R : Value → World → Prop) (f0 : Nat) (w : World) : Prop := thicketref07_nan.g0 R f0 w
theorem thicketref07_nan.root0 (R : Value → World → Prop) (f0 : Nat) (w : World) : fnN Go.Proofs.Try.prog Go.Proofs.Try.f46 thicketref07_nan.an #[.float .f64 f0] w R = thicketref07_nan.g0 R f0 w := by kernel_rfl
theorem thicketref07_nan.calls {R : Value → World → Prop} {f0 : Nat} {w : World} (h : thicketref07_nan R f0 w) : Go.E.CallsD Go.Proofs.Try.prog 46 #[.float .f64 f0] w R := by
  refine callsD_of (n := thicketref07_nan.an) M_follows M_sizes Go.Proofs.Try.func46 (by rfl) ?_
  rw [thicketref07_nan.root0]
  unfold thicketref07_nan at h
  exact h
-- thicket/trees.inner
def trees_inner.an : An := An.nil
def trees_inner.g0 (R : Value → World → Prop) (x0_0 : Int) (x0_1 : Int) (x0_2 : Int) (f0_3 : Nat) (a0_4 : Option Addr) (n0_4 : Nat) (c0_4 : Nat) (x0_5 : Int) (x0_6 : Int) (x0_7 : Int) (w : World) : Prop :=
 nw (w.alloc (.cells #[.int .u8 x0_0, .int .i64 x0_1, .int .i64 x0_2, .float .f64 f0_3, .slice a0_4 n0_4 c0_4, .int .u8 x0_5, .int .i64 x0_6, .int .i64 x0_7] 27)) fun w4 =>
 ∃ yx_5 : Int, w4.cell? ((na w).add 0) = some (.int .u8 yx_5) ∧
 (onBool (yx_5 == 2)
 (R (.bool true) w4)
 (∃ yx_6 : Int, w4.cell? ((na w).add 0) = some (.int .u8 yx_6) ∧
 (R (.bool (yx_6 == 3)) w4)))
def trees_inner (R : Value → World → Prop) (x0_0 : Int) (x0_1 : Int) (x0_2 : Int) (f0_3 : Nat) (a0_4 : Option Addr) (n0_4 : Nat) (c0_4 : Nat) (x0_5 : Int) (x0_6 : Int) (x0_7 : Int) (w : World) : Prop := trees_inner.g0 R x0_0 x0_1 x0_2 f0_3 a0_4 n0_4 c0_4 x0_5 x0_6 x0_7 w
theorem trees_inner.root0 (R : Value → World → Prop) (x0_0 : Int) (x0_1 : Int) (x0_2 : Int) (f0_3 : Nat) (a0_4 : Option Addr) (n0_4 : Nat) (c0_4 : Nat) (x0_5 : Int) (x0_6 : Int) (x0_7 : Int) (w : World) : fnN Go.Proofs.Try.prog Go.Proofs.Try.f47 trees_inner.an #[.agg #[.int .u8 x0_0, .int .i64 x0_1, .int .i64 x0_2, .float .f64 f0_3, .slice a0_4 n0_4 c0_4, .int .u8 x0_5, .int .i64 x0_6, .int .i64 x0_7]] w R = trees_inner.g0 R x0_0 x0_1 x0_2 f0_3 a0_4 n0_4 c0_4 x0_5 x0_6 x0_7 w := by kernel_rfl
theorem trees_inner.calls {R : Value → World → Prop} {x0_0 : Int} {x0_1 : Int} {x0_2 : Int} {f0_3 : Nat} {a0_4 : Option Addr} {n0_4 : Nat} {c0_4 : Nat} {x0_5 : Int} {x0_6 : Int} {x0_7 : Int} {w : World} (h : trees_inner R x0_0 x0_1 x0_2 f0_3 a0_4 n0_4 c0_4 x0_5 x0_6 x0_7 w) : Go.E.CallsD Go.Proofs.Try.prog 47 #[.agg #[.int .u8 x0_0, .int .i64 x0_1, .int .i64 x0_2, .float .f64 f0_3, .slice a0_4 n0_4 c0_4, .int .u8 x0_5, .int .i64 x0_6, .int .i64 x0_7]] w R := by
  refine callsD_of (n := trees_inner.an) M_follows M_sizes Go.Proofs.Try.func47 (by rfl) ?_
  rw [trees_inner.root0]
  unfold trees_inner at h
  exact h
-- thicket/thicketref07.Fits
def thicketref07_Fits.an : An := (.mk none .nil (.mk none (.mk none .nil (.mk none (.mk (some [1, 8, 9, 10]) .nil .nil) .nil)) .nil))
def thicketref07_Fits.g0 (R : Value → World → Prop) (e6 : Int → (Option Addr) → Nat → Nat → Int → Int → World → Prop) (x0_0 : Int) (a0_1 : Option Addr) (n0_1 : Nat) (c0_1 : Nat) (x1 : Int) (w : World) : Prop :=
 nw (w.alloc (.cells #[.int .i64 x0_0, .slice a0_1 n0_1 c0_1] 33)) fun w24 =>
 ∃ ya_25 : Option Addr, ∃ yn_25 : Nat, ∃ yc_25 : Nat, w24.cell? ((na w).add 1) = some (.slice ya_25 yn_25 yc_25) ∧
 (e6 x1 ya_25 yn_25 yc_25 (yn_25 : Int) 0 w24)
def thicketref07_Fits.g6 (R : Value → World → Prop) (b6 : Int → (Option Addr) → Nat → Nat → Int → Int → World → Prop) (x1 : Int) (a8 : Option Addr) (n8 : Nat) (c8 : Nat) (x9 : Int) (x10 : Int) (w : World) : Prop :=
 onBool (decide (x10 < x9))
 (optN a8 fun q26 =>
 chk ((0 : Int) ≤ x10 ∧ x10 < (n8 : Int))
 (∃ yx_27 : Int, w.cell? ((q26.add (x10.toNat * 8)).add 0) = some (.int .u8 yx_27) ∧
 (∃ yx_28 : Int, w.cell? ((q26.add (x10.toNat * 8)).add 1) = some (.int .i64 yx_28) ∧
 (∃ yx_29 : Int, w.cell? ((q26.add (x10.toNat * 8)).add 2) = some (.int .i64 yx_29) ∧
 (∃ yf_30 : Nat, w.cell? ((q26.add (x10.toNat * 8)).add 3) = some (.float .f64 yf_30) ∧
 (∃ ya_31 : Option Addr, ∃ yn_31 : Nat, ∃ yc_31 : Nat, w.cell? ((q26.add (x10.toNat * 8)).add 4) = some (.slice ya_31 yn_31 yc_31) ∧
 (∃ yx_32 : Int, w.cell? ((q26.add (x10.toNat * 8)).add 5) = some (.int .u8 yx_32) ∧
 (∃ yx_33 : Int, w.cell? ((q26.add (x10.toNat * 8)).add 6) = some (.int .i64 yx_33) ∧
 (∃ yx_34 : Int, w.cell? ((q26.add (x10.toNat * 8)).add 7) = some (.int .i64 yx_34) ∧
 (nw (w.alloc (.cells #[.int .u8 0, .int .i64 0, .int .i64 0, .float .f64 0, .slice none 0 0, .int .u8 0, .int .i64 0, .int .i64 0] 27)) fun w35 =>
 okSt w35 ((na w).add 0) ∧
 (nw (w35.setCell ((na w).add 0) (.int .u8 yx_27)) fun w36 =>
 okSt w36 ((na w).add 1) ∧
 (nw (w36.setCell ((na w).add 1) (.int .i64 yx_28)) fun w37 =>
 okSt w37 ((na w).add 2) ∧
 (nw (w37.setCell ((na w).add 2) (.int .i64 yx_29)) fun w38 =>
 okSt w38 ((na w).add 3) ∧
 (nw (w38.setCell ((na w).add 3) (.float .f64 yf_30)) fun w39 =>
 okSt w39 ((na w).add 4) ∧
 (nw (w39.setCell ((na w).add 4) (.slice ya_31 yn_31 yc_31)) fun w40 =>
 okSt w40 ((na w).add 5) ∧
 (nw (w40.setCell ((na w).add 5) (.int .u8 yx_32)) fun w41 =>
 okSt w41 ((na w).add 6) ∧
 (nw (w41.setCell ((na w).add 6) (.int .i64 yx_33)) fun w42 =>
 okSt w42 ((na w).add 7) ∧
 (nw (w42.setCell ((na w).add 7) (.int .i64 yx_34)) fun w43 =>
 ∃ yx_44 : Int, w43.cell? ((na w).add 0) = some (.int .u8 yx_44) ∧
 (onBool (yx_44 != 1)
 (∃ yx_45 : Int, w43.cell? ((na w).add 2) = some (.int .i64 yx_45) ∧
 (onBool (decide (yx_45 ≥ x1))
 (R (.bool false) w43)
 (nv (IntKind.i64.wrap (x10 + 1)) fun t46 =>
 b6 x1 a8 n8 c8 x9 t46 w43)))
 (nv (IntKind.i64.wrap (x10 + 1)) fun t47 =>
 b6 x1 a8 n8 c8 x9 t47 w43))))))))))))))))))))
 (R (.bool true) w)
def thicketref07_Fits.q2 (R : Value → World → Prop) : Exit → Act → World → Prop := (fin Go.Proofs.Try.prog Go.Proofs.Try.f48 R)
def thicketref07_Fits.q3 (R : Value → World → Prop) : Exit → Act → World → Prop := Exit.then (startN none (codeN Go.Proofs.Try.prog (sub (codeOf Go.Proofs.Try.f48) [1, 1]) (nsub thicketref07_Fits.an [1, 1]) (thicketref07_Fits.q2 R))) (thicketref07_Fits.q2 R)
def thicketref07_Fits.q5 (R : Value → World → Prop) : Exit → Act → World → Prop := (thicketref07_Fits.q3 R)
def thicketref07_Fits.q6 (R : Value → World → Prop) : Exit → Act → World → Prop := Exit.inBlock 0 (thicketref07_Fits.q5 R)
def thicketref07_Fits.rl6 (R : Value → World → Prop) (k : Nat) (x1 : Int) (a8 : Option Addr) (n8 : Nat) (c8 : Nat) (x9 : Int) (x10 : Int) (w : World) : Prop := loopN [1, 8, 9, 10] (codeN Go.Proofs.Try.prog (sub (codeOf Go.Proofs.Try.f48) [1, 0, 1, 0, 0]) (nsub thicketref07_Fits.an [1, 0, 1, 0, 0])) (thicketref07_Fits.q6 R) k ⟨#[undef, .int .i64 x1, undef, undef, undef, undef, undef, undef, .slice a8 n8 c8, .int .i64 x9, .int .i64 x10, undef, undef, undef, undef, undef, undef, undef, undef, undef, undef, undef, undef, undef], []⟩ w
def thicketref07_Fits.re6 (R : Value → World → Prop) (x1 : Int) (a8 : Option Addr) (n8 : Nat) (c8 : Nat) (x9 : Int) (x10 : Int) (w : World) : Prop := ∃ k, thicketref07_Fits.rl6 R k x1 a8 n8 c8 x9 x10 w
def thicketref07_Fits.l6 (R : Value → World → Prop) : Nat → Int → (Option Addr) → Nat → Nat → Int → Int → World → Prop
  | 0, _, _, _, _, _, _, _ => False
  | k + 1, x1, a8, n8, c8, x9, x10, w => thicketref07_Fits.g6 R (thicketref07_Fits.l6 R k) x1 a8 n8 c8 x9 x10 w
def thicketref07_Fits.e6 (R : Value → World → Prop) (x1 : Int) (a8 : Option Addr) (n8 : Nat) (c8 : Nat) (x9 : Int) (x10 : Int) (w : World) : Prop := ∃ k, thicketref07_Fits.l6 R k x1 a8 n8 c8 x9 x10 w
theorem thicketref07_Fits.s6 (R : Value → World → Prop) (k : Nat) (x1 : Int) (a8 : Option Addr) (n8 : Nat) (c8 : Nat) (x9 : Int) (x10 : Int) (w : World) : thicketref07_Fits.rl6 R (k + 1) x1 a8 n8 c8 x9 x10 w = ∀ _ : Nat → Value, thicketref07_Fits.g6 R (thicketref07_Fits.rl6 R k) x1 a8 n8 c8 x9 x10 w := by kernel_rfl
theorem thicketref07_Fits.lq6 (R : Value → World → Prop) : ∀ k, thicketref07_Fits.l6 R k = thicketref07_Fits.rl6 R k
  | 0 => by funext x1 a8 n8 c8 x9 x10 w; first | rfl | kernel_rfl
  | k + 1 => by
    funext x1 a8 n8 c8 x9 x10 w
    rw [thicketref07_Fits.s6, forall_const]
    unfold thicketref07_Fits.l6
    have ih := thicketref07_Fits.lq6 R k
    rw [ih]
    all_goals rfl
theorem thicketref07_Fits.eq6 (R : Value → World → Prop) : thicketref07_Fits.e6 R = thicketref07_Fits.re6 R := by
  funext x1 a8 n8 c8 x9 x10 w
  unfold thicketref07_Fits.e6 thicketref07_Fits.re6
  simp only [thicketref07_Fits.lq6 R]
def thicketref07_Fits (R : Value → World → Prop) (x0_0 : Int) (a0_1 : Option Addr) (n0_1 : Nat) (c0_1 : Nat) (x1 : Int) (w : World) : Prop := thicketref07_Fits.g0 R (thicketref07_Fits.e6 R) x0_0 a0_1 n0_1 c0_1 x1 w
theorem thicketref07_Fits.root0 (R : Value → World → Prop) (x0_0 : Int) (a0_1 : Option Addr) (n0_1 : Nat) (c0_1 : Nat) (x1 : Int) (w : World) : fnN Go.Proofs.Try.prog Go.Proofs.Try.f48 thicketref07_Fits.an #[.agg #[.int .i64 x0_0, .slice a0_1 n0_1 c0_1], .int .i64 x1] w R = thicketref07_Fits.g0 R (thicketref07_Fits.re6 R) x0_0 a0_1 n0_1 c0_1 x1 w := by kernel_rfl
theorem thicketref07_Fits.calls {R : Value → World → Prop} {x0_0 : Int} {a0_1 : Option Addr} {n0_1 : Nat} {c0_1 : Nat} {x1 : Int} {w : World} (h : thicketref07_Fits R x0_0 a0_1 n0_1 c0_1 x1 w) : Go.E.CallsD Go.Proofs.Try.prog 48 #[.agg #[.int .i64 x0_0, .slice a0_1 n0_1 c0_1], .int .i64 x1] w R := by
  refine callsD_of (n := thicketref07_Fits.an) M_follows M_sizes Go.Proofs.Try.func48 (by rfl) ?_
  rw [thicketref07_Fits.root0]
  unfold thicketref07_Fits at h
  rw [thicketref07_Fits.eq6 R] at h
  exact h
-- slices.Index[[]int,int]
def slices_Index.an : An := (.mk none .nil (.mk none (.mk none .nil (.mk none (.mk (some [0, 1, 7, 8]) .nil .nil) .nil)) .nil))
def slices_Index.g0 (R : Value → World → Prop) (e6 : (Option Addr) → Nat → Nat → Int → Int → Int → World → Prop) (a0 : Option Addr) (n0 : Nat) (c0 : Nat) (x1 : Int) (w : World) : Prop :=
 e6 a0 n0 c0 x1 (n0 : Int) 0 w
def slices_Index.g6 (R : Value → World → Prop) (b6 : (Option Addr) → Nat → Nat → Int → Int → Int → World → Prop) (a0 : Option Addr) (n0 : Nat) (c0 : Nat) (x1 : Int) (x7 : Int) (x8 : Int) (w : World) : Prop :=
 onBool (decide (x8 < x7))
 (optN a0 fun q4 =>
 chk ((0 : Int) ≤ x8 ∧ x8 < (n0 : Int))
 (∃ yx_5 : Int, w.cell? (q4.add (x8.toNat * 1)) = some (.int .i64 yx_5) ∧
 (onBool (x1 == yx_5)
 (R (.int .i64 x8) w)
 (nv (IntKind.i64.wrap (x8 + 1)) fun t6 =>
 b6 a0 n0 c0 x1 x7 t6 w))))
 (R (.int .i64 (-1)) w)
def slices_Index.q2 (R : Value → World → Prop) : Exit → Act → World → Prop := (fin Go.Proofs.Try.prog Go.Proofs.Try.f49 R)
def slices_Index.q3 (R : Value → World → Prop) : Exit → Act → World → Prop := Exit.then (startN none (codeN Go.Proofs.Try.prog (sub (codeOf Go.Proofs.Try.f49) [1, 1]) (nsub slices_Index.an [1, 1]) (slices_Index.q2 R))) (slices_Index.q2 R)
def slices_Index.q5 (R : Value → World → Prop) : Exit → Act → World → Prop := (slices_Index.q3 R)
def slices_Index.q6 (R : Value → World → Prop) : Exit → Act → World → Prop := Exit.inBlock 0 (slices_Index.q5 R)
def slices_Index.rl6 (R : Value → World → Prop) (k : Nat) (a0 : Option Addr) (n0 : Nat) (c0 : Nat) (x1 : Int) (x7 : Int) (x8 : Int) (w : World) : Prop := loopN [0, 1, 7, 8] (codeN Go.Proofs.Try.prog (sub (codeOf Go.Proofs.Try.f49) [1, 0, 1, 0, 0]) (nsub slices_Index.an [1, 0, 1, 0, 0])) (slices_Index.q6 R) k ⟨#[.slice a0 n0 c0, .int .i64 x1, undef, undef, undef, undef, undef, .int .i64 x7, .int .i64 x8, undef, undef, undef, undef, undef, undef, undef, undef, undef, undef], []⟩ w
def slices_Index.re6 (R : Value → World → Prop) (a0 : Option Addr) (n0 : Nat) (c0 : Nat) (x1 : Int) (x7 : Int) (x8 : Int) (w : World) : Prop := ∃ k, slices_Index.rl6 R k a0 n0 c0 x1 x7 x8 w
def slices_Index.l6 (R : Value → World → Prop) : Nat → (Option Addr) → Nat → Nat → Int → Int → Int → World → Prop
  | 0, _, _, _, _, _, _, _ => False
  | k + 1, a0, n0, c0, x1, x7, x8, w => slices_Index.g6 R (slices_Index.l6 R k) a0 n0 c0 x1 x7 x8 w
def slices_Index.e6 (R : Value → World → Prop) (a0 : Option Addr) (n0 : Nat) (c0 : Nat) (x1 : Int) (x7 : Int) (x8 : Int) (w : World) : Prop := ∃ k, slices_Index.l6 R k a0 n0 c0 x1 x7 x8 w
theorem slices_Index.s6 (R : Value → World → Prop) (k : Nat) (a0 : Option Addr) (n0 : Nat) (c0 : Nat) (x1 : Int) (x7 : Int) (x8 : Int) (w : World) : slices_Index.rl6 R (k + 1) a0 n0 c0 x1 x7 x8 w = ∀ _ : Nat → Value, slices_Index.g6 R (slices_Index.rl6 R k) a0 n0 c0 x1 x7 x8 w := by kernel_rfl
theorem slices_Index.lq6 (R : Value → World → Prop) : ∀ k, slices_Index.l6 R k = slices_Index.rl6 R k
  | 0 => by funext a0 n0 c0 x1 x7 x8 w; first | rfl | kernel_rfl
  | k + 1 => by
    funext a0 n0 c0 x1 x7 x8 w
    rw [slices_Index.s6, forall_const]
    unfold slices_Index.l6
    have ih := slices_Index.lq6 R k
    rw [ih]
    all_goals rfl
theorem slices_Index.eq6 (R : Value → World → Prop) : slices_Index.e6 R = slices_Index.re6 R := by
  funext a0 n0 c0 x1 x7 x8 w
  unfold slices_Index.e6 slices_Index.re6
  simp only [slices_Index.lq6 R]
def slices_Index (R : Value → World → Prop) (a0 : Option Addr) (n0 : Nat) (c0 : Nat) (x1 : Int) (w : World) : Prop := slices_Index.g0 R (slices_Index.e6 R) a0 n0 c0 x1 w
theorem slices_Index.root0 (R : Value → World → Prop) (a0 : Option Addr) (n0 : Nat) (c0 : Nat) (x1 : Int) (w : World) : fnN Go.Proofs.Try.prog Go.Proofs.Try.f49 slices_Index.an #[.slice a0 n0 c0, .int .i64 x1] w R = slices_Index.g0 R (slices_Index.re6 R) a0 n0 c0 x1 w := by kernel_rfl
theorem slices_Index.calls {R : Value → World → Prop} {a0 : Option Addr} {n0 : Nat} {c0 : Nat} {x1 : Int} {w : World} (h : slices_Index R a0 n0 c0 x1 w) : Go.E.CallsD Go.Proofs.Try.prog 49 #[.slice a0 n0 c0, .int .i64 x1] w R := by
  refine callsD_of (n := slices_Index.an) M_follows M_sizes Go.Proofs.Try.func49 (by rfl) ?_
  rw [slices_Index.root0]
  unfold slices_Index at h
  rw [slices_Index.eq6 R] at h
  exact h
-- thicket/thicketref07.Nodes
def thicketref07_Nodes.an : An := (.mk none .nil (.mk none .nil (.mk none (.mk none .nil (.mk none (.mk (some [3, 7, 8, 9]) .nil .nil) .nil)) .nil)))
def thicketref07_Nodes.g0 (R : Value → World → Prop) (e8 : (Option Addr) → Nat → Nat → (Option Addr) → Nat → Nat → Int → Int → World → Prop) (a0 : Option Addr) (n0 : Nat) (c0 : Nat) (w : World) : Prop :=
 e8 none 0 0 a0 n0 c0 (n0 : Int) 0 w
def thicketref07_Nodes.g8 (R : Value → World → Prop) (b8 : (Option Addr) → Nat → Nat → (Option Addr) → Nat → Nat → Int → Int → World → Prop) (a3 : Option Addr) (n3 : Nat) (c3 : Nat) (a7 : Option Addr) (n7 : Nat) (c7 : Nat) (x8 : Int) (x9 : Int) (w : World) : Prop :=
 onBool (decide (x9 < x8))
 (optN a7 fun q37 =>
 chk ((0 : Int) ≤ x9 ∧ x9 < (n7 : Int))
 (∃ yx_38 : Int, w.cell? ((q37.add (x9.toNat * 8)).add 0) = some (.int .u8 yx_38) ∧
 (∃ yx_39 : Int, w.cell? ((q37.add (x9.toNat * 8)).add 1) = some (.int .i64 yx_39) ∧
 (∃ yx_40 : Int, w.cell? ((q37.add (x9.toNat * 8)).add 2) = some (.int .i64 yx_40) ∧
 (∃ yf_41 : Nat, w.cell? ((q37.add (x9.toNat * 8)).add 3) = some (.float .f64 yf_41) ∧
 (∃ ya_42 : Option Addr, ∃ yn_42 : Nat, ∃ yc_42 : Nat, w.cell? ((q37.add (x9.toNat * 8)).add 4) = some (.slice ya_42 yn_42 yc_42) ∧
 (∃ yx_43 : Int, w.cell? ((q37.add (x9.toNat * 8)).add 5) = some (.int .u8 yx_43) ∧
 (∃ yx_44 : Int, w.cell? ((q37.add (x9.toNat * 8)).add 6) = some (.int .i64 yx_44) ∧
 (∃ yx_45 : Int, w.cell? ((q37.add (x9.toNat * 8)).add 7) = some (.int .i64 yx_45) ∧
 (nw (w.alloc (.cells #[.int .u8 0, .int .i64 0, .int .i64 0, .float .f64 0, .slice none 0 0, .int .u8 0, .int .i64 0, .int .i64 0] 27)) fun w46 =>
 okSt w46 ((na w).add 0) ∧
 (nw (w46.setCell ((na w).add 0) (.int .u8 yx_38)) fun w47 =>
 okSt w47 ((na w).add 1) ∧
 (nw (w47.setCell ((na w).add 1) (.int .i64 yx_39)) fun w48 =>
 okSt w48 ((na w).add 2) ∧
 (nw (w48.setCell ((na w).add 2) (.int .i64 yx_40)) fun w49 =>
 okSt w49 ((na w).add 3) ∧
 (nw (w49.setCell ((na w).add 3) (.float .f64 yf_41)) fun w50 =>
 okSt w50 ((na w).add 4) ∧
 (nw (w50.setCell ((na w).add 4) (.slice ya_42 yn_42 yc_42)) fun w51 =>
 okSt w51 ((na w).add 5) ∧
 (nw (w51.setCell ((na w).add 5) (.int .u8 yx_43)) fun w52 =>
 okSt w52 ((na w).add 6) ∧
 (nw (w52.setCell ((na w).add 6) (.int .i64 yx_44)) fun w53 =>
 okSt w53 ((na w).add 7) ∧
 (nw (w53.setCell ((na w).add 7) (.int .i64 yx_45)) fun w54 =>
 ∃ ya_55 : Option Addr, ∃ yn_55 : Nat, ∃ yc_55 : Nat, w54.cell? ((na w).add 4) = some (.slice ya_55 yn_55 yc_55) ∧
 (rawN Go.Proofs.Try.prog (Builtin.append_ #[24, 24] 24 #[.slice none 0 0, .slice ya_55 yn_55 yc_55]) w54 fun yv56 u57 =>
 ∃ ya_58 : Option Addr, ∃ yn_58 : Nat, ∃ yc_58 : Nat, yv56 = .slice ya_58 yn_58 yc_58 ∧
 (okSt u57 (((na w).add 4).add 0) ∧
 (nw (u57.setCell (((na w).add 4).add 0) (.slice ya_58 yn_58 yc_58)) fun w59 =>
 ∃ yx_60 : Int, w59.cell? ((na w).add 0) = some (.int .u8 yx_60) ∧
 (∃ yx_61 : Int, w59.cell? ((na w).add 1) = some (.int .i64 yx_61) ∧
 (∃ yx_62 : Int, w59.cell? ((na w).add 2) = some (.int .i64 yx_62) ∧
 (∃ yf_63 : Nat, w59.cell? ((na w).add 3) = some (.float .f64 yf_63) ∧
 (∃ ya_64 : Option Addr, ∃ yn_64 : Nat, ∃ yc_64 : Nat, w59.cell? ((na w).add 4) = some (.slice ya_64 yn_64 yc_64) ∧
 (∃ yx_65 : Int, w59.cell? ((na w).add 5) = some (.int .u8 yx_65) ∧
 (∃ yx_66 : Int, w59.cell? ((na w).add 6) = some (.int .i64 yx_66) ∧
 (∃ yx_67 : Int, w59.cell? ((na w).add 7) = some (.int .i64 yx_67) ∧
 (nw (w59.alloc (.cells #[.int .u8 yx_60, .int .i64 yx_61, .int .i64 yx_62, .float .f64 yf_63, .slice ya_64 yn_64 yc_64, .int .u8 yx_65, .int .i64 yx_66, .int .i64 yx_67] 27)) fun w68 =>
 rawN Go.Proofs.Try.prog (Builtin.append_ #[31, 31] 31 #[.slice a3 n3 c3, .slice (some (na w59)) 1 1]) w68 fun yv69 u70 =>
 ∃ ya_71 : Option Addr, ∃ yn_71 : Nat, ∃ yc_71 : Nat, yv69 = .slice ya_71 yn_71 yc_71 ∧
 (nv (IntKind.i64.wrap (x9 + 1)) fun t72 =>
 b8 ya_71 yn_71 yc_71 a7 n7 c7 x8 t72 u70))))))))))))))))))))))))))))))
 (R (.slice a3 n3 c3) w)
def thicketref07_Nodes.q2 (R : Value → World → Prop) : Exit → Act → World → Prop := (fin Go.Proofs.Try.prog Go.Proofs.Try.f50 R)
def thicketref07_Nodes.q4 (R : Value → World → Prop) : Exit → Act → World → Prop := (thicketref07_Nodes.q2 R)
def thicketref07_Nodes.q5 (R : Value → World → Prop) : Exit → Act → World → Prop := Exit.then (startN none (codeN Go.Proofs.Try.prog (sub (codeOf Go.Proofs.Try.f50) [1, 1, 1]) (nsub thicketref07_Nodes.an [1, 1, 1]) (thicketref07_Nodes.q4 R))) (thicketref07_Nodes.q4 R)
def thicketref07_Nodes.q7 (R : Value → World → Prop) : Exit → Act → World → Prop := (thicketref07_Nodes.q5 R)
def thicketref07_Nodes.q8 (R : Value → World → Prop) : Exit → Act → World → Prop := Exit.inBlock 0 (thicketref07_Nodes.q7 R)
def thicketref07_Nodes.rl8 (R : Value → World → Prop) (k : Nat) (a3 : Option Addr) (n3 : Nat) (c3 : Nat) (a7 : Option Addr) (n7 : Nat) (c7 : Nat) (x8 : Int) (x9 : Int) (w : World) : Prop := loopN [3, 7, 8, 9] (codeN Go.Proofs.Try.prog (sub (codeOf Go.Proofs.Try.f50) [1, 1, 0, 1, 0, 0]) (nsub thicketref07_Nodes.an [1, 1, 0, 1, 0, 0])) (thicketref07_Nodes.q8 R) k ⟨#[undef, undef, undef, .slice a3 n3 c3, undef, undef, undef, .slice a7 n7 c7, .int .i64 x8, .int .i64 x9, undef, undef, undef, undef, undef, undef, undef, undef, undef, undef, undef, undef, undef, undef], []⟩ w
def thicketref07_Nodes.re8 (R : Value → World → Prop) (a3 : Option Addr) (n3 : Nat) (c3 : Nat) (a7 : Option Addr) (n7 : Nat) (c7 : Nat) (x8 : Int) (x9 : Int) (w : World) : Prop := ∃ k, thicketref07_Nodes.rl8 R k a3 n3 c3 a7 n7 c7 x8 x9 w
def thicketref07_Nodes.l8 (R : Value → World → Prop) : Nat → (Option Addr) → Nat → Nat → (Option Addr) → Nat → Nat → Int → Int → World → Prop
  | 0, _, _, _, _, _, _, _, _, _ => False
  | k + 1, a3, n3, c3, a7, n7, c7, x8, x9, w => thicketref07_Nodes.g8 R (thicketref07_Nodes.l8 R k) a3 n3 c3 a7 n7 c7 x8 x9 w
def thicketref07_Nodes.e8 (R : Value → World → Prop) (a3 : Option Addr) (n3 : Nat) (c3 : Nat) (a7 : Option Addr) (n7 : Nat) (c7 : Nat) (x8 : Int) (x9 : Int) (w : World) : Prop := ∃ k, thicketref07_Nodes.l8 R k a3 n3 c3 a7 n7 c7 x8 x9 w
theorem thicketref07_Nodes.s8 (R : Value → World → Prop) (k : Nat) (a3 : Option Addr) (n3 : Nat) (c3 : Nat) (a7 : Option Addr) (n7 : Nat) (c7 : Nat) (x8 : Int) (x9 : Int) (w : World) : thicketref07_Nodes.rl8 R (k + 1) a3 n3 c3 a7 n7 c7 x8 x9 w = ∀ _ : Nat → Value, thicketref07_Nodes.g8 R (thicketref07_Nodes.rl8 R k) a3 n3 c3 a7 n7 c7 x8 x9 w := by kernel_rfl
theorem thicketref07_Nodes.lq8 (R : Value → World → Prop) : ∀ k, thicketref07_Nodes.l8 R k = thicketref07_Nodes.rl8 R k
  | 0 => by funext a3 n3 c3 a7 n7 c7 x8 x9 w; first | rfl | kernel_rfl
  | k + 1 => by
    funext a3 n3 c3 a7 n7 c7 x8 x9 w
    rw [thicketref07_Nodes.s8, forall_const]
    unfold thicketref07_Nodes.l8
    have ih := thicketref07_Nodes.lq8 R k
    rw [ih]
    all_goals rfl
theorem thicketref07_Nodes.eq8 (R : Value → World → Prop) : thicketref07_Nodes.e8 R = thicketref07_Nodes.re8 R := by
  funext a3 n3 c3 a7 n7 c7 x8 x9 w
  unfold thicketref07_Nodes.e8 thicketref07_Nodes.re8
  simp only [thicketref07_Nodes.lq8 R]
def thicketref07_Nodes (R : Value → World → Prop) (a0 : Option Addr) (n0 : Nat) (c0 : Nat) (w : World) : Prop := thicketref07_Nodes.g0 R (thicketref07_Nodes.e8 R) a0 n0 c0 w
theorem thicketref07_Nodes.root0 (R : Value → World → Prop) (a0 : Option Addr) (n0 : Nat) (c0 : Nat) (w : World) : fnN Go.Proofs.Try.prog Go.Proofs.Try.f50 thicketref07_Nodes.an #[.slice a0 n0 c0] w R = thicketref07_Nodes.g0 R (thicketref07_Nodes.re8 R) a0 n0 c0 w := by kernel_rfl
theorem thicketref07_Nodes.calls {R : Value → World → Prop} {a0 : Option Addr} {n0 : Nat} {c0 : Nat} {w : World} (h : thicketref07_Nodes R a0 n0 c0 w) : Go.E.CallsD Go.Proofs.Try.prog 50 #[.slice a0 n0 c0] w R := by
  refine callsD_of (n := thicketref07_Nodes.an) M_follows M_sizes Go.Proofs.Try.func50 (by rfl) ?_
  rw [thicketref07_Nodes.root0]
  unfold thicketref07_Nodes at h
  rw [thicketref07_Nodes.eq8 R] at h
  exact h
end Go.Mir
