/- Part of a proof of laws of the seat YtpllehijaidinaaDoor: functions' weakest preconditions, each checked by the kernel, contracts out of them, plain lemmas; no conditions. -/
import Derived.Test.YtpllehijaidinaaDoorKM0
set_option linter.unusedVariables false
set_option linter.unusedSimpArgs false
set_option linter.unusedVariables false
set_option maxRecDepth 100000
namespace Go.Mir
open Go Go.E Go.RowKit
-- thicket/trees.Goes
def trees_Goes.an : An := An.nil
def trees_Goes.g0 (R : Value → World → Prop) (x0_0 : Int) (x0_1 : Int) (x0_2 : Int) (f0_3 : Nat) (a0_4 : Option Addr) (n0_4 : Nat) (c0_4 : Nat) (x0_5 : Int) (x0_6 : Int) (x0_7 : Int) (f1 : Nat) (w : World) : Prop :=
 nw (w.alloc (.cells #[.int .u8 x0_0, .int .i64 x0_1, .int .i64 x0_2, .float .f64 f0_3, .slice a0_4 n0_4 c0_4, .int .u8 x0_5, .int .i64 x0_6, .int .i64 x0_7] 49)) fun w18 =>
 ∃ yx_19 : Int, w18.cell? ((na w).add 0) = some (.int .u8 yx_19) ∧
 (∃ yx_20 : Int, w18.cell? ((na w).add 1) = some (.int .i64 yx_20) ∧
 (∃ yx_21 : Int, w18.cell? ((na w).add 2) = some (.int .i64 yx_21) ∧
 (∃ yf_22 : Nat, w18.cell? ((na w).add 3) = some (.float .f64 yf_22) ∧
 (∃ ya_23 : Option Addr, ∃ yn_23 : Nat, ∃ yc_23 : Nat, w18.cell? ((na w).add 4) = some (.slice ya_23 yn_23 yc_23) ∧
 (∃ yx_24 : Int, w18.cell? ((na w).add 5) = some (.int .u8 yx_24) ∧
 (∃ yx_25 : Int, w18.cell? ((na w).add 6) = some (.int .i64 yx_25) ∧
 (∃ yx_26 : Int, w18.cell? ((na w).add 7) = some (.int .i64 yx_26) ∧
 (Go.E.CallsD Go.Proofs.Tryd.prog 58 #[.agg #[.int .u8 yx_19, .int .i64 yx_20, .int .i64 yx_21, .float .f64 yf_22, .slice ya_23 yn_23 yc_23, .int .u8 yx_24, .int .i64 yx_25, .int .i64 yx_26]] w18 fun yv27 u28 =>
 ∃ yv_29 : Value, yv27 = yv_29 ∧
 (ifcN Go.Proofs.Tryd.prog yv_29 "thicket/trees.goes" fun f30 r31 =>
 Go.E.CallsD Go.Proofs.Tryd.prog f30 #[r31, .float .f64 f1] u28 fun yv32 u33 =>
 ∃ yx_34 : Int, yv32 = .int .u8 yx_34 ∧
 (R (.int .u8 yx_34) u33))))))))))
def trees_Goes (R : Value → World → Prop) (x0_0 : Int) (x0_1 : Int) (x0_2 : Int) (f0_3 : Nat) (a0_4 : Option Addr) (n0_4 : Nat) (c0_4 : Nat) (x0_5 : Int) (x0_6 : Int) (x0_7 : Int) (f1 : Nat) (w : World) : Prop := trees_Goes.g0 R x0_0 x0_1 x0_2 f0_3 a0_4 n0_4 c0_4 x0_5 x0_6 x0_7 f1 w
theorem trees_Goes.root0 (R : Value → World → Prop) (x0_0 : Int) (x0_1 : Int) (x0_2 : Int) (f0_3 : Nat) (a0_4 : Option Addr) (n0_4 : Nat) (c0_4 : Nat) (x0_5 : Int) (x0_6 : Int) (x0_7 : Int) (f1 : Nat) (w : World) : fnN Go.Proofs.Tryd.prog Go.Proofs.Tryd.f34 trees_Goes.an #[.agg #[.int .u8 x0_0, .int .i64 x0_1, .int .i64 x0_2, .float .f64 f0_3, .slice a0_4 n0_4 c0_4, .int .u8 x0_5, .int .i64 x0_6, .int .i64 x0_7], .float .f64 f1] w R = trees_Goes.g0 R x0_0 x0_1 x0_2 f0_3 a0_4 n0_4 c0_4 x0_5 x0_6 x0_7 f1 w := by kernel_rfl
theorem trees_Goes.calls {R : Value → World → Prop} {x0_0 : Int} {x0_1 : Int} {x0_2 : Int} {f0_3 : Nat} {a0_4 : Option Addr} {n0_4 : Nat} {c0_4 : Nat} {x0_5 : Int} {x0_6 : Int} {x0_7 : Int} {f1 : Nat} {w : World} (h : trees_Goes R x0_0 x0_1 x0_2 f0_3 a0_4 n0_4 c0_4 x0_5 x0_6 x0_7 f1 w) : Go.E.CallsD Go.Proofs.Tryd.prog 34 #[.agg #[.int .u8 x0_0, .int .i64 x0_1, .int .i64 x0_2, .float .f64 f0_3, .slice a0_4 n0_4 c0_4, .int .u8 x0_5, .int .i64 x0_6, .int .i64 x0_7], .float .f64 f1] w R := by
  refine callsD_of (n := trees_Goes.an) M_follows M_sizes Go.Proofs.Tryd.func34 (by rfl) ?_
  rw [trees_Goes.root0]
  unfold trees_Goes at h
  exact h
-- thicket/thicketref07.Fits
def thicketref07_Fits.an : An := (.mk none .nil (.mk none (.mk none .nil (.mk none (.mk (some [1, 8, 9, 10]) .nil .nil) .nil)) .nil))
def thicketref07_Fits.g0 (R : Value → World → Prop) (e6 : Int → (Option Addr) → Nat → Nat → Int → Int → World → Prop) (x0_0 : Int) (a0_1 : Option Addr) (n0_1 : Nat) (c0_1 : Nat) (x1 : Int) (w : World) : Prop :=
 nw (w.alloc (.cells #[.int .i64 x0_0, .slice a0_1 n0_1 c0_1] 24)) fun w24 =>
 ∃ ya_25 : Option Addr, ∃ yn_25 : Nat, ∃ yc_25 : Nat, w24.cell? ((na w).add 1) = some (.slice ya_25 yn_25 yc_25) ∧
 (e6 x1 ya_25 yn_25 yc_25 (yn_25 : Int) 0 w24)
def thicketref07_Fits.g6 (R : Value → World → Prop) (b6 : Int → (Option Addr) → Nat → Nat → Int → Int → World → Prop) (x1 : Int) (a8 : Option Addr) (n8 : Nat) (c8 : Nat) (x9 : Int) (x10 : Int) (w : World) : Prop :=
 onBool (decide (x10 < x9))
 (optN a8 fun q26 =>
 chk ((0 : Int) ≤ x10 ∧ x10 < (n8 : Int))
 (∃ yx_27 : Int, w.cell? ((q26.add (x10.toNat * 8)).add 0) = some (.int .u8 yx_27) ∧
 (∃ yx_28 : Int, w.cell? ((q26.add (x10.toNat * 8)).add 1) = some (.int .i64 yx_28) ∧
 (∃ yx_29 : Int, w.cell? ((q26.add (x10.toNat * 8)).add 2) = some (.int .i64 yx_29) ∧
 (∃ yf_30 : Nat, w.cell? ((q26.add (x10.toNat * 8)).add 3) = some (.float .f64 yf_30) ∧
 (∃ ya_31 : Option Addr, ∃ yn_31 : Nat, ∃ yc_31 : Nat, w.cell? ((q26.add (x10.toNat * 8)).add 4) = some (.slice ya_31 yn_31 yc_31) ∧
 (∃ yx_32 : Int, w.cell? ((q26.add (x10.toNat * 8)).add 5) = some (.int .u8 yx_32) ∧
 (∃ yx_33 : Int, w.cell? ((q26.add (x10.toNat * 8)).add 6) = some (.int .i64 yx_33) ∧
 (∃ yx_34 : Int, w.cell? ((q26.add (x10.toNat * 8)).add 7) = some (.int .i64 yx_34) ∧
 (nw (w.alloc (.cells #[.int .u8 0, .int .i64 0, .int .i64 0, .float .f64 0, .slice none 0 0, .int .u8 0, .int .i64 0, .int .i64 0] 49)) fun w35 =>
 okSt w35 ((na w).add 0) ∧
 (nw (w35.setCell ((na w).add 0) (.int .u8 yx_27)) fun w36 =>
 okSt w36 ((na w).add 1) ∧
 (nw (w36.setCell ((na w).add 1) (.int .i64 yx_28)) fun w37 =>
 okSt w37 ((na w).add 2) ∧
 (nw (w37.setCell ((na w).add 2) (.int .i64 yx_29)) fun w38 =>
 okSt w38 ((na w).add 3) ∧
 (nw (w38.setCell ((na w).add 3) (.float .f64 yf_30)) fun w39 =>
 okSt w39 ((na w).add 4) ∧
 (nw (w39.setCell ((na w).add 4) (.slice ya_31 yn_31 yc_31)) fun w40 =>
 okSt w40 ((na w).add 5) ∧
 (nw (w40.setCell ((na w).add 5) (.int .u8 yx_32)) fun w41 =>
 okSt w41 ((na w).add 6) ∧
 (nw (w41.setCell ((na w).add 6) (.int .i64 yx_33)) fun w42 =>
 okSt w42 ((na w).add 7) ∧
 (nw (w42.setCell ((na w).add 7) (.int .i64 yx_34)) fun w43 =>
 ∃ yx_44 : Int, w43.cell? ((na w).add 0) = some (.int .u8 yx_44) ∧
 (onBool (yx_44 != 1)
 (∃ yx_45 : Int, w43.cell? ((na w).add 2) = some (.int .i64 yx_45) ∧
 (onBool (decide (yx_45 ≥ x1))
 (R (.bool false) w43)
 (nv (IntKind.i64.wrap (x10 + 1)) fun t46 =>
 b6 x1 a8 n8 c8 x9 t46 w43)))
 (nv (IntKind.i64.wrap (x10 + 1)) fun t47 =>
 b6 x1 a8 n8 c8 x9 t47 w43))))))))))))))))))))
 (R (.bool true) w)
def thicketref07_Fits.q2 (R : Value → World → Prop) : Exit → Act → World → Prop := (fin Go.Proofs.Tryd.prog Go.Proofs.Tryd.f35 R)
def thicketref07_Fits.q3 (R : Value → World → Prop) : Exit → Act → World → Prop := Exit.then (startN none (codeN Go.Proofs.Tryd.prog (sub (codeOf Go.Proofs.Tryd.f35) [1, 1]) (nsub thicketref07_Fits.an [1, 1]) (thicketref07_Fits.q2 R))) (thicketref07_Fits.q2 R)
def thicketref07_Fits.q5 (R : Value → World → Prop) : Exit → Act → World → Prop := (thicketref07_Fits.q3 R)
def thicketref07_Fits.q6 (R : Value → World → Prop) : Exit → Act → World → Prop := Exit.inBlock 0 (thicketref07_Fits.q5 R)
def thicketref07_Fits.rl6 (R : Value → World → Prop) (k : Nat) (x1 : Int) (a8 : Option Addr) (n8 : Nat) (c8 : Nat) (x9 : Int) (x10 : Int) (w : World) : Prop := loopN [1, 8, 9, 10] (codeN Go.Proofs.Tryd.prog (sub (codeOf Go.Proofs.Tryd.f35) [1, 0, 1, 0, 0]) (nsub thicketref07_Fits.an [1, 0, 1, 0, 0])) (thicketref07_Fits.q6 R) k ⟨#[undef, .int .i64 x1, undef, undef, undef, undef, undef, undef, .slice a8 n8 c8, .int .i64 x9, .int .i64 x10, undef, undef, undef, undef, undef, undef, undef, undef, undef, undef, undef, undef, undef], []⟩ w
def thicketref07_Fits.re6 (R : Value → World → Prop) (x1 : Int) (a8 : Option Addr) (n8 : Nat) (c8 : Nat) (x9 : Int) (x10 : Int) (w : World) : Prop := ∃ k, thicketref07_Fits.rl6 R k x1 a8 n8 c8 x9 x10 w
def thicketref07_Fits.l6 (R : Value → World → Prop) : Nat → Int → (Option Addr) → Nat → Nat → Int → Int → World → Prop
  | 0, _, _, _, _, _, _, _ => False
  | k + 1, x1, a8, n8, c8, x9, x10, w => thicketref07_Fits.g6 R (thicketref07_Fits.l6 R k) x1 a8 n8 c8 x9 x10 w
def thicketref07_Fits.e6 (R : Value → World → Prop) (x1 : Int) (a8 : Option Addr) (n8 : Nat) (c8 : Nat) (x9 : Int) (x10 : Int) (w : World) : Prop := ∃ k, thicketref07_Fits.l6 R k x1 a8 n8 c8 x9 x10 w
theorem thicketref07_Fits.s6 (R : Value → World → Prop) (k : Nat) (x1 : Int) (a8 : Option Addr) (n8 : Nat) (c8 : Nat) (x9 : Int) (x10 : Int) (w : World) : thicketref07_Fits.rl6 R (k + 1) x1 a8 n8 c8 x9 x10 w = ∀ _ : Nat → Value, thicketref07_Fits.g6 R (thicketref07_Fits.rl6 R k) x1 a8 n8 c8 x9 x10 w := by kernel_rfl
theorem thicketref07_Fits.lq6 (R : Value → World → Prop) : ∀ k, thicketref07_Fits.l6 R k = thicketref07_Fits.rl6 R k
  | 0 => by funext x1 a8 n8 c8 x9 x10 w; first | rfl | kernel_rfl
  | k + 1 => by
    funext x1 a8 n8 c8 x9 x10 w
    rw [thicketref07_Fits.s6, forall_const]
    unfold thicketref07_Fits.l6
    have ih := thicketref07_Fits.lq6 R k
    rw [ih]
    all_goals rfl
theorem thicketref07_Fits.eq6 (R : Value → World → Prop) : thicketref07_Fits.e6 R = thicketref07_Fits.re6 R := by
  funext x1 a8 n8 c8 x9 x10 w
  unfold thicketref07_Fits.e6 thicketref07_Fits.re6
  simp only [thicketref07_Fits.lq6 R]
def thicketref07_Fits (R : Value → World → Prop) (x0_0 : Int) (a0_1 : Option Addr) (n0_1 : Nat) (c0_1 : Nat) (x1 : Int) (w : World) : Prop := thicketref07_Fits.g0 R (thicketref07_Fits.e6 R) x0_0 a0_1 n0_1 c0_1 x1 w
theorem thicketref07_Fits.root0 (R : Value → World → Prop) (x0_0 : Int) (a0_1 : Option Addr) (n0_1 : Nat) (c0_1 : Nat) (x1 : Int) (w : World) : fnN Go.Proofs.Tryd.prog Go.Proofs.Tryd.f35 thicketref07_Fits.an #[.agg #[.int .i64 x0_0, .slice a0_1 n0_1 c0_1], .int .i64 x1] w R = thicketref07_Fits.g0 R (thicketref07_Fits.re6 R) x0_0 a0_1 n0_1 c0_1 x1 w := by kernel_rfl
theorem thicketref07_Fits.calls {R : Value → World → Prop} {x0_0 : Int} {a0_1 : Option Addr} {n0_1 : Nat} {c0_1 : Nat} {x1 : Int} {w : World} (h : thicketref07_Fits R x0_0 a0_1 n0_1 c0_1 x1 w) : Go.E.CallsD Go.Proofs.Tryd.prog 35 #[.agg #[.int .i64 x0_0, .slice a0_1 n0_1 c0_1], .int .i64 x1] w R := by
  refine callsD_of (n := thicketref07_Fits.an) M_follows M_sizes Go.Proofs.Tryd.func35 (by rfl) ?_
  rw [thicketref07_Fits.root0]
  unfold thicketref07_Fits at h
  rw [thicketref07_Fits.eq6 R] at h
  exact h
-- thicket/thicketref07.Goes
def thicketref07_Goes.an : An := (.mk none .nil (.mk none .nil (.mk none .nil (.mk none .nil (.mk none (.mk none .nil (.mk none (.mk (some [1, 27, 28, 29]) .nil .nil) .nil)) .nil)))))
def thicketref07_Goes.g0 (R : Value → World → Prop) (e38 : Nat → (Option Addr) → Nat → Nat → Int → Int → World → Prop) (x0_0 : Int) (x0_1 : Int) (x0_2 : Int) (f0_3 : Nat) (a0_4 : Option Addr) (n0_4 : Nat) (c0_4 : Nat) (x0_5 : Int) (x0_6 : Int) (x0_7 : Int) (f1 : Nat) (w : World) : Prop :=
 nw (w.alloc (.cells #[.int .u8 x0_0, .int .i64 x0_1, .int .i64 x0_2, .float .f64 f0_3, .slice a0_4 n0_4 c0_4, .int .u8 x0_5, .int .i64 x0_6, .int .i64 x0_7] 49)) fun w15 =>
 ∃ yx_16 : Int, w15.cell? ((na w).add 0) = some (.int .u8 yx_16) ∧
 (onBool (yx_16 != 2)
 (∃ yx_17 : Int, w15.cell? ((na w).add 0) = some (.int .u8 yx_17) ∧
 (onBool (yx_17 != 3)
 (R (.int .u8 0) w15)
 (Go.E.CallsD Go.Proofs.Tryd.prog 59 #[.float .f64 f1] w15 fun yv18 u19 =>
 ∃ yb_20 : Bool, yv18 = .bool yb_20 ∧
 (onBool yb_20
 (∃ yx_21 : Int, u19.cell? ((na w).add 5) = some (.int .u8 yx_21) ∧
 (R (.int .u8 yx_21) u19))
 (∃ yx_22 : Int, u19.cell? ((na w).add 0) = some (.int .u8 yx_22) ∧
 (onBool (yx_22 == 2)
 (∃ yf_23 : Nat, u19.cell? ((na w).add 3) = some (.float .f64 yf_23) ∧
 (onBool ((FloatKind.f64.format.order f1 yf_23 == some .lt) || (FloatKind.f64.format.order f1 yf_23 == some .eq))
 (R (.int .u8 1) u19)
 (R (.int .u8 2) u19)))
 (∃ ya_24 : Option Addr, ∃ yn_24 : Nat, ∃ yc_24 : Nat, u19.cell? ((na w).add 4) = some (.slice ya_24 yn_24 yc_24) ∧
 (e38 f1 ya_24 yn_24 yc_24 (yn_24 : Int) 0 u19))))))))
 (Go.E.CallsD Go.Proofs.Tryd.prog 59 #[.float .f64 f1] w15 fun yv25 u26 =>
 ∃ yb_27 : Bool, yv25 = .bool yb_27 ∧
 (onBool yb_27
 (∃ yx_28 : Int, u26.cell? ((na w).add 5) = some (.int .u8 yx_28) ∧
 (R (.int .u8 yx_28) u26))
 (∃ yx_29 : Int, u26.cell? ((na w).add 0) = some (.int .u8 yx_29) ∧
 (onBool (yx_29 == 2)
 (∃ yf_30 : Nat, u26.cell? ((na w).add 3) = some (.float .f64 yf_30) ∧
 (onBool ((FloatKind.f64.format.order f1 yf_30 == some .lt) || (FloatKind.f64.format.order f1 yf_30 == some .eq))
 (R (.int .u8 1) u26)
 (R (.int .u8 2) u26)))
 (∃ ya_31 : Option Addr, ∃ yn_31 : Nat, ∃ yc_31 : Nat, u26.cell? ((na w).add 4) = some (.slice ya_31 yn_31 yc_31) ∧
 (e38 f1 ya_31 yn_31 yc_31 (yn_31 : Int) 0 u26)))))))
def thicketref07_Goes.g38 (R : Value → World → Prop) (b38 : Nat → (Option Addr) → Nat → Nat → Int → Int → World → Prop) (f1 : Nat) (a27 : Option Addr) (n27 : Nat) (c27 : Nat) (x28 : Int) (x29 : Int) (w : World) : Prop :=
 onBool (decide (x29 < x28))
 (optN a27 fun q32 =>
 chk ((0 : Int) ≤ x29 ∧ x29 < (n27 : Int))
 (∃ yx_33 : Int, w.cell? (q32.add (x29.toNat * 1)) = some (.int .i64 yx_33) ∧
 (nv (FloatKind.f64.nearest yx_33) fun t34 =>
 onBool (FloatKind.f64.format.order f1 t34 == some .eq)
 (R (.int .u8 1) w)
 (nv (IntKind.i64.wrap (x29 + 1)) fun t35 =>
 b38 f1 a27 n27 c27 x28 t35 w))))
 (R (.int .u8 2) w)
def thicketref07_Goes.q2 (R : Value → World → Prop) : Exit → Act → World → Prop := (fin Go.Proofs.Tryd.prog Go.Proofs.Tryd.f36 R)
def thicketref07_Goes.q10 (R : Value → World → Prop) : Exit → Act → World → Prop := (thicketref07_Goes.q2 R)
def thicketref07_Goes.q18 (R : Value → World → Prop) : Exit → Act → World → Prop := (thicketref07_Goes.q10 R)
def thicketref07_Goes.q34 (R : Value → World → Prop) : Exit → Act → World → Prop := (thicketref07_Goes.q18 R)
def thicketref07_Goes.q35 (R : Value → World → Prop) : Exit → Act → World → Prop := Exit.then (startN none (codeN Go.Proofs.Tryd.prog (sub (codeOf Go.Proofs.Tryd.f36) [1, 1, 1, 1, 1]) (nsub thicketref07_Goes.an [1, 1, 1, 1, 1]) (thicketref07_Goes.q34 R))) (thicketref07_Goes.q34 R)
def thicketref07_Goes.q37 (R : Value → World → Prop) : Exit → Act → World → Prop := (thicketref07_Goes.q35 R)
def thicketref07_Goes.q38 (R : Value → World → Prop) : Exit → Act → World → Prop := Exit.inBlock 0 (thicketref07_Goes.q37 R)
def thicketref07_Goes.rl38 (R : Value → World → Prop) (k : Nat) (f1 : Nat) (a27 : Option Addr) (n27 : Nat) (c27 : Nat) (x28 : Int) (x29 : Int) (w : World) : Prop := loopN [1, 27, 28, 29] (codeN Go.Proofs.Tryd.prog (sub (codeOf Go.Proofs.Tryd.f36) [1, 1, 1, 1, 0, 1, 0, 0]) (nsub thicketref07_Goes.an [1, 1, 1, 1, 0, 1, 0, 0])) (thicketref07_Goes.q38 R) k ⟨#[undef, .float .f64 f1, undef, undef, undef, undef, undef, undef, undef, undef, undef, undef, undef, undef, undef, undef, undef, undef, undef, undef, undef, undef, undef, undef, undef, undef, undef, .slice a27 n27 c27, .int .i64 x28, .int .i64 x29, undef, undef, undef, undef, undef, undef, undef, undef], []⟩ w
def thicketref07_Goes.re38 (R : Value → World → Prop) (f1 : Nat) (a27 : Option Addr) (n27 : Nat) (c27 : Nat) (x28 : Int) (x29 : Int) (w : World) : Prop := ∃ k, thicketref07_Goes.rl38 R k f1 a27 n27 c27 x28 x29 w
def thicketref07_Goes.l38 (R : Value → World → Prop) : Nat → Nat → (Option Addr) → Nat → Nat → Int → Int → World → Prop
  | 0, _, _, _, _, _, _, _ => False
  | k + 1, f1, a27, n27, c27, x28, x29, w => thicketref07_Goes.g38 R (thicketref07_Goes.l38 R k) f1 a27 n27 c27 x28 x29 w
def thicketref07_Goes.e38 (R : Value → World → Prop) (f1 : Nat) (a27 : Option Addr) (n27 : Nat) (c27 : Nat) (x28 : Int) (x29 : Int) (w : World) : Prop := ∃ k, thicketref07_Goes.l38 R k f1 a27 n27 c27 x28 x29 w
theorem thicketref07_Goes.s38 (R : Value → World → Prop) (k : Nat) (f1 : Nat) (a27 : Option Addr) (n27 : Nat) (c27 : Nat) (x28 : Int) (x29 : Int) (w : World) : thicketref07_Goes.rl38 R (k + 1) f1 a27 n27 c27 x28 x29 w = ∀ _ : Nat → Value, thicketref07_Goes.g38 R (thicketref07_Goes.rl38 R k) f1 a27 n27 c27 x28 x29 w := by kernel_rfl
theorem thicketref07_Goes.lq38 (R : Value → World → Prop) : ∀ k, thicketref07_Goes.l38 R k = thicketref07_Goes.rl38 R k
  | 0 => by funext f1 a27 n27 c27 x28 x29 w; first | rfl | kernel_rfl
  | k + 1 => by
    funext f1 a27 n27 c27 x28 x29 w
    rw [thicketref07_Goes.s38, forall_const]
    unfold thicketref07_Goes.l38
    have ih := thicketref07_Goes.lq38 R k
    rw [ih]
    all_goals rfl
theorem thicketref07_Goes.eq38 (R : Value → World → Prop) : thicketref07_Goes.e38 R = thicketref07_Goes.re38 R := by
  funext f1 a27 n27 c27 x28 x29 w
  unfold thicketref07_Goes.e38 thicketref07_Goes.re38
  simp only [thicketref07_Goes.lq38 R]
def thicketref07_Goes (R : Value → World → Prop) (x0_0 : Int) (x0_1 : Int) (x0_2 : Int) (f0_3 : Nat) (a0_4 : Option Addr) (n0_4 : Nat) (c0_4 : Nat) (x0_5 : Int) (x0_6 : Int) (x0_7 : Int) (f1 : Nat) (w : World) : Prop := thicketref07_Goes.g0 R (thicketref07_Goes.e38 R) x0_0 x0_1 x0_2 f0_3 a0_4 n0_4 c0_4 x0_5 x0_6 x0_7 f1 w
theorem thicketref07_Goes.root0 (R : Value → World → Prop) (x0_0 : Int) (x0_1 : Int) (x0_2 : Int) (f0_3 : Nat) (a0_4 : Option Addr) (n0_4 : Nat) (c0_4 : Nat) (x0_5 : Int) (x0_6 : Int) (x0_7 : Int) (f1 : Nat) (w : World) : fnN Go.Proofs.Tryd.prog Go.Proofs.Tryd.f36 thicketref07_Goes.an #[.agg #[.int .u8 x0_0, .int .i64 x0_1, .int .i64 x0_2, .float .f64 f0_3, .slice a0_4 n0_4 c0_4, .int .u8 x0_5, .int .i64 x0_6, .int .i64 x0_7], .float .f64 f1] w R = thicketref07_Goes.g0 R (thicketref07_Goes.re38 R) x0_0 x0_1 x0_2 f0_3 a0_4 n0_4 c0_4 x0_5 x0_6 x0_7 f1 w := by kernel_rfl
theorem thicketref07_Goes.calls {R : Value → World → Prop} {x0_0 : Int} {x0_1 : Int} {x0_2 : Int} {f0_3 : Nat} {a0_4 : Option Addr} {n0_4 : Nat} {c0_4 : Nat} {x0_5 : Int} {x0_6 : Int} {x0_7 : Int} {f1 : Nat} {w : World} (h : thicketref07_Goes R x0_0 x0_1 x0_2 f0_3 a0_4 n0_4 c0_4 x0_5 x0_6 x0_7 f1 w) : Go.E.CallsD Go.Proofs.Tryd.prog 36 #[.agg #[.int .u8 x0_0, .int .i64 x0_1, .int .i64 x0_2, .float .f64 f0_3, .slice a0_4 n0_4 c0_4, .int .u8 x0_5, .int .i64 x0_6, .int .i64 x0_7], .float .f64 f1] w R := by
  refine callsD_of (n := thicketref07_Goes.an) M_follows M_sizes Go.Proofs.Tryd.func36 (by rfl) ?_
  rw [thicketref07_Goes.root0]
  unfold thicketref07_Goes at h
  rw [thicketref07_Goes.eq38 R] at h
  exact h
-- thicket/masks.leaves
def masks_leaves.an : An := An.nil
def masks_leaves.g0 (R : Value → World → Prop) (x0_0 : Int) (a0_1 : Option Addr) (n0_1 : Nat) (c0_1 : Nat) (w : World) : Prop :=
 nw (w.alloc (.cells #[.int .i64 x0_0, .slice a0_1 n0_1 c0_1] 24)) fun w7 =>
 ∃ yx_8 : Int, w7.cell? ((na w).add 0) = some (.int .i64 yx_8) ∧
 (∃ ya_9 : Option Addr, ∃ yn_9 : Nat, ∃ yc_9 : Nat, w7.cell? ((na w).add 1) = some (.slice ya_9 yn_9 yc_9) ∧
 (Go.E.CallsD Go.Proofs.Tryd.prog 19 #[.agg #[.int .i64 yx_8, .slice ya_9 yn_9 yc_9]] w7 fun yv10 u11 =>
 ∃ ya_12_0 : Option Addr, ∃ yn_12_0 : Nat, ∃ yc_12_0 : Nat, ∃ yx_12_1 : Int, yv10 = .tuple #[.slice ya_12_0 yn_12_0 yc_12_0, .int .i64 yx_12_1] ∧
 (onBool (yx_12_1 == 0)
 (onBool (decide ((yn_12_0 : Int) > 4096))
 (R (.tuple #[.int .i64 0, .int .i64 3]) u11)
 (R (.tuple #[.int .i64 (yn_12_0 : Int), .int .i64 yx_12_1]) u11))
 (R (.tuple #[.int .i64 (yn_12_0 : Int), .int .i64 yx_12_1]) u11))))
def masks_leaves (R : Value → World → Prop) (x0_0 : Int) (a0_1 : Option Addr) (n0_1 : Nat) (c0_1 : Nat) (w : World) : Prop := masks_leaves.g0 R x0_0 a0_1 n0_1 c0_1 w
theorem masks_leaves.root0 (R : Value → World → Prop) (x0_0 : Int) (a0_1 : Option Addr) (n0_1 : Nat) (c0_1 : Nat) (w : World) : fnN Go.Proofs.Tryd.prog Go.Proofs.Tryd.f37 masks_leaves.an #[.agg #[.int .i64 x0_0, .slice a0_1 n0_1 c0_1]] w R = masks_leaves.g0 R x0_0 a0_1 n0_1 c0_1 w := by kernel_rfl
theorem masks_leaves.calls {R : Value → World → Prop} {x0_0 : Int} {a0_1 : Option Addr} {n0_1 : Nat} {c0_1 : Nat} {w : World} (h : masks_leaves R x0_0 a0_1 n0_1 c0_1 w) : Go.E.CallsD Go.Proofs.Tryd.prog 37 #[.agg #[.int .i64 x0_0, .slice a0_1 n0_1 c0_1]] w R := by
  refine callsD_of (n := masks_leaves.an) M_follows M_sizes Go.Proofs.Tryd.func37 (by rfl) ?_
  rw [masks_leaves.root0]
  unfold masks_leaves at h
  exact h
-- thicket/thicketref13.Count
def thicketref13_Count.an : An := An.nil
def thicketref13_Count.g0 (R : Value → World → Prop) (x0_0 : Int) (a0_1 : Option Addr) (n0_1 : Nat) (c0_1 : Nat) (w : World) : Prop :=
 nw (w.alloc (.cells #[.int .i64 x0_0, .slice a0_1 n0_1 c0_1] 24)) fun w7 =>
 ∃ yx_8 : Int, w7.cell? ((na w).add 0) = some (.int .i64 yx_8) ∧
 (∃ ya_9 : Option Addr, ∃ yn_9 : Nat, ∃ yc_9 : Nat, w7.cell? ((na w).add 1) = some (.slice ya_9 yn_9 yc_9) ∧
 (Go.E.CallsD Go.Proofs.Tryd.prog 42 #[.agg #[.int .i64 yx_8, .slice ya_9 yn_9 yc_9]] w7 fun yv10 u11 =>
 ∃ ya_12_0 : Option Addr, ∃ yn_12_0 : Nat, ∃ yc_12_0 : Nat, ∃ yx_12_1 : Int, yv10 = .tuple #[.slice ya_12_0 yn_12_0 yc_12_0, .int .i64 yx_12_1] ∧
 (onBool (yx_12_1 != 0)
 (R (.tuple #[.int .i64 0, .int .i64 yx_12_1]) u11)
 (onBool (decide ((yn_12_0 : Int) > 4096))
 (R (.tuple #[.int .i64 0, .int .i64 3]) u11)
 (R (.tuple #[.int .i64 (yn_12_0 : Int), .int .i64 0]) u11)))))
def thicketref13_Count (R : Value → World → Prop) (x0_0 : Int) (a0_1 : Option Addr) (n0_1 : Nat) (c0_1 : Nat) (w : World) : Prop := thicketref13_Count.g0 R x0_0 a0_1 n0_1 c0_1 w
theorem thicketref13_Count.root0 (R : Value → World → Prop) (x0_0 : Int) (a0_1 : Option Addr) (n0_1 : Nat) (c0_1 : Nat) (w : World) : fnN Go.Proofs.Tryd.prog Go.Proofs.Tryd.f38 thicketref13_Count.an #[.agg #[.int .i64 x0_0, .slice a0_1 n0_1 c0_1]] w R = thicketref13_Count.g0 R x0_0 a0_1 n0_1 c0_1 w := by kernel_rfl
theorem thicketref13_Count.calls {R : Value → World → Prop} {x0_0 : Int} {a0_1 : Option Addr} {n0_1 : Nat} {c0_1 : Nat} {w : World} (h : thicketref13_Count R x0_0 a0_1 n0_1 c0_1 w) : Go.E.CallsD Go.Proofs.Tryd.prog 38 #[.agg #[.int .i64 x0_0, .slice a0_1 n0_1 c0_1]] w R := by
  refine callsD_of (n := thicketref13_Count.an) M_follows M_sizes Go.Proofs.Tryd.func38 (by rfl) ?_
  rw [thicketref13_Count.root0]
  unfold thicketref13_Count at h
  exact h
-- thicket/thicketref05.Full
def thicketref05_Full.an : An := An.nil
def thicketref05_Full.g0 (R : Value → World → Prop) (x0 : Int) (w : World) : Prop :=
 onBool (decide (x0 < 0))
 (R (.tuple #[.slice none 0 0, .int .i64 2]) w)
 (onBool (decide (x0 > 1048576))
 (R (.tuple #[.slice none 0 0, .int .i64 2]) w)
 (Go.E.CallsD Go.Proofs.Tryd.prog 60 #[.int .i64 x0, .int .i64 0, .int .i64 0, .bool false] w fun yv1 u2 =>
 ∃ ya_3 : Option Addr, ∃ yn_3 : Nat, ∃ yc_3 : Nat, yv1 = .slice ya_3 yn_3 yc_3 ∧
 (R (.tuple #[.slice ya_3 yn_3 yc_3, .int .i64 0]) u2)))
def thicketref05_Full (R : Value → World → Prop) (x0 : Int) (w : World) : Prop := thicketref05_Full.g0 R x0 w
theorem thicketref05_Full.root0 (R : Value → World → Prop) (x0 : Int) (w : World) : fnN Go.Proofs.Tryd.prog Go.Proofs.Tryd.f39 thicketref05_Full.an #[.int .i64 x0] w R = thicketref05_Full.g0 R x0 w := by kernel_rfl
theorem thicketref05_Full.calls {R : Value → World → Prop} {x0 : Int} {w : World} (h : thicketref05_Full R x0 w) : Go.E.CallsD Go.Proofs.Tryd.prog 39 #[.int .i64 x0] w R := by
  refine callsD_of (n := thicketref05_Full.an) M_follows M_sizes Go.Proofs.Tryd.func39 (by rfl) ?_
  rw [thicketref05_Full.root0]
  unfold thicketref05_Full at h
  exact h
-- thicket/thicketref05.Put
def thicketref05_Put.an : An := An.nil
def thicketref05_Put.g0 (R : Value → World → Prop) (a0 : Option Addr) (n0 : Nat) (c0 : Nat) (x1 : Int) (b2 : Bool) (w : World) : Prop :=
 onBool (decide (x1 < 0))
 (R (.tuple #[.slice none 0 0, .int .i64 2]) w)
 (nv (IntKind.i64.wrap (Int.tdiv x1 64)) fun t2 =>
 onBool (decide (t2 ≥ (n0 : Int)))
 (R (.tuple #[.slice none 0 0, .int .i64 2]) w)
 (rawN Go.Proofs.Tryd.prog (Builtin.append_ #[30, 30] 30 #[.slice none 0 0, .slice a0 n0 c0]) w fun yv3 u4 =>
 ∃ ya_5 : Option Addr, ∃ yn_5 : Nat, ∃ yc_5 : Nat, yv3 = .slice ya_5 yn_5 yc_5 ∧
 (nv (IntKind.i64.wrap (Int.tdiv x1 64)) fun t6 =>
 nv (IntKind.i64.wrap (Int.tdiv x1 64)) fun t7 =>
 optN ya_5 fun q8 =>
 chk ((0 : Int) ≤ t7 ∧ t7 < (yn_5 : Int))
 (∃ yx_9 : Int, u4.cell? (q8.add (t7.toNat * 1)) = some (.int .u64 yx_9) ∧
 (nv (Int.tmod x1 64) fun t10 =>
 nv (IntKind.u64.wrap t10) fun t11 =>
 nchk (t11 < 0)
 (nv (IntKind.u64.wrap (1 * 2 ^ (min t11.toNat 64))) fun t12 =>
 nv (bitsI .andNot .u64 yx_9 t12) fun t13 =>
 optN ya_5 fun q14 =>
 chk ((0 : Int) ≤ t6 ∧ t6 < (yn_5 : Int))
 (okSt u4 ((q14.add (t6.toNat * 1)).add 0) ∧
 (nw (u4.setCell ((q14.add (t6.toNat * 1)).add 0) (.int .u64 t13)) fun w15 =>
 onBool b2
 (nv (IntKind.i64.wrap (Int.tdiv x1 64)) fun t16 =>
 nv (IntKind.i64.wrap (Int.tdiv x1 64)) fun t17 =>
 optN ya_5 fun q18 =>
 chk ((0 : Int) ≤ t17 ∧ t17 < (yn_5 : Int))
 (∃ yx_19 : Int, w15.cell? (q18.add (t17.toNat * 1)) = some (.int .u64 yx_19) ∧
 (nv (Int.tmod x1 64) fun t20 =>
 nv (IntKind.u64.wrap t20) fun t21 =>
 nchk (t21 < 0)
 (nv (IntKind.u64.wrap (1 * 2 ^ (min t21.toNat 64))) fun t22 =>
 nv (bitsI .or .u64 yx_19 t22) fun t23 =>
 optN ya_5 fun q24 =>
 chk ((0 : Int) ≤ t16 ∧ t16 < (yn_5 : Int))
 (okSt w15 ((q24.add (t16.toNat * 1)).add 0) ∧
 (nw (w15.setCell ((q24.add (t16.toNat * 1)).add 0) (.int .u64 t23)) fun w25 =>
 R (.tuple #[.slice ya_5 yn_5 yc_5, .int .i64 0]) w25))))))
 (R (.tuple #[.slice ya_5 yn_5 yc_5, .int .i64 0]) w15)))))))))
def thicketref05_Put (R : Value → World → Prop) (a0 : Option Addr) (n0 : Nat) (c0 : Nat) (x1 : Int) (b2 : Bool) (w : World) : Prop := thicketref05_Put.g0 R a0 n0 c0 x1 b2 w
theorem thicketref05_Put.root0 (R : Value → World → Prop) (a0 : Option Addr) (n0 : Nat) (c0 : Nat) (x1 : Int) (b2 : Bool) (w : World) : fnN Go.Proofs.Tryd.prog Go.Proofs.Tryd.f40 thicketref05_Put.an #[.slice a0 n0 c0, .int .i64 x1, .bool b2] w R = thicketref05_Put.g0 R a0 n0 c0 x1 b2 w := by kernel_rfl
theorem thicketref05_Put.calls {R : Value → World → Prop} {a0 : Option Addr} {n0 : Nat} {c0 : Nat} {x1 : Int} {b2 : Bool} {w : World} (h : thicketref05_Put R a0 n0 c0 x1 b2 w) : Go.E.CallsD Go.Proofs.Tryd.prog 40 #[.slice a0 n0 c0, .int .i64 x1, .bool b2] w R := by
  refine callsD_of (n := thicketref05_Put.an) M_follows M_sizes Go.Proofs.Tryd.func40 (by rfl) ?_
  rw [thicketref05_Put.root0]
  unfold thicketref05_Put at h
  exact h
-- thicket/bits.Lowest
def bits_Lowest.an : An := (.mk none .nil (.mk none (.mk none .nil (.mk none (.mk (some [5, 6, 7]) .nil .nil) .nil)) .nil))
def bits_Lowest.g0 (R : Value → World → Prop) (e6 : (Option Addr) → Nat → Nat → Int → Int → World → Prop) (a0 : Option Addr) (n0 : Nat) (c0 : Nat) (w : World) : Prop :=
 e6 a0 n0 c0 (n0 : Int) 0 w
def bits_Lowest.g6 (R : Value → World → Prop) (b6 : (Option Addr) → Nat → Nat → Int → Int → World → Prop) (a5 : Option Addr) (n5 : Nat) (c5 : Nat) (x6 : Int) (x7 : Int) (w : World) : Prop :=
 onBool (decide (x7 < x6))
 (optN a5 fun q9 =>
 chk ((0 : Int) ≤ x7 ∧ x7 < (n5 : Int))
 (∃ yx_10 : Int, w.cell? (q9.add (x7.toNat * 1)) = some (.int .u64 yx_10) ∧
 (onBool (yx_10 != 0)
 (nv (IntKind.i64.wrap (64 * x7)) fun t11 =>
 Go.E.CallsD Go.Proofs.Tryd.prog 61 #[.int .u64 yx_10] w fun yv12 u13 =>
 ∃ yx_14 : Int, yv12 = .int .i64 yx_14 ∧
 (nv (IntKind.i64.wrap (t11 + yx_14)) fun t15 =>
 R (.int .i64 t15) u13))
 (nv (IntKind.i64.wrap (x7 + 1)) fun t16 =>
 b6 a5 n5 c5 x6 t16 w))))
 (R (.int .i64 (-1)) w)
def bits_Lowest.q2 (R : Value → World → Prop) : Exit → Act → World → Prop := (fin Go.Proofs.Tryd.prog Go.Proofs.Tryd.f41 R)
def bits_Lowest.q3 (R : Value → World → Prop) : Exit → Act → World → Prop := Exit.then (startN none (codeN Go.Proofs.Tryd.prog (sub (codeOf Go.Proofs.Tryd.f41) [1, 1]) (nsub bits_Lowest.an [1, 1]) (bits_Lowest.q2 R))) (bits_Lowest.q2 R)
def bits_Lowest.q5 (R : Value → World → Prop) : Exit → Act → World → Prop := (bits_Lowest.q3 R)
def bits_Lowest.q6 (R : Value → World → Prop) : Exit → Act → World → Prop := Exit.inBlock 0 (bits_Lowest.q5 R)
def bits_Lowest.rl6 (R : Value → World → Prop) (k : Nat) (a5 : Option Addr) (n5 : Nat) (c5 : Nat) (x6 : Int) (x7 : Int) (w : World) : Prop := loopN [5, 6, 7] (codeN Go.Proofs.Tryd.prog (sub (codeOf Go.Proofs.Tryd.f41) [1, 0, 1, 0, 0]) (nsub bits_Lowest.an [1, 0, 1, 0, 0])) (bits_Lowest.q6 R) k ⟨#[undef, undef, undef, undef, undef, .slice a5 n5 c5, .int .i64 x6, .int .i64 x7, undef, undef, undef, undef, undef, undef, undef, undef, undef, undef, undef, undef], []⟩ w
def bits_Lowest.re6 (R : Value → World → Prop) (a5 : Option Addr) (n5 : Nat) (c5 : Nat) (x6 : Int) (x7 : Int) (w : World) : Prop := ∃ k, bits_Lowest.rl6 R k a5 n5 c5 x6 x7 w
def bits_Lowest.l6 (R : Value → World → Prop) : Nat → (Option Addr) → Nat → Nat → Int → Int → World → Prop
  | 0, _, _, _, _, _, _ => False
  | k + 1, a5, n5, c5, x6, x7, w => bits_Lowest.g6 R (bits_Lowest.l6 R k) a5 n5 c5 x6 x7 w
def bits_Lowest.e6 (R : Value → World → Prop) (a5 : Option Addr) (n5 : Nat) (c5 : Nat) (x6 : Int) (x7 : Int) (w : World) : Prop := ∃ k, bits_Lowest.l6 R k a5 n5 c5 x6 x7 w
theorem bits_Lowest.s6 (R : Value → World → Prop) (k : Nat) (a5 : Option Addr) (n5 : Nat) (c5 : Nat) (x6 : Int) (x7 : Int) (w : World) : bits_Lowest.rl6 R (k + 1) a5 n5 c5 x6 x7 w = ∀ _ : Nat → Value, bits_Lowest.g6 R (bits_Lowest.rl6 R k) a5 n5 c5 x6 x7 w := by kernel_rfl
theorem bits_Lowest.lq6 (R : Value → World → Prop) : ∀ k, bits_Lowest.l6 R k = bits_Lowest.rl6 R k
  | 0 => by funext a5 n5 c5 x6 x7 w; first | rfl | kernel_rfl
  | k + 1 => by
    funext a5 n5 c5 x6 x7 w
    rw [bits_Lowest.s6, forall_const]
    unfold bits_Lowest.l6
    have ih := bits_Lowest.lq6 R k
    rw [ih]
    all_goals rfl
theorem bits_Lowest.eq6 (R : Value → World → Prop) : bits_Lowest.e6 R = bits_Lowest.re6 R := by
  funext a5 n5 c5 x6 x7 w
  unfold bits_Lowest.e6 bits_Lowest.re6
  simp only [bits_Lowest.lq6 R]
def bits_Lowest (R : Value → World → Prop) (a0 : Option Addr) (n0 : Nat) (c0 : Nat) (w : World) : Prop := bits_Lowest.g0 R (bits_Lowest.e6 R) a0 n0 c0 w
theorem bits_Lowest.root0 (R : Value → World → Prop) (a0 : Option Addr) (n0 : Nat) (c0 : Nat) (w : World) : fnN Go.Proofs.Tryd.prog Go.Proofs.Tryd.f41 bits_Lowest.an #[.slice a0 n0 c0] w R = bits_Lowest.g0 R (bits_Lowest.re6 R) a0 n0 c0 w := by kernel_rfl
theorem bits_Lowest.calls {R : Value → World → Prop} {a0 : Option Addr} {n0 : Nat} {c0 : Nat} {w : World} (h : bits_Lowest R a0 n0 c0 w) : Go.E.CallsD Go.Proofs.Tryd.prog 41 #[.slice a0 n0 c0] w R := by
  refine callsD_of (n := bits_Lowest.an) M_follows M_sizes Go.Proofs.Tryd.func41 (by rfl) ?_
  rw [bits_Lowest.root0]
  unfold bits_Lowest at h
  rw [bits_Lowest.eq6 R] at h
  exact h
-- thicket/thicketref07.Leaves
def thicketref07_Leaves.an : An := An.nil
def thicketref07_Leaves.g0 (R : Value → World → Prop) (x0_0 : Int) (a0_1 : Option Addr) (n0_1 : Nat) (c0_1 : Nat) (w : World) : Prop :=
 nw (w.alloc (.cells #[.int .i64 x0_0, .slice a0_1 n0_1 c0_1] 24)) fun w7 =>
 ∃ yx_8 : Int, w7.cell? ((na w).add 0) = some (.int .i64 yx_8) ∧
 (∃ ya_9 : Option Addr, ∃ yn_9 : Nat, ∃ yc_9 : Nat, w7.cell? ((na w).add 1) = some (.slice ya_9 yn_9 yc_9) ∧
 (Go.E.CallsD Go.Proofs.Tryd.prog 62 #[.agg #[.int .i64 yx_8, .slice ya_9 yn_9 yc_9], .bool true] w7 fun yv10 u11 =>
 ∃ ya_12_0 : Option Addr, ∃ yn_12_0 : Nat, ∃ yc_12_0 : Nat, ∃ yx_12_1 : Int, yv10 = .tuple #[.slice ya_12_0 yn_12_0 yc_12_0, .int .i64 yx_12_1] ∧
 (R (.tuple #[.slice ya_12_0 yn_12_0 yc_12_0, .int .i64 yx_12_1]) u11)))
def thicketref07_Leaves (R : Value → World → Prop) (x0_0 : Int) (a0_1 : Option Addr) (n0_1 : Nat) (c0_1 : Nat) (w : World) : Prop := thicketref07_Leaves.g0 R x0_0 a0_1 n0_1 c0_1 w
theorem thicketref07_Leaves.root0 (R : Value → World → Prop) (x0_0 : Int) (a0_1 : Option Addr) (n0_1 : Nat) (c0_1 : Nat) (w : World) : fnN Go.Proofs.Tryd.prog Go.Proofs.Tryd.f42 thicketref07_Leaves.an #[.agg #[.int .i64 x0_0, .slice a0_1 n0_1 c0_1]] w R = thicketref07_Leaves.g0 R x0_0 a0_1 n0_1 c0_1 w := by kernel_rfl
theorem thicketref07_Leaves.calls {R : Value → World → Prop} {x0_0 : Int} {a0_1 : Option Addr} {n0_1 : Nat} {c0_1 : Nat} {w : World} (h : thicketref07_Leaves R x0_0 a0_1 n0_1 c0_1 w) : Go.E.CallsD Go.Proofs.Tryd.prog 42 #[.agg #[.int .i64 x0_0, .slice a0_1 n0_1 c0_1]] w R := by
  refine callsD_of (n := thicketref07_Leaves.an) M_follows M_sizes Go.Proofs.Tryd.func42 (by rfl) ?_
  rw [thicketref07_Leaves.root0]
  unfold thicketref07_Leaves at h
  exact h
end Go.Mir
