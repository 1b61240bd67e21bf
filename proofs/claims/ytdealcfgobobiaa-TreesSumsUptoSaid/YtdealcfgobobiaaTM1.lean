/- Part of a proof of laws of the seat Ytdealcfgobobiaa: functions' weakest preconditions, each checked by the kernel, contracts out of them, plain lemmas; no conditions. -/
import Derived.Test.YtdealcfgobobiaaTM0
set_option linter.unusedVariables false
set_option linter.unusedSimpArgs false
set_option linter.unusedVariables false
set_option maxRecDepth 100000
namespace Go.Mir
open Go Go.E Go.RowKit
-- thicket/trees.Goes
def trees_Goes.an : An := An.nil
def trees_Goes.g0 (R : Value → World → Prop) (x0_0 : Int) (x0_1 : Int) (x0_2 : Int) (f0_3 : Nat) (a0_4 : Option Addr) (n0_4 : Nat) (c0_4 : Nat) (x0_5 : Int) (x0_6 : Int) (x0_7 : Int) (f1 : Nat) (w : World) : Prop :=
 nw (w.alloc (.cells #[.int .u8 x0_0, .int .i64 x0_1, .int .i64 x0_2, .float .f64 f0_3, .slice a0_4 n0_4 c0_4, .int .u8 x0_5, .int .i64 x0_6, .int .i64 x0_7] 27)) fun w18 =>
 ∃ yx_19 : Int, w18.cell? ((na w).add 0) = some (.int .u8 yx_19) ∧
 (∃ yx_20 : Int, w18.cell? ((na w).add 1) = some (.int .i64 yx_20) ∧
 (∃ yx_21 : Int, w18.cell? ((na w).add 2) = some (.int .i64 yx_21) ∧
 (∃ yf_22 : Nat, w18.cell? ((na w).add 3) = some (.float .f64 yf_22) ∧
 (∃ ya_23 : Option Addr, ∃ yn_23 : Nat, ∃ yc_23 : Nat, w18.cell? ((na w).add 4) = some (.slice ya_23 yn_23 yc_23) ∧
 (∃ yx_24 : Int, w18.cell? ((na w).add 5) = some (.int .u8 yx_24) ∧
 (∃ yx_25 : Int, w18.cell? ((na w).add 6) = some (.int .i64 yx_25) ∧
 (∃ yx_26 : Int, w18.cell? ((na w).add 7) = some (.int .i64 yx_26) ∧
 (Go.E.CallsD Go.Proofs.Try.prog 45 #[.agg #[.int .u8 yx_19, .int .i64 yx_20, .int .i64 yx_21, .float .f64 yf_22, .slice ya_23 yn_23 yc_23, .int .u8 yx_24, .int .i64 yx_25, .int .i64 yx_26]] w18 fun yv27 u28 =>
 ∃ yv_29 : Value, yv27 = yv_29 ∧
 (ifcN Go.Proofs.Try.prog yv_29 "thicket/trees.goes" fun f30 r31 =>
 Go.E.CallsD Go.Proofs.Try.prog f30 #[r31, .float .f64 f1] u28 fun yv32 u33 =>
 ∃ yx_34 : Int, yv32 = .int .u8 yx_34 ∧
 (R (.int .u8 yx_34) u33))))))))))
def trees_Goes (R : Value → World → Prop) (x0_0 : Int) (x0_1 : Int) (x0_2 : Int) (f0_3 : Nat) (a0_4 : Option Addr) (n0_4 : Nat) (c0_4 : Nat) (x0_5 : Int) (x0_6 : Int) (x0_7 : Int) (f1 : Nat) (w : World) : Prop := trees_Goes.g0 R x0_0 x0_1 x0_2 f0_3 a0_4 n0_4 c0_4 x0_5 x0_6 x0_7 f1 w
theorem trees_Goes.root0 (R : Value → World → Prop) (x0_0 : Int) (x0_1 : Int) (x0_2 : Int) (f0_3 : Nat) (a0_4 : Option Addr) (n0_4 : Nat) (c0_4 : Nat) (x0_5 : Int) (x0_6 : Int) (x0_7 : Int) (f1 : Nat) (w : World) : fnN Go.Proofs.Try.prog Go.Proofs.Try.f13 trees_Goes.an #[.agg #[.int .u8 x0_0, .int .i64 x0_1, .int .i64 x0_2, .float .f64 f0_3, .slice a0_4 n0_4 c0_4, .int .u8 x0_5, .int .i64 x0_6, .int .i64 x0_7], .float .f64 f1] w R = trees_Goes.g0 R x0_0 x0_1 x0_2 f0_3 a0_4 n0_4 c0_4 x0_5 x0_6 x0_7 f1 w := by kernel_rfl
theorem trees_Goes.calls {R : Value → World → Prop} {x0_0 : Int} {x0_1 : Int} {x0_2 : Int} {f0_3 : Nat} {a0_4 : Option Addr} {n0_4 : Nat} {c0_4 : Nat} {x0_5 : Int} {x0_6 : Int} {x0_7 : Int} {f1 : Nat} {w : World} (h : trees_Goes R x0_0 x0_1 x0_2 f0_3 a0_4 n0_4 c0_4 x0_5 x0_6 x0_7 f1 w) : Go.E.CallsD Go.Proofs.Try.prog 13 #[.agg #[.int .u8 x0_0, .int .i64 x0_1, .int .i64 x0_2, .float .f64 f0_3, .slice a0_4 n0_4 c0_4, .int .u8 x0_5, .int .i64 x0_6, .int .i64 x0_7], .float .f64 f1] w R := by
  refine callsD_of (n := trees_Goes.an) M_follows M_sizes Go.Proofs.Try.func13 (by rfl) ?_
  rw [trees_Goes.root0]
  unfold trees_Goes at h
  exact h
-- thicket/thicketref07.Goes
def thicketref07_Goes.an : An := (.mk none .nil (.mk none .nil (.mk none .nil (.mk none .nil (.mk none (.mk none .nil (.mk none (.mk (some [1, 27, 28, 29]) .nil .nil) .nil)) .nil)))))
def thicketref07_Goes.g0 (R : Value → World → Prop) (e38 : Nat → (Option Addr) → Nat → Nat → Int → Int → World → Prop) (x0_0 : Int) (x0_1 : Int) (x0_2 : Int) (f0_3 : Nat) (a0_4 : Option Addr) (n0_4 : Nat) (c0_4 : Nat) (x0_5 : Int) (x0_6 : Int) (x0_7 : Int) (f1 : Nat) (w : World) : Prop :=
 nw (w.alloc (.cells #[.int .u8 x0_0, .int .i64 x0_1, .int .i64 x0_2, .float .f64 f0_3, .slice a0_4 n0_4 c0_4, .int .u8 x0_5, .int .i64 x0_6, .int .i64 x0_7] 27)) fun w15 =>
 ∃ yx_16 : Int, w15.cell? ((na w).add 0) = some (.int .u8 yx_16) ∧
 (onBool (yx_16 != 2)
 (∃ yx_17 : Int, w15.cell? ((na w).add 0) = some (.int .u8 yx_17) ∧
 (onBool (yx_17 != 3)
 (R (.int .u8 0) w15)
 (Go.E.CallsD Go.Proofs.Try.prog 46 #[.float .f64 f1] w15 fun yv18 u19 =>
 ∃ yb_20 : Bool, yv18 = .bool yb_20 ∧
 (onBool yb_20
 (∃ yx_21 : Int, u19.cell? ((na w).add 5) = some (.int .u8 yx_21) ∧
 (R (.int .u8 yx_21) u19))
 (∃ yx_22 : Int, u19.cell? ((na w).add 0) = some (.int .u8 yx_22) ∧
 (onBool (yx_22 == 2)
 (∃ yf_23 : Nat, u19.cell? ((na w).add 3) = some (.float .f64 yf_23) ∧
 (onBool ((FloatKind.f64.format.order f1 yf_23 == some .lt) || (FloatKind.f64.format.order f1 yf_23 == some .eq))
 (R (.int .u8 1) u19)
 (R (.int .u8 2) u19)))
 (∃ ya_24 : Option Addr, ∃ yn_24 : Nat, ∃ yc_24 : Nat, u19.cell? ((na w).add 4) = some (.slice ya_24 yn_24 yc_24) ∧
 (e38 f1 ya_24 yn_24 yc_24 (yn_24 : Int) 0 u19))))))))
 (Go.E.CallsD Go.Proofs.Try.prog 46 #[.float .f64 f1] w15 fun yv25 u26 =>
 ∃ yb_27 : Bool, yv25 = .bool yb_27 ∧
 (onBool yb_27
 (∃ yx_28 : Int, u26.cell? ((na w).add 5) = some (.int .u8 yx_28) ∧
 (R (.int .u8 yx_28) u26))
 (∃ yx_29 : Int, u26.cell? ((na w).add 0) = some (.int .u8 yx_29) ∧
 (onBool (yx_29 == 2)
 (∃ yf_30 : Nat, u26.cell? ((na w).add 3) = some (.float .f64 yf_30) ∧
 (onBool ((FloatKind.f64.format.order f1 yf_30 == some .lt) || (FloatKind.f64.format.order f1 yf_30 == some .eq))
 (R (.int .u8 1) u26)
 (R (.int .u8 2) u26)))
 (∃ ya_31 : Option Addr, ∃ yn_31 : Nat, ∃ yc_31 : Nat, u26.cell? ((na w).add 4) = some (.slice ya_31 yn_31 yc_31) ∧
 (e38 f1 ya_31 yn_31 yc_31 (yn_31 : Int) 0 u26)))))))
def thicketref07_Goes.g38 (R : Value → World → Prop) (b38 : Nat → (Option Addr) → Nat → Nat → Int → Int → World → Prop) (f1 : Nat) (a27 : Option Addr) (n27 : Nat) (c27 : Nat) (x28 : Int) (x29 : Int) (w : World) : Prop :=
 onBool (decide (x29 < x28))
 (optN a27 fun q32 =>
 chk ((0 : Int) ≤ x29 ∧ x29 < (n27 : Int))
 (∃ yx_33 : Int, w.cell? (q32.add (x29.toNat * 1)) = some (.int .i64 yx_33) ∧
 (nv (FloatKind.f64.nearest yx_33) fun t34 =>
 onBool (FloatKind.f64.format.order f1 t34 == some .eq)
 (R (.int .u8 1) w)
 (nv (IntKind.i64.wrap (x29 + 1)) fun t35 =>
 b38 f1 a27 n27 c27 x28 t35 w))))
 (R (.int .u8 2) w)
def thicketref07_Goes.q2 (R : Value → World → Prop) : Exit → Act → World → Prop := (fin Go.Proofs.Try.prog Go.Proofs.Try.f14 R)
def thicketref07_Goes.q10 (R : Value → World → Prop) : Exit → Act → World → Prop := (thicketref07_Goes.q2 R)
def thicketref07_Goes.q18 (R : Value → World → Prop) : Exit → Act → World → Prop := (thicketref07_Goes.q10 R)
def thicketref07_Goes.q34 (R : Value → World → Prop) : Exit → Act → World → Prop := (thicketref07_Goes.q18 R)
def thicketref07_Goes.q35 (R : Value → World → Prop) : Exit → Act → World → Prop := Exit.then (startN none (codeN Go.Proofs.Try.prog (sub (codeOf Go.Proofs.Try.f14) [1, 1, 1, 1, 1]) (nsub thicketref07_Goes.an [1, 1, 1, 1, 1]) (thicketref07_Goes.q34 R))) (thicketref07_Goes.q34 R)
def thicketref07_Goes.q37 (R : Value → World → Prop) : Exit → Act → World → Prop := (thicketref07_Goes.q35 R)
def thicketref07_Goes.q38 (R : Value → World → Prop) : Exit → Act → World → Prop := Exit.inBlock 0 (thicketref07_Goes.q37 R)
def thicketref07_Goes.rl38 (R : Value → World → Prop) (k : Nat) (f1 : Nat) (a27 : Option Addr) (n27 : Nat) (c27 : Nat) (x28 : Int) (x29 : Int) (w : World) : Prop := loopN [1, 27, 28, 29] (codeN Go.Proofs.Try.prog (sub (codeOf Go.Proofs.Try.f14) [1, 1, 1, 1, 0, 1, 0, 0]) (nsub thicketref07_Goes.an [1, 1, 1, 1, 0, 1, 0, 0])) (thicketref07_Goes.q38 R) k ⟨#[undef, .float .f64 f1, undef, undef, undef, undef, undef, undef, undef, undef, undef, undef, undef, undef, undef, undef, undef, undef, undef, undef, undef, undef, undef, undef, undef, undef, undef, .slice a27 n27 c27, .int .i64 x28, .int .i64 x29, undef, undef, undef, undef, undef, undef, undef, undef], []⟩ w
def thicketref07_Goes.re38 (R : Value → World → Prop) (f1 : Nat) (a27 : Option Addr) (n27 : Nat) (c27 : Nat) (x28 : Int) (x29 : Int) (w : World) : Prop := ∃ k, thicketref07_Goes.rl38 R k f1 a27 n27 c27 x28 x29 w
def thicketref07_Goes.l38 (R : Value → World → Prop) : Nat → Nat → (Option Addr) → Nat → Nat → Int → Int → World → Prop
  | 0, _, _, _, _, _, _, _ => False
  | k + 1, f1, a27, n27, c27, x28, x29, w => thicketref07_Goes.g38 R (thicketref07_Goes.l38 R k) f1 a27 n27 c27 x28 x29 w
def thicketref07_Goes.e38 (R : Value → World → Prop) (f1 : Nat) (a27 : Option Addr) (n27 : Nat) (c27 : Nat) (x28 : Int) (x29 : Int) (w : World) : Prop := ∃ k, thicketref07_Goes.l38 R k f1 a27 n27 c27 x28 x29 w
theorem thicketref07_Goes.s38 (R : Value → World → Prop) (k : Nat) (f1 : Nat) (a27 : Option Addr) (n27 : Nat) (c27 : Nat) (x28 : Int) (x29 : Int) (w : World) : thicketref07_Goes.rl38 R (k + 1) f1 a27 n27 c27 x28 x29 w = ∀ _ : Nat → Value, thicketref07_Goes.g38 R (thicketref07_Goes.rl38 R k) f1 a27 n27 c27 x28 x29 w := by kernel_rfl
theorem thicketref07_Goes.lq38 (R : Value → World → Prop) : ∀ k, thicketref07_Goes.l38 R k = thicketref07_Goes.rl38 R k
  | 0 => by funext f1 a27 n27 c27 x28 x29 w; first | rfl | kernel_rfl
  | k + 1 => by
    funext f1 a27 n27 c27 x28 x29 w
    rw [thicketref07_Goes.s38, forall_const]
    unfold thicketref07_Goes.l38
    have ih := thicketref07_Goes.lq38 R k
    rw [ih]
    all_goals rfl
theorem thicketref07_Goes.eq38 (R : Value → World → Prop) : thicketref07_Goes.e38 R = thicketref07_Goes.re38 R := by
  funext f1 a27 n27 c27 x28 x29 w
  unfold thicketref07_Goes.e38 thicketref07_Goes.re38
  simp only [thicketref07_Goes.lq38 R]
def thicketref07_Goes (R : Value → World → Prop) (x0_0 : Int) (x0_1 : Int) (x0_2 : Int) (f0_3 : Nat) (a0_4 : Option Addr) (n0_4 : Nat) (c0_4 : Nat) (x0_5 : Int) (x0_6 : Int) (x0_7 : Int) (f1 : Nat) (w : World) : Prop := thicketref07_Goes.g0 R (thicketref07_Goes.e38 R) x0_0 x0_1 x0_2 f0_3 a0_4 n0_4 c0_4 x0_5 x0_6 x0_7 f1 w
theorem thicketref07_Goes.root0 (R : Value → World → Prop) (x0_0 : Int) (x0_1 : Int) (x0_2 : Int) (f0_3 : Nat) (a0_4 : Option Addr) (n0_4 : Nat) (c0_4 : Nat) (x0_5 : Int) (x0_6 : Int) (x0_7 : Int) (f1 : Nat) (w : World) : fnN Go.Proofs.Try.prog Go.Proofs.Try.f14 thicketref07_Goes.an #[.agg #[.int .u8 x0_0, .int .i64 x0_1, .int .i64 x0_2, .float .f64 f0_3, .slice a0_4 n0_4 c0_4, .int .u8 x0_5, .int .i64 x0_6, .int .i64 x0_7], .float .f64 f1] w R = thicketref07_Goes.g0 R (thicketref07_Goes.re38 R) x0_0 x0_1 x0_2 f0_3 a0_4 n0_4 c0_4 x0_5 x0_6 x0_7 f1 w := by kernel_rfl
theorem thicketref07_Goes.calls {R : Value → World → Prop} {x0_0 : Int} {x0_1 : Int} {x0_2 : Int} {f0_3 : Nat} {a0_4 : Option Addr} {n0_4 : Nat} {c0_4 : Nat} {x0_5 : Int} {x0_6 : Int} {x0_7 : Int} {f1 : Nat} {w : World} (h : thicketref07_Goes R x0_0 x0_1 x0_2 f0_3 a0_4 n0_4 c0_4 x0_5 x0_6 x0_7 f1 w) : Go.E.CallsD Go.Proofs.Try.prog 14 #[.agg #[.int .u8 x0_0, .int .i64 x0_1, .int .i64 x0_2, .float .f64 f0_3, .slice a0_4 n0_4 c0_4, .int .u8 x0_5, .int .i64 x0_6, .int .i64 x0_7], .float .f64 f1] w R := by
  refine callsD_of (n := thicketref07_Goes.an) M_follows M_sizes Go.Proofs.Try.func14 (by rfl) ?_
  rw [thicketref07_Goes.root0]
  unfold thicketref07_Goes at h
  rw [thicketref07_Goes.eq38 R] at h
  exact h
-- thicket/trees.kind
def trees_kind.an : An := An.nil
def trees_kind.g0 (R : Value → World → Prop) (x0_0 : Int) (x0_1 : Int) (x0_2 : Int) (f0_3 : Nat) (a0_4 : Option Addr) (n0_4 : Nat) (c0_4 : Nat) (x0_5 : Int) (x0_6 : Int) (x0_7 : Int) (w : World) : Prop :=
 nw (w.alloc (.cells #[.int .u8 x0_0, .int .i64 x0_1, .int .i64 x0_2, .float .f64 f0_3, .slice a0_4 n0_4 c0_4, .int .u8 x0_5, .int .i64 x0_6, .int .i64 x0_7] 27)) fun w7 =>
 ∃ yx_8 : Int, w7.cell? ((na w).add 0) = some (.int .u8 yx_8) ∧
 (onBool (yx_8 == 2)
 (∃ yf_9 : Nat, w7.cell? ((na w).add 3) = some (.float .f64 yf_9) ∧
 (∃ yx_10 : Int, w7.cell? ((na w).add 5) = some (.int .u8 yx_10) ∧
 (R (.iface 95 (.agg #[.float .f64 yf_9, .int .u8 yx_10])) w7)))
 (onBool (yx_8 == 3)
 (∃ ya_11 : Option Addr, ∃ yn_11 : Nat, ∃ yc_11 : Nat, w7.cell? ((na w).add 4) = some (.slice ya_11 yn_11 yc_11) ∧
 (∃ yx_12 : Int, w7.cell? ((na w).add 5) = some (.int .u8 yx_12) ∧
 (R (.iface 97 (.agg #[.slice ya_11 yn_11 yc_11, .int .u8 yx_12])) w7)))
 (R (.iface 99 (.agg #[])) w7)))
def trees_kind (R : Value → World → Prop) (x0_0 : Int) (x0_1 : Int) (x0_2 : Int) (f0_3 : Nat) (a0_4 : Option Addr) (n0_4 : Nat) (c0_4 : Nat) (x0_5 : Int) (x0_6 : Int) (x0_7 : Int) (w : World) : Prop := trees_kind.g0 R x0_0 x0_1 x0_2 f0_3 a0_4 n0_4 c0_4 x0_5 x0_6 x0_7 w
theorem trees_kind.root0 (R : Value → World → Prop) (x0_0 : Int) (x0_1 : Int) (x0_2 : Int) (f0_3 : Nat) (a0_4 : Option Addr) (n0_4 : Nat) (c0_4 : Nat) (x0_5 : Int) (x0_6 : Int) (x0_7 : Int) (w : World) : fnN Go.Proofs.Try.prog Go.Proofs.Try.f45 trees_kind.an #[.agg #[.int .u8 x0_0, .int .i64 x0_1, .int .i64 x0_2, .float .f64 f0_3, .slice a0_4 n0_4 c0_4, .int .u8 x0_5, .int .i64 x0_6, .int .i64 x0_7]] w R = trees_kind.g0 R x0_0 x0_1 x0_2 f0_3 a0_4 n0_4 c0_4 x0_5 x0_6 x0_7 w := by kernel_rfl
theorem trees_kind.calls {R : Value → World → Prop} {x0_0 : Int} {x0_1 : Int} {x0_2 : Int} {f0_3 : Nat} {a0_4 : Option Addr} {n0_4 : Nat} {c0_4 : Nat} {x0_5 : Int} {x0_6 : Int} {x0_7 : Int} {w : World} (h : trees_kind R x0_0 x0_1 x0_2 f0_3 a0_4 n0_4 c0_4 x0_5 x0_6 x0_7 w) : Go.E.CallsD Go.Proofs.Try.prog 45 #[.agg #[.int .u8 x0_0, .int .i64 x0_1, .int .i64 x0_2, .float .f64 f0_3, .slice a0_4 n0_4 c0_4, .int .u8 x0_5, .int .i64 x0_6, .int .i64 x0_7]] w R := by
  refine callsD_of (n := trees_kind.an) M_follows M_sizes Go.Proofs.Try.func45 (by rfl) ?_
  rw [trees_kind.root0]
  unfold trees_kind at h
  exact h
-- thicket/thicketref07.nan
def thicketref07_nan.an : An := An.nil
def thicketref07_nan.g0 (R : Value → World → Prop) (f0 : Nat) (w : World) : Prop :=
 R (.bool (FloatKind.f64.format.order f0 f0 != some .eq)) w
def thicketref07_nan (R : Value → World → Prop) (f0 : Nat) (w : World) : Prop := thicketref07_nan.g0 R f0 w
theorem thicketref07_nan.root0 (R : Value → World → Prop) (f0 : Nat) (w : World) : fnN Go.Proofs.Try.prog Go.Proofs.Try.f46 thicketref07_nan.an #[.float .f64 f0] w R = thicketref07_nan.g0 R f0 w := by kernel_rfl
theorem thicketref07_nan.calls {R : Value → World → Prop} {f0 : Nat} {w : World} (h : thicketref07_nan R f0 w) : Go.E.CallsD Go.Proofs.Try.prog 46 #[.float .f64 f0] w R := by
  refine callsD_of (n := thicketref07_nan.an) M_follows M_sizes Go.Proofs.Try.func46 (by rfl) ?_
  rw [thicketref07_nan.root0]
  unfold thicketref07_nan at h
  exact h
-- thicket/trees.inner
def trees_inner.an : An := An.nil
def trees_inner.g0 (R : Value → World → Prop) (x0_0 : Int) (x0_1 : Int) (x0_2 : Int) (f0_3 : Nat) (a0_4 : Option Addr) (n0_4 : Nat) (c0_4 : Nat) (x0_5 : Int) (x0_6 : Int) (x0_7 : Int) (w : World) : Prop :=
 nw (w.alloc (.cells #[.int .u8 x0_0, .int .i64 x0_1, .int .i64 x0_2, .float .f64 f0_3, .slice a0_4 n0_4 c0_4, .int .u8 x0_5, .int .i64 x0_6, .int .i64 x0_7] 27)) fun w4 =>
 ∃ yx_5 : Int, w4.cell? ((na w).add 0) = some (.int .u8 yx_5) ∧
 (onBool (yx_5 == 2)
 (R (.bool true) w4)
 (∃ yx_6 : Int, w4.cell? ((na w).add 0) = some (.int .u8 yx_6) ∧
 (R (.bool (yx_6 == 3)) w4)))
def trees_inner (R : Value → World → Prop) (x0_0 : Int) (x0_1 : Int) (x0_2 : Int) (f0_3 : Nat) (a0_4 : Option Addr) (n0_4 : Nat) (c0_4 : Nat) (x0_5 : Int) (x0_6 : Int) (x0_7 : Int) (w : World) : Prop := trees_inner.g0 R x0_0 x0_1 x0_2 f0_3 a0_4 n0_4 c0_4 x0_5 x0_6 x0_7 w
theorem trees_inner.root0 (R : Value → World → Prop) (x0_0 : Int) (x0_1 : Int) (x0_2 : Int) (f0_3 : Nat) (a0_4 : Option Addr) (n0_4 : Nat) (c0_4 : Nat) (x0_5 : Int) (x0_6 : Int) (x0_7 : Int) (w : World) : fnN Go.Proofs.Try.prog Go.Proofs.Try.f47 trees_inner.an #[.agg #[.int .u8 x0_0, .int .i64 x0_1, .int .i64 x0_2, .float .f64 f0_3, .slice a0_4 n0_4 c0_4, .int .u8 x0_5, .int .i64 x0_6, .int .i64 x0_7]] w R = trees_inner.g0 R x0_0 x0_1 x0_2 f0_3 a0_4 n0_4 c0_4 x0_5 x0_6 x0_7 w := by kernel_rfl
theorem trees_inner.calls {R : Value → World → Prop} {x0_0 : Int} {x0_1 : Int} {x0_2 : Int} {f0_3 : Nat} {a0_4 : Option Addr} {n0_4 : Nat} {c0_4 : Nat} {x0_5 : Int} {x0_6 : Int} {x0_7 : Int} {w : World} (h : trees_inner R x0_0 x0_1 x0_2 f0_3 a0_4 n0_4 c0_4 x0_5 x0_6 x0_7 w) : Go.E.CallsD Go.Proofs.Try.prog 47 #[.agg #[.int .u8 x0_0, .int .i64 x0_1, .int .i64 x0_2, .float .f64 f0_3, .slice a0_4 n0_4 c0_4, .int .u8 x0_5, .int .i64 x0_6, .int .i64 x0_7]] w R := by
  refine callsD_of (n := trees_inner.an) M_follows M_sizes Go.Proofs.Try.func47 (by rfl) ?_
  rw [trees_inner.root0]
  unfold trees_inner at h
  exact h
-- (thicket/trees.number).goes
def trees_number_goes.an : An := An.nil
def trees_number_goes.g0 (R : Value → World → Prop) (f0_0 : Nat) (x0_1 : Int) (f1 : Nat) (w : World) : Prop :=
 nw (w.alloc (.cells #[.float .f64 f0_0, .int .u8 x0_1] 95)) fun w4 =>
 onBool (FloatKind.f64.format.order f1 f1 != some .eq)
 (∃ yx_5 : Int, w4.cell? ((na w).add 1) = some (.int .u8 yx_5) ∧
 (R (.int .u8 yx_5) w4))
 (∃ yf_6 : Nat, w4.cell? ((na w).add 0) = some (.float .f64 yf_6) ∧
 (onBool ((FloatKind.f64.format.order f1 yf_6 == some .lt) || (FloatKind.f64.format.order f1 yf_6 == some .eq))
 (R (.int .u8 1) w4)
 (R (.int .u8 2) w4)))
def trees_number_goes (R : Value → World → Prop) (f0_0 : Nat) (x0_1 : Int) (f1 : Nat) (w : World) : Prop := trees_number_goes.g0 R f0_0 x0_1 f1 w
theorem trees_number_goes.root0 (R : Value → World → Prop) (f0_0 : Nat) (x0_1 : Int) (f1 : Nat) (w : World) : fnN Go.Proofs.Try.prog Go.Proofs.Try.f86 trees_number_goes.an #[.agg #[.float .f64 f0_0, .int .u8 x0_1], .float .f64 f1] w R = trees_number_goes.g0 R f0_0 x0_1 f1 w := by kernel_rfl
theorem trees_number_goes.calls {R : Value → World → Prop} {f0_0 : Nat} {x0_1 : Int} {f1 : Nat} {w : World} (h : trees_number_goes R f0_0 x0_1 f1 w) : Go.E.CallsD Go.Proofs.Try.prog 86 #[.agg #[.float .f64 f0_0, .int .u8 x0_1], .float .f64 f1] w R := by
  refine callsD_of (n := trees_number_goes.an) M_follows M_sizes Go.Proofs.Try.func86 (by rfl) ?_
  rw [trees_number_goes.root0]
  unfold trees_number_goes at h
  exact h
-- (thicket/trees.cats).goes
def trees_cats_goes.an : An := An.nil
def trees_cats_goes.g0 (R : Value → World → Prop) (a0_0 : Option Addr) (n0_0 : Nat) (c0_0 : Nat) (x0_1 : Int) (f1 : Nat) (w : World) : Prop :=
 nw (w.alloc (.cells #[.slice a0_0 n0_0 c0_0, .int .u8 x0_1] 97)) fun w10 =>
 nw (w10.alloc (.cells #[.float .f64 f1] 23)) fun w11 =>
 ∃ yf_12 : Nat, w11.cell? (na w10) = some (.float .f64 yf_12) ∧
 (∃ yf_13 : Nat, w11.cell? (na w10) = some (.float .f64 yf_13) ∧
 (onBool (FloatKind.f64.format.order yf_12 yf_13 != some .eq)
 (∃ yx_14 : Int, w11.cell? ((na w).add 1) = some (.int .u8 yx_14) ∧
 (R (.int .u8 yx_14) w11))
 (∃ ya_15 : Option Addr, ∃ yn_15 : Nat, ∃ yc_15 : Nat, w11.cell? ((na w).add 0) = some (.slice ya_15 yn_15 yc_15) ∧
 (Go.E.CallsD Go.Proofs.Try.prog 88 #[.slice ya_15 yn_15 yc_15, .func (.func 89) #[] #[.pointer (some (na w10))]] w11 fun yv16 u17 =>
 ∃ yb_18 : Bool, yv16 = .bool yb_18 ∧
 (onBool yb_18
 (R (.int .u8 1) u17)
 (R (.int .u8 2) u17))))))
def trees_cats_goes (R : Value → World → Prop) (a0_0 : Option Addr) (n0_0 : Nat) (c0_0 : Nat) (x0_1 : Int) (f1 : Nat) (w : World) : Prop := trees_cats_goes.g0 R a0_0 n0_0 c0_0 x0_1 f1 w
theorem trees_cats_goes.root0 (R : Value → World → Prop) (a0_0 : Option Addr) (n0_0 : Nat) (c0_0 : Nat) (x0_1 : Int) (f1 : Nat) (w : World) : fnN Go.Proofs.Try.prog Go.Proofs.Try.f87 trees_cats_goes.an #[.agg #[.slice a0_0 n0_0 c0_0, .int .u8 x0_1], .float .f64 f1] w R = trees_cats_goes.g0 R a0_0 n0_0 c0_0 x0_1 f1 w := by kernel_rfl
theorem trees_cats_goes.calls {R : Value → World → Prop} {a0_0 : Option Addr} {n0_0 : Nat} {c0_0 : Nat} {x0_1 : Int} {f1 : Nat} {w : World} (h : trees_cats_goes R a0_0 n0_0 c0_0 x0_1 f1 w) : Go.E.CallsD Go.Proofs.Try.prog 87 #[.agg #[.slice a0_0 n0_0 c0_0, .int .u8 x0_1], .float .f64 f1] w R := by
  refine callsD_of (n := trees_cats_goes.an) M_follows M_sizes Go.Proofs.Try.func87 (by rfl) ?_
  rw [trees_cats_goes.root0]
  unfold trees_cats_goes at h
  exact h
-- (thicket/trees.leaf).goes
def trees_leaf_goes.an : An := An.nil
def trees_leaf_goes.g0 (R : Value → World → Prop) (f1 : Nat) (w : World) : Prop :=
 nw (w.alloc (.cells #[] 99)) fun w2 =>
 R (.int .u8 0) w2
def trees_leaf_goes (R : Value → World → Prop) (f1 : Nat) (w : World) : Prop := trees_leaf_goes.g0 R f1 w
theorem trees_leaf_goes.root0 (R : Value → World → Prop) (f1 : Nat) (w : World) : fnN Go.Proofs.Try.prog Go.Proofs.Try.f91 trees_leaf_goes.an #[.agg #[], .float .f64 f1] w R = trees_leaf_goes.g0 R f1 w := by kernel_rfl
theorem trees_leaf_goes.calls {R : Value → World → Prop} {f1 : Nat} {w : World} (h : trees_leaf_goes R f1 w) : Go.E.CallsD Go.Proofs.Try.prog 91 #[.agg #[], .float .f64 f1] w R := by
  refine callsD_of (n := trees_leaf_goes.an) M_follows M_sizes Go.Proofs.Try.func91 (by rfl) ?_
  rw [trees_leaf_goes.root0]
  unfold trees_leaf_goes at h
  exact h
end Go.Mir
