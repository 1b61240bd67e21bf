/- Part of a proof of laws of the seat YtpllehijaidinaaDoor: functions' weakest preconditions, each checked by the kernel, contracts out of them, plain lemmas; no conditions. -/
import Derived.Test.YtpllehijaidinaaDoorKM0
set_option linter.unusedVariables false
set_option linter.unusedSimpArgs false
set_option linter.unusedVariables false
set_option maxRecDepth 100000
namespace Go.Mir
open Go Go.E Go.RowKit
-- thicket/bits.Empty
def bits_Empty.an : An := An.nil
def bits_Empty.g0 (R : Value → World → Prop) (x0 : Int) (w : World) : Prop :=
 Go.E.CallsD Go.Proofs.Tryd.prog 67 #[.int .i64 x0] w fun yv5 u6 =>
 ∃ yx_7_0 : Int, ∃ yx_7_1 : Int, yv5 = .tuple #[.int .i64 yx_7_0, .int .i64 yx_7_1] ∧
 (onBool (yx_7_1 != 0)
 (R (.tuple #[.slice none 0 0, .int .i64 yx_7_1]) u6)
 (chk ((0 : Int) ≤ yx_7_0 ∧ yx_7_0 ≤ yx_7_0 ∧ ((8 : Nat) : Int) * yx_7_0 ≤ 281474976710656 ∧ yx_7_0 ≤ 9223372036854775807)
 (nw (u6.alloc (.cells (madeCells #[.int .u64 0] ((yx_7_0).toNat * 1)) 58)) fun w8 =>
 R (.tuple #[.slice (some (na u6)) ((yx_7_0).toNat) ((yx_7_0).toNat), .int .i64 0]) w8)))
def bits_Empty (R : Value → World → Prop) (x0 : Int) (w : World) : Prop := bits_Empty.g0 R x0 w
theorem bits_Empty.root0 (R : Value → World → Prop) (x0 : Int) (w : World) : fnN Go.Proofs.Tryd.prog Go.Proofs.Tryd.f53 bits_Empty.an #[.int .i64 x0] w R = bits_Empty.g0 R x0 w := by kernel_rfl
theorem bits_Empty.calls {R : Value → World → Prop} {x0 : Int} {w : World} (h : bits_Empty R x0 w) : Go.E.CallsD Go.Proofs.Tryd.prog 53 #[.int .i64 x0] w R := by
  refine callsD_of (n := bits_Empty.an) M_follows M_sizes Go.Proofs.Tryd.func53 (by rfl) ?_
  rw [bits_Empty.root0]
  unfold bits_Empty at h
  exact h
-- thicket/bits.fill
def bits_fill.an : An := (.mk none .nil (.mk none (.mk (some [0, 1, 2, 10, 11]) .nil .nil) .nil))
def bits_fill.g0 (R : Value → World → Prop) (e3 : (Option Addr) → Nat → Nat → Int → Int → Int → Int → World → Prop) (a0 : Option Addr) (n0 : Nat) (c0 : Nat) (x1 : Int) (x2 : Int) (w : World) : Prop :=
 e3 a0 n0 c0 x1 x2 (n0 : Int) 0 w
def bits_fill.g3 (R : Value → World → Prop) (b3 : (Option Addr) → Nat → Nat → Int → Int → Int → Int → World → Prop) (a0 : Option Addr) (n0 : Nat) (c0 : Nat) (x1 : Int) (x2 : Int) (x10 : Int) (x11 : Int) (w : World) : Prop :=
 onBool (decide (x11 < x10))
 (nv (IntKind.i64.wrap (64 * x11)) fun t17 =>
 nv (IntKind.i64.wrap (x1 - t17)) fun t18 =>
 nv ((if t18 < 0 then 0 else t18)) fun t19 =>
 nv (IntKind.i64.wrap (64 * x11)) fun t20 =>
 nv (IntKind.i64.wrap (x2 - t20)) fun t21 =>
 nv ((if 64 < t21 then 64 else t21)) fun t22 =>
 onBool (decide (t19 < t22))
 (optN a0 fun q23 =>
 chk ((0 : Int) ≤ x11 ∧ x11 < (n0 : Int))
 (∃ yx_24 : Int, w.cell? (q23.add (x11.toNat * 1)) = some (.int .u64 yx_24) ∧
 (nv (IntKind.i64.wrap (t22 - t19)) fun t25 =>
 nv (IntKind.i64.wrap (64 - t25)) fun t26 =>
 nchk (t26 < 0)
 (nv (Int.fdiv 18446744073709551615 (2 ^ (min t26.toNat 64))) fun t27 =>
 nchk (t19 < 0)
 (nv (IntKind.u64.wrap (t27 * 2 ^ (min t19.toNat 64))) fun t28 =>
 nv (bitsI .or .u64 yx_24 t28) fun t29 =>
 optN a0 fun q30 =>
 chk ((0 : Int) ≤ x11 ∧ x11 < (n0 : Int))
 (okSt w ((q30.add (x11.toNat * 1)).add 0) ∧
 (nw (w.setCell ((q30.add (x11.toNat * 1)).add 0) (.int .u64 t29)) fun w31 =>
 nv (IntKind.i64.wrap (x11 + 1)) fun t32 =>
 b3 a0 n0 c0 x1 x2 x10 t32 w31)))))))
 (nv (IntKind.i64.wrap (x11 + 1)) fun t33 =>
 b3 a0 n0 c0 x1 x2 x10 t33 w))
 (R (.tuple #[]) w)
def bits_fill.q2 (R : Value → World → Prop) : Exit → Act → World → Prop := (fin Go.Proofs.Tryd.prog Go.Proofs.Tryd.f54 R)
def bits_fill.q3 (R : Value → World → Prop) : Exit → Act → World → Prop := Exit.inBlock 0 (bits_fill.q2 R)
def bits_fill.rl3 (R : Value → World → Prop) (k : Nat) (a0 : Option Addr) (n0 : Nat) (c0 : Nat) (x1 : Int) (x2 : Int) (x10 : Int) (x11 : Int) (w : World) : Prop := loopN [0, 1, 2, 10, 11] (codeN Go.Proofs.Tryd.prog (sub (codeOf Go.Proofs.Tryd.f54) [1, 0, 0]) (nsub bits_fill.an [1, 0, 0])) (bits_fill.q3 R) k ⟨#[.slice a0 n0 c0, .int .i64 x1, .int .i64 x2, undef, undef, undef, undef, undef, undef, undef, .int .i64 x10, .int .i64 x11, undef, undef, undef, undef, undef, undef, undef, undef, undef, undef, undef, undef, undef, undef, undef, undef, undef, undef, undef, undef, undef, undef, undef, undef, undef, undef, undef, undef, undef], []⟩ w
def bits_fill.re3 (R : Value → World → Prop) (a0 : Option Addr) (n0 : Nat) (c0 : Nat) (x1 : Int) (x2 : Int) (x10 : Int) (x11 : Int) (w : World) : Prop := ∃ k, bits_fill.rl3 R k a0 n0 c0 x1 x2 x10 x11 w
def bits_fill.l3 (R : Value → World → Prop) : Nat → (Option Addr) → Nat → Nat → Int → Int → Int → Int → World → Prop
  | 0, _, _, _, _, _, _, _, _ => False
  | k + 1, a0, n0, c0, x1, x2, x10, x11, w => bits_fill.g3 R (bits_fill.l3 R k) a0 n0 c0 x1 x2 x10 x11 w
def bits_fill.e3 (R : Value → World → Prop) (a0 : Option Addr) (n0 : Nat) (c0 : Nat) (x1 : Int) (x2 : Int) (x10 : Int) (x11 : Int) (w : World) : Prop := ∃ k, bits_fill.l3 R k a0 n0 c0 x1 x2 x10 x11 w
theorem bits_fill.s3 (R : Value → World → Prop) (k : Nat) (a0 : Option Addr) (n0 : Nat) (c0 : Nat) (x1 : Int) (x2 : Int) (x10 : Int) (x11 : Int) (w : World) : bits_fill.rl3 R (k + 1) a0 n0 c0 x1 x2 x10 x11 w = ∀ _ : Nat → Value, bits_fill.g3 R (bits_fill.rl3 R k) a0 n0 c0 x1 x2 x10 x11 w := by kernel_rfl
theorem bits_fill.lq3 (R : Value → World → Prop) : ∀ k, bits_fill.l3 R k = bits_fill.rl3 R k
  | 0 => by funext a0 n0 c0 x1 x2 x10 x11 w; first | rfl | kernel_rfl
  | k + 1 => by
    funext a0 n0 c0 x1 x2 x10 x11 w
    rw [bits_fill.s3, forall_const]
    unfold bits_fill.l3
    have ih := bits_fill.lq3 R k
    rw [ih]
    all_goals rfl
theorem bits_fill.eq3 (R : Value → World → Prop) : bits_fill.e3 R = bits_fill.re3 R := by
  funext a0 n0 c0 x1 x2 x10 x11 w
  unfold bits_fill.e3 bits_fill.re3
  simp only [bits_fill.lq3 R]
def bits_fill (R : Value → World → Prop) (a0 : Option Addr) (n0 : Nat) (c0 : Nat) (x1 : Int) (x2 : Int) (w : World) : Prop := bits_fill.g0 R (bits_fill.e3 R) a0 n0 c0 x1 x2 w
theorem bits_fill.root0 (R : Value → World → Prop) (a0 : Option Addr) (n0 : Nat) (c0 : Nat) (x1 : Int) (x2 : Int) (w : World) : fnN Go.Proofs.Tryd.prog Go.Proofs.Tryd.f54 bits_fill.an #[.slice a0 n0 c0, .int .i64 x1, .int .i64 x2] w R = bits_fill.g0 R (bits_fill.re3 R) a0 n0 c0 x1 x2 w := by kernel_rfl
theorem bits_fill.calls {R : Value → World → Prop} {a0 : Option Addr} {n0 : Nat} {c0 : Nat} {x1 : Int} {x2 : Int} {w : World} (h : bits_fill R a0 n0 c0 x1 x2 w) : Go.E.CallsD Go.Proofs.Tryd.prog 54 #[.slice a0 n0 c0, .int .i64 x1, .int .i64 x2] w R := by
  refine callsD_of (n := bits_fill.an) M_follows M_sizes Go.Proofs.Tryd.func54 (by rfl) ?_
  rw [bits_fill.root0]
  unfold bits_fill at h
  rw [bits_fill.eq3 R] at h
  exact h
-- thicket/bits.within
def bits_within.an : An := An.nil
def bits_within.g0 (R : Value → World → Prop) (a0 : Option Addr) (n0 : Nat) (c0 : Nat) (x1 : Int) (w : World) : Prop :=
 onBool (decide (x1 ≥ 0))
 (nv (IntKind.i64.wrap (Int.tdiv x1 64)) fun t2 =>
 R (.bool (decide (t2 < (n0 : Int)))) w)
 (R (.bool false) w)
def bits_within (R : Value → World → Prop) (a0 : Option Addr) (n0 : Nat) (c0 : Nat) (x1 : Int) (w : World) : Prop := bits_within.g0 R a0 n0 c0 x1 w
theorem bits_within.root0 (R : Value → World → Prop) (a0 : Option Addr) (n0 : Nat) (c0 : Nat) (x1 : Int) (w : World) : fnN Go.Proofs.Tryd.prog Go.Proofs.Tryd.f55 bits_within.an #[.slice a0 n0 c0, .int .i64 x1] w R = bits_within.g0 R a0 n0 c0 x1 w := by kernel_rfl
theorem bits_within.calls {R : Value → World → Prop} {a0 : Option Addr} {n0 : Nat} {c0 : Nat} {x1 : Int} {w : World} (h : bits_within R a0 n0 c0 x1 w) : Go.E.CallsD Go.Proofs.Tryd.prog 55 #[.slice a0 n0 c0, .int .i64 x1] w R := by
  refine callsD_of (n := bits_within.an) M_follows M_sizes Go.Proofs.Tryd.func55 (by rfl) ?_
  rw [bits_within.root0]
  unfold bits_within at h
  exact h
-- thicket/bits.Count
def bits_Count.an : An := (.mk none .nil (.mk none .nil (.mk none (.mk none .nil (.mk none (.mk (some [3, 6, 7, 8]) .nil .nil) .nil)) .nil)))
def bits_Count.g0 (R : Value → World → Prop) (e8 : Int → (Option Addr) → Nat → Nat → Int → Int → World → Prop) (a0 : Option Addr) (n0 : Nat) (c0 : Nat) (w : World) : Prop :=
 e8 0 a0 n0 c0 (n0 : Int) 0 w
def bits_Count.g8 (R : Value → World → Prop) (b8 : Int → (Option Addr) → Nat → Nat → Int → Int → World → Prop) (x3 : Int) (a6 : Option Addr) (n6 : Nat) (c6 : Nat) (x7 : Int) (x8 : Int) (w : World) : Prop :=
 onBool (decide (x8 < x7))
 (optN a6 fun q8 =>
 chk ((0 : Int) ≤ x8 ∧ x8 < (n6 : Int))
 (∃ yx_9 : Int, w.cell? (q8.add (x8.toNat * 1)) = some (.int .u64 yx_9) ∧
 (Go.E.CallsD Go.Proofs.Tryd.prog 57 #[.int .u64 yx_9] w fun yv10 u11 =>
 ∃ yx_12 : Int, yv10 = .int .i64 yx_12 ∧
 (nv (IntKind.i64.wrap (x3 + yx_12)) fun t13 =>
 nv (IntKind.i64.wrap (x8 + 1)) fun t14 =>
 b8 t13 a6 n6 c6 x7 t14 u11))))
 (R (.int .i64 x3) w)
def bits_Count.q2 (R : Value → World → Prop) : Exit → Act → World → Prop := (fin Go.Proofs.Tryd.prog Go.Proofs.Tryd.f56 R)
def bits_Count.q4 (R : Value → World → Prop) : Exit → Act → World → Prop := (bits_Count.q2 R)
def bits_Count.q5 (R : Value → World → Prop) : Exit → Act → World → Prop := Exit.then (startN none (codeN Go.Proofs.Tryd.prog (sub (codeOf Go.Proofs.Tryd.f56) [1, 1, 1]) (nsub bits_Count.an [1, 1, 1]) (bits_Count.q4 R))) (bits_Count.q4 R)
def bits_Count.q7 (R : Value → World → Prop) : Exit → Act → World → Prop := (bits_Count.q5 R)
def bits_Count.q8 (R : Value → World → Prop) : Exit → Act → World → Prop := Exit.inBlock 0 (bits_Count.q7 R)
def bits_Count.rl8 (R : Value → World → Prop) (k : Nat) (x3 : Int) (a6 : Option Addr) (n6 : Nat) (c6 : Nat) (x7 : Int) (x8 : Int) (w : World) : Prop := loopN [3, 6, 7, 8] (codeN Go.Proofs.Tryd.prog (sub (codeOf Go.Proofs.Tryd.f56) [1, 1, 0, 1, 0, 0]) (nsub bits_Count.an [1, 1, 0, 1, 0, 0])) (bits_Count.q8 R) k ⟨#[undef, undef, undef, .int .i64 x3, undef, undef, .slice a6 n6 c6, .int .i64 x7, .int .i64 x8, undef, undef, undef, undef, undef, undef, undef, undef, undef], []⟩ w
def bits_Count.re8 (R : Value → World → Prop) (x3 : Int) (a6 : Option Addr) (n6 : Nat) (c6 : Nat) (x7 : Int) (x8 : Int) (w : World) : Prop := ∃ k, bits_Count.rl8 R k x3 a6 n6 c6 x7 x8 w
def bits_Count.l8 (R : Value → World → Prop) : Nat → Int → (Option Addr) → Nat → Nat → Int → Int → World → Prop
  | 0, _, _, _, _, _, _, _ => False
  | k + 1, x3, a6, n6, c6, x7, x8, w => bits_Count.g8 R (bits_Count.l8 R k) x3 a6 n6 c6 x7 x8 w
def bits_Count.e8 (R : Value → World → Prop) (x3 : Int) (a6 : Option Addr) (n6 : Nat) (c6 : Nat) (x7 : Int) (x8 : Int) (w : World) : Prop := ∃ k, bits_Count.l8 R k x3 a6 n6 c6 x7 x8 w
theorem bits_Count.s8 (R : Value → World → Prop) (k : Nat) (x3 : Int) (a6 : Option Addr) (n6 : Nat) (c6 : Nat) (x7 : Int) (x8 : Int) (w : World) : bits_Count.rl8 R (k + 1) x3 a6 n6 c6 x7 x8 w = ∀ _ : Nat → Value, bits_Count.g8 R (bits_Count.rl8 R k) x3 a6 n6 c6 x7 x8 w := by kernel_rfl
theorem bits_Count.lq8 (R : Value → World → Prop) : ∀ k, bits_Count.l8 R k = bits_Count.rl8 R k
  | 0 => by funext x3 a6 n6 c6 x7 x8 w; first | rfl | kernel_rfl
  | k + 1 => by
    funext x3 a6 n6 c6 x7 x8 w
    rw [bits_Count.s8, forall_const]
    unfold bits_Count.l8
    have ih := bits_Count.lq8 R k
    rw [ih]
    all_goals rfl
theorem bits_Count.eq8 (R : Value → World → Prop) : bits_Count.e8 R = bits_Count.re8 R := by
  funext x3 a6 n6 c6 x7 x8 w
  unfold bits_Count.e8 bits_Count.re8
  simp only [bits_Count.lq8 R]
def bits_Count (R : Value → World → Prop) (a0 : Option Addr) (n0 : Nat) (c0 : Nat) (w : World) : Prop := bits_Count.g0 R (bits_Count.e8 R) a0 n0 c0 w
theorem bits_Count.root0 (R : Value → World → Prop) (a0 : Option Addr) (n0 : Nat) (c0 : Nat) (w : World) : fnN Go.Proofs.Tryd.prog Go.Proofs.Tryd.f56 bits_Count.an #[.slice a0 n0 c0] w R = bits_Count.g0 R (bits_Count.re8 R) a0 n0 c0 w := by kernel_rfl
theorem bits_Count.calls {R : Value → World → Prop} {a0 : Option Addr} {n0 : Nat} {c0 : Nat} {w : World} (h : bits_Count R a0 n0 c0 w) : Go.E.CallsD Go.Proofs.Tryd.prog 56 #[.slice a0 n0 c0] w R := by
  refine callsD_of (n := bits_Count.an) M_follows M_sizes Go.Proofs.Tryd.func56 (by rfl) ?_
  rw [bits_Count.root0]
  unfold bits_Count at h
  rw [bits_Count.eq8 R] at h
  exact h
-- math/bits.OnesCount64
def bits_OnesCount64.an : An := An.nil
def bits_OnesCount64.g0 (R : Value → World → Prop) (x0 : Int) (w : World) : Prop :=
 nv (Int.fdiv x0 (2 ^ 1)) fun t20 =>
 nv (bitsI .and .u64 t20 6148914691236517205) fun t21 =>
 nv (bitsI .and .u64 x0 6148914691236517205) fun t22 =>
 nv (IntKind.u64.wrap (t21 + t22)) fun t23 =>
 nv (Int.fdiv t23 (2 ^ 2)) fun t24 =>
 nv (bitsI .and .u64 t24 3689348814741910323) fun t25 =>
 nv (bitsI .and .u64 t23 3689348814741910323) fun t26 =>
 nv (IntKind.u64.wrap (t25 + t26)) fun t27 =>
 nv (Int.fdiv t27 (2 ^ 4)) fun t28 =>
 nv (IntKind.u64.wrap (t28 + t27)) fun t29 =>
 nv (bitsI .and .u64 t29 1085102592571150095) fun t30 =>
 nv (Int.fdiv t30 (2 ^ 8)) fun t31 =>
 nv (IntKind.u64.wrap (t30 + t31)) fun t32 =>
 nv (Int.fdiv t32 (2 ^ 16)) fun t33 =>
 nv (IntKind.u64.wrap (t32 + t33)) fun t34 =>
 nv (Int.fdiv t34 (2 ^ (min (32 : Int).toNat 64))) fun t35 =>
 nv (IntKind.u64.wrap (t34 + t35)) fun t36 =>
 nv (IntKind.i64.wrap t36) fun t37 =>
 nv (bitsI .and .i64 t37 127) fun t38 =>
 R (.int .i64 t38) w
def bits_OnesCount64 (R : Value → World → Prop) (x0 : Int) (w : World) : Prop := bits_OnesCount64.g0 R x0 w
theorem bits_OnesCount64.root0 (R : Value → World → Prop) (x0 : Int) (w : World) : fnN Go.Proofs.Tryd.prog Go.Proofs.Tryd.f57 bits_OnesCount64.an #[.int .u64 x0] w R = bits_OnesCount64.g0 R x0 w := by kernel_rfl
theorem bits_OnesCount64.calls {R : Value → World → Prop} {x0 : Int} {w : World} (h : bits_OnesCount64 R x0 w) : Go.E.CallsD Go.Proofs.Tryd.prog 57 #[.int .u64 x0] w R := by
  refine callsD_of (n := bits_OnesCount64.an) M_follows M_sizes Go.Proofs.Tryd.func57 (by rfl) ?_
  rw [bits_OnesCount64.root0]
  unfold bits_OnesCount64 at h
  exact h
-- thicket/trees.kind
def trees_kind.an : An := An.nil
def trees_kind.g0 (R : Value → World → Prop) (x0_0 : Int) (x0_1 : Int) (x0_2 : Int) (f0_3 : Nat) (a0_4 : Option Addr) (n0_4 : Nat) (c0_4 : Nat) (x0_5 : Int) (x0_6 : Int) (x0_7 : Int) (w : World) : Prop :=
 nw (w.alloc (.cells #[.int .u8 x0_0, .int .i64 x0_1, .int .i64 x0_2, .float .f64 f0_3, .slice a0_4 n0_4 c0_4, .int .u8 x0_5, .int .i64 x0_6, .int .i64 x0_7] 49)) fun w7 =>
 ∃ yx_8 : Int, w7.cell? ((na w).add 0) = some (.int .u8 yx_8) ∧
 (onBool (yx_8 == 2)
 (∃ yf_9 : Nat, w7.cell? ((na w).add 3) = some (.float .f64 yf_9) ∧
 (∃ yx_10 : Int, w7.cell? ((na w).add 5) = some (.int .u8 yx_10) ∧
 (R (.iface 96 (.agg #[.float .f64 yf_9, .int .u8 yx_10])) w7)))
 (onBool (yx_8 == 3)
 (∃ ya_11 : Option Addr, ∃ yn_11 : Nat, ∃ yc_11 : Nat, w7.cell? ((na w).add 4) = some (.slice ya_11 yn_11 yc_11) ∧
 (∃ yx_12 : Int, w7.cell? ((na w).add 5) = some (.int .u8 yx_12) ∧
 (R (.iface 98 (.agg #[.slice ya_11 yn_11 yc_11, .int .u8 yx_12])) w7)))
 (R (.iface 100 (.agg #[])) w7)))
def trees_kind (R : Value → World → Prop) (x0_0 : Int) (x0_1 : Int) (x0_2 : Int) (f0_3 : Nat) (a0_4 : Option Addr) (n0_4 : Nat) (c0_4 : Nat) (x0_5 : Int) (x0_6 : Int) (x0_7 : Int) (w : World) : Prop := trees_kind.g0 R x0_0 x0_1 x0_2 f0_3 a0_4 n0_4 c0_4 x0_5 x0_6 x0_7 w
theorem trees_kind.root0 (R : Value → World → Prop) (x0_0 : Int) (x0_1 : Int) (x0_2 : Int) (f0_3 : Nat) (a0_4 : Option Addr) (n0_4 : Nat) (c0_4 : Nat) (x0_5 : Int) (x0_6 : Int) (x0_7 : Int) (w : World) : fnN Go.Proofs.Tryd.prog Go.Proofs.Tryd.f58 trees_kind.an #[.agg #[.int .u8 x0_0, .int .i64 x0_1, .int .i64 x0_2, .float .f64 f0_3, .slice a0_4 n0_4 c0_4, .int .u8 x0_5, .int .i64 x0_6, .int .i64 x0_7]] w R = trees_kind.g0 R x0_0 x0_1 x0_2 f0_3 a0_4 n0_4 c0_4 x0_5 x0_6 x0_7 w := by kernel_rfl
theorem trees_kind.calls {R : Value → World → Prop} {x0_0 : Int} {x0_1 : Int} {x0_2 : Int} {f0_3 : Nat} {a0_4 : Option Addr} {n0_4 : Nat} {c0_4 : Nat} {x0_5 : Int} {x0_6 : Int} {x0_7 : Int} {w : World} (h : trees_kind R x0_0 x0_1 x0_2 f0_3 a0_4 n0_4 c0_4 x0_5 x0_6 x0_7 w) : Go.E.CallsD Go.Proofs.Tryd.prog 58 #[.agg #[.int .u8 x0_0, .int .i64 x0_1, .int .i64 x0_2, .float .f64 f0_3, .slice a0_4 n0_4 c0_4, .int .u8 x0_5, .int .i64 x0_6, .int .i64 x0_7]] w R := by
  refine callsD_of (n := trees_kind.an) M_follows M_sizes Go.Proofs.Tryd.func58 (by rfl) ?_
  rw [trees_kind.root0]
  unfold trees_kind at h
  exact h
-- thicket/thicketref07.nan
def thicketref07_nan.an : An := An.nil
def thicketref07_nan.g0 (R : Value → World → Prop) (f0 : Nat) (w : World) : Prop :=
 R (.bool (FloatKind.f64.format.order f0 f0 != some .eq)) w
def thicketref07_nan (R : Value → World → Prop) (f0 : Nat) (w : World) : Prop := thicketref07_nan.g0 R f0 w
theorem thicketref07_nan.root0 (R : Value → World → Prop) (f0 : Nat) (w : World) : fnN Go.Proofs.Tryd.prog Go.Proofs.Tryd.f59 thicketref07_nan.an #[.float .f64 f0] w R = thicketref07_nan.g0 R f0 w := by kernel_rfl
theorem thicketref07_nan.calls {R : Value → World → Prop} {f0 : Nat} {w : World} (h : thicketref07_nan R f0 w) : Go.E.CallsD Go.Proofs.Tryd.prog 59 #[.float .f64 f0] w R := by
  refine callsD_of (n := thicketref07_nan.an) M_follows M_sizes Go.Proofs.Tryd.func59 (by rfl) ?_
  rw [thicketref07_nan.root0]
  unfold thicketref07_nan at h
  exact h
-- thicket/thicketref05.made
def thicketref05_made.an : An := (.mk none .nil (.mk none .nil (.mk none (.mk none .nil (.mk none (.mk (some [0, 1, 2, 3, 9, 10]) (.mk none .nil (.mk none (.mk none (.mk (some [0, 1, 2, 3, 9, 10, 29]) .nil .nil) .nil) .nil)) .nil) .nil)) .nil)))
def thicketref05_made.g0 (R : Value → World → Prop) (e8 : Int → Int → Int → Bool → (Option Addr) → Nat → Nat → Int → World → Prop) (x0 : Int) (x1 : Int) (x2 : Int) (b3 : Bool) (w : World) : Prop :=
 nv (IntKind.i64.wrap (x0 + 63)) fun t15 =>
 nv (IntKind.i64.wrap (Int.tdiv t15 64)) fun t16 =>
 chk ((0 : Int) ≤ t16 ∧ t16 ≤ t16 ∧ ((8 : Nat) : Int) * t16 ≤ 281474976710656 ∧ t16 ≤ 9223372036854775807)
 (nw (w.alloc (.cells (madeCells #[.int .u64 0] ((t16).toNat * 1)) 58)) fun w17 =>
 e8 x0 x1 x2 b3 (some (na w)) ((t16).toNat) ((t16).toNat) 0 w17)
def thicketref05_made.g8 (R : Value → World → Prop) (j19 : Int → Int → Int → Bool → (Option Addr) → Nat → Nat → Int → Bool → World → Prop) (x0 : Int) (x1 : Int) (x2 : Int) (b3 : Bool) (a9 : Option Addr) (n9 : Nat) (c9 : Nat) (x10 : Int) (w : World) : Prop :=
 onBool (decide (x10 < x0))
 (onBool (decide (x10 ≥ x1))
 (j19 x0 x1 x2 b3 a9 n9 c9 x10 ((decide (x10 < x2)) == b3) w)
 (j19 x0 x1 x2 b3 a9 n9 c9 x10 (false == b3) w))
 (R (.slice a9 n9 c9) w)
def thicketref05_made.g19 (R : Value → World → Prop) (b8 : Int → Int → Int → Bool → (Option Addr) → Nat → Nat → Int → World → Prop) (x0 : Int) (x1 : Int) (x2 : Int) (b3 : Bool) (a9 : Option Addr) (n9 : Nat) (c9 : Nat) (x10 : Int) (b29 : Bool) (w : World) : Prop :=
 onBool b29
 (nv (IntKind.i64.wrap (Int.tdiv x10 64)) fun t18 =>
 nv (IntKind.i64.wrap (Int.tdiv x10 64)) fun t19 =>
 optN a9 fun q20 =>
 chk ((0 : Int) ≤ t19 ∧ t19 < (n9 : Int))
 (∃ yx_21 : Int, w.cell? (q20.add (t19.toNat * 1)) = some (.int .u64 yx_21) ∧
 (nv (Int.tmod x10 64) fun t22 =>
 nv (IntKind.u64.wrap t22) fun t23 =>
 nchk (t23 < 0)
 (nv (IntKind.u64.wrap (1 * 2 ^ (min t23.toNat 64))) fun t24 =>
 nv (bitsI .or .u64 yx_21 t24) fun t25 =>
 optN a9 fun q26 =>
 chk ((0 : Int) ≤ t18 ∧ t18 < (n9 : Int))
 (okSt w ((q26.add (t18.toNat * 1)).add 0) ∧
 (nw (w.setCell ((q26.add (t18.toNat * 1)).add 0) (.int .u64 t25)) fun w27 =>
 nv (IntKind.i64.wrap (x10 + 1)) fun t28 =>
 b8 x0 x1 x2 b3 a9 n9 c9 t28 w27))))))
 (nv (IntKind.i64.wrap (x10 + 1)) fun t29 =>
 b8 x0 x1 x2 b3 a9 n9 c9 t29 w)
def thicketref05_made.q2 (R : Value → World → Prop) : Exit → Act → World → Prop := (fin Go.Proofs.Tryd.prog Go.Proofs.Tryd.f60 R)
def thicketref05_made.q4 (R : Value → World → Prop) : Exit → Act → World → Prop := (thicketref05_made.q2 R)
def thicketref05_made.q5 (R : Value → World → Prop) : Exit → Act → World → Prop := Exit.then (startN none (codeN Go.Proofs.Tryd.prog (sub (codeOf Go.Proofs.Tryd.f60) [1, 1, 1]) (nsub thicketref05_made.an [1, 1, 1]) (thicketref05_made.q4 R))) (thicketref05_made.q4 R)
def thicketref05_made.q7 (R : Value → World → Prop) : Exit → Act → World → Prop := (thicketref05_made.q5 R)
def thicketref05_made.q8 (R : Value → World → Prop) : Exit → Act → World → Prop := Exit.inBlock 0 (thicketref05_made.q7 R)
def thicketref05_made.rl8 (R : Value → World → Prop) (k : Nat) (x0 : Int) (x1 : Int) (x2 : Int) (b3 : Bool) (a9 : Option Addr) (n9 : Nat) (c9 : Nat) (x10 : Int) (w : World) : Prop := loopN [0, 1, 2, 3, 9, 10] (codeN Go.Proofs.Tryd.prog (sub (codeOf Go.Proofs.Tryd.f60) [1, 1, 0, 1, 0, 0]) (nsub thicketref05_made.an [1, 1, 0, 1, 0, 0])) (thicketref05_made.q8 R) k ⟨#[.int .i64 x0, .int .i64 x1, .int .i64 x2, .bool b3, undef, undef, undef, undef, undef, .slice a9 n9 c9, .int .i64 x10, undef, undef, undef, undef, undef, undef, undef, undef, undef, undef, undef, undef, undef, undef, undef, undef, undef, undef, undef, undef, undef, undef, undef, undef, undef, undef, undef, undef, undef, undef, undef, undef, undef, undef], []⟩ w
def thicketref05_made.re8 (R : Value → World → Prop) (x0 : Int) (x1 : Int) (x2 : Int) (b3 : Bool) (a9 : Option Addr) (n9 : Nat) (c9 : Nat) (x10 : Int) (w : World) : Prop := ∃ k, thicketref05_made.rl8 R k x0 x1 x2 b3 a9 n9 c9 x10 w
def thicketref05_made.q9 (R : Value → World → Prop) (k8 : Nat) : Exit → Act → World → Prop := Exit.then (fun a w => loopN [0, 1, 2, 3, 9, 10] (codeN Go.Proofs.Tryd.prog (sub (codeOf Go.Proofs.Tryd.f60) [1, 1, 0, 1, 0, 0]) (nsub thicketref05_made.an [1, 1, 0, 1, 0, 0])) (thicketref05_made.q8 R) k8 (clr [0, 1, 2, 3, 9, 10] a) w) (thicketref05_made.q8 R)
def thicketref05_made.q15 (R : Value → World → Prop) (k8 : Nat) : Exit → Act → World → Prop := (thicketref05_made.q9 R k8)
def thicketref05_made.q16 (R : Value → World → Prop) (k8 : Nat) : Exit → Act → World → Prop := Exit.then (startN none (codeN Go.Proofs.Tryd.prog (sub (codeOf Go.Proofs.Tryd.f60) [1, 1, 0, 1, 0, 0, 1, 1]) (nsub thicketref05_made.an [1, 1, 0, 1, 0, 0, 1, 1]) (thicketref05_made.q15 R k8))) (thicketref05_made.q15 R k8)
def thicketref05_made.q17 (R : Value → World → Prop) (k8 : Nat) : Exit → Act → World → Prop := Exit.inBlock 1 (thicketref05_made.q16 R k8)
def thicketref05_made.q19 (R : Value → World → Prop) (k8 : Nat) : Exit → Act → World → Prop := (thicketref05_made.q17 R k8)
def thicketref05_made.rj19 (R : Value → World → Prop) (k8 : Nat) (x0 : Int) (x1 : Int) (x2 : Int) (b3 : Bool) (a9 : Option Addr) (n9 : Nat) (c9 : Nat) (x10 : Int) (b29 : Bool) (w : World) : Prop := startN (some [0, 1, 2, 3, 9, 10, 29]) (codeN Go.Proofs.Tryd.prog (sub (codeOf Go.Proofs.Tryd.f60) [1, 1, 0, 1, 0, 0, 1, 0, 0, 1]) (nsub thicketref05_made.an [1, 1, 0, 1, 0, 0, 1, 0, 0, 1]) (thicketref05_made.q19 R k8)) ⟨#[.int .i64 x0, .int .i64 x1, .int .i64 x2, .bool b3, undef, undef, undef, undef, undef, .slice a9 n9 c9, .int .i64 x10, undef, undef, undef, undef, undef, undef, undef, undef, undef, undef, undef, undef, undef, undef, undef, undef, undef, undef, .bool b29, undef, undef, undef, undef, undef, undef, undef, undef, undef, undef, undef, undef, undef, undef, undef], []⟩ w
def thicketref05_made.j19 (R : Value → World → Prop) (b8 : Int → Int → Int → Bool → (Option Addr) → Nat → Nat → Int → World → Prop) (x0 : Int) (x1 : Int) (x2 : Int) (b3 : Bool) (a9 : Option Addr) (n9 : Nat) (c9 : Nat) (x10 : Int) (b29 : Bool) (w : World) : Prop := thicketref05_made.g19 R b8 x0 x1 x2 b3 a9 n9 c9 x10 b29 w
theorem thicketref05_made.s19 (R : Value → World → Prop) (k8 : Nat) (x0 : Int) (x1 : Int) (x2 : Int) (b3 : Bool) (a9 : Option Addr) (n9 : Nat) (c9 : Nat) (x10 : Int) (b29 : Bool) (w : World) : thicketref05_made.rj19 R k8 x0 x1 x2 b3 a9 n9 c9 x10 b29 w = ∀ _ : Nat → Value, thicketref05_made.g19 R (thicketref05_made.rl8 R k8) x0 x1 x2 b3 a9 n9 c9 x10 b29 w := by kernel_rfl
theorem thicketref05_made.jq19 (R : Value → World → Prop) (k8 : Nat) (b8 : Int → Int → Int → Bool → (Option Addr) → Nat → Nat → Int → World → Prop) (hb8 : b8 = thicketref05_made.rl8 R k8) : thicketref05_made.j19 R b8 = thicketref05_made.rj19 R k8 := by
    funext x0 x1 x2 b3 a9 n9 c9 x10 b29 w
    rw [thicketref05_made.s19, forall_const]
    unfold thicketref05_made.j19
    subst hb8
    all_goals rfl
def thicketref05_made.l8 (R : Value → World → Prop) : Nat → Int → Int → Int → Bool → (Option Addr) → Nat → Nat → Int → World → Prop
  | 0, _, _, _, _, _, _, _, _, _ => False
  | k + 1, x0, x1, x2, b3, a9, n9, c9, x10, w => thicketref05_made.g8 R (thicketref05_made.j19 R (thicketref05_made.l8 R k)) x0 x1 x2 b3 a9 n9 c9 x10 w
def thicketref05_made.e8 (R : Value → World → Prop) (x0 : Int) (x1 : Int) (x2 : Int) (b3 : Bool) (a9 : Option Addr) (n9 : Nat) (c9 : Nat) (x10 : Int) (w : World) : Prop := ∃ k, thicketref05_made.l8 R k x0 x1 x2 b3 a9 n9 c9 x10 w
theorem thicketref05_made.s8 (R : Value → World → Prop) (k : Nat) (x0 : Int) (x1 : Int) (x2 : Int) (b3 : Bool) (a9 : Option Addr) (n9 : Nat) (c9 : Nat) (x10 : Int) (w : World) : thicketref05_made.rl8 R (k + 1) x0 x1 x2 b3 a9 n9 c9 x10 w = ∀ _ : Nat → Value, thicketref05_made.g8 R (thicketref05_made.rj19 R k) x0 x1 x2 b3 a9 n9 c9 x10 w := by kernel_rfl
theorem thicketref05_made.lq8 (R : Value → World → Prop) : ∀ k, thicketref05_made.l8 R k = thicketref05_made.rl8 R k
  | 0 => by funext x0 x1 x2 b3 a9 n9 c9 x10 w; first | rfl | kernel_rfl
  | k + 1 => by
    funext x0 x1 x2 b3 a9 n9 c9 x10 w
    rw [thicketref05_made.s8, forall_const]
    unfold thicketref05_made.l8
    have ih := thicketref05_made.lq8 R k
    rw [thicketref05_made.jq19 R k _ ih]
    all_goals rfl
theorem thicketref05_made.eq8 (R : Value → World → Prop) : thicketref05_made.e8 R = thicketref05_made.re8 R := by
  funext x0 x1 x2 b3 a9 n9 c9 x10 w
  unfold thicketref05_made.e8 thicketref05_made.re8
  simp only [thicketref05_made.lq8 R]
def thicketref05_made (R : Value → World → Prop) (x0 : Int) (x1 : Int) (x2 : Int) (b3 : Bool) (w : World) : Prop := thicketref05_made.g0 R (thicketref05_made.e8 R) x0 x1 x2 b3 w
theorem thicketref05_made.root0 (R : Value → World → Prop) (x0 : Int) (x1 : Int) (x2 : Int) (b3 : Bool) (w : World) : fnN Go.Proofs.Tryd.prog Go.Proofs.Tryd.f60 thicketref05_made.an #[.int .i64 x0, .int .i64 x1, .int .i64 x2, .bool b3] w R = thicketref05_made.g0 R (thicketref05_made.re8 R) x0 x1 x2 b3 w := by kernel_rfl
theorem thicketref05_made.calls {R : Value → World → Prop} {x0 : Int} {x1 : Int} {x2 : Int} {b3 : Bool} {w : World} (h : thicketref05_made R x0 x1 x2 b3 w) : Go.E.CallsD Go.Proofs.Tryd.prog 60 #[.int .i64 x0, .int .i64 x1, .int .i64 x2, .bool b3] w R := by
  refine callsD_of (n := thicketref05_made.an) M_follows M_sizes Go.Proofs.Tryd.func60 (by rfl) ?_
  rw [thicketref05_made.root0]
  unfold thicketref05_made at h
  rw [thicketref05_made.eq8 R] at h
  exact h
end Go.Mir
