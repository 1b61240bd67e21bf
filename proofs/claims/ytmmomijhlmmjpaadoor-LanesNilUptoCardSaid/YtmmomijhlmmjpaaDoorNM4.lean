/- Part of a proof of laws of the seat YtmmomijhlmmjpaaDoor: functions' weakest preconditions, each checked by the kernel, contracts out of them, plain lemmas; no conditions. -/
import Derived.Test.YtmmomijhlmmjpaaDoorNM0
set_option linter.unusedVariables false
set_option linter.unusedSimpArgs false
set_option linter.unusedVariables false
set_option maxRecDepth 100000
namespace Go.Mir
open Go Go.E Go.RowKit
-- thicket/lanes.full
-- (thicket/lanes.masks).out
def lanes_masks_out.an : An := (.mk none .nil (.mk none .nil (.mk none .nil (.mk none (.mk (some [0, 3, 5, 8, 20]) .nil .nil) .nil))))
def lanes_masks_out.g0 (R : Value → World → Prop) (e7 : (Option Addr) → Nat → Nat → Int → (Option Addr) → (Option Addr) → Nat → Nat → Int → World → Prop) (a0 : Option Addr) (n0 : Nat) (c0 : Nat) (f1_0 : Nat) (a1_1 : Option Addr) (n1_1 : Nat) (c1_1 : Nat) (x1_2 : Int) (x1_3 : Int) (x1_4 : Int) (x2 : Int) (x3 : Int) (w : World) : Prop :=
 nw (w.alloc (.cells #[.float .f64 f1_0, .slice a1_1 n1_1 c1_1, .int .i64 x1_2, .int .i64 x1_3, .int .i64 x1_4] 76)) fun w18 =>
 ∃ yx_19 : Int, w18.cell? ((na w).add 3) = some (.int .i64 yx_19) ∧
 (∃ yx_20 : Int, w18.cell? ((na w).add 4) = some (.int .i64 yx_20) ∧
 (Go.E.CallsD Go.Proofs.Tryd.prog 29 #[.int .i64 x2, .int .i64 yx_19, .int .i64 yx_20] w18 fun yv21 u22 =>
 ∃ ya_23_0 : Option Addr, ∃ yn_23_0 : Nat, ∃ yc_23_0 : Nat, ∃ yx_23_1 : Int, yv21 = .tuple #[.slice ya_23_0 yn_23_0 yc_23_0, .int .i64 yx_23_1] ∧
 (e7 a0 n0 c0 x3 (some (na w)) ya_23_0 yn_23_0 yc_23_0 0 u22)))
def lanes_masks_out.g7 (R : Value → World → Prop) (b7 : (Option Addr) → Nat → Nat → Int → (Option Addr) → (Option Addr) → Nat → Nat → Int → World → Prop) (a0 : Option Addr) (n0 : Nat) (c0 : Nat) (x3 : Int) (p5 : Option Addr) (a8 : Option Addr) (n8 : Nat) (c8 : Nat) (x20 : Int) (w : World) : Prop :=
 onBool (decide (x20 < 8))
 (nv (IntKind.u64.wrap x20) fun t24 =>
 nchk (t24 < 0)
 (nv (Int.fdiv x3 (2 ^ (min t24.toNat 8))) fun t25 =>
 nv (bitsI .and .u8 t25 1) fun t26 =>
 onBool (t26 == 1)
 (optN p5 fun q27 =>
 ∃ yx_28 : Int, w.cell? (q27.add 2) = some (.int .i64 yx_28) ∧
 (optN a0 fun q29 =>
 chk ((0 : Int) ≤ yx_28 ∧ yx_28 < (n0 : Int))
 (chk ((0 : Int) ≤ x20 ∧ x20 < (8 : Int))
 (∃ ya_30 : Option Addr, ∃ yn_30 : Nat, ∃ yc_30 : Nat, w.cell? ((q29.add (yx_28.toNat * 8)).add (x20.toNat * 1)) = some (.slice ya_30 yn_30 yc_30) ∧
 (Go.E.CallsD Go.Proofs.Tryd.prog 30 #[.slice ya_30 yn_30 yc_30, .slice a8 n8 c8] w fun yv31 u32 =>
 ∃ yx_33 : Int, yv31 = .int .i64 yx_33 ∧
 (nv (IntKind.i64.wrap (x20 + 1)) fun t34 =>
 b7 a0 n0 c0 x3 p5 a8 n8 c8 t34 u32))))))
 (nv (IntKind.i64.wrap (x20 + 1)) fun t35 =>
 b7 a0 n0 c0 x3 p5 a8 n8 c8 t35 w)))
 (R (.tuple #[]) w)
def lanes_masks_out.q2 (R : Value → World → Prop) : Exit → Act → World → Prop := (fin Go.Proofs.Tryd.prog Go.Proofs.Tryd.f26 R)
def lanes_masks_out.q4 (R : Value → World → Prop) : Exit → Act → World → Prop := (lanes_masks_out.q2 R)
def lanes_masks_out.q6 (R : Value → World → Prop) : Exit → Act → World → Prop := (lanes_masks_out.q4 R)
def lanes_masks_out.q7 (R : Value → World → Prop) : Exit → Act → World → Prop := Exit.inBlock 0 (lanes_masks_out.q6 R)
def lanes_masks_out.rl7 (R : Value → World → Prop) (k : Nat) (a0 : Option Addr) (n0 : Nat) (c0 : Nat) (x3 : Int) (p5 : Option Addr) (a8 : Option Addr) (n8 : Nat) (c8 : Nat) (x20 : Int) (w : World) : Prop := loopN [0, 3, 5, 8, 20] (codeN Go.Proofs.Tryd.prog (sub (codeOf Go.Proofs.Tryd.f26) [1, 1, 1, 0, 0]) (nsub lanes_masks_out.an [1, 1, 1, 0, 0])) (lanes_masks_out.q7 R) k ⟨#[.slice a0 n0 c0, undef, undef, .int .u8 x3, undef, .pointer p5, undef, undef, .slice a8 n8 c8, undef, undef, undef, undef, undef, undef, undef, undef, undef, undef, undef, .int .i64 x20, undef, undef, undef, undef, undef, undef, undef, undef, undef, undef, undef, undef, undef, undef, undef, undef, undef, undef], []⟩ w
def lanes_masks_out.re7 (R : Value → World → Prop) (a0 : Option Addr) (n0 : Nat) (c0 : Nat) (x3 : Int) (p5 : Option Addr) (a8 : Option Addr) (n8 : Nat) (c8 : Nat) (x20 : Int) (w : World) : Prop := ∃ k, lanes_masks_out.rl7 R k a0 n0 c0 x3 p5 a8 n8 c8 x20 w
def lanes_masks_out.l7 (R : Value → World → Prop) : Nat → (Option Addr) → Nat → Nat → Int → (Option Addr) → (Option Addr) → Nat → Nat → Int → World → Prop
  | 0, _, _, _, _, _, _, _, _, _, _ => False
  | k + 1, a0, n0, c0, x3, p5, a8, n8, c8, x20, w => lanes_masks_out.g7 R (lanes_masks_out.l7 R k) a0 n0 c0 x3 p5 a8 n8 c8 x20 w
def lanes_masks_out.e7 (R : Value → World → Prop) (a0 : Option Addr) (n0 : Nat) (c0 : Nat) (x3 : Int) (p5 : Option Addr) (a8 : Option Addr) (n8 : Nat) (c8 : Nat) (x20 : Int) (w : World) : Prop := ∃ k, lanes_masks_out.l7 R k a0 n0 c0 x3 p5 a8 n8 c8 x20 w
theorem lanes_masks_out.s7 (R : Value → World → Prop) (k : Nat) (a0 : Option Addr) (n0 : Nat) (c0 : Nat) (x3 : Int) (p5 : Option Addr) (a8 : Option Addr) (n8 : Nat) (c8 : Nat) (x20 : Int) (w : World) : lanes_masks_out.rl7 R (k + 1) a0 n0 c0 x3 p5 a8 n8 c8 x20 w = ∀ _ : Nat → Value, lanes_masks_out.g7 R (lanes_masks_out.rl7 R k) a0 n0 c0 x3 p5 a8 n8 c8 x20 w := by kernel_rfl
theorem lanes_masks_out.lq7 (R : Value → World → Prop) : ∀ k, lanes_masks_out.l7 R k = lanes_masks_out.rl7 R k
  | 0 => by funext a0 n0 c0 x3 p5 a8 n8 c8 x20 w; first | rfl | kernel_rfl
  | k + 1 => by
    funext a0 n0 c0 x3 p5 a8 n8 c8 x20 w
    rw [lanes_masks_out.s7, forall_const]
    unfold lanes_masks_out.l7
    have ih := lanes_masks_out.lq7 R k
    rw [ih]
    all_goals rfl
theorem lanes_masks_out.eq7 (R : Value → World → Prop) : lanes_masks_out.e7 R = lanes_masks_out.re7 R := by
  funext a0 n0 c0 x3 p5 a8 n8 c8 x20 w
  unfold lanes_masks_out.e7 lanes_masks_out.re7
  simp only [lanes_masks_out.lq7 R]
def lanes_masks_out (R : Value → World → Prop) (a0 : Option Addr) (n0 : Nat) (c0 : Nat) (f1_0 : Nat) (a1_1 : Option Addr) (n1_1 : Nat) (c1_1 : Nat) (x1_2 : Int) (x1_3 : Int) (x1_4 : Int) (x2 : Int) (x3 : Int) (w : World) : Prop := lanes_masks_out.g0 R (lanes_masks_out.e7 R) a0 n0 c0 f1_0 a1_1 n1_1 c1_1 x1_2 x1_3 x1_4 x2 x3 w
theorem lanes_masks_out.root0 (R : Value → World → Prop) (a0 : Option Addr) (n0 : Nat) (c0 : Nat) (f1_0 : Nat) (a1_1 : Option Addr) (n1_1 : Nat) (c1_1 : Nat) (x1_2 : Int) (x1_3 : Int) (x1_4 : Int) (x2 : Int) (x3 : Int) (w : World) : fnN Go.Proofs.Tryd.prog Go.Proofs.Tryd.f26 lanes_masks_out.an #[.slice a0 n0 c0, .agg #[.float .f64 f1_0, .slice a1_1 n1_1 c1_1, .int .i64 x1_2, .int .i64 x1_3, .int .i64 x1_4], .int .i64 x2, .int .u8 x3] w R = lanes_masks_out.g0 R (lanes_masks_out.re7 R) a0 n0 c0 f1_0 a1_1 n1_1 c1_1 x1_2 x1_3 x1_4 x2 x3 w := by kernel_rfl
theorem lanes_masks_out.calls {R : Value → World → Prop} {a0 : Option Addr} {n0 : Nat} {c0 : Nat} {f1_0 : Nat} {a1_1 : Option Addr} {n1_1 : Nat} {c1_1 : Nat} {x1_2 : Int} {x1_3 : Int} {x1_4 : Int} {x2 : Int} {x3 : Int} {w : World} (h : lanes_masks_out R a0 n0 c0 f1_0 a1_1 n1_1 c1_1 x1_2 x1_3 x1_4 x2 x3 w) : Go.E.CallsD Go.Proofs.Tryd.prog 26 #[.slice a0 n0 c0, .agg #[.float .f64 f1_0, .slice a1_1 n1_1 c1_1, .int .i64 x1_2, .int .i64 x1_3, .int .i64 x1_4], .int .i64 x2, .int .u8 x3] w R := by
  refine callsD_of (n := lanes_masks_out.an) M_follows M_sizes Go.Proofs.Tryd.func26 (by rfl) ?_
  rw [lanes_masks_out.root0]
  unfold lanes_masks_out at h
  rw [lanes_masks_out.eq7 R] at h
  exact h
-- thicket/bits.Full
def bits_Full.an : An := An.nil
def bits_Full.g0 (R : Value → World → Prop) (x0 : Int) (w : World) : Prop :=
 Go.E.CallsD Go.Proofs.Tryd.prog 31 #[.int .i64 x0] w fun yv7 u8 =>
 ∃ ya_9_0 : Option Addr, ∃ yn_9_0 : Nat, ∃ yc_9_0 : Nat, ∃ yx_9_1 : Int, yv7 = .tuple #[.slice ya_9_0 yn_9_0 yc_9_0, .int .i64 yx_9_1] ∧
 (Go.E.CallsD Go.Proofs.Tryd.prog 32 #[.slice ya_9_0 yn_9_0 yc_9_0, .int .i64 0, .int .i64 x0] u8 fun yv10 u11 =>
 yv10 = .tuple #[] ∧
 (R (.tuple #[.slice ya_9_0 yn_9_0 yc_9_0, .int .i64 yx_9_1]) u11))
def bits_Full (R : Value → World → Prop) (x0 : Int) (w : World) : Prop := bits_Full.g0 R x0 w
theorem bits_Full.root0 (R : Value → World → Prop) (x0 : Int) (w : World) : fnN Go.Proofs.Tryd.prog Go.Proofs.Tryd.f28 bits_Full.an #[.int .i64 x0] w R = bits_Full.g0 R x0 w := by kernel_rfl
theorem bits_Full.calls {R : Value → World → Prop} {x0 : Int} {w : World} (h : bits_Full R x0 w) : Go.E.CallsD Go.Proofs.Tryd.prog 28 #[.int .i64 x0] w R := by
  refine callsD_of (n := bits_Full.an) M_follows M_sizes Go.Proofs.Tryd.func28 (by rfl) ?_
  rw [bits_Full.root0]
  unfold bits_Full at h
  exact h
-- thicket/bits.Mask
def bits_Mask.an : An := (.mk none .nil (.mk none .nil (.mk none .nil (.mk none .nil (.mk none .nil (.mk none .nil (.mk none (.mk none .nil (.mk none (.mk (some [8, 10, 40, 41]) .nil .nil) .nil)) .nil)))))))
def bits_Mask.g0 (R : Value → World → Prop) (e28 : (Option Addr) → Nat → Nat → (Option Addr) → Nat → Nat → Int → Int → World → Prop) (x0 : Int) (x1 : Int) (x2 : Int) (w : World) : Prop :=
 Go.E.CallsD Go.Proofs.Tryd.prog 28 #[.int .i64 x0] w fun yv12 u13 =>
 ∃ ya_14_0 : Option Addr, ∃ yn_14_0 : Nat, ∃ yc_14_0 : Nat, ∃ yx_14_1 : Int, yv12 = .tuple #[.slice ya_14_0 yn_14_0 yc_14_0, .int .i64 yx_14_1] ∧
 (onBool (yx_14_1 != 0)
 (R (.tuple #[.slice none 0 0, .int .i64 yx_14_1]) u13)
 (onBool (decide (x1 < 0))
 (R (.tuple #[.slice none 0 0, .int .i64 2]) u13)
 (onBool (decide (x1 > x2))
 (R (.tuple #[.slice none 0 0, .int .i64 2]) u13)
 (onBool (decide (x2 > x0))
 (R (.tuple #[.slice none 0 0, .int .i64 2]) u13)
 (chk ((0 : Int) ≤ (yn_14_0 : Int) ∧ (yn_14_0 : Int) ≤ (yn_14_0 : Int) ∧ ((8 : Nat) : Int) * (yn_14_0 : Int) ≤ 281474976710656 ∧ (yn_14_0 : Int) ≤ 9223372036854775807)
 (nw (u13.alloc (.cells (madeCells #[.int .u64 0] (((yn_14_0 : Int)).toNat * 1)) 78)) fun w15 =>
 Go.E.CallsD Go.Proofs.Tryd.prog 32 #[.slice (some (na u13)) (((yn_14_0 : Int)).toNat) (((yn_14_0 : Int)).toNat), .int .i64 x1, .int .i64 x2] w15 fun yv16 u17 =>
 yv16 = .tuple #[] ∧
 (e28 ya_14_0 yn_14_0 yc_14_0 (some (na u13)) (((yn_14_0 : Int)).toNat) (((yn_14_0 : Int)).toNat) (yn_14_0 : Int) 0 u17)))))))
def bits_Mask.g28 (R : Value → World → Prop) (b28 : (Option Addr) → Nat → Nat → (Option Addr) → Nat → Nat → Int → Int → World → Prop) (a8 : Option Addr) (n8 : Nat) (c8 : Nat) (a10 : Option Addr) (n10 : Nat) (c10 : Nat) (x40 : Int) (x41 : Int) (w : World) : Prop :=
 onBool (decide (x41 < x40))
 (optN a8 fun q19 =>
 chk ((0 : Int) ≤ x41 ∧ x41 < (n8 : Int))
 (∃ yx_20 : Int, w.cell? (q19.add (x41.toNat * 1)) = some (.int .u64 yx_20) ∧
 (optN a10 fun q21 =>
 chk ((0 : Int) ≤ x41 ∧ x41 < (n10 : Int))
 (∃ yx_22 : Int, w.cell? (q21.add (x41.toNat * 1)) = some (.int .u64 yx_22) ∧
 (nv (bitsI .andNot .u64 yx_20 yx_22) fun t23 =>
 optN a8 fun q24 =>
 chk ((0 : Int) ≤ x41 ∧ x41 < (n8 : Int))
 (okSt w ((q24.add (x41.toNat * 1)).add 0) ∧
 (nw (w.setCell ((q24.add (x41.toNat * 1)).add 0) (.int .u64 t23)) fun w25 =>
 nv (IntKind.i64.wrap (x41 + 1)) fun t26 =>
 b28 a8 n8 c8 a10 n10 c10 x40 t26 w25)))))))
 (R (.tuple #[.slice a8 n8 c8, .int .i64 0]) w)
def bits_Mask.q2 (R : Value → World → Prop) : Exit → Act → World → Prop := (fin Go.Proofs.Tryd.prog Go.Proofs.Tryd.f29 R)
def bits_Mask.q4 (R : Value → World → Prop) : Exit → Act → World → Prop := (bits_Mask.q2 R)
def bits_Mask.q12 (R : Value → World → Prop) : Exit → Act → World → Prop := (bits_Mask.q4 R)
def bits_Mask.q20 (R : Value → World → Prop) : Exit → Act → World → Prop := (bits_Mask.q12 R)
def bits_Mask.q22 (R : Value → World → Prop) : Exit → Act → World → Prop := (bits_Mask.q20 R)
def bits_Mask.q24 (R : Value → World → Prop) : Exit → Act → World → Prop := (bits_Mask.q22 R)
def bits_Mask.q25 (R : Value → World → Prop) : Exit → Act → World → Prop := Exit.then (startN none (codeN Go.Proofs.Tryd.prog (sub (codeOf Go.Proofs.Tryd.f29) [1, 1, 1, 1, 1, 1, 1]) (nsub bits_Mask.an [1, 1, 1, 1, 1, 1, 1]) (bits_Mask.q24 R))) (bits_Mask.q24 R)
def bits_Mask.q27 (R : Value → World → Prop) : Exit → Act → World → Prop := (bits_Mask.q25 R)
def bits_Mask.q28 (R : Value → World → Prop) : Exit → Act → World → Prop := Exit.inBlock 0 (bits_Mask.q27 R)
def bits_Mask.rl28 (R : Value → World → Prop) (k : Nat) (a8 : Option Addr) (n8 : Nat) (c8 : Nat) (a10 : Option Addr) (n10 : Nat) (c10 : Nat) (x40 : Int) (x41 : Int) (w : World) : Prop := loopN [8, 10, 40, 41] (codeN Go.Proofs.Tryd.prog (sub (codeOf Go.Proofs.Tryd.f29) [1, 1, 1, 1, 1, 1, 0, 1, 0, 0]) (nsub bits_Mask.an [1, 1, 1, 1, 1, 1, 0, 1, 0, 0])) (bits_Mask.q28 R) k ⟨#[undef, undef, undef, undef, undef, undef, undef, undef, .slice a8 n8 c8, undef, .slice a10 n10 c10, undef, undef, undef, undef, undef, undef, undef, undef, undef, undef, undef, undef, undef, undef, undef, undef, undef, undef, undef, undef, undef, undef, undef, undef, undef, undef, undef, undef, undef, .int .i64 x40, .int .i64 x41, undef, undef, undef, undef, undef, undef, undef, undef, undef, undef, undef, undef, undef, undef], []⟩ w
def bits_Mask.re28 (R : Value → World → Prop) (a8 : Option Addr) (n8 : Nat) (c8 : Nat) (a10 : Option Addr) (n10 : Nat) (c10 : Nat) (x40 : Int) (x41 : Int) (w : World) : Prop := ∃ k, bits_Mask.rl28 R k a8 n8 c8 a10 n10 c10 x40 x41 w
def bits_Mask.l28 (R : Value → World → Prop) : Nat → (Option Addr) → Nat → Nat → (Option Addr) → Nat → Nat → Int → Int → World → Prop
  | 0, _, _, _, _, _, _, _, _, _ => False
  | k + 1, a8, n8, c8, a10, n10, c10, x40, x41, w => bits_Mask.g28 R (bits_Mask.l28 R k) a8 n8 c8 a10 n10 c10 x40 x41 w
def bits_Mask.e28 (R : Value → World → Prop) (a8 : Option Addr) (n8 : Nat) (c8 : Nat) (a10 : Option Addr) (n10 : Nat) (c10 : Nat) (x40 : Int) (x41 : Int) (w : World) : Prop := ∃ k, bits_Mask.l28 R k a8 n8 c8 a10 n10 c10 x40 x41 w
theorem bits_Mask.s28 (R : Value → World → Prop) (k : Nat) (a8 : Option Addr) (n8 : Nat) (c8 : Nat) (a10 : Option Addr) (n10 : Nat) (c10 : Nat) (x40 : Int) (x41 : Int) (w : World) : bits_Mask.rl28 R (k + 1) a8 n8 c8 a10 n10 c10 x40 x41 w = ∀ _ : Nat → Value, bits_Mask.g28 R (bits_Mask.rl28 R k) a8 n8 c8 a10 n10 c10 x40 x41 w := by kernel_rfl
theorem bits_Mask.lq28 (R : Value → World → Prop) : ∀ k, bits_Mask.l28 R k = bits_Mask.rl28 R k
  | 0 => by funext a8 n8 c8 a10 n10 c10 x40 x41 w; first | rfl | kernel_rfl
  | k + 1 => by
    funext a8 n8 c8 a10 n10 c10 x40 x41 w
    rw [bits_Mask.s28, forall_const]
    unfold bits_Mask.l28
    have ih := bits_Mask.lq28 R k
    rw [ih]
    all_goals rfl
theorem bits_Mask.eq28 (R : Value → World → Prop) : bits_Mask.e28 R = bits_Mask.re28 R := by
  funext a8 n8 c8 a10 n10 c10 x40 x41 w
  unfold bits_Mask.e28 bits_Mask.re28
  simp only [bits_Mask.lq28 R]
def bits_Mask (R : Value → World → Prop) (x0 : Int) (x1 : Int) (x2 : Int) (w : World) : Prop := bits_Mask.g0 R (bits_Mask.e28 R) x0 x1 x2 w
theorem bits_Mask.root0 (R : Value → World → Prop) (x0 : Int) (x1 : Int) (x2 : Int) (w : World) : fnN Go.Proofs.Tryd.prog Go.Proofs.Tryd.f29 bits_Mask.an #[.int .i64 x0, .int .i64 x1, .int .i64 x2] w R = bits_Mask.g0 R (bits_Mask.re28 R) x0 x1 x2 w := by kernel_rfl
theorem bits_Mask.calls {R : Value → World → Prop} {x0 : Int} {x1 : Int} {x2 : Int} {w : World} (h : bits_Mask R x0 x1 x2 w) : Go.E.CallsD Go.Proofs.Tryd.prog 29 #[.int .i64 x0, .int .i64 x1, .int .i64 x2] w R := by
  refine callsD_of (n := bits_Mask.an) M_follows M_sizes Go.Proofs.Tryd.func29 (by rfl) ?_
  rw [bits_Mask.root0]
  unfold bits_Mask at h
  rw [bits_Mask.eq28 R] at h
  exact h
-- thicket/bits.Meet
def bits_Meet.an : An := (.mk none .nil (.mk none .nil (.mk none (.mk none .nil (.mk none (.mk (some [0, 1, 12, 13]) .nil .nil) .nil)) .nil)))
def bits_Meet.g0 (R : Value → World → Prop) (e14 : (Option Addr) → Nat → Nat → (Option Addr) → Nat → Nat → Int → Int → World → Prop) (a0 : Option Addr) (n0 : Nat) (c0 : Nat) (a1 : Option Addr) (n1 : Nat) (c1 : Nat) (w : World) : Prop :=
 onBool ((n0 : Int) != (n1 : Int))
 (R (.int .i64 6) w)
 (e14 a0 n0 c0 a1 n1 c1 (n0 : Int) 0 w)
def bits_Meet.g14 (R : Value → World → Prop) (b14 : (Option Addr) → Nat → Nat → (Option Addr) → Nat → Nat → Int → Int → World → Prop) (a0 : Option Addr) (n0 : Nat) (c0 : Nat) (a1 : Option Addr) (n1 : Nat) (c1 : Nat) (x12 : Int) (x13 : Int) (w : World) : Prop :=
 onBool (decide (x13 < x12))
 (optN a0 fun q9 =>
 chk ((0 : Int) ≤ x13 ∧ x13 < (n0 : Int))
 (∃ yx_10 : Int, w.cell? (q9.add (x13.toNat * 1)) = some (.int .u64 yx_10) ∧
 (optN a1 fun q11 =>
 chk ((0 : Int) ≤ x13 ∧ x13 < (n1 : Int))
 (∃ yx_12 : Int, w.cell? (q11.add (x13.toNat * 1)) = some (.int .u64 yx_12) ∧
 (nv (bitsI .and .u64 yx_10 yx_12) fun t13 =>
 optN a0 fun q14 =>
 chk ((0 : Int) ≤ x13 ∧ x13 < (n0 : Int))
 (okSt w ((q14.add (x13.toNat * 1)).add 0) ∧
 (nw (w.setCell ((q14.add (x13.toNat * 1)).add 0) (.int .u64 t13)) fun w15 =>
 nv (IntKind.i64.wrap (x13 + 1)) fun t16 =>
 b14 a0 n0 c0 a1 n1 c1 x12 t16 w15)))))))
 (R (.int .i64 0) w)
def bits_Meet.q2 (R : Value → World → Prop) : Exit → Act → World → Prop := (fin Go.Proofs.Tryd.prog Go.Proofs.Tryd.f30 R)
def bits_Meet.q10 (R : Value → World → Prop) : Exit → Act → World → Prop := (bits_Meet.q2 R)
def bits_Meet.q11 (R : Value → World → Prop) : Exit → Act → World → Prop := Exit.then (startN none (codeN Go.Proofs.Tryd.prog (sub (codeOf Go.Proofs.Tryd.f30) [1, 1, 1]) (nsub bits_Meet.an [1, 1, 1]) (bits_Meet.q10 R))) (bits_Meet.q10 R)
def bits_Meet.q13 (R : Value → World → Prop) : Exit → Act → World → Prop := (bits_Meet.q11 R)
def bits_Meet.q14 (R : Value → World → Prop) : Exit → Act → World → Prop := Exit.inBlock 0 (bits_Meet.q13 R)
def bits_Meet.rl14 (R : Value → World → Prop) (k : Nat) (a0 : Option Addr) (n0 : Nat) (c0 : Nat) (a1 : Option Addr) (n1 : Nat) (c1 : Nat) (x12 : Int) (x13 : Int) (w : World) : Prop := loopN [0, 1, 12, 13] (codeN Go.Proofs.Tryd.prog (sub (codeOf Go.Proofs.Tryd.f30) [1, 1, 0, 1, 0, 0]) (nsub bits_Meet.an [1, 1, 0, 1, 0, 0])) (bits_Meet.q14 R) k ⟨#[.slice a0 n0 c0, .slice a1 n1 c1, undef, undef, undef, undef, undef, undef, undef, undef, undef, undef, .int .i64 x12, .int .i64 x13, undef, undef, undef, undef, undef, undef, undef, undef, undef, undef, undef, undef, undef], []⟩ w
def bits_Meet.re14 (R : Value → World → Prop) (a0 : Option Addr) (n0 : Nat) (c0 : Nat) (a1 : Option Addr) (n1 : Nat) (c1 : Nat) (x12 : Int) (x13 : Int) (w : World) : Prop := ∃ k, bits_Meet.rl14 R k a0 n0 c0 a1 n1 c1 x12 x13 w
def bits_Meet.l14 (R : Value → World → Prop) : Nat → (Option Addr) → Nat → Nat → (Option Addr) → Nat → Nat → Int → Int → World → Prop
  | 0, _, _, _, _, _, _, _, _, _ => False
  | k + 1, a0, n0, c0, a1, n1, c1, x12, x13, w => bits_Meet.g14 R (bits_Meet.l14 R k) a0 n0 c0 a1 n1 c1 x12 x13 w
def bits_Meet.e14 (R : Value → World → Prop) (a0 : Option Addr) (n0 : Nat) (c0 : Nat) (a1 : Option Addr) (n1 : Nat) (c1 : Nat) (x12 : Int) (x13 : Int) (w : World) : Prop := ∃ k, bits_Meet.l14 R k a0 n0 c0 a1 n1 c1 x12 x13 w
theorem bits_Meet.s14 (R : Value → World → Prop) (k : Nat) (a0 : Option Addr) (n0 : Nat) (c0 : Nat) (a1 : Option Addr) (n1 : Nat) (c1 : Nat) (x12 : Int) (x13 : Int) (w : World) : bits_Meet.rl14 R (k + 1) a0 n0 c0 a1 n1 c1 x12 x13 w = ∀ _ : Nat → Value, bits_Meet.g14 R (bits_Meet.rl14 R k) a0 n0 c0 a1 n1 c1 x12 x13 w := by kernel_rfl
theorem bits_Meet.lq14 (R : Value → World → Prop) : ∀ k, bits_Meet.l14 R k = bits_Meet.rl14 R k
  | 0 => by funext a0 n0 c0 a1 n1 c1 x12 x13 w; first | rfl | kernel_rfl
  | k + 1 => by
    funext a0 n0 c0 a1 n1 c1 x12 x13 w
    rw [bits_Meet.s14, forall_const]
    unfold bits_Meet.l14
    have ih := bits_Meet.lq14 R k
    rw [ih]
    all_goals rfl
theorem bits_Meet.eq14 (R : Value → World → Prop) : bits_Meet.e14 R = bits_Meet.re14 R := by
  funext a0 n0 c0 a1 n1 c1 x12 x13 w
  unfold bits_Meet.e14 bits_Meet.re14
  simp only [bits_Meet.lq14 R]
def bits_Meet (R : Value → World → Prop) (a0 : Option Addr) (n0 : Nat) (c0 : Nat) (a1 : Option Addr) (n1 : Nat) (c1 : Nat) (w : World) : Prop := bits_Meet.g0 R (bits_Meet.e14 R) a0 n0 c0 a1 n1 c1 w
theorem bits_Meet.root0 (R : Value → World → Prop) (a0 : Option Addr) (n0 : Nat) (c0 : Nat) (a1 : Option Addr) (n1 : Nat) (c1 : Nat) (w : World) : fnN Go.Proofs.Tryd.prog Go.Proofs.Tryd.f30 bits_Meet.an #[.slice a0 n0 c0, .slice a1 n1 c1] w R = bits_Meet.g0 R (bits_Meet.re14 R) a0 n0 c0 a1 n1 c1 w := by kernel_rfl
theorem bits_Meet.calls {R : Value → World → Prop} {a0 : Option Addr} {n0 : Nat} {c0 : Nat} {a1 : Option Addr} {n1 : Nat} {c1 : Nat} {w : World} (h : bits_Meet R a0 n0 c0 a1 n1 c1 w) : Go.E.CallsD Go.Proofs.Tryd.prog 30 #[.slice a0 n0 c0, .slice a1 n1 c1] w R := by
  refine callsD_of (n := bits_Meet.an) M_follows M_sizes Go.Proofs.Tryd.func30 (by rfl) ?_
  rw [bits_Meet.root0]
  unfold bits_Meet at h
  rw [bits_Meet.eq14 R] at h
  exact h
-- thicket/bits.Empty
def bits_Empty.an : An := An.nil
def bits_Empty.g0 (R : Value → World → Prop) (x0 : Int) (w : World) : Prop :=
 Go.E.CallsD Go.Proofs.Tryd.prog 33 #[.int .i64 x0] w fun yv5 u6 =>
 ∃ yx_7_0 : Int, ∃ yx_7_1 : Int, yv5 = .tuple #[.int .i64 yx_7_0, .int .i64 yx_7_1] ∧
 (onBool (yx_7_1 != 0)
 (R (.tuple #[.slice none 0 0, .int .i64 yx_7_1]) u6)
 (chk ((0 : Int) ≤ yx_7_0 ∧ yx_7_0 ≤ yx_7_0 ∧ ((8 : Nat) : Int) * yx_7_0 ≤ 281474976710656 ∧ yx_7_0 ≤ 9223372036854775807)
 (nw (u6.alloc (.cells (madeCells #[.int .u64 0] ((yx_7_0).toNat * 1)) 78)) fun w8 =>
 R (.tuple #[.slice (some (na u6)) ((yx_7_0).toNat) ((yx_7_0).toNat), .int .i64 0]) w8)))
def bits_Empty (R : Value → World → Prop) (x0 : Int) (w : World) : Prop := bits_Empty.g0 R x0 w
theorem bits_Empty.root0 (R : Value → World → Prop) (x0 : Int) (w : World) : fnN Go.Proofs.Tryd.prog Go.Proofs.Tryd.f31 bits_Empty.an #[.int .i64 x0] w R = bits_Empty.g0 R x0 w := by kernel_rfl
theorem bits_Empty.calls {R : Value → World → Prop} {x0 : Int} {w : World} (h : bits_Empty R x0 w) : Go.E.CallsD Go.Proofs.Tryd.prog 31 #[.int .i64 x0] w R := by
  refine callsD_of (n := bits_Empty.an) M_follows M_sizes Go.Proofs.Tryd.func31 (by rfl) ?_
  rw [bits_Empty.root0]
  unfold bits_Empty at h
  exact h
-- thicket/bits.fill
def bits_fill.an : An := (.mk none .nil (.mk none (.mk (some [0, 1, 2, 10, 11]) .nil .nil) .nil))
def bits_fill.g0 (R : Value → World → Prop) (e3 : (Option Addr) → Nat → Nat → Int → Int → Int → Int → World → Prop) (a0 : Option Addr) (n0 : Nat) (c0 : Nat) (x1 : Int) (x2 : Int) (w : World) : Prop :=
 e3 a0 n0 c0 x1 x2 (n0 : Int) 0 w
def bits_fill.g3 (R : Value → World → Prop) (b3 : (Option Addr) → Nat → Nat → Int → Int → Int → Int → World → Prop) (a0 : Option Addr) (n0 : Nat) (c0 : Nat) (x1 : Int) (x2 : Int) (x10 : Int) (x11 : Int) (w : World) : Prop :=
 onBool (decide (x11 < x10))
 (nv (IntKind.i64.wrap (64 * x11)) fun t17 =>
 nv (IntKind.i64.wrap (x1 - t17)) fun t18 =>
 nv ((if t18 < 0 then 0 else t18)) fun t19 =>
 nv (IntKind.i64.wrap (64 * x11)) fun t20 =>
 nv (IntKind.i64.wrap (x2 - t20)) fun t21 =>
 nv ((if 64 < t21 then 64 else t21)) fun t22 =>
 onBool (decide (t19 < t22))
 (optN a0 fun q23 =>
 chk ((0 : Int) ≤ x11 ∧ x11 < (n0 : Int))
 (∃ yx_24 : Int, w.cell? (q23.add (x11.toNat * 1)) = some (.int .u64 yx_24) ∧
 (nv (IntKind.i64.wrap (t22 - t19)) fun t25 =>
 nv (IntKind.i64.wrap (64 - t25)) fun t26 =>
 nchk (t26 < 0)
 (nv (Int.fdiv 18446744073709551615 (2 ^ (min t26.toNat 64))) fun t27 =>
 nchk (t19 < 0)
 (nv (IntKind.u64.wrap (t27 * 2 ^ (min t19.toNat 64))) fun t28 =>
 nv (bitsI .or .u64 yx_24 t28) fun t29 =>
 optN a0 fun q30 =>
 chk ((0 : Int) ≤ x11 ∧ x11 < (n0 : Int))
 (okSt w ((q30.add (x11.toNat * 1)).add 0) ∧
 (nw (w.setCell ((q30.add (x11.toNat * 1)).add 0) (.int .u64 t29)) fun w31 =>
 nv (IntKind.i64.wrap (x11 + 1)) fun t32 =>
 b3 a0 n0 c0 x1 x2 x10 t32 w31)))))))
 (nv (IntKind.i64.wrap (x11 + 1)) fun t33 =>
 b3 a0 n0 c0 x1 x2 x10 t33 w))
 (R (.tuple #[]) w)
def bits_fill.q2 (R : Value → World → Prop) : Exit → Act → World → Prop := (fin Go.Proofs.Tryd.prog Go.Proofs.Tryd.f32 R)
def bits_fill.q3 (R : Value → World → Prop) : Exit → Act → World → Prop := Exit.inBlock 0 (bits_fill.q2 R)
def bits_fill.rl3 (R : Value → World → Prop) (k : Nat) (a0 : Option Addr) (n0 : Nat) (c0 : Nat) (x1 : Int) (x2 : Int) (x10 : Int) (x11 : Int) (w : World) : Prop := loopN [0, 1, 2, 10, 11] (codeN Go.Proofs.Tryd.prog (sub (codeOf Go.Proofs.Tryd.f32) [1, 0, 0]) (nsub bits_fill.an [1, 0, 0])) (bits_fill.q3 R) k ⟨#[.slice a0 n0 c0, .int .i64 x1, .int .i64 x2, undef, undef, undef, undef, undef, undef, undef, .int .i64 x10, .int .i64 x11, undef, undef, undef, undef, undef, undef, undef, undef, undef, undef, undef, undef, undef, undef, undef, undef, undef, undef, undef, undef, undef, undef, undef, undef, undef, undef, undef, undef, undef], []⟩ w
def bits_fill.re3 (R : Value → World → Prop) (a0 : Option Addr) (n0 : Nat) (c0 : Nat) (x1 : Int) (x2 : Int) (x10 : Int) (x11 : Int) (w : World) : Prop := ∃ k, bits_fill.rl3 R k a0 n0 c0 x1 x2 x10 x11 w
def bits_fill.l3 (R : Value → World → Prop) : Nat → (Option Addr) → Nat → Nat → Int → Int → Int → Int → World → Prop
  | 0, _, _, _, _, _, _, _, _ => False
  | k + 1, a0, n0, c0, x1, x2, x10, x11, w => bits_fill.g3 R (bits_fill.l3 R k) a0 n0 c0 x1 x2 x10 x11 w
def bits_fill.e3 (R : Value → World → Prop) (a0 : Option Addr) (n0 : Nat) (c0 : Nat) (x1 : Int) (x2 : Int) (x10 : Int) (x11 : Int) (w : World) : Prop := ∃ k, bits_fill.l3 R k a0 n0 c0 x1 x2 x10 x11 w
theorem bits_fill.s3 (R : Value → World → Prop) (k : Nat) (a0 : Option Addr) (n0 : Nat) (c0 : Nat) (x1 : Int) (x2 : Int) (x10 : Int) (x11 : Int) (w : World) : bits_fill.rl3 R (k + 1) a0 n0 c0 x1 x2 x10 x11 w = ∀ _ : Nat → Value, bits_fill.g3 R (bits_fill.rl3 R k) a0 n0 c0 x1 x2 x10 x11 w := by kernel_rfl
theorem bits_fill.lq3 (R : Value → World → Prop) : ∀ k, bits_fill.l3 R k = bits_fill.rl3 R k
  | 0 => by funext a0 n0 c0 x1 x2 x10 x11 w; first | rfl | kernel_rfl
  | k + 1 => by
    funext a0 n0 c0 x1 x2 x10 x11 w
    rw [bits_fill.s3, forall_const]
    unfold bits_fill.l3
    have ih := bits_fill.lq3 R k
    rw [ih]
    all_goals rfl
theorem bits_fill.eq3 (R : Value → World → Prop) : bits_fill.e3 R = bits_fill.re3 R := by
  funext a0 n0 c0 x1 x2 x10 x11 w
  unfold bits_fill.e3 bits_fill.re3
  simp only [bits_fill.lq3 R]
def bits_fill (R : Value → World → Prop) (a0 : Option Addr) (n0 : Nat) (c0 : Nat) (x1 : Int) (x2 : Int) (w : World) : Prop := bits_fill.g0 R (bits_fill.e3 R) a0 n0 c0 x1 x2 w
theorem bits_fill.root0 (R : Value → World → Prop) (a0 : Option Addr) (n0 : Nat) (c0 : Nat) (x1 : Int) (x2 : Int) (w : World) : fnN Go.Proofs.Tryd.prog Go.Proofs.Tryd.f32 bits_fill.an #[.slice a0 n0 c0, .int .i64 x1, .int .i64 x2] w R = bits_fill.g0 R (bits_fill.re3 R) a0 n0 c0 x1 x2 w := by kernel_rfl
theorem bits_fill.calls {R : Value → World → Prop} {a0 : Option Addr} {n0 : Nat} {c0 : Nat} {x1 : Int} {x2 : Int} {w : World} (h : bits_fill R a0 n0 c0 x1 x2 w) : Go.E.CallsD Go.Proofs.Tryd.prog 32 #[.slice a0 n0 c0, .int .i64 x1, .int .i64 x2] w R := by
  refine callsD_of (n := bits_fill.an) M_follows M_sizes Go.Proofs.Tryd.func32 (by rfl) ?_
  rw [bits_fill.root0]
  unfold bits_fill at h
  rw [bits_fill.eq3 R] at h
  exact h
-- thicket/bits.Words
def bits_Words.an : An := An.nil
def bits_Words.g0 (R : Value → World → Prop) (x0 : Int) (w : World) : Prop :=
 onBool (decide (x0 < 0))
 (R (.tuple #[.int .i64 0, .int .i64 2]) w)
 (onBool (decide (x0 > 1048576))
 (R (.tuple #[.int .i64 0, .int .i64 2]) w)
 (nv (IntKind.i64.wrap (x0 + 63)) fun t1 =>
 nv (IntKind.i64.wrap (Int.tdiv t1 64)) fun t2 =>
 R (.tuple #[.int .i64 t2, .int .i64 0]) w))
def bits_Words (R : Value → World → Prop) (x0 : Int) (w : World) : Prop := bits_Words.g0 R x0 w
theorem bits_Words.root0 (R : Value → World → Prop) (x0 : Int) (w : World) : fnN Go.Proofs.Tryd.prog Go.Proofs.Tryd.f33 bits_Words.an #[.int .i64 x0] w R = bits_Words.g0 R x0 w := by kernel_rfl
theorem bits_Words.calls {R : Value → World → Prop} {x0 : Int} {w : World} (h : bits_Words R x0 w) : Go.E.CallsD Go.Proofs.Tryd.prog 33 #[.int .i64 x0] w R := by
  refine callsD_of (n := bits_Words.an) M_follows M_sizes Go.Proofs.Tryd.func33 (by rfl) ?_
  rw [bits_Words.root0]
  unfold bits_Words at h
  exact h
end Go.Mir
