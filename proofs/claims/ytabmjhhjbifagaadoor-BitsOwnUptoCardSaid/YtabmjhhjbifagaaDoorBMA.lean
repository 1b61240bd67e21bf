/- Part of a proof of laws of the seat YtabmjhhjbifagaaDoor: functions' weakest preconditions, each checked by the kernel, contracts out of them, plain lemmas; no conditions. -/
import Derived.KernelRfl
import Derived.Test.YtabmjhhjbifagaaDoorEA
import Derived.Test.YtabmjhhjbifagaaDoorProg
set_option linter.unusedVariables false
set_option linter.unusedSimpArgs false
namespace Go.Mir
open Go Go.E Go.RowKit
theorem M_follows : Go.Proofs.Tryd.prog.follows .mixedOrders = true := by kernel_rfl
theorem M_sizes : Go.Proofs.Tryd.prog.types.size + Made.depth ≠ 0 := by decide
end Go.Mir

set_option linter.unusedVariables false
namespace Go.Mir
open Go Go.E Go.RowKit
-- thicket/bits.Words
def bits_Words.an : An := An.nil
def bits_Words.g0 (R : Value → World → Prop) (x0 : Int) (w : World) : Prop :=
  onBool (decide (x0 < 0))
    (R (.tuple #[.int .i64 0, .int .i64 2]) w)
    (onBool (decide (x0 > 1048576))
      (R (.tuple #[.int .i64 0, .int .i64 2]) w)
      (nv (IntKind.i64.wrap (x0 + 63)) fun t1 =>
      nv (IntKind.i64.wrap (Int.tdiv t1 64)) fun t2 =>
      R (.tuple #[.int .i64 t2, .int .i64 0]) w))
def bits_Words (R : Value → World → Prop) (x0 : Int) (w : World) : Prop := bits_Words.g0 R x0 w
theorem bits_Words.root0 (R : Value → World → Prop) (x0 : Int) (w : World) : fnN Go.Proofs.Tryd.prog Go.Proofs.Tryd.f12 bits_Words.an #[.int .i64 x0] w R = bits_Words.g0 R x0 w := by kernel_rfl
theorem bits_Words.calls {R : Value → World → Prop} {x0 : Int} {w : World} (h : bits_Words R x0 w) : Go.E.CallsD Go.Proofs.Tryd.prog 12 #[.int .i64 x0] w R := by
  refine callsD_of (n := bits_Words.an) M_follows M_sizes Go.Proofs.Tryd.func12 (by rfl) ?_
  rw [bits_Words.root0]
  unfold bits_Words at h
  exact h
-- thicket/bits.Full
def bits_Full.an : An := An.nil
def bits_Full.g0 (R : Value → World → Prop) (x0 : Int) (w : World) : Prop :=
  Go.E.CallsD Go.Proofs.Tryd.prog 14 #[.int .i64 x0] w fun yv7 u8 =>
    ∃ ya_9_0 : Option Addr, ∃ yn_9_0 : Nat, ∃ yc_9_0 : Nat, ∃ yx_9_1 : Int, yv7 = .tuple #[.slice ya_9_0 yn_9_0 yc_9_0, .int .i64 yx_9_1] ∧
      (Go.E.CallsD Go.Proofs.Tryd.prog 52 #[.slice ya_9_0 yn_9_0 yc_9_0, .int .i64 0, .int .i64 x0] u8 fun yv10 u11 =>
        yv10 = .tuple #[] ∧
          (R (.tuple #[.slice ya_9_0 yn_9_0 yc_9_0, .int .i64 yx_9_1]) u11))
def bits_Full (R : Value → World → Prop) (x0 : Int) (w : World) : Prop := bits_Full.g0 R x0 w
theorem bits_Full.root0 (R : Value → World → Prop) (x0 : Int) (w : World) : fnN Go.Proofs.Tryd.prog Go.Proofs.Tryd.f13 bits_Full.an #[.int .i64 x0] w R = bits_Full.g0 R x0 w := by kernel_rfl
theorem bits_Full.calls {R : Value → World → Prop} {x0 : Int} {w : World} (h : bits_Full R x0 w) : Go.E.CallsD Go.Proofs.Tryd.prog 13 #[.int .i64 x0] w R := by
  refine callsD_of (n := bits_Full.an) M_follows M_sizes Go.Proofs.Tryd.func13 (by rfl) ?_
  rw [bits_Full.root0]
  unfold bits_Full at h
  exact h
-- thicket/bits.Empty
def bits_Empty.an : An := An.nil
def bits_Empty.g0 (R : Value → World → Prop) (x0 : Int) (w : World) : Prop :=
  Go.E.CallsD Go.Proofs.Tryd.prog 12 #[.int .i64 x0] w fun yv5 u6 =>
    ∃ yx_7_0 : Int, ∃ yx_7_1 : Int, yv5 = .tuple #[.int .i64 yx_7_0, .int .i64 yx_7_1] ∧
      (onBool (yx_7_1 != 0)
        (R (.tuple #[.slice none 0 0, .int .i64 yx_7_1]) u6)
        (chk ((0 : Int) ≤ yx_7_0 ∧ yx_7_0 ≤ yx_7_0 ∧ ((8 : Nat) : Int) * yx_7_0 ≤ 281474976710656 ∧ yx_7_0 ≤ 9223372036854775807)
          (nw (u6.alloc (.cells (madeCells #[.int .u64 0] ((yx_7_0).toNat * 1)) 56)) fun w8 =>
          R (.tuple #[.slice (some (na u6)) ((yx_7_0).toNat) ((yx_7_0).toNat), .int .i64 0]) w8)))
def bits_Empty (R : Value → World → Prop) (x0 : Int) (w : World) : Prop := bits_Empty.g0 R x0 w
theorem bits_Empty.root0 (R : Value → World → Prop) (x0 : Int) (w : World) : fnN Go.Proofs.Tryd.prog Go.Proofs.Tryd.f14 bits_Empty.an #[.int .i64 x0] w R = bits_Empty.g0 R x0 w := by kernel_rfl
theorem bits_Empty.calls {R : Value → World → Prop} {x0 : Int} {w : World} (h : bits_Empty R x0 w) : Go.E.CallsD Go.Proofs.Tryd.prog 14 #[.int .i64 x0] w R := by
  refine callsD_of (n := bits_Empty.an) M_follows M_sizes Go.Proofs.Tryd.func14 (by rfl) ?_
  rw [bits_Empty.root0]
  unfold bits_Empty at h
  exact h
-- thicket/bits.Mask
def bits_Mask.an : An := (.mk none .nil (.mk none .nil (.mk none .nil (.mk none .nil (.mk none .nil (.mk none .nil (.mk none (.mk none .nil (.mk none (.mk (some [8, 10, 40, 41]) .nil .nil) .nil)) .nil)))))))
def bits_Mask.g0 (R : Value → World → Prop) (e28 : (Option Addr) → Nat → Nat → (Option Addr) → Nat → Nat → Int → Int → World → Prop) (x0 : Int) (x1 : Int) (x2 : Int) (w : World) : Prop :=
  Go.E.CallsD Go.Proofs.Tryd.prog 13 #[.int .i64 x0] w fun yv12 u13 =>
    ∃ ya_14_0 : Option Addr, ∃ yn_14_0 : Nat, ∃ yc_14_0 : Nat, ∃ yx_14_1 : Int, yv12 = .tuple #[.slice ya_14_0 yn_14_0 yc_14_0, .int .i64 yx_14_1] ∧
      (onBool (yx_14_1 != 0)
        (R (.tuple #[.slice none 0 0, .int .i64 yx_14_1]) u13)
        (onBool (decide (x1 < 0))
          (R (.tuple #[.slice none 0 0, .int .i64 2]) u13)
          (onBool (decide (x1 > x2))
            (R (.tuple #[.slice none 0 0, .int .i64 2]) u13)
            (onBool (decide (x2 > x0))
              (R (.tuple #[.slice none 0 0, .int .i64 2]) u13)
              (chk ((0 : Int) ≤ (yn_14_0 : Int) ∧ (yn_14_0 : Int) ≤ (yn_14_0 : Int) ∧ ((8 : Nat) : Int) * (yn_14_0 : Int) ≤ 281474976710656 ∧ (yn_14_0 : Int) ≤ 9223372036854775807)
                (nw (u13.alloc (.cells (madeCells #[.int .u64 0] (((yn_14_0 : Int)).toNat * 1)) 56)) fun w15 =>
                Go.E.CallsD Go.Proofs.Tryd.prog 52 #[.slice (some (na u13)) (((yn_14_0 : Int)).toNat) (((yn_14_0 : Int)).toNat), .int .i64 x1, .int .i64 x2] w15 fun yv16 u17 =>
                  yv16 = .tuple #[] ∧
                    (e28 ya_14_0 yn_14_0 yc_14_0 (some (na u13)) (((yn_14_0 : Int)).toNat) (((yn_14_0 : Int)).toNat) (yn_14_0 : Int) 0 u17)))))))
def bits_Mask.g28 (R : Value → World → Prop) (b28 : (Option Addr) → Nat → Nat → (Option Addr) → Nat → Nat → Int → Int → World → Prop) (a8 : Option Addr) (n8 : Nat) (c8 : Nat) (a10 : Option Addr) (n10 : Nat) (c10 : Nat) (x40 : Int) (x41 : Int) (w : World) : Prop :=
  onBool (decide (x41 < x40))
    (optN a8 fun q19 =>
    chk ((0 : Int) ≤ x41 ∧ x41 < (n8 : Int))
      (∃ yx_20 : Int, w.cell? (q19.add (x41.toNat * 1)) = some (.int .u64 yx_20) ∧
        (optN a10 fun q21 =>
        chk ((0 : Int) ≤ x41 ∧ x41 < (n10 : Int))
          (∃ yx_22 : Int, w.cell? (q21.add (x41.toNat * 1)) = some (.int .u64 yx_22) ∧
            (nv (bitsI .andNot .u64 yx_20 yx_22) fun t23 =>
            optN a8 fun q24 =>
            chk ((0 : Int) ≤ x41 ∧ x41 < (n8 : Int))
              (okSt w ((q24.add (x41.toNat * 1)).add 0) ∧
                (nw (w.setCell ((q24.add (x41.toNat * 1)).add 0) (.int .u64 t23)) fun w25 =>
                nv (IntKind.i64.wrap (x41 + 1)) fun t26 =>
                b28 a8 n8 c8 a10 n10 c10 x40 t26 w25)))))))
    (R (.tuple #[.slice a8 n8 c8, .int .i64 0]) w)
def bits_Mask.q2 (R : Value → World → Prop) : Exit → Act → World → Prop := (fin Go.Proofs.Tryd.prog Go.Proofs.Tryd.f15 R)
def bits_Mask.q4 (R : Value → World → Prop) : Exit → Act → World → Prop := (bits_Mask.q2 R)
def bits_Mask.q12 (R : Value → World → Prop) : Exit → Act → World → Prop := (bits_Mask.q4 R)
def bits_Mask.q20 (R : Value → World → Prop) : Exit → Act → World → Prop := (bits_Mask.q12 R)
def bits_Mask.q22 (R : Value → World → Prop) : Exit → Act → World → Prop := (bits_Mask.q20 R)
def bits_Mask.q24 (R : Value → World → Prop) : Exit → Act → World → Prop := (bits_Mask.q22 R)
def bits_Mask.q25 (R : Value → World → Prop) : Exit → Act → World → Prop := Exit.then (startN none (codeN Go.Proofs.Tryd.prog (sub (codeOf Go.Proofs.Tryd.f15) [1, 1, 1, 1, 1, 1, 1]) (nsub bits_Mask.an [1, 1, 1, 1, 1, 1, 1]) (bits_Mask.q24 R))) (bits_Mask.q24 R)
def bits_Mask.q27 (R : Value → World → Prop) : Exit → Act → World → Prop := (bits_Mask.q25 R)
def bits_Mask.q28 (R : Value → World → Prop) : Exit → Act → World → Prop := Exit.inBlock 0 (bits_Mask.q27 R)
def bits_Mask.rl28 (R : Value → World → Prop) (k : Nat) (a8 : Option Addr) (n8 : Nat) (c8 : Nat) (a10 : Option Addr) (n10 : Nat) (c10 : Nat) (x40 : Int) (x41 : Int) (w : World) : Prop := loopN [8, 10, 40, 41] (codeN Go.Proofs.Tryd.prog (sub (codeOf Go.Proofs.Tryd.f15) [1, 1, 1, 1, 1, 1, 0, 1, 0, 0]) (nsub bits_Mask.an [1, 1, 1, 1, 1, 1, 0, 1, 0, 0])) (bits_Mask.q28 R) k ⟨#[undef, undef, undef, undef, undef, undef, undef, undef, .slice a8 n8 c8, undef, .slice a10 n10 c10, undef, undef, undef, undef, undef, undef, undef, undef, undef, undef, undef, undef, undef, undef, undef, undef, undef, undef, undef, undef, undef, undef, undef, undef, undef, undef, undef, undef, undef, .int .i64 x40, .int .i64 x41, undef, undef, undef, undef, undef, undef, undef, undef, undef, undef, undef, undef, undef, undef], []⟩ w
def bits_Mask.re28 (R : Value → World → Prop) (a8 : Option Addr) (n8 : Nat) (c8 : Nat) (a10 : Option Addr) (n10 : Nat) (c10 : Nat) (x40 : Int) (x41 : Int) (w : World) : Prop := ∃ k, bits_Mask.rl28 R k a8 n8 c8 a10 n10 c10 x40 x41 w
def bits_Mask.l28 (R : Value → World → Prop) : Nat → (Option Addr) → Nat → Nat → (Option Addr) → Nat → Nat → Int → Int → World → Prop
  | 0, _, _, _, _, _, _, _, _, _ => False
  | k + 1, a8, n8, c8, a10, n10, c10, x40, x41, w => bits_Mask.g28 R (bits_Mask.l28 R k) a8 n8 c8 a10 n10 c10 x40 x41 w
def bits_Mask.e28 (R : Value → World → Prop) (a8 : Option Addr) (n8 : Nat) (c8 : Nat) (a10 : Option Addr) (n10 : Nat) (c10 : Nat) (x40 : Int) (x41 : Int) (w : World) : Prop := ∃ k, bits_Mask.l28 R k a8 n8 c8 a10 n10 c10 x40 x41 w
theorem bits_Mask.s28 (R : Value → World → Prop) (k : Nat) (a8 : Option Addr) (n8 : Nat) (c8 : Nat) (a10 : Option Addr) (n10 : Nat) (c10 : Nat) (x40 : Int) (x41 : Int) (w : World) : bits_Mask.rl28 R (k + 1) a8 n8 c8 a10 n10 c10 x40 x41 w = ∀ _ : Nat → Value, bits_Mask.g28 R (bits_Mask.rl28 R k) a8 n8 c8 a10 n10 c10 x40 x41 w := by kernel_rfl
theorem bits_Mask.lq28 (R : Value → World → Prop) : ∀ k, bits_Mask.l28 R k = bits_Mask.rl28 R k
  | 0 => by funext a8 n8 c8 a10 n10 c10 x40 x41 w; rfl
  | k + 1 => by
    funext a8 n8 c8 a10 n10 c10 x40 x41 w
    rw [bits_Mask.s28, forall_const]
    unfold bits_Mask.l28
    have ih := bits_Mask.lq28 R k
    rw [ih]
    all_goals rfl
theorem bits_Mask.eq28 (R : Value → World → Prop) : bits_Mask.e28 R = bits_Mask.re28 R := by
  funext a8 n8 c8 a10 n10 c10 x40 x41 w
  unfold bits_Mask.e28 bits_Mask.re28
  simp only [bits_Mask.lq28 R]
def bits_Mask (R : Value → World → Prop) (x0 : Int) (x1 : Int) (x2 : Int) (w : World) : Prop := bits_Mask.g0 R (bits_Mask.e28 R) x0 x1 x2 w
theorem bits_Mask.root0 (R : Value → World → Prop) (x0 : Int) (x1 : Int) (x2 : Int) (w : World) : fnN Go.Proofs.Tryd.prog Go.Proofs.Tryd.f15 bits_Mask.an #[.int .i64 x0, .int .i64 x1, .int .i64 x2] w R = bits_Mask.g0 R (bits_Mask.re28 R) x0 x1 x2 w := by kernel_rfl
theorem bits_Mask.calls {R : Value → World → Prop} {x0 : Int} {x1 : Int} {x2 : Int} {w : World} (h : bits_Mask R x0 x1 x2 w) : Go.E.CallsD Go.Proofs.Tryd.prog 15 #[.int .i64 x0, .int .i64 x1, .int .i64 x2] w R := by
  refine callsD_of (n := bits_Mask.an) M_follows M_sizes Go.Proofs.Tryd.func15 (by rfl) ?_
  rw [bits_Mask.root0]
  unfold bits_Mask at h
  rw [bits_Mask.eq28 R] at h
  exact h
-- thicket/bits.fill
def bits_fill.an : An := (.mk none .nil (.mk none (.mk (some [0, 1, 2, 10, 11]) .nil .nil) .nil))
def bits_fill.g0 (R : Value → World → Prop) (e3 : (Option Addr) → Nat → Nat → Int → Int → Int → Int → World → Prop) (a0 : Option Addr) (n0 : Nat) (c0 : Nat) (x1 : Int) (x2 : Int) (w : World) : Prop :=
  e3 a0 n0 c0 x1 x2 (n0 : Int) 0 w
def bits_fill.g3 (R : Value → World → Prop) (b3 : (Option Addr) → Nat → Nat → Int → Int → Int → Int → World → Prop) (a0 : Option Addr) (n0 : Nat) (c0 : Nat) (x1 : Int) (x2 : Int) (x10 : Int) (x11 : Int) (w : World) : Prop :=
  onBool (decide (x11 < x10))
    (nv (IntKind.i64.wrap (64 * x11)) fun t17 =>
    nv (IntKind.i64.wrap (x1 - t17)) fun t18 =>
    nv ((if t18 < 0 then 0 else t18)) fun t19 =>
    nv (IntKind.i64.wrap (64 * x11)) fun t20 =>
    nv (IntKind.i64.wrap (x2 - t20)) fun t21 =>
    nv ((if 64 < t21 then 64 else t21)) fun t22 =>
    onBool (decide (t19 < t22))
      (optN a0 fun q23 =>
      chk ((0 : Int) ≤ x11 ∧ x11 < (n0 : Int))
        (∃ yx_24 : Int, w.cell? (q23.add (x11.toNat * 1)) = some (.int .u64 yx_24) ∧
          (nv (IntKind.i64.wrap (t22 - t19)) fun t25 =>
          nv (IntKind.i64.wrap (64 - t25)) fun t26 =>
          nchk (t26 < 0)
            (nv (Int.fdiv 18446744073709551615 (2 ^ (min t26.toNat 64))) fun t27 =>
            nchk (t19 < 0)
              (nv (IntKind.u64.wrap (t27 * 2 ^ (min t19.toNat 64))) fun t28 =>
              nv (bitsI .or .u64 yx_24 t28) fun t29 =>
              optN a0 fun q30 =>
              chk ((0 : Int) ≤ x11 ∧ x11 < (n0 : Int))
                (okSt w ((q30.add (x11.toNat * 1)).add 0) ∧
                  (nw (w.setCell ((q30.add (x11.toNat * 1)).add 0) (.int .u64 t29)) fun w31 =>
                  nv (IntKind.i64.wrap (x11 + 1)) fun t32 =>
                  b3 a0 n0 c0 x1 x2 x10 t32 w31)))))))
      (nv (IntKind.i64.wrap (x11 + 1)) fun t33 =>
      b3 a0 n0 c0 x1 x2 x10 t33 w))
    (R (.tuple #[]) w)
def bits_fill.q2 (R : Value → World → Prop) : Exit → Act → World → Prop := (fin Go.Proofs.Tryd.prog Go.Proofs.Tryd.f52 R)
def bits_fill.q3 (R : Value → World → Prop) : Exit → Act → World → Prop := Exit.inBlock 0 (bits_fill.q2 R)
def bits_fill.rl3 (R : Value → World → Prop) (k : Nat) (a0 : Option Addr) (n0 : Nat) (c0 : Nat) (x1 : Int) (x2 : Int) (x10 : Int) (x11 : Int) (w : World) : Prop := loopN [0, 1, 2, 10, 11] (codeN Go.Proofs.Tryd.prog (sub (codeOf Go.Proofs.Tryd.f52) [1, 0, 0]) (nsub bits_fill.an [1, 0, 0])) (bits_fill.q3 R) k ⟨#[.slice a0 n0 c0, .int .i64 x1, .int .i64 x2, undef, undef, undef, undef, undef, undef, undef, .int .i64 x10, .int .i64 x11, undef, undef, undef, undef, undef, undef, undef, undef, undef, undef, undef, undef, undef, undef, undef, undef, undef, undef, undef, undef, undef, undef, undef, undef, undef, undef, undef, undef, undef], []⟩ w
def bits_fill.re3 (R : Value → World → Prop) (a0 : Option Addr) (n0 : Nat) (c0 : Nat) (x1 : Int) (x2 : Int) (x10 : Int) (x11 : Int) (w : World) : Prop := ∃ k, bits_fill.rl3 R k a0 n0 c0 x1 x2 x10 x11 w
def bits_fill.l3 (R : Value → World → Prop) : Nat → (Option Addr) → Nat → Nat → Int → Int → Int → Int → World → Prop
  | 0, _, _, _, _, _, _, _, _ => False
  | k + 1, a0, n0, c0, x1, x2, x10, x11, w => bits_fill.g3 R (bits_fill.l3 R k) a0 n0 c0 x1 x2 x10 x11 w
def bits_fill.e3 (R : Value → World → Prop) (a0 : Option Addr) (n0 : Nat) (c0 : Nat) (x1 : Int) (x2 : Int) (x10 : Int) (x11 : Int) (w : World) : Prop := ∃ k, bits_fill.l3 R k a0 n0 c0 x1 x2 x10 x11 w
theorem bits_fill.s3 (R : Value → World → Prop) (k : Nat) (a0 : Option Addr) (n0 : Nat) (c0 : Nat) (x1 : Int) (x2 : Int) (x10 : Int) (x11 : Int) (w : World) : bits_fill.rl3 R (k + 1) a0 n0 c0 x1 x2 x10 x11 w = ∀ _ : Nat → Value, bits_fill.g3 R (bits_fill.rl3 R k) a0 n0 c0 x1 x2 x10 x11 w := by kernel_rfl
theorem bits_fill.lq3 (R : Value → World → Prop) : ∀ k, bits_fill.l3 R k = bits_fill.rl3 R k
  | 0 => by funext a0 n0 c0 x1 x2 x10 x11 w; rfl
  | k + 1 => by
    funext a0 n0 c0 x1 x2 x10 x11 w
    rw [bits_fill.s3, forall_const]
    unfold bits_fill.l3
    have ih := bits_fill.lq3 R k
    rw [ih]
    all_goals rfl
theorem bits_fill.eq3 (R : Value → World → Prop) : bits_fill.e3 R = bits_fill.re3 R := by
  funext a0 n0 c0 x1 x2 x10 x11 w
  unfold bits_fill.e3 bits_fill.re3
  simp only [bits_fill.lq3 R]
def bits_fill (R : Value → World → Prop) (a0 : Option Addr) (n0 : Nat) (c0 : Nat) (x1 : Int) (x2 : Int) (w : World) : Prop := bits_fill.g0 R (bits_fill.e3 R) a0 n0 c0 x1 x2 w
theorem bits_fill.root0 (R : Value → World → Prop) (a0 : Option Addr) (n0 : Nat) (c0 : Nat) (x1 : Int) (x2 : Int) (w : World) : fnN Go.Proofs.Tryd.prog Go.Proofs.Tryd.f52 bits_fill.an #[.slice a0 n0 c0, .int .i64 x1, .int .i64 x2] w R = bits_fill.g0 R (bits_fill.re3 R) a0 n0 c0 x1 x2 w := by kernel_rfl
theorem bits_fill.calls {R : Value → World → Prop} {a0 : Option Addr} {n0 : Nat} {c0 : Nat} {x1 : Int} {x2 : Int} {w : World} (h : bits_fill R a0 n0 c0 x1 x2 w) : Go.E.CallsD Go.Proofs.Tryd.prog 52 #[.slice a0 n0 c0, .int .i64 x1, .int .i64 x2] w R := by
  refine callsD_of (n := bits_fill.an) M_follows M_sizes Go.Proofs.Tryd.func52 (by rfl) ?_
  rw [bits_fill.root0]
  unfold bits_fill at h
  rw [bits_fill.eq3 R] at h
  exact h
-- thicket/bits.Meet
def bits_Meet.an : An := (.mk none .nil (.mk none .nil (.mk none (.mk none .nil (.mk none (.mk (some [0, 1, 12, 13]) .nil .nil) .nil)) .nil)))
def bits_Meet.g0 (R : Value → World → Prop) (e14 : (Option Addr) → Nat → Nat → (Option Addr) → Nat → Nat → Int → Int → World → Prop) (a0 : Option Addr) (n0 : Nat) (c0 : Nat) (a1 : Option Addr) (n1 : Nat) (c1 : Nat) (w : World) : Prop :=
  onBool ((n0 : Int) != (n1 : Int))
    (R (.int .i64 6) w)
    (e14 a0 n0 c0 a1 n1 c1 (n0 : Int) 0 w)
def bits_Meet.g14 (R : Value → World → Prop) (b14 : (Option Addr) → Nat → Nat → (Option Addr) → Nat → Nat → Int → Int → World → Prop) (a0 : Option Addr) (n0 : Nat) (c0 : Nat) (a1 : Option Addr) (n1 : Nat) (c1 : Nat) (x12 : Int) (x13 : Int) (w : World) : Prop :=
  onBool (decide (x13 < x12))
    (optN a0 fun q9 =>
    chk ((0 : Int) ≤ x13 ∧ x13 < (n0 : Int))
      (∃ yx_10 : Int, w.cell? (q9.add (x13.toNat * 1)) = some (.int .u64 yx_10) ∧
        (optN a1 fun q11 =>
        chk ((0 : Int) ≤ x13 ∧ x13 < (n1 : Int))
          (∃ yx_12 : Int, w.cell? (q11.add (x13.toNat * 1)) = some (.int .u64 yx_12) ∧
            (nv (bitsI .and .u64 yx_10 yx_12) fun t13 =>
            optN a0 fun q14 =>
            chk ((0 : Int) ≤ x13 ∧ x13 < (n0 : Int))
              (okSt w ((q14.add (x13.toNat * 1)).add 0) ∧
                (nw (w.setCell ((q14.add (x13.toNat * 1)).add 0) (.int .u64 t13)) fun w15 =>
                nv (IntKind.i64.wrap (x13 + 1)) fun t16 =>
                b14 a0 n0 c0 a1 n1 c1 x12 t16 w15)))))))
    (R (.int .i64 0) w)
def bits_Meet.q2 (R : Value → World → Prop) : Exit → Act → World → Prop := (fin Go.Proofs.Tryd.prog Go.Proofs.Tryd.f23 R)
def bits_Meet.q10 (R : Value → World → Prop) : Exit → Act → World → Prop := (bits_Meet.q2 R)
def bits_Meet.q11 (R : Value → World → Prop) : Exit → Act → World → Prop := Exit.then (startN none (codeN Go.Proofs.Tryd.prog (sub (codeOf Go.Proofs.Tryd.f23) [1, 1, 1]) (nsub bits_Meet.an [1, 1, 1]) (bits_Meet.q10 R))) (bits_Meet.q10 R)
def bits_Meet.q13 (R : Value → World → Prop) : Exit → Act → World → Prop := (bits_Meet.q11 R)
def bits_Meet.q14 (R : Value → World → Prop) : Exit → Act → World → Prop := Exit.inBlock 0 (bits_Meet.q13 R)
def bits_Meet.rl14 (R : Value → World → Prop) (k : Nat) (a0 : Option Addr) (n0 : Nat) (c0 : Nat) (a1 : Option Addr) (n1 : Nat) (c1 : Nat) (x12 : Int) (x13 : Int) (w : World) : Prop := loopN [0, 1, 12, 13] (codeN Go.Proofs.Tryd.prog (sub (codeOf Go.Proofs.Tryd.f23) [1, 1, 0, 1, 0, 0]) (nsub bits_Meet.an [1, 1, 0, 1, 0, 0])) (bits_Meet.q14 R) k ⟨#[.slice a0 n0 c0, .slice a1 n1 c1, undef, undef, undef, undef, undef, undef, undef, undef, undef, undef, .int .i64 x12, .int .i64 x13, undef, undef, undef, undef, undef, undef, undef, undef, undef, undef, undef, undef, undef], []⟩ w
def bits_Meet.re14 (R : Value → World → Prop) (a0 : Option Addr) (n0 : Nat) (c0 : Nat) (a1 : Option Addr) (n1 : Nat) (c1 : Nat) (x12 : Int) (x13 : Int) (w : World) : Prop := ∃ k, bits_Meet.rl14 R k a0 n0 c0 a1 n1 c1 x12 x13 w
def bits_Meet.l14 (R : Value → World → Prop) : Nat → (Option Addr) → Nat → Nat → (Option Addr) → Nat → Nat → Int → Int → World → Prop
  | 0, _, _, _, _, _, _, _, _, _ => False
  | k + 1, a0, n0, c0, a1, n1, c1, x12, x13, w => bits_Meet.g14 R (bits_Meet.l14 R k) a0 n0 c0 a1 n1 c1 x12 x13 w
def bits_Meet.e14 (R : Value → World → Prop) (a0 : Option Addr) (n0 : Nat) (c0 : Nat) (a1 : Option Addr) (n1 : Nat) (c1 : Nat) (x12 : Int) (x13 : Int) (w : World) : Prop := ∃ k, bits_Meet.l14 R k a0 n0 c0 a1 n1 c1 x12 x13 w
theorem bits_Meet.s14 (R : Value → World → Prop) (k : Nat) (a0 : Option Addr) (n0 : Nat) (c0 : Nat) (a1 : Option Addr) (n1 : Nat) (c1 : Nat) (x12 : Int) (x13 : Int) (w : World) : bits_Meet.rl14 R (k + 1) a0 n0 c0 a1 n1 c1 x12 x13 w = ∀ _ : Nat → Value, bits_Meet.g14 R (bits_Meet.rl14 R k) a0 n0 c0 a1 n1 c1 x12 x13 w := by kernel_rfl
theorem bits_Meet.lq14 (R : Value → World → Prop) : ∀ k, bits_Meet.l14 R k = bits_Meet.rl14 R k
  | 0 => by funext a0 n0 c0 a1 n1 c1 x12 x13 w; rfl
  | k + 1 => by
    funext a0 n0 c0 a1 n1 c1 x12 x13 w
    rw [bits_Meet.s14, forall_const]
    unfold bits_Meet.l14
    have ih := bits_Meet.lq14 R k
    rw [ih]
    all_goals rfl
theorem bits_Meet.eq14 (R : Value → World → Prop) : bits_Meet.e14 R = bits_Meet.re14 R := by
  funext a0 n0 c0 a1 n1 c1 x12 x13 w
  unfold bits_Meet.e14 bits_Meet.re14
  simp only [bits_Meet.lq14 R]
def bits_Meet (R : Value → World → Prop) (a0 : Option Addr) (n0 : Nat) (c0 : Nat) (a1 : Option Addr) (n1 : Nat) (c1 : Nat) (w : World) : Prop := bits_Meet.g0 R (bits_Meet.e14 R) a0 n0 c0 a1 n1 c1 w
theorem bits_Meet.root0 (R : Value → World → Prop) (a0 : Option Addr) (n0 : Nat) (c0 : Nat) (a1 : Option Addr) (n1 : Nat) (c1 : Nat) (w : World) : fnN Go.Proofs.Tryd.prog Go.Proofs.Tryd.f23 bits_Meet.an #[.slice a0 n0 c0, .slice a1 n1 c1] w R = bits_Meet.g0 R (bits_Meet.re14 R) a0 n0 c0 a1 n1 c1 w := by kernel_rfl
theorem bits_Meet.calls {R : Value → World → Prop} {a0 : Option Addr} {n0 : Nat} {c0 : Nat} {a1 : Option Addr} {n1 : Nat} {c1 : Nat} {w : World} (h : bits_Meet R a0 n0 c0 a1 n1 c1 w) : Go.E.CallsD Go.Proofs.Tryd.prog 23 #[.slice a0 n0 c0, .slice a1 n1 c1] w R := by
  refine callsD_of (n := bits_Meet.an) M_follows M_sizes Go.Proofs.Tryd.func23 (by rfl) ?_
  rw [bits_Meet.root0]
  unfold bits_Meet at h
  rw [bits_Meet.eq14 R] at h
  exact h
-- thicket/bits.within
def bits_within.an : An := An.nil
def bits_within.g0 (R : Value → World → Prop) (a0 : Option Addr) (n0 : Nat) (c0 : Nat) (x1 : Int) (w : World) : Prop :=
  onBool (decide (x1 ≥ 0))
    (nv (IntKind.i64.wrap (Int.tdiv x1 64)) fun t2 =>
    R (.bool (decide (t2 < (n0 : Int)))) w)
    (R (.bool false) w)
def bits_within (R : Value → World → Prop) (a0 : Option Addr) (n0 : Nat) (c0 : Nat) (x1 : Int) (w : World) : Prop := bits_within.g0 R a0 n0 c0 x1 w
theorem bits_within.root0 (R : Value → World → Prop) (a0 : Option Addr) (n0 : Nat) (c0 : Nat) (x1 : Int) (w : World) : fnN Go.Proofs.Tryd.prog Go.Proofs.Tryd.f54 bits_within.an #[.slice a0 n0 c0, .int .i64 x1] w R = bits_within.g0 R a0 n0 c0 x1 w := by kernel_rfl
theorem bits_within.calls {R : Value → World → Prop} {a0 : Option Addr} {n0 : Nat} {c0 : Nat} {x1 : Int} {w : World} (h : bits_within R a0 n0 c0 x1 w) : Go.E.CallsD Go.Proofs.Tryd.prog 54 #[.slice a0 n0 c0, .int .i64 x1] w R := by
  refine callsD_of (n := bits_within.an) M_follows M_sizes Go.Proofs.Tryd.func54 (by rfl) ?_
  rw [bits_within.root0]
  unfold bits_within at h
  exact h
end Go.Mir

set_option linter.unusedVariables false
namespace Go.Mir
open Go Go.E Go.RowKit
-- thicket/bits.Has
def bits_Has.an : An := An.nil
def bits_Has.g0 (R : Value → World → Prop) (a0 : Option Addr) (n0 : Nat) (c0 : Nat) (x1 : Int) (w : World) : Prop :=
  Go.E.CallsD Go.Proofs.Tryd.prog 54 #[.slice a0 n0 c0, .int .i64 x1] w fun yv10 u11 =>
    ∃ yb_12 : Bool, yv10 = .bool yb_12 ∧
      (onBool yb_12
        (nv (IntKind.i64.wrap (Int.tdiv x1 64)) fun t13 =>
        optN a0 fun q14 =>
        chk ((0 : Int) ≤ t13 ∧ t13 < (n0 : Int))
          (∃ yx_15 : Int, u11.cell? (q14.add (t13.toNat * 1)) = some (.int .u64 yx_15) ∧
            (nv (Int.tmod x1 64) fun t16 =>
            nchk (t16 < 0)
              (nv (Int.fdiv yx_15 (2 ^ (min t16.toNat 64))) fun t17 =>
              nv (bitsI .and .u64 t17 1) fun t18 =>
              R (.bool (t18 == 1)) u11))))
        (R (.bool false) u11))
def bits_Has (R : Value → World → Prop) (a0 : Option Addr) (n0 : Nat) (c0 : Nat) (x1 : Int) (w : World) : Prop := bits_Has.g0 R a0 n0 c0 x1 w
theorem bits_Has.root0 (R : Value → World → Prop) (a0 : Option Addr) (n0 : Nat) (c0 : Nat) (x1 : Int) (w : World) : fnN Go.Proofs.Tryd.prog Go.Proofs.Tryd.f24 bits_Has.an #[.slice a0 n0 c0, .int .i64 x1] w R = bits_Has.g0 R a0 n0 c0 x1 w := by kernel_rfl
theorem bits_Has.calls {R : Value → World → Prop} {a0 : Option Addr} {n0 : Nat} {c0 : Nat} {x1 : Int} {w : World} (h : bits_Has R a0 n0 c0 x1 w) : Go.E.CallsD Go.Proofs.Tryd.prog 24 #[.slice a0 n0 c0, .int .i64 x1] w R := by
  refine callsD_of (n := bits_Has.an) M_follows M_sizes Go.Proofs.Tryd.func24 (by rfl) ?_
  rw [bits_Has.root0]
  unfold bits_Has at h
  exact h
-- thicket/bits.Count
def bits_Count.an : An := (.mk none .nil (.mk none .nil (.mk none (.mk none .nil (.mk none (.mk (some [3, 6, 7, 8]) .nil .nil) .nil)) .nil)))
def bits_Count.g0 (R : Value → World → Prop) (e8 : Int → (Option Addr) → Nat → Nat → Int → Int → World → Prop) (a0 : Option Addr) (n0 : Nat) (c0 : Nat) (w : World) : Prop :=
  e8 0 a0 n0 c0 (n0 : Int) 0 w
def bits_Count.g8 (R : Value → World → Prop) (b8 : Int → (Option Addr) → Nat → Nat → Int → Int → World → Prop) (x3 : Int) (a6 : Option Addr) (n6 : Nat) (c6 : Nat) (x7 : Int) (x8 : Int) (w : World) : Prop :=
  onBool (decide (x8 < x7))
    (optN a6 fun q8 =>
    chk ((0 : Int) ≤ x8 ∧ x8 < (n6 : Int))
      (∃ yx_9 : Int, w.cell? (q8.add (x8.toNat * 1)) = some (.int .u64 yx_9) ∧
        (Go.E.CallsD Go.Proofs.Tryd.prog 55 #[.int .u64 yx_9] w fun yv10 u11 =>
          ∃ yx_12 : Int, yv10 = .int .i64 yx_12 ∧
            (nv (IntKind.i64.wrap (x3 + yx_12)) fun t13 =>
            nv (IntKind.i64.wrap (x8 + 1)) fun t14 =>
            b8 t13 a6 n6 c6 x7 t14 u11))))
    (R (.int .i64 x3) w)
def bits_Count.q2 (R : Value → World → Prop) : Exit → Act → World → Prop := (fin Go.Proofs.Tryd.prog Go.Proofs.Tryd.f25 R)
def bits_Count.q4 (R : Value → World → Prop) : Exit → Act → World → Prop := (bits_Count.q2 R)
def bits_Count.q5 (R : Value → World → Prop) : Exit → Act → World → Prop := Exit.then (startN none (codeN Go.Proofs.Tryd.prog (sub (codeOf Go.Proofs.Tryd.f25) [1, 1, 1]) (nsub bits_Count.an [1, 1, 1]) (bits_Count.q4 R))) (bits_Count.q4 R)
def bits_Count.q7 (R : Value → World → Prop) : Exit → Act → World → Prop := (bits_Count.q5 R)
def bits_Count.q8 (R : Value → World → Prop) : Exit → Act → World → Prop := Exit.inBlock 0 (bits_Count.q7 R)
def bits_Count.rl8 (R : Value → World → Prop) (k : Nat) (x3 : Int) (a6 : Option Addr) (n6 : Nat) (c6 : Nat) (x7 : Int) (x8 : Int) (w : World) : Prop := loopN [3, 6, 7, 8] (codeN Go.Proofs.Tryd.prog (sub (codeOf Go.Proofs.Tryd.f25) [1, 1, 0, 1, 0, 0]) (nsub bits_Count.an [1, 1, 0, 1, 0, 0])) (bits_Count.q8 R) k ⟨#[undef, undef, undef, .int .i64 x3, undef, undef, .slice a6 n6 c6, .int .i64 x7, .int .i64 x8, undef, undef, undef, undef, undef, undef, undef, undef, undef], []⟩ w
def bits_Count.re8 (R : Value → World → Prop) (x3 : Int) (a6 : Option Addr) (n6 : Nat) (c6 : Nat) (x7 : Int) (x8 : Int) (w : World) : Prop := ∃ k, bits_Count.rl8 R k x3 a6 n6 c6 x7 x8 w
def bits_Count.l8 (R : Value → World → Prop) : Nat → Int → (Option Addr) → Nat → Nat → Int → Int → World → Prop
  | 0, _, _, _, _, _, _, _ => False
  | k + 1, x3, a6, n6, c6, x7, x8, w => bits_Count.g8 R (bits_Count.l8 R k) x3 a6 n6 c6 x7 x8 w
def bits_Count.e8 (R : Value → World → Prop) (x3 : Int) (a6 : Option Addr) (n6 : Nat) (c6 : Nat) (x7 : Int) (x8 : Int) (w : World) : Prop := ∃ k, bits_Count.l8 R k x3 a6 n6 c6 x7 x8 w
theorem bits_Count.s8 (R : Value → World → Prop) (k : Nat) (x3 : Int) (a6 : Option Addr) (n6 : Nat) (c6 : Nat) (x7 : Int) (x8 : Int) (w : World) : bits_Count.rl8 R (k + 1) x3 a6 n6 c6 x7 x8 w = ∀ _ : Nat → Value, bits_Count.g8 R (bits_Count.rl8 R k) x3 a6 n6 c6 x7 x8 w := by kernel_rfl
theorem bits_Count.lq8 (R : Value → World → Prop) : ∀ k, bits_Count.l8 R k = bits_Count.rl8 R k
  | 0 => by funext x3 a6 n6 c6 x7 x8 w; rfl
  | k + 1 => by
    funext x3 a6 n6 c6 x7 x8 w
    rw [bits_Count.s8, forall_const]
    unfold bits_Count.l8
    have ih := bits_Count.lq8 R k
    rw [ih]
    all_goals rfl
theorem bits_Count.eq8 (R : Value → World → Prop) : bits_Count.e8 R = bits_Count.re8 R := by
  funext x3 a6 n6 c6 x7 x8 w
  unfold bits_Count.e8 bits_Count.re8
  simp only [bits_Count.lq8 R]
def bits_Count (R : Value → World → Prop) (a0 : Option Addr) (n0 : Nat) (c0 : Nat) (w : World) : Prop := bits_Count.g0 R (bits_Count.e8 R) a0 n0 c0 w
theorem bits_Count.root0 (R : Value → World → Prop) (a0 : Option Addr) (n0 : Nat) (c0 : Nat) (w : World) : fnN Go.Proofs.Tryd.prog Go.Proofs.Tryd.f25 bits_Count.an #[.slice a0 n0 c0] w R = bits_Count.g0 R (bits_Count.re8 R) a0 n0 c0 w := by kernel_rfl
theorem bits_Count.calls {R : Value → World → Prop} {a0 : Option Addr} {n0 : Nat} {c0 : Nat} {w : World} (h : bits_Count R a0 n0 c0 w) : Go.E.CallsD Go.Proofs.Tryd.prog 25 #[.slice a0 n0 c0] w R := by
  refine callsD_of (n := bits_Count.an) M_follows M_sizes Go.Proofs.Tryd.func25 (by rfl) ?_
  rw [bits_Count.root0]
  unfold bits_Count at h
  rw [bits_Count.eq8 R] at h
  exact h
-- thicket/bits.Lowest
def bits_Lowest.an : An := (.mk none .nil (.mk none (.mk none .nil (.mk none (.mk (some [5, 6, 7]) .nil .nil) .nil)) .nil))
def bits_Lowest.g0 (R : Value → World → Prop) (e6 : (Option Addr) → Nat → Nat → Int → Int → World → Prop) (a0 : Option Addr) (n0 : Nat) (c0 : Nat) (w : World) : Prop :=
  e6 a0 n0 c0 (n0 : Int) 0 w
def bits_Lowest.g6 (R : Value → World → Prop) (b6 : (Option Addr) → Nat → Nat → Int → Int → World → Prop) (a5 : Option Addr) (n5 : Nat) (c5 : Nat) (x6 : Int) (x7 : Int) (w : World) : Prop :=
  onBool (decide (x7 < x6))
    (optN a5 fun q9 =>
    chk ((0 : Int) ≤ x7 ∧ x7 < (n5 : Int))
      (∃ yx_10 : Int, w.cell? (q9.add (x7.toNat * 1)) = some (.int .u64 yx_10) ∧
        (onBool (yx_10 != 0)
          (nv (IntKind.i64.wrap (64 * x7)) fun t11 =>
          Go.E.CallsD Go.Proofs.Tryd.prog 60 #[.int .u64 yx_10] w fun yv12 u13 =>
            ∃ yx_14 : Int, yv12 = .int .i64 yx_14 ∧
              (nv (IntKind.i64.wrap (t11 + yx_14)) fun t15 =>
              R (.int .i64 t15) u13))
          (nv (IntKind.i64.wrap (x7 + 1)) fun t16 =>
          b6 a5 n5 c5 x6 t16 w))))
    (R (.int .i64 (-1)) w)
def bits_Lowest.q2 (R : Value → World → Prop) : Exit → Act → World → Prop := (fin Go.Proofs.Tryd.prog Go.Proofs.Tryd.f43 R)
def bits_Lowest.q3 (R : Value → World → Prop) : Exit → Act → World → Prop := Exit.then (startN none (codeN Go.Proofs.Tryd.prog (sub (codeOf Go.Proofs.Tryd.f43) [1, 1]) (nsub bits_Lowest.an [1, 1]) (bits_Lowest.q2 R))) (bits_Lowest.q2 R)
def bits_Lowest.q5 (R : Value → World → Prop) : Exit → Act → World → Prop := (bits_Lowest.q3 R)
def bits_Lowest.q6 (R : Value → World → Prop) : Exit → Act → World → Prop := Exit.inBlock 0 (bits_Lowest.q5 R)
def bits_Lowest.rl6 (R : Value → World → Prop) (k : Nat) (a5 : Option Addr) (n5 : Nat) (c5 : Nat) (x6 : Int) (x7 : Int) (w : World) : Prop := loopN [5, 6, 7] (codeN Go.Proofs.Tryd.prog (sub (codeOf Go.Proofs.Tryd.f43) [1, 0, 1, 0, 0]) (nsub bits_Lowest.an [1, 0, 1, 0, 0])) (bits_Lowest.q6 R) k ⟨#[undef, undef, undef, undef, undef, .slice a5 n5 c5, .int .i64 x6, .int .i64 x7, undef, undef, undef, undef, undef, undef, undef, undef, undef, undef, undef, undef], []⟩ w
def bits_Lowest.re6 (R : Value → World → Prop) (a5 : Option Addr) (n5 : Nat) (c5 : Nat) (x6 : Int) (x7 : Int) (w : World) : Prop := ∃ k, bits_Lowest.rl6 R k a5 n5 c5 x6 x7 w
def bits_Lowest.l6 (R : Value → World → Prop) : Nat → (Option Addr) → Nat → Nat → Int → Int → World → Prop
  | 0, _, _, _, _, _, _ => False
  | k + 1, a5, n5, c5, x6, x7, w => bits_Lowest.g6 R (bits_Lowest.l6 R k) a5 n5 c5 x6 x7 w
def bits_Lowest.e6 (R : Value → World → Prop) (a5 : Option Addr) (n5 : Nat) (c5 : Nat) (x6 : Int) (x7 : Int) (w : World) : Prop := ∃ k, bits_Lowest.l6 R k a5 n5 c5 x6 x7 w
theorem bits_Lowest.s6 (R : Value → World → Prop) (k : Nat) (a5 : Option Addr) (n5 : Nat) (c5 : Nat) (x6 : Int) (x7 : Int) (w : World) : bits_Lowest.rl6 R (k + 1) a5 n5 c5 x6 x7 w = ∀ _ : Nat → Value, bits_Lowest.g6 R (bits_Lowest.rl6 R k) a5 n5 c5 x6 x7 w := by kernel_rfl
theorem bits_Lowest.lq6 (R : Value → World → Prop) : ∀ k, bits_Lowest.l6 R k = bits_Lowest.rl6 R k
  | 0 => by funext a5 n5 c5 x6 x7 w; rfl
  | k + 1 => by
    funext a5 n5 c5 x6 x7 w
    rw [bits_Lowest.s6, forall_const]
    unfold bits_Lowest.l6
    have ih := bits_Lowest.lq6 R k
    rw [ih]
    all_goals rfl
theorem bits_Lowest.eq6 (R : Value → World → Prop) : bits_Lowest.e6 R = bits_Lowest.re6 R := by
  funext a5 n5 c5 x6 x7 w
  unfold bits_Lowest.e6 bits_Lowest.re6
  simp only [bits_Lowest.lq6 R]
def bits_Lowest (R : Value → World → Prop) (a0 : Option Addr) (n0 : Nat) (c0 : Nat) (w : World) : Prop := bits_Lowest.g0 R (bits_Lowest.e6 R) a0 n0 c0 w
theorem bits_Lowest.root0 (R : Value → World → Prop) (a0 : Option Addr) (n0 : Nat) (c0 : Nat) (w : World) : fnN Go.Proofs.Tryd.prog Go.Proofs.Tryd.f43 bits_Lowest.an #[.slice a0 n0 c0] w R = bits_Lowest.g0 R (bits_Lowest.re6 R) a0 n0 c0 w := by kernel_rfl
theorem bits_Lowest.calls {R : Value → World → Prop} {a0 : Option Addr} {n0 : Nat} {c0 : Nat} {w : World} (h : bits_Lowest R a0 n0 c0 w) : Go.E.CallsD Go.Proofs.Tryd.prog 43 #[.slice a0 n0 c0] w R := by
  refine callsD_of (n := bits_Lowest.an) M_follows M_sizes Go.Proofs.Tryd.func43 (by rfl) ?_
  rw [bits_Lowest.root0]
  unfold bits_Lowest at h
  rw [bits_Lowest.eq6 R] at h
  exact h
-- thicket/bits.Highest
def bits_Highest.an : An := (.mk none .nil (.mk none (.mk none .nil (.mk none (.mk (some [0, 3]) .nil .nil) .nil)) .nil))
def bits_Highest.g0 (R : Value → World → Prop) (e6 : (Option Addr) → Nat → Nat → Int → World → Prop) (a0 : Option Addr) (n0 : Nat) (c0 : Nat) (w : World) : Prop :=
  nv (IntKind.i64.wrap ((n0 : Int) - 1)) fun t13 =>
  e6 a0 n0 c0 t13 w
def bits_Highest.g6 (R : Value → World → Prop) (b6 : (Option Addr) → Nat → Nat → Int → World → Prop) (a0 : Option Addr) (n0 : Nat) (c0 : Nat) (x3 : Int) (w : World) : Prop :=
  onBool (decide (x3 ≥ 0))
    (optN a0 fun q14 =>
    chk ((0 : Int) ≤ x3 ∧ x3 < (n0 : Int))
      (∃ yx_15 : Int, w.cell? (q14.add (x3.toNat * 1)) = some (.int .u64 yx_15) ∧
        (onBool (yx_15 != 0)
          (nv (IntKind.i64.wrap (64 * x3)) fun t16 =>
          optN a0 fun q17 =>
          chk ((0 : Int) ≤ x3 ∧ x3 < (n0 : Int))
            (∃ yx_18 : Int, w.cell? (q17.add (x3.toNat * 1)) = some (.int .u64 yx_18) ∧
              (Go.E.CallsD Go.Proofs.Tryd.prog 61 #[.int .u64 yx_18] w fun yv19 u20 =>
                ∃ yx_21 : Int, yv19 = .int .i64 yx_21 ∧
                  (nv (IntKind.i64.wrap (t16 + yx_21)) fun t22 =>
                  nv (IntKind.i64.wrap (t22 - 1)) fun t23 =>
                  R (.int .i64 t23) u20))))
          (nv (IntKind.i64.wrap (x3 - 1)) fun t24 =>
          b6 a0 n0 c0 t24 w))))
    (R (.int .i64 (-1)) w)
def bits_Highest.q2 (R : Value → World → Prop) : Exit → Act → World → Prop := (fin Go.Proofs.Tryd.prog Go.Proofs.Tryd.f45 R)
def bits_Highest.q3 (R : Value → World → Prop) : Exit → Act → World → Prop := Exit.then (startN none (codeN Go.Proofs.Tryd.prog (sub (codeOf Go.Proofs.Tryd.f45) [1, 1]) (nsub bits_Highest.an [1, 1]) (bits_Highest.q2 R))) (bits_Highest.q2 R)
def bits_Highest.q5 (R : Value → World → Prop) : Exit → Act → World → Prop := (bits_Highest.q3 R)
def bits_Highest.q6 (R : Value → World → Prop) : Exit → Act → World → Prop := Exit.inBlock 0 (bits_Highest.q5 R)
def bits_Highest.rl6 (R : Value → World → Prop) (k : Nat) (a0 : Option Addr) (n0 : Nat) (c0 : Nat) (x3 : Int) (w : World) : Prop := loopN [0, 3] (codeN Go.Proofs.Tryd.prog (sub (codeOf Go.Proofs.Tryd.f45) [1, 0, 1, 0, 0]) (nsub bits_Highest.an [1, 0, 1, 0, 0])) (bits_Highest.q6 R) k ⟨#[.slice a0 n0 c0, undef, undef, .int .i64 x3, undef, undef, undef, undef, undef, undef, undef, undef, undef, undef, undef, undef, undef, undef, undef, undef, undef, undef, undef, undef, undef], []⟩ w
def bits_Highest.re6 (R : Value → World → Prop) (a0 : Option Addr) (n0 : Nat) (c0 : Nat) (x3 : Int) (w : World) : Prop := ∃ k, bits_Highest.rl6 R k a0 n0 c0 x3 w
def bits_Highest.l6 (R : Value → World → Prop) : Nat → (Option Addr) → Nat → Nat → Int → World → Prop
  | 0, _, _, _, _, _ => False
  | k + 1, a0, n0, c0, x3, w => bits_Highest.g6 R (bits_Highest.l6 R k) a0 n0 c0 x3 w
def bits_Highest.e6 (R : Value → World → Prop) (a0 : Option Addr) (n0 : Nat) (c0 : Nat) (x3 : Int) (w : World) : Prop := ∃ k, bits_Highest.l6 R k a0 n0 c0 x3 w
theorem bits_Highest.s6 (R : Value → World → Prop) (k : Nat) (a0 : Option Addr) (n0 : Nat) (c0 : Nat) (x3 : Int) (w : World) : bits_Highest.rl6 R (k + 1) a0 n0 c0 x3 w = ∀ _ : Nat → Value, bits_Highest.g6 R (bits_Highest.rl6 R k) a0 n0 c0 x3 w := by kernel_rfl
theorem bits_Highest.lq6 (R : Value → World → Prop) : ∀ k, bits_Highest.l6 R k = bits_Highest.rl6 R k
  | 0 => by funext a0 n0 c0 x3 w; rfl
  | k + 1 => by
    funext a0 n0 c0 x3 w
    rw [bits_Highest.s6, forall_const]
    unfold bits_Highest.l6
    have ih := bits_Highest.lq6 R k
    rw [ih]
    all_goals rfl
theorem bits_Highest.eq6 (R : Value → World → Prop) : bits_Highest.e6 R = bits_Highest.re6 R := by
  funext a0 n0 c0 x3 w
  unfold bits_Highest.e6 bits_Highest.re6
  simp only [bits_Highest.lq6 R]
def bits_Highest (R : Value → World → Prop) (a0 : Option Addr) (n0 : Nat) (c0 : Nat) (w : World) : Prop := bits_Highest.g0 R (bits_Highest.e6 R) a0 n0 c0 w
theorem bits_Highest.root0 (R : Value → World → Prop) (a0 : Option Addr) (n0 : Nat) (c0 : Nat) (w : World) : fnN Go.Proofs.Tryd.prog Go.Proofs.Tryd.f45 bits_Highest.an #[.slice a0 n0 c0] w R = bits_Highest.g0 R (bits_Highest.re6 R) a0 n0 c0 w := by kernel_rfl
theorem bits_Highest.calls {R : Value → World → Prop} {a0 : Option Addr} {n0 : Nat} {c0 : Nat} {w : World} (h : bits_Highest R a0 n0 c0 w) : Go.E.CallsD Go.Proofs.Tryd.prog 45 #[.slice a0 n0 c0] w R := by
  refine callsD_of (n := bits_Highest.an) M_follows M_sizes Go.Proofs.Tryd.func45 (by rfl) ?_
  rw [bits_Highest.root0]
  unfold bits_Highest at h
  rw [bits_Highest.eq6 R] at h
  exact h
-- math/bits.OnesCount64
def bits_OnesCount64.an : An := An.nil
def bits_OnesCount64.g0 (R : Value → World → Prop) (x0 : Int) (w : World) : Prop :=
  nv (Int.fdiv x0 (2 ^ 1)) fun t20 =>
  nv (bitsI .and .u64 t20 6148914691236517205) fun t21 =>
  nv (bitsI .and .u64 x0 6148914691236517205) fun t22 =>
  nv (IntKind.u64.wrap (t21 + t22)) fun t23 =>
  nv (Int.fdiv t23 (2 ^ 2)) fun t24 =>
  nv (bitsI .and .u64 t24 3689348814741910323) fun t25 =>
  nv (bitsI .and .u64 t23 3689348814741910323) fun t26 =>
  nv (IntKind.u64.wrap (t25 + t26)) fun t27 =>
  nv (Int.fdiv t27 (2 ^ 4)) fun t28 =>
  nv (IntKind.u64.wrap (t28 + t27)) fun t29 =>
  nv (bitsI .and .u64 t29 1085102592571150095) fun t30 =>
  nv (Int.fdiv t30 (2 ^ 8)) fun t31 =>
  nv (IntKind.u64.wrap (t30 + t31)) fun t32 =>
  nv (Int.fdiv t32 (2 ^ 16)) fun t33 =>
  nv (IntKind.u64.wrap (t32 + t33)) fun t34 =>
  nv (Int.fdiv t34 (2 ^ (min (32 : Int).toNat 64))) fun t35 =>
  nv (IntKind.u64.wrap (t34 + t35)) fun t36 =>
  nv (IntKind.i64.wrap t36) fun t37 =>
  nv (bitsI .and .i64 t37 127) fun t38 =>
  R (.int .i64 t38) w
def bits_OnesCount64 (R : Value → World → Prop) (x0 : Int) (w : World) : Prop := bits_OnesCount64.g0 R x0 w
theorem bits_OnesCount64.root0 (R : Value → World → Prop) (x0 : Int) (w : World) : fnN Go.Proofs.Tryd.prog Go.Proofs.Tryd.f55 bits_OnesCount64.an #[.int .u64 x0] w R = bits_OnesCount64.g0 R x0 w := by kernel_rfl
theorem bits_OnesCount64.calls {R : Value → World → Prop} {x0 : Int} {w : World} (h : bits_OnesCount64 R x0 w) : Go.E.CallsD Go.Proofs.Tryd.prog 55 #[.int .u64 x0] w R := by
  refine callsD_of (n := bits_OnesCount64.an) M_follows M_sizes Go.Proofs.Tryd.func55 (by rfl) ?_
  rw [bits_OnesCount64.root0]
  unfold bits_OnesCount64 at h
  exact h
-- math/bits.Len64
def bits_Len64.an : An := (.mk none .nil (.mk (some [0, 2]) .nil (.mk (some [0, 2]) .nil .nil)))
def bits_Len64.g0 (R : Value → World → Prop) (j10 : Int → Int → World → Prop) (x0 : Int) (w : World) : Prop :=
  onBool (decide (x0 ≥ 4294967296))
    (nv (Int.fdiv x0 (2 ^ (min (32 : Int).toNat 64))) fun t10 =>
    j10 t10 32 w)
    (j10 x0 0 w)
def bits_Len64.g10 (R : Value → World → Prop) (j18 : Int → Int → World → Prop) (x0 : Int) (x2 : Int) (w : World) : Prop :=
  onBool (decide (x0 ≥ 65536))
    (nv (Int.fdiv x0 (2 ^ 16)) fun t11 =>
    nv (IntKind.i64.wrap (x2 + 16)) fun t12 =>
    j18 t11 t12 w)
    (j18 x0 x2 w)
def bits_Len64.g18 (R : Value → World → Prop) (x0 : Int) (x2 : Int) (w : World) : Prop :=
  onBool (decide (x0 ≥ 256))
    (nv (Int.fdiv x0 (2 ^ 8)) fun t13 =>
    nv (IntKind.i64.wrap (x2 + 8)) fun t14 =>
    nv (IntKind.u8.wrap t13) fun t15 =>
    chk ((0 : Int) ≤ t15) (∃ yc16 : UInt8, (⟨#[0, 1, 2, 2, 3, 3, 3, 3, 4, 4, 4, 4, 4, 4, 4, 4, 5, 5, 5, 5, 5, 5, 5, 5, 5, 5, 5, 5, 5, 5, 5, 5, 6, 6, 6, 6, 6, 6, 6, 6, 6, 6, 6, 6, 6, 6, 6, 6, 6, 6, 6, 6, 6, 6, 6, 6, 6, 6, 6, 6, 6, 6, 6, 6, 7, 7, 7, 7, 7, 7, 7, 7, 7, 7, 7, 7, 7, 7, 7, 7, 7, 7, 7, 7, 7, 7, 7, 7, 7, 7, 7, 7, 7, 7, 7, 7, 7, 7, 7, 7, 7, 7, 7, 7, 7, 7, 7, 7, 7, 7, 7, 7, 7, 7, 7, 7, 7, 7, 7, 7, 7, 7, 7, 7, 7, 7, 7, 7, 8, 8, 8, 8, 8, 8, 8, 8, 8, 8, 8, 8, 8, 8, 8, 8, 8, 8, 8, 8, 8, 8, 8, 8, 8, 8, 8, 8, 8, 8, 8, 8, 8, 8, 8, 8, 8, 8, 8, 8, 8, 8, 8, 8, 8, 8, 8, 8, 8, 8, 8, 8, 8, 8, 8, 8, 8, 8, 8, 8, 8, 8, 8, 8, 8, 8, 8, 8, 8, 8, 8, 8, 8, 8, 8, 8, 8, 8, 8, 8, 8, 8, 8, 8, 8, 8, 8, 8, 8, 8, 8, 8, 8, 8, 8, 8, 8, 8, 8, 8, 8, 8, 8, 8, 8, 8, 8, 8, 8, 8, 8, 8, 8, 8, 8, 8, 8, 8, 8, 8, 8, 8, 8, 8, 8, 8, 8, 8]⟩ : ByteArray)[t15.toNat]? = some yc16 ∧
      (nv (IntKind.i64.wrap (yc16.toNat : Int)) fun t17 =>
      nv (IntKind.i64.wrap (t14 + t17)) fun t18 =>
      R (.int .i64 t18) w)))
    (nv (IntKind.u8.wrap x0) fun t19 =>
    chk ((0 : Int) ≤ t19) (∃ yc20 : UInt8, (⟨#[0, 1, 2, 2, 3, 3, 3, 3, 4, 4, 4, 4, 4, 4, 4, 4, 5, 5, 5, 5, 5, 5, 5, 5, 5, 5, 5, 5, 5, 5, 5, 5, 6, 6, 6, 6, 6, 6, 6, 6, 6, 6, 6, 6, 6, 6, 6, 6, 6, 6, 6, 6, 6, 6, 6, 6, 6, 6, 6, 6, 6, 6, 6, 6, 7, 7, 7, 7, 7, 7, 7, 7, 7, 7, 7, 7, 7, 7, 7, 7, 7, 7, 7, 7, 7, 7, 7, 7, 7, 7, 7, 7, 7, 7, 7, 7, 7, 7, 7, 7, 7, 7, 7, 7, 7, 7, 7, 7, 7, 7, 7, 7, 7, 7, 7, 7, 7, 7, 7, 7, 7, 7, 7, 7, 7, 7, 7, 7, 8, 8, 8, 8, 8, 8, 8, 8, 8, 8, 8, 8, 8, 8, 8, 8, 8, 8, 8, 8, 8, 8, 8, 8, 8, 8, 8, 8, 8, 8, 8, 8, 8, 8, 8, 8, 8, 8, 8, 8, 8, 8, 8, 8, 8, 8, 8, 8, 8, 8, 8, 8, 8, 8, 8, 8, 8, 8, 8, 8, 8, 8, 8, 8, 8, 8, 8, 8, 8, 8, 8, 8, 8, 8, 8, 8, 8, 8, 8, 8, 8, 8, 8, 8, 8, 8, 8, 8, 8, 8, 8, 8, 8, 8, 8, 8, 8, 8, 8, 8, 8, 8, 8, 8, 8, 8, 8, 8, 8, 8, 8, 8, 8, 8, 8, 8, 8, 8, 8, 8, 8, 8, 8, 8, 8, 8, 8, 8]⟩ : ByteArray)[t19.toNat]? = some yc20 ∧
      (nv (IntKind.i64.wrap (yc20.toNat : Int)) fun t21 =>
      nv (IntKind.i64.wrap (x2 + t21)) fun t22 =>
      R (.int .i64 t22) w)))
def bits_Len64.q2 (R : Value → World → Prop) : Exit → Act → World → Prop := (fin Go.Proofs.Tryd.prog Go.Proofs.Tryd.f61 R)
def bits_Len64.q10 (R : Value → World → Prop) : Exit → Act → World → Prop := (bits_Len64.q2 R)
def bits_Len64.rj10 (R : Value → World → Prop) (x0 : Int) (x2 : Int) (w : World) : Prop := startN (some [0, 2]) (codeN Go.Proofs.Tryd.prog (sub (codeOf Go.Proofs.Tryd.f61) [1, 1]) (nsub bits_Len64.an [1, 1]) (bits_Len64.q10 R)) ⟨#[.int .u64 x0, undef, .int .i64 x2, undef, undef, undef, undef, undef, undef, undef, undef, undef, undef, undef, undef, undef, undef, undef, undef, undef, undef, undef, undef, undef, undef], []⟩ w
def bits_Len64.q18 (R : Value → World → Prop) : Exit → Act → World → Prop := (bits_Len64.q10 R)
def bits_Len64.rj18 (R : Value → World → Prop) (x0 : Int) (x2 : Int) (w : World) : Prop := startN (some [0, 2]) (codeN Go.Proofs.Tryd.prog (sub (codeOf Go.Proofs.Tryd.f61) [1, 1, 1]) (nsub bits_Len64.an [1, 1, 1]) (bits_Len64.q18 R)) ⟨#[.int .u64 x0, undef, .int .i64 x2, undef, undef, undef, undef, undef, undef, undef, undef, undef, undef, undef, undef, undef, undef, undef, undef, undef, undef, undef, undef, undef, undef], []⟩ w
def bits_Len64.j18 (R : Value → World → Prop) (x0 : Int) (x2 : Int) (w : World) : Prop := bits_Len64.g18 R x0 x2 w
theorem bits_Len64.s18 (R : Value → World → Prop) (x0 : Int) (x2 : Int) (w : World) : bits_Len64.rj18 R x0 x2 w = ∀ _ : Nat → Value, bits_Len64.g18 R x0 x2 w := by kernel_rfl
theorem bits_Len64.jq18 (R : Value → World → Prop) : bits_Len64.j18 R = bits_Len64.rj18 R := by
    funext x0 x2 w
    rw [bits_Len64.s18, forall_const]
    unfold bits_Len64.j18
    all_goals rfl
def bits_Len64.j10 (R : Value → World → Prop) (x0 : Int) (x2 : Int) (w : World) : Prop := bits_Len64.g10 R (bits_Len64.j18 R) x0 x2 w
theorem bits_Len64.s10 (R : Value → World → Prop) (x0 : Int) (x2 : Int) (w : World) : bits_Len64.rj10 R x0 x2 w = ∀ _ : Nat → Value, bits_Len64.g10 R (bits_Len64.rj18 R) x0 x2 w := by kernel_rfl
theorem bits_Len64.jq10 (R : Value → World → Prop) : bits_Len64.j10 R = bits_Len64.rj10 R := by
    funext x0 x2 w
    rw [bits_Len64.s10, forall_const]
    unfold bits_Len64.j10
    rw [bits_Len64.jq18 R]
    all_goals rfl
def bits_Len64 (R : Value → World → Prop) (x0 : Int) (w : World) : Prop := bits_Len64.g0 R (bits_Len64.j10 R) x0 w
theorem bits_Len64.root0 (R : Value → World → Prop) (x0 : Int) (w : World) : fnN Go.Proofs.Tryd.prog Go.Proofs.Tryd.f61 bits_Len64.an #[.int .u64 x0] w R = bits_Len64.g0 R (bits_Len64.rj10 R) x0 w := by kernel_rfl
theorem bits_Len64.calls {R : Value → World → Prop} {x0 : Int} {w : World} (h : bits_Len64 R x0 w) : Go.E.CallsD Go.Proofs.Tryd.prog 61 #[.int .u64 x0] w R := by
  refine callsD_of (n := bits_Len64.an) M_follows M_sizes Go.Proofs.Tryd.func61 (by rfl) ?_
  rw [bits_Len64.root0]
  unfold bits_Len64 at h
  rw [bits_Len64.jq10 R] at h
  exact h
-- thicket/thicketref05.Words
def thicketref05_Words.an : An := An.nil
def thicketref05_Words.g0 (R : Value → World → Prop) (x0 : Int) (w : World) : Prop :=
  onBool (decide (x0 < 0))
    (R (.tuple #[.int .i64 0, .int .i64 2]) w)
    (onBool (decide (x0 > 1048576))
      (R (.tuple #[.int .i64 0, .int .i64 2]) w)
      (nv (IntKind.i64.wrap (x0 + 63)) fun t1 =>
      nv (IntKind.i64.wrap (Int.tdiv t1 64)) fun t2 =>
      R (.tuple #[.int .i64 t2, .int .i64 0]) w))
def thicketref05_Words (R : Value → World → Prop) (x0 : Int) (w : World) : Prop := thicketref05_Words.g0 R x0 w
theorem thicketref05_Words.root0 (R : Value → World → Prop) (x0 : Int) (w : World) : fnN Go.Proofs.Tryd.prog Go.Proofs.Tryd.f16 thicketref05_Words.an #[.int .i64 x0] w R = thicketref05_Words.g0 R x0 w := by kernel_rfl
theorem thicketref05_Words.calls {R : Value → World → Prop} {x0 : Int} {w : World} (h : thicketref05_Words R x0 w) : Go.E.CallsD Go.Proofs.Tryd.prog 16 #[.int .i64 x0] w R := by
  refine callsD_of (n := thicketref05_Words.an) M_follows M_sizes Go.Proofs.Tryd.func16 (by rfl) ?_
  rw [thicketref05_Words.root0]
  unfold thicketref05_Words at h
  exact h
-- thicket/thicketref05.Full
def thicketref05_Full.an : An := An.nil
def thicketref05_Full.g0 (R : Value → World → Prop) (x0 : Int) (w : World) : Prop :=
  onBool (decide (x0 < 0))
    (R (.tuple #[.slice none 0 0, .int .i64 2]) w)
    (onBool (decide (x0 > 1048576))
      (R (.tuple #[.slice none 0 0, .int .i64 2]) w)
      (Go.E.CallsD Go.Proofs.Tryd.prog 53 #[.int .i64 x0, .int .i64 0, .int .i64 0, .bool false] w fun yv1 u2 =>
        ∃ ya_3 : Option Addr, ∃ yn_3 : Nat, ∃ yc_3 : Nat, yv1 = .slice ya_3 yn_3 yc_3 ∧
          (R (.tuple #[.slice ya_3 yn_3 yc_3, .int .i64 0]) u2)))
def thicketref05_Full (R : Value → World → Prop) (x0 : Int) (w : World) : Prop := thicketref05_Full.g0 R x0 w
theorem thicketref05_Full.root0 (R : Value → World → Prop) (x0 : Int) (w : World) : fnN Go.Proofs.Tryd.prog Go.Proofs.Tryd.f17 thicketref05_Full.an #[.int .i64 x0] w R = thicketref05_Full.g0 R x0 w := by kernel_rfl
theorem thicketref05_Full.calls {R : Value → World → Prop} {x0 : Int} {w : World} (h : thicketref05_Full R x0 w) : Go.E.CallsD Go.Proofs.Tryd.prog 17 #[.int .i64 x0] w R := by
  refine callsD_of (n := thicketref05_Full.an) M_follows M_sizes Go.Proofs.Tryd.func17 (by rfl) ?_
  rw [thicketref05_Full.root0]
  unfold thicketref05_Full at h
  exact h
end Go.Mir

set_option linter.unusedVariables false
namespace Go.Mir
open Go Go.E Go.RowKit
-- thicket/thicketref05.Empty
def thicketref05_Empty.an : An := An.nil
def thicketref05_Empty.g0 (R : Value → World → Prop) (x0 : Int) (w : World) : Prop :=
  onBool (decide (x0 < 0))
    (R (.tuple #[.slice none 0 0, .int .i64 2]) w)
    (onBool (decide (x0 > 1048576))
      (R (.tuple #[.slice none 0 0, .int .i64 2]) w)
      (Go.E.CallsD Go.Proofs.Tryd.prog 53 #[.int .i64 x0, .int .i64 0, .int .i64 0, .bool true] w fun yv1 u2 =>
        ∃ ya_3 : Option Addr, ∃ yn_3 : Nat, ∃ yc_3 : Nat, yv1 = .slice ya_3 yn_3 yc_3 ∧
          (R (.tuple #[.slice ya_3 yn_3 yc_3, .int .i64 0]) u2)))
def thicketref05_Empty (R : Value → World → Prop) (x0 : Int) (w : World) : Prop := thicketref05_Empty.g0 R x0 w
theorem thicketref05_Empty.root0 (R : Value → World → Prop) (x0 : Int) (w : World) : fnN Go.Proofs.Tryd.prog Go.Proofs.Tryd.f18 thicketref05_Empty.an #[.int .i64 x0] w R = thicketref05_Empty.g0 R x0 w := by kernel_rfl
theorem thicketref05_Empty.calls {R : Value → World → Prop} {x0 : Int} {w : World} (h : thicketref05_Empty R x0 w) : Go.E.CallsD Go.Proofs.Tryd.prog 18 #[.int .i64 x0] w R := by
  refine callsD_of (n := thicketref05_Empty.an) M_follows M_sizes Go.Proofs.Tryd.func18 (by rfl) ?_
  rw [thicketref05_Empty.root0]
  unfold thicketref05_Empty at h
  exact h
-- thicket/thicketref05.Mask
def thicketref05_Mask.an : An := An.nil
def thicketref05_Mask.g0 (R : Value → World → Prop) (x0 : Int) (x1 : Int) (x2 : Int) (w : World) : Prop :=
  onBool (decide (x0 < 0))
    (R (.tuple #[.slice none 0 0, .int .i64 2]) w)
    (onBool (decide (x0 > 1048576))
      (R (.tuple #[.slice none 0 0, .int .i64 2]) w)
      (onBool (decide (x1 < 0))
        (R (.tuple #[.slice none 0 0, .int .i64 2]) w)
        (onBool (decide (x1 > x2))
          (R (.tuple #[.slice none 0 0, .int .i64 2]) w)
          (onBool (decide (x2 > x0))
            (R (.tuple #[.slice none 0 0, .int .i64 2]) w)
            (Go.E.CallsD Go.Proofs.Tryd.prog 53 #[.int .i64 x0, .int .i64 x1, .int .i64 x2, .bool false] w fun yv1 u2 =>
              ∃ ya_3 : Option Addr, ∃ yn_3 : Nat, ∃ yc_3 : Nat, yv1 = .slice ya_3 yn_3 yc_3 ∧
                (R (.tuple #[.slice ya_3 yn_3 yc_3, .int .i64 0]) u2))))))
def thicketref05_Mask (R : Value → World → Prop) (x0 : Int) (x1 : Int) (x2 : Int) (w : World) : Prop := thicketref05_Mask.g0 R x0 x1 x2 w
theorem thicketref05_Mask.root0 (R : Value → World → Prop) (x0 : Int) (x1 : Int) (x2 : Int) (w : World) : fnN Go.Proofs.Tryd.prog Go.Proofs.Tryd.f19 thicketref05_Mask.an #[.int .i64 x0, .int .i64 x1, .int .i64 x2] w R = thicketref05_Mask.g0 R x0 x1 x2 w := by kernel_rfl
theorem thicketref05_Mask.calls {R : Value → World → Prop} {x0 : Int} {x1 : Int} {x2 : Int} {w : World} (h : thicketref05_Mask R x0 x1 x2 w) : Go.E.CallsD Go.Proofs.Tryd.prog 19 #[.int .i64 x0, .int .i64 x1, .int .i64 x2] w R := by
  refine callsD_of (n := thicketref05_Mask.an) M_follows M_sizes Go.Proofs.Tryd.func19 (by rfl) ?_
  rw [thicketref05_Mask.root0]
  unfold thicketref05_Mask at h
  exact h
-- thicket/thicketref05.made
def thicketref05_made.an : An := (.mk none .nil (.mk none .nil (.mk none (.mk none .nil (.mk none (.mk (some [0, 1, 2, 3, 9, 10]) (.mk none .nil (.mk none (.mk none (.mk (some [0, 1, 2, 3, 9, 10, 29]) .nil .nil) .nil) .nil)) .nil) .nil)) .nil)))
def thicketref05_made.g0 (R : Value → World → Prop) (e8 : Int → Int → Int → Bool → (Option Addr) → Nat → Nat → Int → World → Prop) (x0 : Int) (x1 : Int) (x2 : Int) (b3 : Bool) (w : World) : Prop :=
  nv (IntKind.i64.wrap (x0 + 63)) fun t15 =>
  nv (IntKind.i64.wrap (Int.tdiv t15 64)) fun t16 =>
  chk ((0 : Int) ≤ t16 ∧ t16 ≤ t16 ∧ ((8 : Nat) : Int) * t16 ≤ 281474976710656 ∧ t16 ≤ 9223372036854775807)
    (nw (w.alloc (.cells (madeCells #[.int .u64 0] ((t16).toNat * 1)) 56)) fun w17 =>
    e8 x0 x1 x2 b3 (some (na w)) ((t16).toNat) ((t16).toNat) 0 w17)
def thicketref05_made.g8 (R : Value → World → Prop) (j19 : Int → Int → Int → Bool → (Option Addr) → Nat → Nat → Int → Bool → World → Prop) (x0 : Int) (x1 : Int) (x2 : Int) (b3 : Bool) (a9 : Option Addr) (n9 : Nat) (c9 : Nat) (x10 : Int) (w : World) : Prop :=
  onBool (decide (x10 < x0))
    (onBool (decide (x10 ≥ x1))
      (j19 x0 x1 x2 b3 a9 n9 c9 x10 ((decide (x10 < x2)) == b3) w)
      (j19 x0 x1 x2 b3 a9 n9 c9 x10 (false == b3) w))
    (R (.slice a9 n9 c9) w)
def thicketref05_made.g19 (R : Value → World → Prop) (b8 : Int → Int → Int → Bool → (Option Addr) → Nat → Nat → Int → World → Prop) (x0 : Int) (x1 : Int) (x2 : Int) (b3 : Bool) (a9 : Option Addr) (n9 : Nat) (c9 : Nat) (x10 : Int) (b29 : Bool) (w : World) : Prop :=
  onBool b29
    (nv (IntKind.i64.wrap (Int.tdiv x10 64)) fun t18 =>
    nv (IntKind.i64.wrap (Int.tdiv x10 64)) fun t19 =>
    optN a9 fun q20 =>
    chk ((0 : Int) ≤ t19 ∧ t19 < (n9 : Int))
      (∃ yx_21 : Int, w.cell? (q20.add (t19.toNat * 1)) = some (.int .u64 yx_21) ∧
        (nv (Int.tmod x10 64) fun t22 =>
        nv (IntKind.u64.wrap t22) fun t23 =>
        nchk (t23 < 0)
          (nv (IntKind.u64.wrap (1 * 2 ^ (min t23.toNat 64))) fun t24 =>
          nv (bitsI .or .u64 yx_21 t24) fun t25 =>
          optN a9 fun q26 =>
          chk ((0 : Int) ≤ t18 ∧ t18 < (n9 : Int))
            (okSt w ((q26.add (t18.toNat * 1)).add 0) ∧
              (nw (w.setCell ((q26.add (t18.toNat * 1)).add 0) (.int .u64 t25)) fun w27 =>
              nv (IntKind.i64.wrap (x10 + 1)) fun t28 =>
              b8 x0 x1 x2 b3 a9 n9 c9 t28 w27))))))
    (nv (IntKind.i64.wrap (x10 + 1)) fun t29 =>
    b8 x0 x1 x2 b3 a9 n9 c9 t29 w)
def thicketref05_made.q2 (R : Value → World → Prop) : Exit → Act → World → Prop := (fin Go.Proofs.Tryd.prog Go.Proofs.Tryd.f53 R)
def thicketref05_made.q4 (R : Value → World → Prop) : Exit → Act → World → Prop := (thicketref05_made.q2 R)
def thicketref05_made.q5 (R : Value → World → Prop) : Exit → Act → World → Prop := Exit.then (startN none (codeN Go.Proofs.Tryd.prog (sub (codeOf Go.Proofs.Tryd.f53) [1, 1, 1]) (nsub thicketref05_made.an [1, 1, 1]) (thicketref05_made.q4 R))) (thicketref05_made.q4 R)
def thicketref05_made.q7 (R : Value → World → Prop) : Exit → Act → World → Prop := (thicketref05_made.q5 R)
def thicketref05_made.q8 (R : Value → World → Prop) : Exit → Act → World → Prop := Exit.inBlock 0 (thicketref05_made.q7 R)
def thicketref05_made.rl8 (R : Value → World → Prop) (k : Nat) (x0 : Int) (x1 : Int) (x2 : Int) (b3 : Bool) (a9 : Option Addr) (n9 : Nat) (c9 : Nat) (x10 : Int) (w : World) : Prop := loopN [0, 1, 2, 3, 9, 10] (codeN Go.Proofs.Tryd.prog (sub (codeOf Go.Proofs.Tryd.f53) [1, 1, 0, 1, 0, 0]) (nsub thicketref05_made.an [1, 1, 0, 1, 0, 0])) (thicketref05_made.q8 R) k ⟨#[.int .i64 x0, .int .i64 x1, .int .i64 x2, .bool b3, undef, undef, undef, undef, undef, .slice a9 n9 c9, .int .i64 x10, undef, undef, undef, undef, undef, undef, undef, undef, undef, undef, undef, undef, undef, undef, undef, undef, undef, undef, undef, undef, undef, undef, undef, undef, undef, undef, undef, undef, undef, undef, undef, undef, undef, undef], []⟩ w
def thicketref05_made.re8 (R : Value → World → Prop) (x0 : Int) (x1 : Int) (x2 : Int) (b3 : Bool) (a9 : Option Addr) (n9 : Nat) (c9 : Nat) (x10 : Int) (w : World) : Prop := ∃ k, thicketref05_made.rl8 R k x0 x1 x2 b3 a9 n9 c9 x10 w
def thicketref05_made.q9 (R : Value → World → Prop) (k8 : Nat) : Exit → Act → World → Prop := Exit.then (fun a w => loopN [0, 1, 2, 3, 9, 10] (codeN Go.Proofs.Tryd.prog (sub (codeOf Go.Proofs.Tryd.f53) [1, 1, 0, 1, 0, 0]) (nsub thicketref05_made.an [1, 1, 0, 1, 0, 0])) (thicketref05_made.q8 R) k8 (clr [0, 1, 2, 3, 9, 10] a) w) (thicketref05_made.q8 R)
def thicketref05_made.q15 (R : Value → World → Prop) (k8 : Nat) : Exit → Act → World → Prop := (thicketref05_made.q9 R k8)
def thicketref05_made.q16 (R : Value → World → Prop) (k8 : Nat) : Exit → Act → World → Prop := Exit.then (startN none (codeN Go.Proofs.Tryd.prog (sub (codeOf Go.Proofs.Tryd.f53) [1, 1, 0, 1, 0, 0, 1, 1]) (nsub thicketref05_made.an [1, 1, 0, 1, 0, 0, 1, 1]) (thicketref05_made.q15 R k8))) (thicketref05_made.q15 R k8)
def thicketref05_made.q17 (R : Value → World → Prop) (k8 : Nat) : Exit → Act → World → Prop := Exit.inBlock 1 (thicketref05_made.q16 R k8)
def thicketref05_made.q19 (R : Value → World → Prop) (k8 : Nat) : Exit → Act → World → Prop := (thicketref05_made.q17 R k8)
def thicketref05_made.rj19 (R : Value → World → Prop) (k8 : Nat) (x0 : Int) (x1 : Int) (x2 : Int) (b3 : Bool) (a9 : Option Addr) (n9 : Nat) (c9 : Nat) (x10 : Int) (b29 : Bool) (w : World) : Prop := startN (some [0, 1, 2, 3, 9, 10, 29]) (codeN Go.Proofs.Tryd.prog (sub (codeOf Go.Proofs.Tryd.f53) [1, 1, 0, 1, 0, 0, 1, 0, 0, 1]) (nsub thicketref05_made.an [1, 1, 0, 1, 0, 0, 1, 0, 0, 1]) (thicketref05_made.q19 R k8)) ⟨#[.int .i64 x0, .int .i64 x1, .int .i64 x2, .bool b3, undef, undef, undef, undef, undef, .slice a9 n9 c9, .int .i64 x10, undef, undef, undef, undef, undef, undef, undef, undef, undef, undef, undef, undef, undef, undef, undef, undef, undef, undef, .bool b29, undef, undef, undef, undef, undef, undef, undef, undef, undef, undef, undef, undef, undef, undef, undef], []⟩ w
def thicketref05_made.j19 (R : Value → World → Prop) (b8 : Int → Int → Int → Bool → (Option Addr) → Nat → Nat → Int → World → Prop) (x0 : Int) (x1 : Int) (x2 : Int) (b3 : Bool) (a9 : Option Addr) (n9 : Nat) (c9 : Nat) (x10 : Int) (b29 : Bool) (w : World) : Prop := thicketref05_made.g19 R b8 x0 x1 x2 b3 a9 n9 c9 x10 b29 w
theorem thicketref05_made.s19 (R : Value → World → Prop) (k8 : Nat) (x0 : Int) (x1 : Int) (x2 : Int) (b3 : Bool) (a9 : Option Addr) (n9 : Nat) (c9 : Nat) (x10 : Int) (b29 : Bool) (w : World) : thicketref05_made.rj19 R k8 x0 x1 x2 b3 a9 n9 c9 x10 b29 w = ∀ _ : Nat → Value, thicketref05_made.g19 R (thicketref05_made.rl8 R k8) x0 x1 x2 b3 a9 n9 c9 x10 b29 w := by kernel_rfl
theorem thicketref05_made.jq19 (R : Value → World → Prop) (k8 : Nat) (b8 : Int → Int → Int → Bool → (Option Addr) → Nat → Nat → Int → World → Prop) (hb8 : b8 = thicketref05_made.rl8 R k8) : thicketref05_made.j19 R b8 = thicketref05_made.rj19 R k8 := by
    funext x0 x1 x2 b3 a9 n9 c9 x10 b29 w
    rw [thicketref05_made.s19, forall_const]
    unfold thicketref05_made.j19
    subst hb8
    all_goals rfl
def thicketref05_made.l8 (R : Value → World → Prop) : Nat → Int → Int → Int → Bool → (Option Addr) → Nat → Nat → Int → World → Prop
  | 0, _, _, _, _, _, _, _, _, _ => False
  | k + 1, x0, x1, x2, b3, a9, n9, c9, x10, w => thicketref05_made.g8 R (thicketref05_made.j19 R (thicketref05_made.l8 R k)) x0 x1 x2 b3 a9 n9 c9 x10 w
def thicketref05_made.e8 (R : Value → World → Prop) (x0 : Int) (x1 : Int) (x2 : Int) (b3 : Bool) (a9 : Option Addr) (n9 : Nat) (c9 : Nat) (x10 : Int) (w : World) : Prop := ∃ k, thicketref05_made.l8 R k x0 x1 x2 b3 a9 n9 c9 x10 w
theorem thicketref05_made.s8 (R : Value → World → Prop) (k : Nat) (x0 : Int) (x1 : Int) (x2 : Int) (b3 : Bool) (a9 : Option Addr) (n9 : Nat) (c9 : Nat) (x10 : Int) (w : World) : thicketref05_made.rl8 R (k + 1) x0 x1 x2 b3 a9 n9 c9 x10 w = ∀ _ : Nat → Value, thicketref05_made.g8 R (thicketref05_made.rj19 R k) x0 x1 x2 b3 a9 n9 c9 x10 w := by kernel_rfl
theorem thicketref05_made.lq8 (R : Value → World → Prop) : ∀ k, thicketref05_made.l8 R k = thicketref05_made.rl8 R k
  | 0 => by funext x0 x1 x2 b3 a9 n9 c9 x10 w; rfl
  | k + 1 => by
    funext x0 x1 x2 b3 a9 n9 c9 x10 w
    rw [thicketref05_made.s8, forall_const]
    unfold thicketref05_made.l8
    have ih := thicketref05_made.lq8 R k
    rw [thicketref05_made.jq19 R k _ ih]
    all_goals rfl
theorem thicketref05_made.eq8 (R : Value → World → Prop) : thicketref05_made.e8 R = thicketref05_made.re8 R := by
  funext x0 x1 x2 b3 a9 n9 c9 x10 w
  unfold thicketref05_made.e8 thicketref05_made.re8
  simp only [thicketref05_made.lq8 R]
def thicketref05_made (R : Value → World → Prop) (x0 : Int) (x1 : Int) (x2 : Int) (b3 : Bool) (w : World) : Prop := thicketref05_made.g0 R (thicketref05_made.e8 R) x0 x1 x2 b3 w
theorem thicketref05_made.root0 (R : Value → World → Prop) (x0 : Int) (x1 : Int) (x2 : Int) (b3 : Bool) (w : World) : fnN Go.Proofs.Tryd.prog Go.Proofs.Tryd.f53 thicketref05_made.an #[.int .i64 x0, .int .i64 x1, .int .i64 x2, .bool b3] w R = thicketref05_made.g0 R (thicketref05_made.re8 R) x0 x1 x2 b3 w := by kernel_rfl
theorem thicketref05_made.calls {R : Value → World → Prop} {x0 : Int} {x1 : Int} {x2 : Int} {b3 : Bool} {w : World} (h : thicketref05_made R x0 x1 x2 b3 w) : Go.E.CallsD Go.Proofs.Tryd.prog 53 #[.int .i64 x0, .int .i64 x1, .int .i64 x2, .bool b3] w R := by
  refine callsD_of (n := thicketref05_made.an) M_follows M_sizes Go.Proofs.Tryd.func53 (by rfl) ?_
  rw [thicketref05_made.root0]
  unfold thicketref05_made at h
  rw [thicketref05_made.eq8 R] at h
  exact h
-- thicket/thicketref05.Same
def thicketref05_Same.an : An := (.mk none .nil (.mk none .nil (.mk none (.mk none .nil (.mk none (.mk (some [0, 1, 12, 13]) .nil .nil) .nil)) .nil)))
def thicketref05_Same.g0 (R : Value → World → Prop) (e14 : (Option Addr) → Nat → Nat → (Option Addr) → Nat → Nat → Int → Int → World → Prop) (a0 : Option Addr) (n0 : Nat) (c0 : Nat) (a1 : Option Addr) (n1 : Nat) (c1 : Nat) (w : World) : Prop :=
  onBool ((n0 : Int) != (n1 : Int))
    (R (.bool false) w)
    (e14 a0 n0 c0 a1 n1 c1 (n0 : Int) 0 w)
def thicketref05_Same.g14 (R : Value → World → Prop) (b14 : (Option Addr) → Nat → Nat → (Option Addr) → Nat → Nat → Int → Int → World → Prop) (a0 : Option Addr) (n0 : Nat) (c0 : Nat) (a1 : Option Addr) (n1 : Nat) (c1 : Nat) (x12 : Int) (x13 : Int) (w : World) : Prop :=
  onBool (decide (x13 < x12))
    (optN a0 fun q6 =>
    chk ((0 : Int) ≤ x13 ∧ x13 < (n0 : Int))
      (∃ yx_7 : Int, w.cell? (q6.add (x13.toNat * 1)) = some (.int .u64 yx_7) ∧
        (optN a1 fun q8 =>
        chk ((0 : Int) ≤ x13 ∧ x13 < (n1 : Int))
          (∃ yx_9 : Int, w.cell? (q8.add (x13.toNat * 1)) = some (.int .u64 yx_9) ∧
            (onBool (yx_7 != yx_9)
              (R (.bool false) w)
              (nv (IntKind.i64.wrap (x13 + 1)) fun t10 =>
              b14 a0 n0 c0 a1 n1 c1 x12 t10 w))))))
    (R (.bool true) w)
def thicketref05_Same.q2 (R : Value → World → Prop) : Exit → Act → World → Prop := (fin Go.Proofs.Tryd.prog Go.Proofs.Tryd.f21 R)
def thicketref05_Same.q10 (R : Value → World → Prop) : Exit → Act → World → Prop := (thicketref05_Same.q2 R)
def thicketref05_Same.q11 (R : Value → World → Prop) : Exit → Act → World → Prop := Exit.then (startN none (codeN Go.Proofs.Tryd.prog (sub (codeOf Go.Proofs.Tryd.f21) [1, 1, 1]) (nsub thicketref05_Same.an [1, 1, 1]) (thicketref05_Same.q10 R))) (thicketref05_Same.q10 R)
def thicketref05_Same.q13 (R : Value → World → Prop) : Exit → Act → World → Prop := (thicketref05_Same.q11 R)
def thicketref05_Same.q14 (R : Value → World → Prop) : Exit → Act → World → Prop := Exit.inBlock 0 (thicketref05_Same.q13 R)
def thicketref05_Same.rl14 (R : Value → World → Prop) (k : Nat) (a0 : Option Addr) (n0 : Nat) (c0 : Nat) (a1 : Option Addr) (n1 : Nat) (c1 : Nat) (x12 : Int) (x13 : Int) (w : World) : Prop := loopN [0, 1, 12, 13] (codeN Go.Proofs.Tryd.prog (sub (codeOf Go.Proofs.Tryd.f21) [1, 1, 0, 1, 0, 0]) (nsub thicketref05_Same.an [1, 1, 0, 1, 0, 0])) (thicketref05_Same.q14 R) k ⟨#[.slice a0 n0 c0, .slice a1 n1 c1, undef, undef, undef, undef, undef, undef, undef, undef, undef, undef, .int .i64 x12, .int .i64 x13, undef, undef, undef, undef, undef, undef, undef, undef, undef, undef, undef, undef], []⟩ w
def thicketref05_Same.re14 (R : Value → World → Prop) (a0 : Option Addr) (n0 : Nat) (c0 : Nat) (a1 : Option Addr) (n1 : Nat) (c1 : Nat) (x12 : Int) (x13 : Int) (w : World) : Prop := ∃ k, thicketref05_Same.rl14 R k a0 n0 c0 a1 n1 c1 x12 x13 w
def thicketref05_Same.l14 (R : Value → World → Prop) : Nat → (Option Addr) → Nat → Nat → (Option Addr) → Nat → Nat → Int → Int → World → Prop
  | 0, _, _, _, _, _, _, _, _, _ => False
  | k + 1, a0, n0, c0, a1, n1, c1, x12, x13, w => thicketref05_Same.g14 R (thicketref05_Same.l14 R k) a0 n0 c0 a1 n1 c1 x12 x13 w
def thicketref05_Same.e14 (R : Value → World → Prop) (a0 : Option Addr) (n0 : Nat) (c0 : Nat) (a1 : Option Addr) (n1 : Nat) (c1 : Nat) (x12 : Int) (x13 : Int) (w : World) : Prop := ∃ k, thicketref05_Same.l14 R k a0 n0 c0 a1 n1 c1 x12 x13 w
theorem thicketref05_Same.s14 (R : Value → World → Prop) (k : Nat) (a0 : Option Addr) (n0 : Nat) (c0 : Nat) (a1 : Option Addr) (n1 : Nat) (c1 : Nat) (x12 : Int) (x13 : Int) (w : World) : thicketref05_Same.rl14 R (k + 1) a0 n0 c0 a1 n1 c1 x12 x13 w = ∀ _ : Nat → Value, thicketref05_Same.g14 R (thicketref05_Same.rl14 R k) a0 n0 c0 a1 n1 c1 x12 x13 w := by kernel_rfl
theorem thicketref05_Same.lq14 (R : Value → World → Prop) : ∀ k, thicketref05_Same.l14 R k = thicketref05_Same.rl14 R k
  | 0 => by funext a0 n0 c0 a1 n1 c1 x12 x13 w; rfl
  | k + 1 => by
    funext a0 n0 c0 a1 n1 c1 x12 x13 w
    rw [thicketref05_Same.s14, forall_const]
    unfold thicketref05_Same.l14
    have ih := thicketref05_Same.lq14 R k
    rw [ih]
    all_goals rfl
theorem thicketref05_Same.eq14 (R : Value → World → Prop) : thicketref05_Same.e14 R = thicketref05_Same.re14 R := by
  funext a0 n0 c0 a1 n1 c1 x12 x13 w
  unfold thicketref05_Same.e14 thicketref05_Same.re14
  simp only [thicketref05_Same.lq14 R]
def thicketref05_Same (R : Value → World → Prop) (a0 : Option Addr) (n0 : Nat) (c0 : Nat) (a1 : Option Addr) (n1 : Nat) (c1 : Nat) (w : World) : Prop := thicketref05_Same.g0 R (thicketref05_Same.e14 R) a0 n0 c0 a1 n1 c1 w
theorem thicketref05_Same.root0 (R : Value → World → Prop) (a0 : Option Addr) (n0 : Nat) (c0 : Nat) (a1 : Option Addr) (n1 : Nat) (c1 : Nat) (w : World) : fnN Go.Proofs.Tryd.prog Go.Proofs.Tryd.f21 thicketref05_Same.an #[.slice a0 n0 c0, .slice a1 n1 c1] w R = thicketref05_Same.g0 R (thicketref05_Same.re14 R) a0 n0 c0 a1 n1 c1 w := by kernel_rfl
theorem thicketref05_Same.calls {R : Value → World → Prop} {a0 : Option Addr} {n0 : Nat} {c0 : Nat} {a1 : Option Addr} {n1 : Nat} {c1 : Nat} {w : World} (h : thicketref05_Same R a0 n0 c0 a1 n1 c1 w) : Go.E.CallsD Go.Proofs.Tryd.prog 21 #[.slice a0 n0 c0, .slice a1 n1 c1] w R := by
  refine callsD_of (n := thicketref05_Same.an) M_follows M_sizes Go.Proofs.Tryd.func21 (by rfl) ?_
  rw [thicketref05_Same.root0]
  unfold thicketref05_Same at h
  rw [thicketref05_Same.eq14 R] at h
  exact h
-- thicket/thicketlaw05.copied
def thicketlaw05_copied.an : An := An.nil
def thicketlaw05_copied.g0 (R : Value → World → Prop) (a0 : Option Addr) (n0 : Nat) (c0 : Nat) (w : World) : Prop :=
  rawN Go.Proofs.Tryd.prog (Builtin.append_ #[25, 25] 25 #[.slice none 0 0, .slice a0 n0 c0]) w fun yv4 u5 =>
    ∃ ya_6 : Option Addr, ∃ yn_6 : Nat, ∃ yc_6 : Nat, yv4 = .slice ya_6 yn_6 yc_6 ∧
      (R (.slice ya_6 yn_6 yc_6) u5)
def thicketlaw05_copied (R : Value → World → Prop) (a0 : Option Addr) (n0 : Nat) (c0 : Nat) (w : World) : Prop := thicketlaw05_copied.g0 R a0 n0 c0 w
theorem thicketlaw05_copied.root0 (R : Value → World → Prop) (a0 : Option Addr) (n0 : Nat) (c0 : Nat) (w : World) : fnN Go.Proofs.Tryd.prog Go.Proofs.Tryd.f22 thicketlaw05_copied.an #[.slice a0 n0 c0] w R = thicketlaw05_copied.g0 R a0 n0 c0 w := by kernel_rfl
theorem thicketlaw05_copied.calls {R : Value → World → Prop} {a0 : Option Addr} {n0 : Nat} {c0 : Nat} {w : World} (h : thicketlaw05_copied R a0 n0 c0 w) : Go.E.CallsD Go.Proofs.Tryd.prog 22 #[.slice a0 n0 c0] w R := by
  refine callsD_of (n := thicketlaw05_copied.an) M_follows M_sizes Go.Proofs.Tryd.func22 (by rfl) ?_
  rw [thicketlaw05_copied.root0]
  unfold thicketlaw05_copied at h
  exact h
-- thicket/thicketlaw05.lives
def thicketlaw05_lives.an : An := An.nil
def thicketlaw05_lives.g0 (R : Value → World → Prop) (w : World) : Prop :=
  Go.E.CallsD Go.Proofs.Tryd.prog 15 #[.int .i64 4, .int .i64 1, .int .i64 3] w fun yv21 u22 =>
    ∃ ya_23_0 : Option Addr, ∃ yn_23_0 : Nat, ∃ yc_23_0 : Nat, ∃ yx_23_1 : Int, yv21 = .tuple #[.slice ya_23_0 yn_23_0 yc_23_0, .int .i64 yx_23_1] ∧
      (Go.E.CallsD Go.Proofs.Tryd.prog 12 #[.int .i64 65] u22 fun yv24 u25 =>
        ∃ yx_26_0 : Int, ∃ yx_26_1 : Int, yv24 = .tuple #[.int .i64 yx_26_0, .int .i64 yx_26_1] ∧
          (nw (u25.alloc (.cells #[.int .u64 5] 56)) fun w27 =>
          Go.E.CallsD Go.Proofs.Tryd.prog 26 #[.slice (some (na u25)) 1 1, .int .i64 3] w27 fun yv28 u29 =>
            ∃ ys_30_0 : ByteArray, ∃ yx_30_1 : Int, yv28 = .tuple #[.string ys_30_0, .int .i64 yx_30_1] ∧
              (onBool (yx_23_1 == 0)
                (onBool ((yn_23_0 : Int) == 1)
                  (optN ya_23_0 fun q31 =>
                  chk ((0 : Int) ≤ 0 ∧ 0 < (yn_23_0 : Int))
                    (∃ yx_32 : Int, u29.cell? (q31.add 0) = some (.int .u64 yx_32) ∧
                      (onBool (yx_32 == 9)
                        (onBool (yx_26_1 == 0)
                          (onBool (yx_26_0 == 2)
                            (onBool (yx_30_1 == 0)
                              (onBool ((ys_30_0 : ByteArray).toList == (⟨#[49, 48, 49]⟩ : ByteArray).toList)
                                (nw (u29.alloc (.cells #[.int .u64 0, .int .u64 4] 56)) fun w33 =>
                                Go.E.CallsD Go.Proofs.Tryd.prog 43 #[.slice (some (na u29)) 2 2] w33 fun yv34 u35 =>
                                  ∃ yx_36 : Int, yv34 = .int .i64 yx_36 ∧
                                    (onBool (yx_36 == 66)
                                      (nw (u35.alloc (.cells #[.int .u64 7, .int .u64 1] 56)) fun w37 =>
                                      Go.E.CallsD Go.Proofs.Tryd.prog 25 #[.slice (some (na u35)) 2 2] w37 fun yv38 u39 =>
                                        ∃ yx_40 : Int, yv38 = .int .i64 yx_40 ∧
                                          (R (.bool (yx_40 == 4)) u39))
                                      (R (.bool false) u35)))
                                (R (.bool false) u29))
                              (R (.bool false) u29))
                            (R (.bool false) u29))
                          (R (.bool false) u29))
                        (R (.bool false) u29))))
                  (R (.bool false) u29))
                (R (.bool false) u29))))
def thicketlaw05_lives (R : Value → World → Prop) (w : World) : Prop := thicketlaw05_lives.g0 R  w
theorem thicketlaw05_lives.root0 (R : Value → World → Prop) (w : World) : fnN Go.Proofs.Tryd.prog Go.Proofs.Tryd.f20 thicketlaw05_lives.an #[] w R = thicketlaw05_lives.g0 R  w := by kernel_rfl
theorem thicketlaw05_lives.calls {R : Value → World → Prop} {w : World} (h : thicketlaw05_lives R  w) : Go.E.CallsD Go.Proofs.Tryd.prog 20 #[] w R := by
  refine callsD_of (n := thicketlaw05_lives.an) M_follows M_sizes Go.Proofs.Tryd.func20 (by rfl) ?_
  rw [thicketlaw05_lives.root0]
  unfold thicketlaw05_lives at h
  exact h
-- thicket/thicketlaw05.BitsMade
def thicketlaw05_BitsMade.an : An := An.nil
def thicketlaw05_BitsMade.g0 (R : Value → World → Prop) (x0 : Int) (x1 : Int) (x2 : Int) (w : World) : Prop :=
  Go.E.CallsD Go.Proofs.Tryd.prog 12 #[.int .i64 x0] w fun yv37 u38 =>
    ∃ yx_39_0 : Int, ∃ yx_39_1 : Int, yv37 = .tuple #[.int .i64 yx_39_0, .int .i64 yx_39_1] ∧
      (Go.E.CallsD Go.Proofs.Tryd.prog 13 #[.int .i64 x0] u38 fun yv40 u41 =>
        ∃ ya_42_0 : Option Addr, ∃ yn_42_0 : Nat, ∃ yc_42_0 : Nat, ∃ yx_42_1 : Int, yv40 = .tuple #[.slice ya_42_0 yn_42_0 yc_42_0, .int .i64 yx_42_1] ∧
          (Go.E.CallsD Go.Proofs.Tryd.prog 14 #[.int .i64 x0] u41 fun yv43 u44 =>
            ∃ ya_45_0 : Option Addr, ∃ yn_45_0 : Nat, ∃ yc_45_0 : Nat, ∃ yx_45_1 : Int, yv43 = .tuple #[.slice ya_45_0 yn_45_0 yc_45_0, .int .i64 yx_45_1] ∧
              (Go.E.CallsD Go.Proofs.Tryd.prog 15 #[.int .i64 x0, .int .i64 x1, .int .i64 x2] u44 fun yv46 u47 =>
                ∃ ya_48_0 : Option Addr, ∃ yn_48_0 : Nat, ∃ yc_48_0 : Nat, ∃ yx_48_1 : Int, yv46 = .tuple #[.slice ya_48_0 yn_48_0 yc_48_0, .int .i64 yx_48_1] ∧
                  (Go.E.CallsD Go.Proofs.Tryd.prog 16 #[.int .i64 x0] u47 fun yv49 u50 =>
                    ∃ yx_51_0 : Int, ∃ yx_51_1 : Int, yv49 = .tuple #[.int .i64 yx_51_0, .int .i64 yx_51_1] ∧
                      (Go.E.CallsD Go.Proofs.Tryd.prog 17 #[.int .i64 x0] u50 fun yv52 u53 =>
                        ∃ ya_54_0 : Option Addr, ∃ yn_54_0 : Nat, ∃ yc_54_0 : Nat, ∃ yx_54_1 : Int, yv52 = .tuple #[.slice ya_54_0 yn_54_0 yc_54_0, .int .i64 yx_54_1] ∧
                          (Go.E.CallsD Go.Proofs.Tryd.prog 18 #[.int .i64 x0] u53 fun yv55 u56 =>
                            ∃ ya_57_0 : Option Addr, ∃ yn_57_0 : Nat, ∃ yc_57_0 : Nat, ∃ yx_57_1 : Int, yv55 = .tuple #[.slice ya_57_0 yn_57_0 yc_57_0, .int .i64 yx_57_1] ∧
                              (Go.E.CallsD Go.Proofs.Tryd.prog 19 #[.int .i64 x0, .int .i64 x1, .int .i64 x2] u56 fun yv58 u59 =>
                                ∃ ya_60_0 : Option Addr, ∃ yn_60_0 : Nat, ∃ yc_60_0 : Nat, ∃ yx_60_1 : Int, yv58 = .tuple #[.slice ya_60_0 yn_60_0 yc_60_0, .int .i64 yx_60_1] ∧
                                  (Go.E.CallsD Go.Proofs.Tryd.prog 20 #[] u59 fun yv61 u62 =>
                                    ∃ yb_63 : Bool, yv61 = .bool yb_63 ∧
                                      (onBool yb_63
                                        (onBool (yx_39_0 == yx_51_0)
                                          (Go.E.CallsD Go.Proofs.Tryd.prog 21 #[.slice ya_42_0 yn_42_0 yc_42_0, .slice ya_54_0 yn_54_0 yc_54_0] u62 fun yv64 u65 =>
                                            ∃ yb_66 : Bool, yv64 = .bool yb_66 ∧
                                              (onBool yb_66
                                                (Go.E.CallsD Go.Proofs.Tryd.prog 21 #[.slice ya_45_0 yn_45_0 yc_45_0, .slice ya_57_0 yn_57_0 yc_57_0] u65 fun yv67 u68 =>
                                                  ∃ yb_69 : Bool, yv67 = .bool yb_69 ∧
                                                    (onBool yb_69
                                                      (Go.E.CallsD Go.Proofs.Tryd.prog 21 #[.slice ya_48_0 yn_48_0 yc_48_0, .slice ya_60_0 yn_60_0 yc_60_0] u68 fun yv70 u71 =>
                                                        ∃ yb_72 : Bool, yv70 = .bool yb_72 ∧
                                                          (onBool yb_72
                                                            (onBool (yx_39_1 == yx_51_1)
                                                              (onBool (yx_42_1 == yx_54_1)
                                                                (onBool (yx_45_1 == yx_57_1)
                                                                  (R (.bool (yx_48_1 == yx_60_1)) u71)
                                                                  (R (.bool false) u71))
                                                                (R (.bool false) u71))
                                                              (R (.bool false) u71))
                                                            (R (.bool false) u71)))
                                                      (R (.bool false) u68)))
                                                (R (.bool false) u65)))
                                          (R (.bool false) u62))
                                        (R (.bool false) u62))))))))))
def thicketlaw05_BitsMade (R : Value → World → Prop) (x0 : Int) (x1 : Int) (x2 : Int) (w : World) : Prop := thicketlaw05_BitsMade.g0 R x0 x1 x2 w
theorem thicketlaw05_BitsMade.root0 (R : Value → World → Prop) (x0 : Int) (x1 : Int) (x2 : Int) (w : World) : fnN Go.Proofs.Tryd.prog Go.Proofs.Tryd.f3 thicketlaw05_BitsMade.an #[.int .i64 x0, .int .i64 x1, .int .i64 x2] w R = thicketlaw05_BitsMade.g0 R x0 x1 x2 w := by kernel_rfl
theorem thicketlaw05_BitsMade.calls {R : Value → World → Prop} {x0 : Int} {x1 : Int} {x2 : Int} {w : World} (h : thicketlaw05_BitsMade R x0 x1 x2 w) : Go.E.CallsD Go.Proofs.Tryd.prog 3 #[.int .i64 x0, .int .i64 x1, .int .i64 x2] w R := by
  refine callsD_of (n := thicketlaw05_BitsMade.an) M_follows M_sizes Go.Proofs.Tryd.func3 (by rfl) ?_
  rw [thicketlaw05_BitsMade.root0]
  unfold thicketlaw05_BitsMade at h
  exact h
end Go.Mir
