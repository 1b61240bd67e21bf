/- Part of a proof of laws of the seat YtabmjhhjbifagaaDoor: functions' weakest preconditions, each checked by the kernel, and contracts out of them; no conditions. -/
import Derived.Test.YtabmjhhjbifagaaDoorBM0
set_option linter.unusedVariables false
set_option linter.unusedSimpArgs false
set_option linter.unusedVariables false
namespace Go.Mir
open Go Go.E Go.RowKit
-- thicket/bits.Has
def bits_Has.an : An := An.nil
def bits_Has.g0 (R : Value → World → Prop) (a0 : Option Addr) (n0 : Nat) (c0 : Nat) (x1 : Int) (w : World) : Prop :=
  Go.E.CallsD Go.Proofs.Tryd.prog 54 #[.slice a0 n0 c0, .int .i64 x1] w fun yv10 u11 =>
    ∃ yb_12 : Bool, yv10 = .bool yb_12 ∧
      (onBool yb_12
        (nv (IntKind.i64.wrap (Int.tdiv x1 64)) fun t13 =>
        optN a0 fun q14 =>
        chk ((0 : Int) ≤ t13 ∧ t13 < (n0 : Int))
          (∃ yx_15 : Int, u11.cell? (q14.add (t13.toNat * 1)) = some (.int .u64 yx_15) ∧
            (nv (Int.tmod x1 64) fun t16 =>
            nchk (t16 < 0)
              (nv (Int.fdiv yx_15 (2 ^ (min t16.toNat 64))) fun t17 =>
              nv (bitsI .and .u64 t17 1) fun t18 =>
              R (.bool (t18 == 1)) u11))))
        (R (.bool false) u11))
def bits_Has (R : Value → World → Prop) (a0 : Option Addr) (n0 : Nat) (c0 : Nat) (x1 : Int) (w : World) : Prop := bits_Has.g0 R a0 n0 c0 x1 w
theorem bits_Has.root0 (R : Value → World → Prop) (a0 : Option Addr) (n0 : Nat) (c0 : Nat) (x1 : Int) (w : World) : fnN Go.Proofs.Tryd.prog Go.Proofs.Tryd.f24 bits_Has.an #[.slice a0 n0 c0, .int .i64 x1] w R = bits_Has.g0 R a0 n0 c0 x1 w := by kernel_rfl
theorem bits_Has.calls {R : Value → World → Prop} {a0 : Option Addr} {n0 : Nat} {c0 : Nat} {x1 : Int} {w : World} (h : bits_Has R a0 n0 c0 x1 w) : Go.E.CallsD Go.Proofs.Tryd.prog 24 #[.slice a0 n0 c0, .int .i64 x1] w R := by
  refine callsD_of (n := bits_Has.an) M_follows M_sizes Go.Proofs.Tryd.func24 (by rfl) ?_
  rw [bits_Has.root0]
  unfold bits_Has at h
  exact h
-- thicket/bits.Count
def bits_Count.an : An := (.mk none .nil (.mk none .nil (.mk none (.mk none .nil (.mk none (.mk (some [3, 6, 7, 8]) .nil .nil) .nil)) .nil)))
def bits_Count.g0 (R : Value → World → Prop) (e8 : Int → (Option Addr) → Nat → Nat → Int → Int → World → Prop) (a0 : Option Addr) (n0 : Nat) (c0 : Nat) (w : World) : Prop :=
  e8 0 a0 n0 c0 (n0 : Int) 0 w
def bits_Count.g8 (R : Value → World → Prop) (b8 : Int → (Option Addr) → Nat → Nat → Int → Int → World → Prop) (x3 : Int) (a6 : Option Addr) (n6 : Nat) (c6 : Nat) (x7 : Int) (x8 : Int) (w : World) : Prop :=
  onBool (decide (x8 < x7))
    (optN a6 fun q8 =>
    chk ((0 : Int) ≤ x8 ∧ x8 < (n6 : Int))
      (∃ yx_9 : Int, w.cell? (q8.add (x8.toNat * 1)) = some (.int .u64 yx_9) ∧
        (Go.E.CallsD Go.Proofs.Tryd.prog 55 #[.int .u64 yx_9] w fun yv10 u11 =>
          ∃ yx_12 : Int, yv10 = .int .i64 yx_12 ∧
            (nv (IntKind.i64.wrap (x3 + yx_12)) fun t13 =>
            nv (IntKind.i64.wrap (x8 + 1)) fun t14 =>
            b8 t13 a6 n6 c6 x7 t14 u11))))
    (R (.int .i64 x3) w)
def bits_Count.q2 (R : Value → World → Prop) : Exit → Act → World → Prop := (fin Go.Proofs.Tryd.prog Go.Proofs.Tryd.f25 R)
def bits_Count.q4 (R : Value → World → Prop) : Exit → Act → World → Prop := (bits_Count.q2 R)
def bits_Count.q5 (R : Value → World → Prop) : Exit → Act → World → Prop := Exit.then (startN none (codeN Go.Proofs.Tryd.prog (sub (codeOf Go.Proofs.Tryd.f25) [1, 1, 1]) (nsub bits_Count.an [1, 1, 1]) (bits_Count.q4 R))) (bits_Count.q4 R)
def bits_Count.q7 (R : Value → World → Prop) : Exit → Act → World → Prop := (bits_Count.q5 R)
def bits_Count.q8 (R : Value → World → Prop) : Exit → Act → World → Prop := Exit.inBlock 0 (bits_Count.q7 R)
def bits_Count.rl8 (R : Value → World → Prop) (k : Nat) (x3 : Int) (a6 : Option Addr) (n6 : Nat) (c6 : Nat) (x7 : Int) (x8 : Int) (w : World) : Prop := loopN [3, 6, 7, 8] (codeN Go.Proofs.Tryd.prog (sub (codeOf Go.Proofs.Tryd.f25) [1, 1, 0, 1, 0, 0]) (nsub bits_Count.an [1, 1, 0, 1, 0, 0])) (bits_Count.q8 R) k ⟨#[undef, undef, undef, .int .i64 x3, undef, undef, .slice a6 n6 c6, .int .i64 x7, .int .i64 x8, undef, undef, undef, undef, undef, undef, undef, undef, undef], []⟩ w
def bits_Count.re8 (R : Value → World → Prop) (x3 : Int) (a6 : Option Addr) (n6 : Nat) (c6 : Nat) (x7 : Int) (x8 : Int) (w : World) : Prop := ∃ k, bits_Count.rl8 R k x3 a6 n6 c6 x7 x8 w
def bits_Count.l8 (R : Value → World → Prop) : Nat → Int → (Option Addr) → Nat → Nat → Int → Int → World → Prop
  | 0, _, _, _, _, _, _, _ => False
  | k + 1, x3, a6, n6, c6, x7, x8, w => bits_Count.g8 R (bits_Count.l8 R k) x3 a6 n6 c6 x7 x8 w
def bits_Count.e8 (R : Value → World → Prop) (x3 : Int) (a6 : Option Addr) (n6 : Nat) (c6 : Nat) (x7 : Int) (x8 : Int) (w : World) : Prop := ∃ k, bits_Count.l8 R k x3 a6 n6 c6 x7 x8 w
theorem bits_Count.s8 (R : Value → World → Prop) (k : Nat) (x3 : Int) (a6 : Option Addr) (n6 : Nat) (c6 : Nat) (x7 : Int) (x8 : Int) (w : World) : bits_Count.rl8 R (k + 1) x3 a6 n6 c6 x7 x8 w = ∀ _ : Nat → Value, bits_Count.g8 R (bits_Count.rl8 R k) x3 a6 n6 c6 x7 x8 w := by kernel_rfl
theorem bits_Count.lq8 (R : Value → World → Prop) : ∀ k, bits_Count.l8 R k = bits_Count.rl8 R k
  | 0 => by funext x3 a6 n6 c6 x7 x8 w; rfl
  | k + 1 => by
    funext x3 a6 n6 c6 x7 x8 w
    rw [bits_Count.s8, forall_const]
    unfold bits_Count.l8
    have ih := bits_Count.lq8 R k
    rw [ih]
    all_goals rfl
theorem bits_Count.eq8 (R : Value → World → Prop) : bits_Count.e8 R = bits_Count.re8 R := by
  funext x3 a6 n6 c6 x7 x8 w
  unfold bits_Count.e8 bits_Count.re8
  simp only [bits_Count.lq8 R]
def bits_Count (R : Value → World → Prop) (a0 : Option Addr) (n0 : Nat) (c0 : Nat) (w : World) : Prop := bits_Count.g0 R (bits_Count.e8 R) a0 n0 c0 w
theorem bits_Count.root0 (R : Value → World → Prop) (a0 : Option Addr) (n0 : Nat) (c0 : Nat) (w : World) : fnN Go.Proofs.Tryd.prog Go.Proofs.Tryd.f25 bits_Count.an #[.slice a0 n0 c0] w R = bits_Count.g0 R (bits_Count.re8 R) a0 n0 c0 w := by kernel_rfl
theorem bits_Count.calls {R : Value → World → Prop} {a0 : Option Addr} {n0 : Nat} {c0 : Nat} {w : World} (h : bits_Count R a0 n0 c0 w) : Go.E.CallsD Go.Proofs.Tryd.prog 25 #[.slice a0 n0 c0] w R := by
  refine callsD_of (n := bits_Count.an) M_follows M_sizes Go.Proofs.Tryd.func25 (by rfl) ?_
  rw [bits_Count.root0]
  unfold bits_Count at h
  rw [bits_Count.eq8 R] at h
  exact h
-- thicket/bits.Lowest
def bits_Lowest.an : An := (.mk none .nil (.mk none (.mk none .nil (.mk none (.mk (some [5, 6, 7]) .nil .nil) .nil)) .nil))
def bits_Lowest.g0 (R : Value → World → Prop) (e6 : (Option Addr) → Nat → Nat → Int → Int → World → Prop) (a0 : Option Addr) (n0 : Nat) (c0 : Nat) (w : World) : Prop :=
  e6 a0 n0 c0 (n0 : Int) 0 w
def bits_Lowest.g6 (R : Value → World → Prop) (b6 : (Option Addr) → Nat → Nat → Int → Int → World → Prop) (a5 : Option Addr) (n5 : Nat) (c5 : Nat) (x6 : Int) (x7 : Int) (w : World) : Prop :=
  onBool (decide (x7 < x6))
    (optN a5 fun q9 =>
    chk ((0 : Int) ≤ x7 ∧ x7 < (n5 : Int))
      (∃ yx_10 : Int, w.cell? (q9.add (x7.toNat * 1)) = some (.int .u64 yx_10) ∧
        (onBool (yx_10 != 0)
          (nv (IntKind.i64.wrap (64 * x7)) fun t11 =>
          Go.E.CallsD Go.Proofs.Tryd.prog 60 #[.int .u64 yx_10] w fun yv12 u13 =>
            ∃ yx_14 : Int, yv12 = .int .i64 yx_14 ∧
              (nv (IntKind.i64.wrap (t11 + yx_14)) fun t15 =>
              R (.int .i64 t15) u13))
          (nv (IntKind.i64.wrap (x7 + 1)) fun t16 =>
          b6 a5 n5 c5 x6 t16 w))))
    (R (.int .i64 (-1)) w)
def bits_Lowest.q2 (R : Value → World → Prop) : Exit → Act → World → Prop := (fin Go.Proofs.Tryd.prog Go.Proofs.Tryd.f43 R)
def bits_Lowest.q3 (R : Value → World → Prop) : Exit → Act → World → Prop := Exit.then (startN none (codeN Go.Proofs.Tryd.prog (sub (codeOf Go.Proofs.Tryd.f43) [1, 1]) (nsub bits_Lowest.an [1, 1]) (bits_Lowest.q2 R))) (bits_Lowest.q2 R)
def bits_Lowest.q5 (R : Value → World → Prop) : Exit → Act → World → Prop := (bits_Lowest.q3 R)
def bits_Lowest.q6 (R : Value → World → Prop) : Exit → Act → World → Prop := Exit.inBlock 0 (bits_Lowest.q5 R)
def bits_Lowest.rl6 (R : Value → World → Prop) (k : Nat) (a5 : Option Addr) (n5 : Nat) (c5 : Nat) (x6 : Int) (x7 : Int) (w : World) : Prop := loopN [5, 6, 7] (codeN Go.Proofs.Tryd.prog (sub (codeOf Go.Proofs.Tryd.f43) [1, 0, 1, 0, 0]) (nsub bits_Lowest.an [1, 0, 1, 0, 0])) (bits_Lowest.q6 R) k ⟨#[undef, undef, undef, undef, undef, .slice a5 n5 c5, .int .i64 x6, .int .i64 x7, undef, undef, undef, undef, undef, undef, undef, undef, undef, undef, undef, undef], []⟩ w
def bits_Lowest.re6 (R : Value → World → Prop) (a5 : Option Addr) (n5 : Nat) (c5 : Nat) (x6 : Int) (x7 : Int) (w : World) : Prop := ∃ k, bits_Lowest.rl6 R k a5 n5 c5 x6 x7 w
def bits_Lowest.l6 (R : Value → World → Prop) : Nat → (Option Addr) → Nat → Nat → Int → Int → World → Prop
  | 0, _, _, _, _, _, _ => False
  | k + 1, a5, n5, c5, x6, x7, w => bits_Lowest.g6 R (bits_Lowest.l6 R k) a5 n5 c5 x6 x7 w
def bits_Lowest.e6 (R : Value → World → Prop) (a5 : Option Addr) (n5 : Nat) (c5 : Nat) (x6 : Int) (x7 : Int) (w : World) : Prop := ∃ k, bits_Lowest.l6 R k a5 n5 c5 x6 x7 w
theorem bits_Lowest.s6 (R : Value → World → Prop) (k : Nat) (a5 : Option Addr) (n5 : Nat) (c5 : Nat) (x6 : Int) (x7 : Int) (w : World) : bits_Lowest.rl6 R (k + 1) a5 n5 c5 x6 x7 w = ∀ _ : Nat → Value, bits_Lowest.g6 R (bits_Lowest.rl6 R k) a5 n5 c5 x6 x7 w := by kernel_rfl
theorem bits_Lowest.lq6 (R : Value → World → Prop) : ∀ k, bits_Lowest.l6 R k = bits_Lowest.rl6 R k
  | 0 => by funext a5 n5 c5 x6 x7 w; rfl
  | k + 1 => by
    funext a5 n5 c5 x6 x7 w
    rw [bits_Lowest.s6, forall_const]
    unfold bits_Lowest.l6
    have ih := bits_Lowest.lq6 R k
    rw [ih]
    all_goals rfl
theorem bits_Lowest.eq6 (R : Value → World → Prop) : bits_Lowest.e6 R = bits_Lowest.re6 R := by
  funext a5 n5 c5 x6 x7 w
  unfold bits_Lowest.e6 bits_Lowest.re6
  simp only [bits_Lowest.lq6 R]
def bits_Lowest (R : Value → World → Prop) (a0 : Option Addr) (n0 : Nat) (c0 : Nat) (w : World) : Prop := bits_Lowest.g0 R (bits_Lowest.e6 R) a0 n0 c0 w
theorem bits_Lowest.root0 (R : Value → World → Prop) (a0 : Option Addr) (n0 : Nat) (c0 : Nat) (w : World) : fnN Go.Proofs.Tryd.prog Go.Proofs.Tryd.f43 bits_Lowest.an #[.slice a0 n0 c0] w R = bits_Lowest.g0 R (bits_Lowest.re6 R) a0 n0 c0 w := by kernel_rfl
theorem bits_Lowest.calls {R : Value → World → Prop} {a0 : Option Addr} {n0 : Nat} {c0 : Nat} {w : World} (h : bits_Lowest R a0 n0 c0 w) : Go.E.CallsD Go.Proofs.Tryd.prog 43 #[.slice a0 n0 c0] w R := by
  refine callsD_of (n := bits_Lowest.an) M_follows M_sizes Go.Proofs.Tryd.func43 (by rfl) ?_
  rw [bits_Lowest.root0]
  unfold bits_Lowest at h
  rw [bits_Lowest.eq6 R] at h
  exact h
-- thicket/bits.Highest
def bits_Highest.an : An := (.mk none .nil (.mk none (.mk none .nil (.mk none (.mk (some [0, 3]) .nil .nil) .nil)) .nil))
def bits_Highest.g0 (R : Value → World → Prop) (e6 : (Option Addr) → Nat → Nat → Int → World → Prop) (a0 : Option Addr) (n0 : Nat) (c0 : Nat) (w : World) : Prop :=
  nv (IntKind.i64.wrap ((n0 : Int) - 1)) fun t13 =>
  e6 a0 n0 c0 t13 w
def bits_Highest.g6 (R : Value → World → Prop) (b6 : (Option Addr) → Nat → Nat → Int → World → Prop) (a0 : Option Addr) (n0 : Nat) (c0 : Nat) (x3 : Int) (w : World) : Prop :=
  onBool (decide (x3 ≥ 0))
    (optN a0 fun q14 =>
    chk ((0 : Int) ≤ x3 ∧ x3 < (n0 : Int))
      (∃ yx_15 : Int, w.cell? (q14.add (x3.toNat * 1)) = some (.int .u64 yx_15) ∧
        (onBool (yx_15 != 0)
          (nv (IntKind.i64.wrap (64 * x3)) fun t16 =>
          optN a0 fun q17 =>
          chk ((0 : Int) ≤ x3 ∧ x3 < (n0 : Int))
            (∃ yx_18 : Int, w.cell? (q17.add (x3.toNat * 1)) = some (.int .u64 yx_18) ∧
              (Go.E.CallsD Go.Proofs.Tryd.prog 61 #[.int .u64 yx_18] w fun yv19 u20 =>
                ∃ yx_21 : Int, yv19 = .int .i64 yx_21 ∧
                  (nv (IntKind.i64.wrap (t16 + yx_21)) fun t22 =>
                  nv (IntKind.i64.wrap (t22 - 1)) fun t23 =>
                  R (.int .i64 t23) u20))))
          (nv (IntKind.i64.wrap (x3 - 1)) fun t24 =>
          b6 a0 n0 c0 t24 w))))
    (R (.int .i64 (-1)) w)
def bits_Highest.q2 (R : Value → World → Prop) : Exit → Act → World → Prop := (fin Go.Proofs.Tryd.prog Go.Proofs.Tryd.f45 R)
def bits_Highest.q3 (R : Value → World → Prop) : Exit → Act → World → Prop := Exit.then (startN none (codeN Go.Proofs.Tryd.prog (sub (codeOf Go.Proofs.Tryd.f45) [1, 1]) (nsub bits_Highest.an [1, 1]) (bits_Highest.q2 R))) (bits_Highest.q2 R)
def bits_Highest.q5 (R : Value → World → Prop) : Exit → Act → World → Prop := (bits_Highest.q3 R)
def bits_Highest.q6 (R : Value → World → Prop) : Exit → Act → World → Prop := Exit.inBlock 0 (bits_Highest.q5 R)
def bits_Highest.rl6 (R : Value → World → Prop) (k : Nat) (a0 : Option Addr) (n0 : Nat) (c0 : Nat) (x3 : Int) (w : World) : Prop := loopN [0, 3] (codeN Go.Proofs.Tryd.prog (sub (codeOf Go.Proofs.Tryd.f45) [1, 0, 1, 0, 0]) (nsub bits_Highest.an [1, 0, 1, 0, 0])) (bits_Highest.q6 R) k ⟨#[.slice a0 n0 c0, undef, undef, .int .i64 x3, undef, undef, undef, undef, undef, undef, undef, undef, undef, undef, undef, undef, undef, undef, undef, undef, undef, undef, undef, undef, undef], []⟩ w
def bits_Highest.re6 (R : Value → World → Prop) (a0 : Option Addr) (n0 : Nat) (c0 : Nat) (x3 : Int) (w : World) : Prop := ∃ k, bits_Highest.rl6 R k a0 n0 c0 x3 w
def bits_Highest.l6 (R : Value → World → Prop) : Nat → (Option Addr) → Nat → Nat → Int → World → Prop
  | 0, _, _, _, _, _ => False
  | k + 1, a0, n0, c0, x3, w => bits_Highest.g6 R (bits_Highest.l6 R k) a0 n0 c0 x3 w
def bits_Highest.e6 (R : Value → World → Prop) (a0 : Option Addr) (n0 : Nat) (c0 : Nat) (x3 : Int) (w : World) : Prop := ∃ k, bits_Highest.l6 R k a0 n0 c0 x3 w
theorem bits_Highest.s6 (R : Value → World → Prop) (k : Nat) (a0 : Option Addr) (n0 : Nat) (c0 : Nat) (x3 : Int) (w : World) : bits_Highest.rl6 R (k + 1) a0 n0 c0 x3 w = ∀ _ : Nat → Value, bits_Highest.g6 R (bits_Highest.rl6 R k) a0 n0 c0 x3 w := by kernel_rfl
theorem bits_Highest.lq6 (R : Value → World → Prop) : ∀ k, bits_Highest.l6 R k = bits_Highest.rl6 R k
  | 0 => by funext a0 n0 c0 x3 w; rfl
  | k + 1 => by
    funext a0 n0 c0 x3 w
    rw [bits_Highest.s6, forall_const]
    unfold bits_Highest.l6
    have ih := bits_Highest.lq6 R k
    rw [ih]
    all_goals rfl
theorem bits_Highest.eq6 (R : Value → World → Prop) : bits_Highest.e6 R = bits_Highest.re6 R := by
  funext a0 n0 c0 x3 w
  unfold bits_Highest.e6 bits_Highest.re6
  simp only [bits_Highest.lq6 R]
def bits_Highest (R : Value → World → Prop) (a0 : Option Addr) (n0 : Nat) (c0 : Nat) (w : World) : Prop := bits_Highest.g0 R (bits_Highest.e6 R) a0 n0 c0 w
theorem bits_Highest.root0 (R : Value → World → Prop) (a0 : Option Addr) (n0 : Nat) (c0 : Nat) (w : World) : fnN Go.Proofs.Tryd.prog Go.Proofs.Tryd.f45 bits_Highest.an #[.slice a0 n0 c0] w R = bits_Highest.g0 R (bits_Highest.re6 R) a0 n0 c0 w := by kernel_rfl
theorem bits_Highest.calls {R : Value → World → Prop} {a0 : Option Addr} {n0 : Nat} {c0 : Nat} {w : World} (h : bits_Highest R a0 n0 c0 w) : Go.E.CallsD Go.Proofs.Tryd.prog 45 #[.slice a0 n0 c0] w R := by
  refine callsD_of (n := bits_Highest.an) M_follows M_sizes Go.Proofs.Tryd.func45 (by rfl) ?_
  rw [bits_Highest.root0]
  unfold bits_Highest at h
  rw [bits_Highest.eq6 R] at h
  exact h
-- math/bits.OnesCount64
def bits_OnesCount64.an : An := An.nil
def bits_OnesCount64.g0 (R : Value → World → Prop) (x0 : Int) (w : World) : Prop :=
  nv (Int.fdiv x0 (2 ^ 1)) fun t20 =>
  nv (bitsI .and .u64 t20 6148914691236517205) fun t21 =>
  nv (bitsI .and .u64 x0 6148914691236517205) fun t22 =>
  nv (IntKind.u64.wrap (t21 + t22)) fun t23 =>
  nv (Int.fdiv t23 (2 ^ 2)) fun t24 =>
  nv (bitsI .and .u64 t24 3689348814741910323) fun t25 =>
  nv (bitsI .and .u64 t23 3689348814741910323) fun t26 =>
  nv (IntKind.u64.wrap (t25 + t26)) fun t27 =>
  nv (Int.fdiv t27 (2 ^ 4)) fun t28 =>
  nv (IntKind.u64.wrap (t28 + t27)) fun t29 =>
  nv (bitsI .and .u64 t29 1085102592571150095) fun t30 =>
  nv (Int.fdiv t30 (2 ^ 8)) fun t31 =>
  nv (IntKind.u64.wrap (t30 + t31)) fun t32 =>
  nv (Int.fdiv t32 (2 ^ 16)) fun t33 =>
  nv (IntKind.u64.wrap (t32 + t33)) fun t34 =>
  nv (Int.fdiv t34 (2 ^ (min (32 : Int).toNat 64))) fun t35 =>
  nv (IntKind.u64.wrap (t34 + t35)) fun t36 =>
  nv (IntKind.i64.wrap t36) fun t37 =>
  nv (bitsI .and .i64 t37 127) fun t38 =>
  R (.int .i64 t38) w
def bits_OnesCount64 (R : Value → World → Prop) (x0 : Int) (w : World) : Prop := bits_OnesCount64.g0 R x0 w
theorem bits_OnesCount64.root0 (R : Value → World → Prop) (x0 : Int) (w : World) : fnN Go.Proofs.Tryd.prog Go.Proofs.Tryd.f55 bits_OnesCount64.an #[.int .u64 x0] w R = bits_OnesCount64.g0 R x0 w := by kernel_rfl
theorem bits_OnesCount64.calls {R : Value → World → Prop} {x0 : Int} {w : World} (h : bits_OnesCount64 R x0 w) : Go.E.CallsD Go.Proofs.Tryd.prog 55 #[.int .u64 x0] w R := by
  refine callsD_of (n := bits_OnesCount64.an) M_follows M_sizes Go.Proofs.Tryd.func55 (by rfl) ?_
  rw [bits_OnesCount64.root0]
  unfold bits_OnesCount64 at h
  exact h
-- math/bits.Len64
def bits_Len64.an : An := (.mk none .nil (.mk (some [0, 2]) .nil (.mk (some [0, 2]) .nil .nil)))
def bits_Len64.g0 (R : Value → World → Prop) (j10 : Int → Int → World → Prop) (x0 : Int) (w : World) : Prop :=
  onBool (decide (x0 ≥ 4294967296))
    (nv (Int.fdiv x0 (2 ^ (min (32 : Int).toNat 64))) fun t10 =>
    j10 t10 32 w)
    (j10 x0 0 w)
def bits_Len64.g10 (R : Value → World → Prop) (j18 : Int → Int → World → Prop) (x0 : Int) (x2 : Int) (w : World) : Prop :=
  onBool (decide (x0 ≥ 65536))
    (nv (Int.fdiv x0 (2 ^ 16)) fun t11 =>
    nv (IntKind.i64.wrap (x2 + 16)) fun t12 =>
    j18 t11 t12 w)
    (j18 x0 x2 w)
def bits_Len64.g18 (R : Value → World → Prop) (x0 : Int) (x2 : Int) (w : World) : Prop :=
  onBool (decide (x0 ≥ 256))
    (nv (Int.fdiv x0 (2 ^ 8)) fun t13 =>
    nv (IntKind.i64.wrap (x2 + 8)) fun t14 =>
    nv (IntKind.u8.wrap t13) fun t15 =>
    chk ((0 : Int) ≤ t15) (∃ yc16 : UInt8, (⟨#[0, 1, 2, 2, 3, 3, 3, 3, 4, 4, 4, 4, 4, 4, 4, 4, 5, 5, 5, 5, 5, 5, 5, 5, 5, 5, 5, 5, 5, 5, 5, 5, 6, 6, 6, 6, 6, 6, 6, 6, 6, 6, 6, 6, 6, 6, 6, 6, 6, 6, 6, 6, 6, 6, 6, 6, 6, 6, 6, 6, 6, 6, 6, 6, 7, 7, 7, 7, 7, 7, 7, 7, 7, 7, 7, 7, 7, 7, 7, 7, 7, 7, 7, 7, 7, 7, 7, 7, 7, 7, 7, 7, 7, 7, 7, 7, 7, 7, 7, 7, 7, 7, 7, 7, 7, 7, 7, 7, 7, 7, 7, 7, 7, 7, 7, 7, 7, 7, 7, 7, 7, 7, 7, 7, 7, 7, 7, 7, 8, 8, 8, 8, 8, 8, 8, 8, 8, 8, 8, 8, 8, 8, 8, 8, 8, 8, 8, 8, 8, 8, 8, 8, 8, 8, 8, 8, 8, 8, 8, 8, 8, 8, 8, 8, 8, 8, 8, 8, 8, 8, 8, 8, 8, 8, 8, 8, 8, 8, 8, 8, 8, 8, 8, 8, 8, 8, 8, 8, 8, 8, 8, 8, 8, 8, 8, 8, 8, 8, 8, 8, 8, 8, 8, 8, 8, 8, 8, 8, 8, 8, 8, 8, 8, 8, 8, 8, 8, 8, 8, 8, 8, 8, 8, 8, 8, 8, 8, 8, 8, 8, 8, 8, 8, 8, 8, 8, 8, 8, 8, 8, 8, 8, 8, 8, 8, 8, 8, 8, 8, 8, 8, 8, 8, 8, 8, 8]⟩ : ByteArray)[t15.toNat]? = some yc16 ∧
      (nv (IntKind.i64.wrap (yc16.toNat : Int)) fun t17 =>
      nv (IntKind.i64.wrap (t14 + t17)) fun t18 =>
      R (.int .i64 t18) w)))
    (nv (IntKind.u8.wrap x0) fun t19 =>
    chk ((0 : Int) ≤ t19) (∃ yc20 : UInt8, (⟨#[0, 1, 2, 2, 3, 3, 3, 3, 4, 4, 4, 4, 4, 4, 4, 4, 5, 5, 5, 5, 5, 5, 5, 5, 5, 5, 5, 5, 5, 5, 5, 5, 6, 6, 6, 6, 6, 6, 6, 6, 6, 6, 6, 6, 6, 6, 6, 6, 6, 6, 6, 6, 6, 6, 6, 6, 6, 6, 6, 6, 6, 6, 6, 6, 7, 7, 7, 7, 7, 7, 7, 7, 7, 7, 7, 7, 7, 7, 7, 7, 7, 7, 7, 7, 7, 7, 7, 7, 7, 7, 7, 7, 7, 7, 7, 7, 7, 7, 7, 7, 7, 7, 7, 7, 7, 7, 7, 7, 7, 7, 7, 7, 7, 7, 7, 7, 7, 7, 7, 7, 7, 7, 7, 7, 7, 7, 7, 7, 8, 8, 8, 8, 8, 8, 8, 8, 8, 8, 8, 8, 8, 8, 8, 8, 8, 8, 8, 8, 8, 8, 8, 8, 8, 8, 8, 8, 8, 8, 8, 8, 8, 8, 8, 8, 8, 8, 8, 8, 8, 8, 8, 8, 8, 8, 8, 8, 8, 8, 8, 8, 8, 8, 8, 8, 8, 8, 8, 8, 8, 8, 8, 8, 8, 8, 8, 8, 8, 8, 8, 8, 8, 8, 8, 8, 8, 8, 8, 8, 8, 8, 8, 8, 8, 8, 8, 8, 8, 8, 8, 8, 8, 8, 8, 8, 8, 8, 8, 8, 8, 8, 8, 8, 8, 8, 8, 8, 8, 8, 8, 8, 8, 8, 8, 8, 8, 8, 8, 8, 8, 8, 8, 8, 8, 8, 8, 8]⟩ : ByteArray)[t19.toNat]? = some yc20 ∧
      (nv (IntKind.i64.wrap (yc20.toNat : Int)) fun t21 =>
      nv (IntKind.i64.wrap (x2 + t21)) fun t22 =>
      R (.int .i64 t22) w)))
def bits_Len64.q2 (R : Value → World → Prop) : Exit → Act → World → Prop := (fin Go.Proofs.Tryd.prog Go.Proofs.Tryd.f61 R)
def bits_Len64.q10 (R : Value → World → Prop) : Exit → Act → World → Prop := (bits_Len64.q2 R)
def bits_Len64.rj10 (R : Value → World → Prop) (x0 : Int) (x2 : Int) (w : World) : Prop := startN (some [0, 2]) (codeN Go.Proofs.Tryd.prog (sub (codeOf Go.Proofs.Tryd.f61) [1, 1]) (nsub bits_Len64.an [1, 1]) (bits_Len64.q10 R)) ⟨#[.int .u64 x0, undef, .int .i64 x2, undef, undef, undef, undef, undef, undef, undef, undef, undef, undef, undef, undef, undef, undef, undef, undef, undef, undef, undef, undef, undef, undef], []⟩ w
def bits_Len64.q18 (R : Value → World → Prop) : Exit → Act → World → Prop := (bits_Len64.q10 R)
def bits_Len64.rj18 (R : Value → World → Prop) (x0 : Int) (x2 : Int) (w : World) : Prop := startN (some [0, 2]) (codeN Go.Proofs.Tryd.prog (sub (codeOf Go.Proofs.Tryd.f61) [1, 1, 1]) (nsub bits_Len64.an [1, 1, 1]) (bits_Len64.q18 R)) ⟨#[.int .u64 x0, undef, .int .i64 x2, undef, undef, undef, undef, undef, undef, undef, undef, undef, undef, undef, undef, undef, undef, undef, undef, undef, undef, undef, undef, undef, undef], []⟩ w
def bits_Len64.j18 (R : Value → World → Prop) (x0 : Int) (x2 : Int) (w : World) : Prop := bits_Len64.g18 R x0 x2 w
theorem bits_Len64.s18 (R : Value → World → Prop) (x0 : Int) (x2 : Int) (w : World) : bits_Len64.rj18 R x0 x2 w = ∀ _ : Nat → Value, bits_Len64.g18 R x0 x2 w := by kernel_rfl
theorem bits_Len64.jq18 (R : Value → World → Prop) : bits_Len64.j18 R = bits_Len64.rj18 R := by
    funext x0 x2 w
    rw [bits_Len64.s18, forall_const]
    unfold bits_Len64.j18
    all_goals rfl
def bits_Len64.j10 (R : Value → World → Prop) (x0 : Int) (x2 : Int) (w : World) : Prop := bits_Len64.g10 R (bits_Len64.j18 R) x0 x2 w
theorem bits_Len64.s10 (R : Value → World → Prop) (x0 : Int) (x2 : Int) (w : World) : bits_Len64.rj10 R x0 x2 w = ∀ _ : Nat → Value, bits_Len64.g10 R (bits_Len64.rj18 R) x0 x2 w := by kernel_rfl
theorem bits_Len64.jq10 (R : Value → World → Prop) : bits_Len64.j10 R = bits_Len64.rj10 R := by
    funext x0 x2 w
    rw [bits_Len64.s10, forall_const]
    unfold bits_Len64.j10
    rw [bits_Len64.jq18 R]
    all_goals rfl
def bits_Len64 (R : Value → World → Prop) (x0 : Int) (w : World) : Prop := bits_Len64.g0 R (bits_Len64.j10 R) x0 w
theorem bits_Len64.root0 (R : Value → World → Prop) (x0 : Int) (w : World) : fnN Go.Proofs.Tryd.prog Go.Proofs.Tryd.f61 bits_Len64.an #[.int .u64 x0] w R = bits_Len64.g0 R (bits_Len64.rj10 R) x0 w := by kernel_rfl
theorem bits_Len64.calls {R : Value → World → Prop} {x0 : Int} {w : World} (h : bits_Len64 R x0 w) : Go.E.CallsD Go.Proofs.Tryd.prog 61 #[.int .u64 x0] w R := by
  refine callsD_of (n := bits_Len64.an) M_follows M_sizes Go.Proofs.Tryd.func61 (by rfl) ?_
  rw [bits_Len64.root0]
  unfold bits_Len64 at h
  rw [bits_Len64.jq10 R] at h
  exact h
-- thicket/thicketref05.Words
def thicketref05_Words.an : An := An.nil
def thicketref05_Words.g0 (R : Value → World → Prop) (x0 : Int) (w : World) : Prop :=
  onBool (decide (x0 < 0))
    (R (.tuple #[.int .i64 0, .int .i64 2]) w)
    (onBool (decide (x0 > 1048576))
      (R (.tuple #[.int .i64 0, .int .i64 2]) w)
      (nv (IntKind.i64.wrap (x0 + 63)) fun t1 =>
      nv (IntKind.i64.wrap (Int.tdiv t1 64)) fun t2 =>
      R (.tuple #[.int .i64 t2, .int .i64 0]) w))
def thicketref05_Words (R : Value → World → Prop) (x0 : Int) (w : World) : Prop := thicketref05_Words.g0 R x0 w
theorem thicketref05_Words.root0 (R : Value → World → Prop) (x0 : Int) (w : World) : fnN Go.Proofs.Tryd.prog Go.Proofs.Tryd.f16 thicketref05_Words.an #[.int .i64 x0] w R = thicketref05_Words.g0 R x0 w := by kernel_rfl
theorem thicketref05_Words.calls {R : Value → World → Prop} {x0 : Int} {w : World} (h : thicketref05_Words R x0 w) : Go.E.CallsD Go.Proofs.Tryd.prog 16 #[.int .i64 x0] w R := by
  refine callsD_of (n := thicketref05_Words.an) M_follows M_sizes Go.Proofs.Tryd.func16 (by rfl) ?_
  rw [thicketref05_Words.root0]
  unfold thicketref05_Words at h
  exact h
-- thicket/thicketref05.Full
def thicketref05_Full.an : An := An.nil
def thicketref05_Full.g0 (R : Value → World → Prop) (x0 : Int) (w : World) : Prop :=
  onBool (decide (x0 < 0))
    (R (.tuple #[.slice none 0 0, .int .i64 2]) w)
    (onBool (decide (x0 > 1048576))
      (R (.tuple #[.slice none 0 0, .int .i64 2]) w)
      (Go.E.CallsD Go.Proofs.Tryd.prog 53 #[.int .i64 x0, .int .i64 0, .int .i64 0, .bool false] w fun yv1 u2 =>
        ∃ ya_3 : Option Addr, ∃ yn_3 : Nat, ∃ yc_3 : Nat, yv1 = .slice ya_3 yn_3 yc_3 ∧
          (R (.tuple #[.slice ya_3 yn_3 yc_3, .int .i64 0]) u2)))
def thicketref05_Full (R : Value → World → Prop) (x0 : Int) (w : World) : Prop := thicketref05_Full.g0 R x0 w
theorem thicketref05_Full.root0 (R : Value → World → Prop) (x0 : Int) (w : World) : fnN Go.Proofs.Tryd.prog Go.Proofs.Tryd.f17 thicketref05_Full.an #[.int .i64 x0] w R = thicketref05_Full.g0 R x0 w := by kernel_rfl
theorem thicketref05_Full.calls {R : Value → World → Prop} {x0 : Int} {w : World} (h : thicketref05_Full R x0 w) : Go.E.CallsD Go.Proofs.Tryd.prog 17 #[.int .i64 x0] w R := by
  refine callsD_of (n := thicketref05_Full.an) M_follows M_sizes Go.Proofs.Tryd.func17 (by rfl) ?_
  rw [thicketref05_Full.root0]
  unfold thicketref05_Full at h
  exact h
end Go.Mir
