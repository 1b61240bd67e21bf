/- Part of a proof of laws of the seat YtabmjhhjbifagaaDoor: functions' weakest preconditions, each checked by the kernel, and contracts out of them; no conditions. -/
import Derived.Test.YtabmjhhjbifagaaDoorBM0
set_option linter.unusedVariables false
set_option linter.unusedSimpArgs false
set_option linter.unusedVariables false
namespace Go.Mir
open Go Go.E Go.RowKit
-- thicket/bits.With
def bits_With.an : An := An.nil
def bits_With.g0 (R : Value → World → Prop) (a0 : Option Addr) (n0 : Nat) (c0 : Nat) (x1 : Int) (w : World) : Prop :=
  Go.E.CallsD Go.Proofs.Tryd.prog 54 #[.slice a0 n0 c0, .int .i64 x1] w fun yv15 u16 =>
    ∃ yb_17 : Bool, yv15 = .bool yb_17 ∧
      (onBool (!yb_17)
        (R (.tuple #[.slice none 0 0, .int .i64 2]) u16)
        (rawN Go.Proofs.Tryd.prog (Builtin.append_ #[25, 25] 25 #[.slice none 0 0, .slice a0 n0 c0]) u16 fun yv18 u19 =>
          ∃ ya_20 : Option Addr, ∃ yn_20 : Nat, ∃ yc_20 : Nat, yv18 = .slice ya_20 yn_20 yc_20 ∧
            (nv (IntKind.i64.wrap (Int.tdiv x1 64)) fun t21 =>
            optN ya_20 fun q22 =>
            chk ((0 : Int) ≤ t21 ∧ t21 < (yn_20 : Int))
              (∃ yx_23 : Int, u19.cell? (q22.add (t21.toNat * 1)) = some (.int .u64 yx_23) ∧
                (nv (Int.tmod x1 64) fun t24 =>
                nchk (t24 < 0)
                  (nv (IntKind.u64.wrap (1 * 2 ^ (min t24.toNat 64))) fun t25 =>
                  nv (bitsI .or .u64 yx_23 t25) fun t26 =>
                  optN ya_20 fun q27 =>
                  chk ((0 : Int) ≤ t21 ∧ t21 < (yn_20 : Int))
                    (okSt u19 ((q27.add (t21.toNat * 1)).add 0) ∧
                      (nw (u19.setCell ((q27.add (t21.toNat * 1)).add 0) (.int .u64 t26)) fun w28 =>
                      R (.tuple #[.slice ya_20 yn_20 yc_20, .int .i64 0]) w28))))))))
def bits_With (R : Value → World → Prop) (a0 : Option Addr) (n0 : Nat) (c0 : Nat) (x1 : Int) (w : World) : Prop := bits_With.g0 R a0 n0 c0 x1 w
theorem bits_With.root0 (R : Value → World → Prop) (a0 : Option Addr) (n0 : Nat) (c0 : Nat) (x1 : Int) (w : World) : fnN Go.Proofs.Tryd.prog Go.Proofs.Tryd.f39 bits_With.an #[.slice a0 n0 c0, .int .i64 x1] w R = bits_With.g0 R a0 n0 c0 x1 w := by kernel_rfl
theorem bits_With.calls {R : Value → World → Prop} {a0 : Option Addr} {n0 : Nat} {c0 : Nat} {x1 : Int} {w : World} (h : bits_With R a0 n0 c0 x1 w) : Go.E.CallsD Go.Proofs.Tryd.prog 39 #[.slice a0 n0 c0, .int .i64 x1] w R := by
  refine callsD_of (n := bits_With.an) M_follows M_sizes Go.Proofs.Tryd.func39 (by rfl) ?_
  rw [bits_With.root0]
  unfold bits_With at h
  exact h
-- thicket/thicketref05.Put
def thicketref05_Put.an : An := An.nil
def thicketref05_Put.g0 (R : Value → World → Prop) (a0 : Option Addr) (n0 : Nat) (c0 : Nat) (x1 : Int) (b2 : Bool) (w : World) : Prop :=
  onBool (decide (x1 < 0))
    (R (.tuple #[.slice none 0 0, .int .i64 2]) w)
    (nv (IntKind.i64.wrap (Int.tdiv x1 64)) fun t2 =>
    onBool (decide (t2 ≥ (n0 : Int)))
      (R (.tuple #[.slice none 0 0, .int .i64 2]) w)
      (rawN Go.Proofs.Tryd.prog (Builtin.append_ #[25, 25] 25 #[.slice none 0 0, .slice a0 n0 c0]) w fun yv3 u4 =>
        ∃ ya_5 : Option Addr, ∃ yn_5 : Nat, ∃ yc_5 : Nat, yv3 = .slice ya_5 yn_5 yc_5 ∧
          (nv (IntKind.i64.wrap (Int.tdiv x1 64)) fun t6 =>
          nv (IntKind.i64.wrap (Int.tdiv x1 64)) fun t7 =>
          optN ya_5 fun q8 =>
          chk ((0 : Int) ≤ t7 ∧ t7 < (yn_5 : Int))
            (∃ yx_9 : Int, u4.cell? (q8.add (t7.toNat * 1)) = some (.int .u64 yx_9) ∧
              (nv (Int.tmod x1 64) fun t10 =>
              nv (IntKind.u64.wrap t10) fun t11 =>
              nchk (t11 < 0)
                (nv (IntKind.u64.wrap (1 * 2 ^ (min t11.toNat 64))) fun t12 =>
                nv (bitsI .andNot .u64 yx_9 t12) fun t13 =>
                optN ya_5 fun q14 =>
                chk ((0 : Int) ≤ t6 ∧ t6 < (yn_5 : Int))
                  (okSt u4 ((q14.add (t6.toNat * 1)).add 0) ∧
                    (nw (u4.setCell ((q14.add (t6.toNat * 1)).add 0) (.int .u64 t13)) fun w15 =>
                    onBool b2
                      (nv (IntKind.i64.wrap (Int.tdiv x1 64)) fun t16 =>
                      nv (IntKind.i64.wrap (Int.tdiv x1 64)) fun t17 =>
                      optN ya_5 fun q18 =>
                      chk ((0 : Int) ≤ t17 ∧ t17 < (yn_5 : Int))
                        (∃ yx_19 : Int, w15.cell? (q18.add (t17.toNat * 1)) = some (.int .u64 yx_19) ∧
                          (nv (Int.tmod x1 64) fun t20 =>
                          nv (IntKind.u64.wrap t20) fun t21 =>
                          nchk (t21 < 0)
                            (nv (IntKind.u64.wrap (1 * 2 ^ (min t21.toNat 64))) fun t22 =>
                            nv (bitsI .or .u64 yx_19 t22) fun t23 =>
                            optN ya_5 fun q24 =>
                            chk ((0 : Int) ≤ t16 ∧ t16 < (yn_5 : Int))
                              (okSt w15 ((q24.add (t16.toNat * 1)).add 0) ∧
                                (nw (w15.setCell ((q24.add (t16.toNat * 1)).add 0) (.int .u64 t23)) fun w25 =>
                                R (.tuple #[.slice ya_5 yn_5 yc_5, .int .i64 0]) w25))))))
                      (R (.tuple #[.slice ya_5 yn_5 yc_5, .int .i64 0]) w15)))))))))
def thicketref05_Put (R : Value → World → Prop) (a0 : Option Addr) (n0 : Nat) (c0 : Nat) (x1 : Int) (b2 : Bool) (w : World) : Prop := thicketref05_Put.g0 R a0 n0 c0 x1 b2 w
theorem thicketref05_Put.root0 (R : Value → World → Prop) (a0 : Option Addr) (n0 : Nat) (c0 : Nat) (x1 : Int) (b2 : Bool) (w : World) : fnN Go.Proofs.Tryd.prog Go.Proofs.Tryd.f40 thicketref05_Put.an #[.slice a0 n0 c0, .int .i64 x1, .bool b2] w R = thicketref05_Put.g0 R a0 n0 c0 x1 b2 w := by kernel_rfl
theorem thicketref05_Put.calls {R : Value → World → Prop} {a0 : Option Addr} {n0 : Nat} {c0 : Nat} {x1 : Int} {b2 : Bool} {w : World} (h : thicketref05_Put R a0 n0 c0 x1 b2 w) : Go.E.CallsD Go.Proofs.Tryd.prog 40 #[.slice a0 n0 c0, .int .i64 x1, .bool b2] w R := by
  refine callsD_of (n := thicketref05_Put.an) M_follows M_sizes Go.Proofs.Tryd.func40 (by rfl) ?_
  rw [thicketref05_Put.root0]
  unfold thicketref05_Put at h
  exact h
-- thicket/bits.Less
def bits_Less.an : An := An.nil
def bits_Less.g0 (R : Value → World → Prop) (a0 : Option Addr) (n0 : Nat) (c0 : Nat) (x1 : Int) (w : World) : Prop :=
  Go.E.CallsD Go.Proofs.Tryd.prog 39 #[.slice a0 n0 c0, .int .i64 x1] w fun yv12 u13 =>
    ∃ ya_14_0 : Option Addr, ∃ yn_14_0 : Nat, ∃ yc_14_0 : Nat, ∃ yx_14_1 : Int, yv12 = .tuple #[.slice ya_14_0 yn_14_0 yc_14_0, .int .i64 yx_14_1] ∧
      (onBool (yx_14_1 == 0)
        (nv (IntKind.i64.wrap (Int.tdiv x1 64)) fun t15 =>
        optN ya_14_0 fun q16 =>
        chk ((0 : Int) ≤ t15 ∧ t15 < (yn_14_0 : Int))
          (∃ yx_17 : Int, u13.cell? (q16.add (t15.toNat * 1)) = some (.int .u64 yx_17) ∧
            (nv (Int.tmod x1 64) fun t18 =>
            nchk (t18 < 0)
              (nv (IntKind.u64.wrap (1 * 2 ^ (min t18.toNat 64))) fun t19 =>
              nv (bitsI .andNot .u64 yx_17 t19) fun t20 =>
              optN ya_14_0 fun q21 =>
              chk ((0 : Int) ≤ t15 ∧ t15 < (yn_14_0 : Int))
                (okSt u13 ((q21.add (t15.toNat * 1)).add 0) ∧
                  (nw (u13.setCell ((q21.add (t15.toNat * 1)).add 0) (.int .u64 t20)) fun w22 =>
                  R (.tuple #[.slice ya_14_0 yn_14_0 yc_14_0, .int .i64 yx_14_1]) w22))))))
        (R (.tuple #[.slice ya_14_0 yn_14_0 yc_14_0, .int .i64 yx_14_1]) u13))
def bits_Less (R : Value → World → Prop) (a0 : Option Addr) (n0 : Nat) (c0 : Nat) (x1 : Int) (w : World) : Prop := bits_Less.g0 R a0 n0 c0 x1 w
theorem bits_Less.root0 (R : Value → World → Prop) (a0 : Option Addr) (n0 : Nat) (c0 : Nat) (x1 : Int) (w : World) : fnN Go.Proofs.Tryd.prog Go.Proofs.Tryd.f41 bits_Less.an #[.slice a0 n0 c0, .int .i64 x1] w R = bits_Less.g0 R a0 n0 c0 x1 w := by kernel_rfl
theorem bits_Less.calls {R : Value → World → Prop} {a0 : Option Addr} {n0 : Nat} {c0 : Nat} {x1 : Int} {w : World} (h : bits_Less R a0 n0 c0 x1 w) : Go.E.CallsD Go.Proofs.Tryd.prog 41 #[.slice a0 n0 c0, .int .i64 x1] w R := by
  refine callsD_of (n := bits_Less.an) M_follows M_sizes Go.Proofs.Tryd.func41 (by rfl) ?_
  rw [bits_Less.root0]
  unfold bits_Less at h
  exact h
-- thicket/thicketref05.Has
def thicketref05_Has.an : An := An.nil
def thicketref05_Has.g0 (R : Value → World → Prop) (a0 : Option Addr) (n0 : Nat) (c0 : Nat) (x1 : Int) (w : World) : Prop :=
  onBool (decide (x1 ≥ 0))
    (nv (IntKind.i64.wrap (Int.tdiv x1 64)) fun t9 =>
    onBool (decide (t9 < (n0 : Int)))
      (nv (IntKind.i64.wrap (Int.tdiv x1 64)) fun t10 =>
      optN a0 fun q11 =>
      chk ((0 : Int) ≤ t10 ∧ t10 < (n0 : Int))
        (∃ yx_12 : Int, w.cell? (q11.add (t10.toNat * 1)) = some (.int .u64 yx_12) ∧
          (nv (Int.tmod x1 64) fun t13 =>
          nv (IntKind.u64.wrap t13) fun t14 =>
          nchk (t14 < 0)
            (nv (Int.fdiv yx_12 (2 ^ (min t14.toNat 64))) fun t15 =>
            nv (bitsI .and .u64 t15 1) fun t16 =>
            R (.bool (t16 == 1)) w))))
      (R (.bool false) w))
    (R (.bool false) w)
def thicketref05_Has (R : Value → World → Prop) (a0 : Option Addr) (n0 : Nat) (c0 : Nat) (x1 : Int) (w : World) : Prop := thicketref05_Has.g0 R a0 n0 c0 x1 w
theorem thicketref05_Has.root0 (R : Value → World → Prop) (a0 : Option Addr) (n0 : Nat) (c0 : Nat) (x1 : Int) (w : World) : fnN Go.Proofs.Tryd.prog Go.Proofs.Tryd.f42 thicketref05_Has.an #[.slice a0 n0 c0, .int .i64 x1] w R = thicketref05_Has.g0 R a0 n0 c0 x1 w := by kernel_rfl
theorem thicketref05_Has.calls {R : Value → World → Prop} {a0 : Option Addr} {n0 : Nat} {c0 : Nat} {x1 : Int} {w : World} (h : thicketref05_Has R a0 n0 c0 x1 w) : Go.E.CallsD Go.Proofs.Tryd.prog 42 #[.slice a0 n0 c0, .int .i64 x1] w R := by
  refine callsD_of (n := thicketref05_Has.an) M_follows M_sizes Go.Proofs.Tryd.func42 (by rfl) ?_
  rw [thicketref05_Has.root0]
  unfold thicketref05_Has at h
  exact h
-- thicket/thicketref05.Lowest
def thicketref05_Lowest.an : An := An.nil
def thicketref05_Lowest.g0 (R : Value → World → Prop) (a0 : Option Addr) (n0 : Nat) (c0 : Nat) (w : World) : Prop :=
  Go.E.CallsD Go.Proofs.Tryd.prog 47 #[.slice a0 n0 c0] w fun yv6 u7 =>
    ∃ ya_8 : Option Addr, ∃ yn_8 : Nat, ∃ yc_8 : Nat, yv6 = .slice ya_8 yn_8 yc_8 ∧
      (onBool ((yn_8 : Int) == 0)
        (R (.int .i64 (-1)) u7)
        (optN ya_8 fun q9 =>
        chk ((0 : Int) ≤ 0 ∧ 0 < (yn_8 : Int))
          (∃ yx_10 : Int, u7.cell? (q9.add 0) = some (.int .i64 yx_10) ∧
            (R (.int .i64 yx_10) u7))))
def thicketref05_Lowest (R : Value → World → Prop) (a0 : Option Addr) (n0 : Nat) (c0 : Nat) (w : World) : Prop := thicketref05_Lowest.g0 R a0 n0 c0 w
theorem thicketref05_Lowest.root0 (R : Value → World → Prop) (a0 : Option Addr) (n0 : Nat) (c0 : Nat) (w : World) : fnN Go.Proofs.Tryd.prog Go.Proofs.Tryd.f44 thicketref05_Lowest.an #[.slice a0 n0 c0] w R = thicketref05_Lowest.g0 R a0 n0 c0 w := by kernel_rfl
theorem thicketref05_Lowest.calls {R : Value → World → Prop} {a0 : Option Addr} {n0 : Nat} {c0 : Nat} {w : World} (h : thicketref05_Lowest R a0 n0 c0 w) : Go.E.CallsD Go.Proofs.Tryd.prog 44 #[.slice a0 n0 c0] w R := by
  refine callsD_of (n := thicketref05_Lowest.an) M_follows M_sizes Go.Proofs.Tryd.func44 (by rfl) ?_
  rw [thicketref05_Lowest.root0]
  unfold thicketref05_Lowest at h
  exact h
-- thicket/thicketref05.Highest
def thicketref05_Highest.an : An := An.nil
def thicketref05_Highest.g0 (R : Value → World → Prop) (a0 : Option Addr) (n0 : Nat) (c0 : Nat) (w : World) : Prop :=
  Go.E.CallsD Go.Proofs.Tryd.prog 47 #[.slice a0 n0 c0] w fun yv7 u8 =>
    ∃ ya_9 : Option Addr, ∃ yn_9 : Nat, ∃ yc_9 : Nat, yv7 = .slice ya_9 yn_9 yc_9 ∧
      (onBool ((yn_9 : Int) == 0)
        (R (.int .i64 (-1)) u8)
        (nv (IntKind.i64.wrap ((yn_9 : Int) - 1)) fun t10 =>
        optN ya_9 fun q11 =>
        chk ((0 : Int) ≤ t10 ∧ t10 < (yn_9 : Int))
          (∃ yx_12 : Int, u8.cell? (q11.add (t10.toNat * 1)) = some (.int .i64 yx_12) ∧
            (R (.int .i64 yx_12) u8))))
def thicketref05_Highest (R : Value → World → Prop) (a0 : Option Addr) (n0 : Nat) (c0 : Nat) (w : World) : Prop := thicketref05_Highest.g0 R a0 n0 c0 w
theorem thicketref05_Highest.root0 (R : Value → World → Prop) (a0 : Option Addr) (n0 : Nat) (c0 : Nat) (w : World) : fnN Go.Proofs.Tryd.prog Go.Proofs.Tryd.f46 thicketref05_Highest.an #[.slice a0 n0 c0] w R = thicketref05_Highest.g0 R a0 n0 c0 w := by kernel_rfl
theorem thicketref05_Highest.calls {R : Value → World → Prop} {a0 : Option Addr} {n0 : Nat} {c0 : Nat} {w : World} (h : thicketref05_Highest R a0 n0 c0 w) : Go.E.CallsD Go.Proofs.Tryd.prog 46 #[.slice a0 n0 c0] w R := by
  refine callsD_of (n := thicketref05_Highest.an) M_follows M_sizes Go.Proofs.Tryd.func46 (by rfl) ?_
  rw [thicketref05_Highest.root0]
  unfold thicketref05_Highest at h
  exact h
-- thicket/thicketref05.All
def thicketref05_All.an : An := (.mk none .nil (.mk none .nil (.mk none (.mk none .nil (.mk none (.mk (some [0, 3, 4]) .nil .nil) .nil)) .nil)))
def thicketref05_All.g0 (R : Value → World → Prop) (e8 : (Option Addr) → Nat → Nat → (Option Addr) → Nat → Nat → Int → World → Prop) (a0 : Option Addr) (n0 : Nat) (c0 : Nat) (w : World) : Prop :=
  e8 a0 n0 c0 none 0 0 0 w
def thicketref05_All.g8 (R : Value → World → Prop) (b8 : (Option Addr) → Nat → Nat → (Option Addr) → Nat → Nat → Int → World → Prop) (a0 : Option Addr) (n0 : Nat) (c0 : Nat) (a3 : Option Addr) (n3 : Nat) (c3 : Nat) (x4 : Int) (w : World) : Prop :=
  nv (IntKind.i64.wrap (64 * (n0 : Int))) fun t16 =>
  onBool (decide (x4 < t16))
    (nv (IntKind.i64.wrap (Int.tdiv x4 64)) fun t17 =>
    optN a0 fun q18 =>
    chk ((0 : Int) ≤ t17 ∧ t17 < (n0 : Int))
      (∃ yx_19 : Int, w.cell? (q18.add (t17.toNat * 1)) = some (.int .u64 yx_19) ∧
        (onBool (yx_19 == 0)
          (nv (Int.tmod x4 64) fun t20 =>
          nv (IntKind.i64.wrap (63 - t20)) fun t21 =>
          nv (IntKind.i64.wrap (x4 + t21)) fun t22 =>
          nv (IntKind.i64.wrap (t22 + 1)) fun t23 =>
          b8 a0 n0 c0 a3 n3 c3 t23 w)
          (Go.E.CallsD Go.Proofs.Tryd.prog 42 #[.slice a0 n0 c0, .int .i64 x4] w fun yv24 u25 =>
            ∃ yb_26 : Bool, yv24 = .bool yb_26 ∧
              (onBool yb_26
                (nw (u25.alloc (.cells #[.int .i64 x4] 3)) fun w27 =>
                rawN Go.Proofs.Tryd.prog (Builtin.append_ #[51, 51] 51 #[.slice a3 n3 c3, .slice (some (na u25)) 1 1]) w27 fun yv28 u29 =>
                  ∃ ya_30 : Option Addr, ∃ yn_30 : Nat, ∃ yc_30 : Nat, yv28 = .slice ya_30 yn_30 yc_30 ∧
                    (nv (IntKind.i64.wrap (x4 + 1)) fun t31 =>
                    b8 a0 n0 c0 ya_30 yn_30 yc_30 t31 u29))
                (nv (IntKind.i64.wrap (x4 + 1)) fun t32 =>
                b8 a0 n0 c0 a3 n3 c3 t32 u25))))))
    (R (.slice a3 n3 c3) w)
def thicketref05_All.q2 (R : Value → World → Prop) : Exit → Act → World → Prop := (fin Go.Proofs.Tryd.prog Go.Proofs.Tryd.f47 R)
def thicketref05_All.q4 (R : Value → World → Prop) : Exit → Act → World → Prop := (thicketref05_All.q2 R)
def thicketref05_All.q5 (R : Value → World → Prop) : Exit → Act → World → Prop := Exit.then (startN none (codeN Go.Proofs.Tryd.prog (sub (codeOf Go.Proofs.Tryd.f47) [1, 1, 1]) (nsub thicketref05_All.an [1, 1, 1]) (thicketref05_All.q4 R))) (thicketref05_All.q4 R)
def thicketref05_All.q7 (R : Value → World → Prop) : Exit → Act → World → Prop := (thicketref05_All.q5 R)
def thicketref05_All.q8 (R : Value → World → Prop) : Exit → Act → World → Prop := Exit.inBlock 0 (thicketref05_All.q7 R)
def thicketref05_All.rl8 (R : Value → World → Prop) (k : Nat) (a0 : Option Addr) (n0 : Nat) (c0 : Nat) (a3 : Option Addr) (n3 : Nat) (c3 : Nat) (x4 : Int) (w : World) : Prop := loopN [0, 3, 4] (codeN Go.Proofs.Tryd.prog (sub (codeOf Go.Proofs.Tryd.f47) [1, 1, 0, 1, 0, 0]) (nsub thicketref05_All.an [1, 1, 0, 1, 0, 0])) (thicketref05_All.q8 R) k ⟨#[.slice a0 n0 c0, undef, undef, .slice a3 n3 c3, .int .i64 x4, undef, undef, undef, undef, undef, undef, undef, undef, undef, undef, undef, undef, undef, undef, undef, undef, undef, undef, undef, undef, undef, undef, undef, undef, undef, undef], []⟩ w
def thicketref05_All.re8 (R : Value → World → Prop) (a0 : Option Addr) (n0 : Nat) (c0 : Nat) (a3 : Option Addr) (n3 : Nat) (c3 : Nat) (x4 : Int) (w : World) : Prop := ∃ k, thicketref05_All.rl8 R k a0 n0 c0 a3 n3 c3 x4 w
def thicketref05_All.l8 (R : Value → World → Prop) : Nat → (Option Addr) → Nat → Nat → (Option Addr) → Nat → Nat → Int → World → Prop
  | 0, _, _, _, _, _, _, _, _ => False
  | k + 1, a0, n0, c0, a3, n3, c3, x4, w => thicketref05_All.g8 R (thicketref05_All.l8 R k) a0 n0 c0 a3 n3 c3 x4 w
def thicketref05_All.e8 (R : Value → World → Prop) (a0 : Option Addr) (n0 : Nat) (c0 : Nat) (a3 : Option Addr) (n3 : Nat) (c3 : Nat) (x4 : Int) (w : World) : Prop := ∃ k, thicketref05_All.l8 R k a0 n0 c0 a3 n3 c3 x4 w
theorem thicketref05_All.s8 (R : Value → World → Prop) (k : Nat) (a0 : Option Addr) (n0 : Nat) (c0 : Nat) (a3 : Option Addr) (n3 : Nat) (c3 : Nat) (x4 : Int) (w : World) : thicketref05_All.rl8 R (k + 1) a0 n0 c0 a3 n3 c3 x4 w = ∀ _ : Nat → Value, thicketref05_All.g8 R (thicketref05_All.rl8 R k) a0 n0 c0 a3 n3 c3 x4 w := by kernel_rfl
theorem thicketref05_All.lq8 (R : Value → World → Prop) : ∀ k, thicketref05_All.l8 R k = thicketref05_All.rl8 R k
  | 0 => by funext a0 n0 c0 a3 n3 c3 x4 w; rfl
  | k + 1 => by
    funext a0 n0 c0 a3 n3 c3 x4 w
    rw [thicketref05_All.s8, forall_const]
    unfold thicketref05_All.l8
    have ih := thicketref05_All.lq8 R k
    rw [ih]
    all_goals rfl
theorem thicketref05_All.eq8 (R : Value → World → Prop) : thicketref05_All.e8 R = thicketref05_All.re8 R := by
  funext a0 n0 c0 a3 n3 c3 x4 w
  unfold thicketref05_All.e8 thicketref05_All.re8
  simp only [thicketref05_All.lq8 R]
def thicketref05_All (R : Value → World → Prop) (a0 : Option Addr) (n0 : Nat) (c0 : Nat) (w : World) : Prop := thicketref05_All.g0 R (thicketref05_All.e8 R) a0 n0 c0 w
theorem thicketref05_All.root0 (R : Value → World → Prop) (a0 : Option Addr) (n0 : Nat) (c0 : Nat) (w : World) : fnN Go.Proofs.Tryd.prog Go.Proofs.Tryd.f47 thicketref05_All.an #[.slice a0 n0 c0] w R = thicketref05_All.g0 R (thicketref05_All.re8 R) a0 n0 c0 w := by kernel_rfl
theorem thicketref05_All.calls {R : Value → World → Prop} {a0 : Option Addr} {n0 : Nat} {c0 : Nat} {w : World} (h : thicketref05_All R a0 n0 c0 w) : Go.E.CallsD Go.Proofs.Tryd.prog 47 #[.slice a0 n0 c0] w R := by
  refine callsD_of (n := thicketref05_All.an) M_follows M_sizes Go.Proofs.Tryd.func47 (by rfl) ?_
  rw [thicketref05_All.root0]
  unfold thicketref05_All at h
  rw [thicketref05_All.eq8 R] at h
  exact h
end Go.Mir
