/- Part of a proof of laws of the seat YtpllehijaidinaaDoor: functions' weakest preconditions, each checked by the kernel, contracts out of them, plain lemmas; no conditions. -/
import Derived.Test.YtpllehijaidinaaDoorKM0
set_option linter.unusedVariables false
set_option linter.unusedSimpArgs false
set_option linter.unusedVariables false
set_option maxRecDepth 100000
namespace Go.Mir
open Go Go.E Go.RowKit
-- thicket/thicketlaw13.MaskExit
def thicketlaw13_MaskExit.an : An := An.nil
def thicketlaw13_MaskExit.g0 (R : Value → World → Prop) (x0_0 : Int) (a0_1 : Option Addr) (n0_1 : Nat) (c0_1 : Nat) (a1 : Option Addr) (n1 : Nat) (c1 : Nat) (w : World) : Prop :=
  nw (w.alloc (.cells #[.int .i64 x0_0, .slice a0_1 n0_1 c0_1] 24)) fun w20 =>
  Go.E.CallsD Go.Proofs.Tryd.prog 15 #[] w20 fun yv21 u22 =>
    ∃ yb_23 : Bool, yv21 = .bool yb_23 ∧
      (onBool (!yb_23)
        (R (.bool false) u22)
        (∃ yx_24 : Int, u22.cell? ((na w).add 0) = some (.int .i64 yx_24) ∧
          (∃ ya_25 : Option Addr, ∃ yn_25 : Nat, ∃ yc_25 : Nat, u22.cell? ((na w).add 1) = some (.slice ya_25 yn_25 yc_25) ∧
            (Go.E.CallsD Go.Proofs.Tryd.prog 13 #[.agg #[.int .i64 yx_24, .slice ya_25 yn_25 yc_25], .slice a1 n1 c1] u22 fun yv26 u27 =>
              ∃ yx_28_0 : Int, ∃ yx_28_1 : Int, ∃ yx_28_2 : Int, yv26 = .tuple #[.int .i64 yx_28_0, .int .i64 yx_28_1, .int .i64 yx_28_2] ∧
                (∃ yx_29 : Int, u27.cell? ((na w).add 0) = some (.int .i64 yx_29) ∧
                  (∃ ya_30 : Option Addr, ∃ yn_30 : Nat, ∃ yc_30 : Nat, u27.cell? ((na w).add 1) = some (.slice ya_30 yn_30 yc_30) ∧
                    (Go.E.CallsD Go.Proofs.Tryd.prog 28 #[.agg #[.int .i64 yx_29, .slice ya_30 yn_30 yc_30], .slice a1 n1 c1] u27 fun yv31 u32 =>
                      ∃ yx_33_0 : Int, ∃ yx_33_1 : Int, ∃ yx_33_2 : Int, yv31 = .tuple #[.int .i64 yx_33_0, .int .i64 yx_33_1, .int .i64 yx_33_2] ∧
                        (∃ yx_34 : Int, u32.cell? ((na w).add 0) = some (.int .i64 yx_34) ∧
                          (∃ ya_35 : Option Addr, ∃ yn_35 : Nat, ∃ yc_35 : Nat, u32.cell? ((na w).add 1) = some (.slice ya_35 yn_35 yc_35) ∧
                            (Go.E.CallsD Go.Proofs.Tryd.prog 19 #[.agg #[.int .i64 yx_34, .slice ya_35 yn_35 yc_35]] u32 fun yv36 u37 =>
                              ∃ ya_38_0 : Option Addr, ∃ yn_38_0 : Nat, ∃ yc_38_0 : Nat, ∃ yx_38_1 : Int, yv36 = .tuple #[.slice ya_38_0 yn_38_0 yc_38_0, .int .i64 yx_38_1] ∧
                                (onBool (yx_38_1 == 0)
                                  (onBool (decide ((yn_38_0 : Int) > 4096))
                                    (R (.bool (yx_28_2 == 3)) u37)
                                    (onBool (yx_28_2 == yx_33_2)
                                      (onBool (yx_28_0 == yx_33_0)
                                        (R (.bool (yx_28_1 == yx_33_1)) u37)
                                        (R (.bool false) u37))
                                      (R (.bool false) u37)))
                                  (onBool (yx_28_2 == yx_33_2)
                                    (onBool (yx_28_0 == yx_33_0)
                                      (R (.bool (yx_28_1 == yx_33_1)) u37)
                                      (R (.bool false) u37))
                                    (R (.bool false) u37)))))))))))))
def thicketlaw13_MaskExit (R : Value → World → Prop) (x0_0 : Int) (a0_1 : Option Addr) (n0_1 : Nat) (c0_1 : Nat) (a1 : Option Addr) (n1 : Nat) (c1 : Nat) (w : World) : Prop := thicketlaw13_MaskExit.g0 R x0_0 a0_1 n0_1 c0_1 a1 n1 c1 w
theorem thicketlaw13_MaskExit.root0 (R : Value → World → Prop) (x0_0 : Int) (a0_1 : Option Addr) (n0_1 : Nat) (c0_1 : Nat) (a1 : Option Addr) (n1 : Nat) (c1 : Nat) (w : World) : fnN Go.Proofs.Tryd.prog Go.Proofs.Tryd.f7 thicketlaw13_MaskExit.an #[.agg #[.int .i64 x0_0, .slice a0_1 n0_1 c0_1], .slice a1 n1 c1] w R = thicketlaw13_MaskExit.g0 R x0_0 a0_1 n0_1 c0_1 a1 n1 c1 w := by kernel_rfl
theorem thicketlaw13_MaskExit.calls {R : Value → World → Prop} {x0_0 : Int} {a0_1 : Option Addr} {n0_1 : Nat} {c0_1 : Nat} {a1 : Option Addr} {n1 : Nat} {c1 : Nat} {w : World} (h : thicketlaw13_MaskExit R x0_0 a0_1 n0_1 c0_1 a1 n1 c1 w) : Go.E.CallsD Go.Proofs.Tryd.prog 7 #[.agg #[.int .i64 x0_0, .slice a0_1 n0_1 c0_1], .slice a1 n1 c1] w R := by
  refine callsD_of (n := thicketlaw13_MaskExit.an) M_follows M_sizes Go.Proofs.Tryd.func7 (by rfl) ?_
  rw [thicketlaw13_MaskExit.root0]
  unfold thicketlaw13_MaskExit at h
  exact h
end Go.Mir
