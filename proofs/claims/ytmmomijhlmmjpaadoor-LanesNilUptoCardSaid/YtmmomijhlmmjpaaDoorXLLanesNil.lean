/- Part of a proof of laws of the seat YtmmomijhlmmjpaaDoor: functions' weakest preconditions, each checked by the kernel, contracts out of them, plain lemmas; no conditions. -/
import Derived.Test.YtmmomijhlmmjpaaDoorNM0
set_option linter.unusedVariables false
set_option linter.unusedSimpArgs false
set_option linter.unusedVariables false
set_option maxRecDepth 100000
namespace Go.Mir
open Go Go.E Go.RowKit
-- thicket/thicketlaw18.LanesNil
def thicketlaw18_LanesNil.an : An := An.nil
def thicketlaw18_LanesNil.g0 (R : Value → World → Prop) (a0 : Option Addr) (n0 : Nat) (c0 : Nat) (w : World) : Prop :=
  Go.E.CallsD Go.Proofs.Tryd.prog 4 #[.pointer none, .slice a0 n0 c0] w fun yv13 u14 =>
    ∃ ya_15_0 : Option Addr, ∃ yn_15_0 : Nat, ∃ yc_15_0 : Nat, ∃ yx_15_1 : Int, ∃ yx_15_2 : Int, yv13 = .tuple #[.slice ya_15_0 yn_15_0 yc_15_0, .int .i64 yx_15_1, .int .i64 yx_15_2] ∧
      (Go.E.CallsD Go.Proofs.Tryd.prog 5 #[.pointer none, .slice a0 n0 c0] u14 fun yv16 u17 =>
        ∃ ya_18_0 : Option Addr, ∃ yn_18_0 : Nat, ∃ yc_18_0 : Nat, ∃ yx_18_1 : Int, ∃ yx_18_2 : Int, yv16 = .tuple #[.slice ya_18_0 yn_18_0 yc_18_0, .int .i64 yx_18_1, .int .i64 yx_18_2] ∧
          (Go.E.CallsD Go.Proofs.Tryd.prog 6 #[.pointer none, .slice a0 n0 c0] u17 fun yv19 u20 =>
            ∃ yx_21_0 : Int, ∃ yx_21_1 : Int, ∃ yx_21_2 : Int, yv19 = .tuple #[.int .i64 yx_21_0, .int .i64 yx_21_1, .int .i64 yx_21_2] ∧
              (Go.E.CallsD Go.Proofs.Tryd.prog 7 #[] u20 fun yv22 u23 =>
                ∃ yb_24 : Bool, yv22 = .bool yb_24 ∧
                  (onBool yb_24
                    (onBool ((yn_15_0 : Int) == 0)
                      (onBool (yx_15_1 == 1)
                        (onBool (yx_15_2 == 0)
                          (onBool ((yn_18_0 : Int) == 0)
                            (onBool (yx_18_1 == 1)
                              (onBool (yx_18_2 == 0)
                                (onBool (yx_21_0 == 0)
                                  (onBool (yx_21_1 == 1)
                                    (R (.bool (yx_21_2 == 0)) u23)
                                    (R (.bool false) u23))
                                  (R (.bool false) u23))
                                (R (.bool false) u23))
                              (R (.bool false) u23))
                            (R (.bool false) u23))
                          (R (.bool false) u23))
                        (R (.bool false) u23))
                      (R (.bool false) u23))
                    (R (.bool false) u23)))))
def thicketlaw18_LanesNil (R : Value → World → Prop) (a0 : Option Addr) (n0 : Nat) (c0 : Nat) (w : World) : Prop := thicketlaw18_LanesNil.g0 R a0 n0 c0 w
theorem thicketlaw18_LanesNil.root0 (R : Value → World → Prop) (a0 : Option Addr) (n0 : Nat) (c0 : Nat) (w : World) : fnN Go.Proofs.Tryd.prog Go.Proofs.Tryd.f3 thicketlaw18_LanesNil.an #[.slice a0 n0 c0] w R = thicketlaw18_LanesNil.g0 R a0 n0 c0 w := by kernel_rfl
theorem thicketlaw18_LanesNil.calls {R : Value → World → Prop} {a0 : Option Addr} {n0 : Nat} {c0 : Nat} {w : World} (h : thicketlaw18_LanesNil R a0 n0 c0 w) : Go.E.CallsD Go.Proofs.Tryd.prog 3 #[.slice a0 n0 c0] w R := by
  refine callsD_of (n := thicketlaw18_LanesNil.an) M_follows M_sizes Go.Proofs.Tryd.func3 (by rfl) ?_
  rw [thicketlaw18_LanesNil.root0]
  unfold thicketlaw18_LanesNil at h
  exact h
end Go.Mir
