/- Part of a proof of laws of the seat YtpllehijaidinaaDoor: functions' weakest preconditions, each checked by the kernel, contracts out of them, plain lemmas; no conditions. -/
import Derived.Test.YtpllehijaidinaaDoorKM0
set_option linter.unusedVariables false
set_option linter.unusedSimpArgs false
set_option linter.unusedVariables false
set_option maxRecDepth 100000
namespace Go.Mir
open Go Go.E Go.RowKit
-- thicket/thicketlaw13.MaskFalse
def thicketlaw13_MaskFalse.an : An := An.nil
def thicketlaw13_MaskFalse.g0 (R : Value → World → Prop) (x0_0 : Int) (a0_1 : Option Addr) (n0_1 : Nat) (c0_1 : Nat) (a1 : Option Addr) (n1 : Nat) (c1 : Nat) (w : World) : Prop :=
  nw (w.alloc (.cells #[.int .i64 x0_0, .slice a0_1 n0_1 c0_1] 24)) fun w41 =>
  ∃ yx_42 : Int, w41.cell? ((na w).add 0) = some (.int .i64 yx_42) ∧
    (∃ ya_43 : Option Addr, ∃ yn_43 : Nat, ∃ yc_43 : Nat, w41.cell? ((na w).add 1) = some (.slice ya_43 yn_43 yc_43) ∧
      (Go.E.CallsD Go.Proofs.Tryd.prog 9 #[.agg #[.int .i64 yx_42, .slice ya_43 yn_43 yc_43], .slice a1 n1 c1] w41 fun yv44 u45 =>
        ∃ ya_46_0 : Option Addr, ∃ yn_46_0 : Nat, ∃ yc_46_0 : Nat, ∃ yx_46_1 : Int, yv44 = .tuple #[.slice ya_46_0 yn_46_0 yc_46_0, .int .i64 yx_46_1] ∧
          (∃ yx_47 : Int, u45.cell? ((na w).add 0) = some (.int .i64 yx_47) ∧
            (∃ ya_48 : Option Addr, ∃ yn_48 : Nat, ∃ yc_48 : Nat, u45.cell? ((na w).add 1) = some (.slice ya_48 yn_48 yc_48) ∧
              (Go.E.CallsD Go.Proofs.Tryd.prog 10 #[.agg #[.int .i64 yx_47, .slice ya_48 yn_48 yc_48], .slice a1 n1 c1] u45 fun yv49 u50 =>
                ∃ ya_51_0 : Option Addr, ∃ yn_51_0 : Nat, ∃ yc_51_0 : Nat, ∃ yx_51_1 : Int, yv49 = .tuple #[.slice ya_51_0 yn_51_0 yc_51_0, .int .i64 yx_51_1] ∧
                  (∃ yx_52 : Int, u50.cell? ((na w).add 0) = some (.int .i64 yx_52) ∧
                    (∃ ya_53 : Option Addr, ∃ yn_53 : Nat, ∃ yc_53 : Nat, u50.cell? ((na w).add 1) = some (.slice ya_53 yn_53 yc_53) ∧
                      (Go.E.CallsD Go.Proofs.Tryd.prog 11 #[.agg #[.int .i64 yx_52, .slice ya_53 yn_53 yc_53], .slice a1 n1 c1] u50 fun yv54 u55 =>
                        ∃ ya_56_0 : Option Addr, ∃ yn_56_0 : Nat, ∃ yc_56_0 : Nat, ∃ yx_56_1 : Int, yv54 = .tuple #[.slice ya_56_0 yn_56_0 yc_56_0, .int .i64 yx_56_1] ∧
                          (∃ yx_57 : Int, u55.cell? ((na w).add 0) = some (.int .i64 yx_57) ∧
                            (∃ ya_58 : Option Addr, ∃ yn_58 : Nat, ∃ yc_58 : Nat, u55.cell? ((na w).add 1) = some (.slice ya_58 yn_58 yc_58) ∧
                              (Go.E.CallsD Go.Proofs.Tryd.prog 12 #[.agg #[.int .i64 yx_57, .slice ya_58 yn_58 yc_58], .slice a1 n1 c1] u55 fun yv59 u60 =>
                                ∃ ya_61_0 : Option Addr, ∃ yn_61_0 : Nat, ∃ yc_61_0 : Nat, ∃ yx_61_1 : Int, yv59 = .tuple #[.slice ya_61_0 yn_61_0 yc_61_0, .int .i64 yx_61_1] ∧
                                  (∃ yx_62 : Int, u60.cell? ((na w).add 0) = some (.int .i64 yx_62) ∧
                                    (∃ ya_63 : Option Addr, ∃ yn_63 : Nat, ∃ yc_63 : Nat, u60.cell? ((na w).add 1) = some (.slice ya_63 yn_63 yc_63) ∧
                                      (Go.E.CallsD Go.Proofs.Tryd.prog 13 #[.agg #[.int .i64 yx_62, .slice ya_63 yn_63 yc_63], .slice a1 n1 c1] u60 fun yv64 u65 =>
                                        ∃ yx_66_0 : Int, ∃ yx_66_1 : Int, ∃ yx_66_2 : Int, yv64 = .tuple #[.int .i64 yx_66_0, .int .i64 yx_66_1, .int .i64 yx_66_2] ∧
                                          (∃ yx_67 : Int, u65.cell? ((na w).add 0) = some (.int .i64 yx_67) ∧
                                            (∃ ya_68 : Option Addr, ∃ yn_68 : Nat, ∃ yc_68 : Nat, u65.cell? ((na w).add 1) = some (.slice ya_68 yn_68 yc_68) ∧
                                              (Go.E.CallsD Go.Proofs.Tryd.prog 14 #[.agg #[.int .i64 yx_67, .slice ya_68 yn_68 yc_68], .slice a1 n1 c1] u65 fun yv69 u70 =>
                                                ∃ yx_71_0 : Int, ∃ yx_71_1 : Int, ∃ yx_71_2 : Int, yv69 = .tuple #[.int .i64 yx_71_0, .int .i64 yx_71_1, .int .i64 yx_71_2] ∧
                                                  (Go.E.CallsD Go.Proofs.Tryd.prog 15 #[] u70 fun yv72 u73 =>
                                                    ∃ yb_74 : Bool, yv72 = .bool yb_74 ∧
                                                      (onBool yb_74
                                                        (Go.E.CallsD Go.Proofs.Tryd.prog 16 #[.slice ya_46_0 yn_46_0 yc_46_0, .slice ya_51_0 yn_51_0 yc_51_0] u73 fun yv75 u76 =>
                                                          ∃ yb_77 : Bool, yv75 = .bool yb_77 ∧
                                                            (onBool yb_77
                                                              (onBool (yx_46_1 == yx_51_1)
                                                                (Go.E.CallsD Go.Proofs.Tryd.prog 17 #[.slice ya_56_0 yn_56_0 yc_56_0, .slice ya_61_0 yn_61_0 yc_61_0] u76 fun yv78 u79 =>
                                                                  ∃ yb_80 : Bool, yv78 = .bool yb_80 ∧
                                                                    (onBool yb_80
                                                                      (onBool (yx_56_1 == yx_61_1)
                                                                        (onBool (yx_66_0 == yx_71_0)
                                                                          (onBool (yx_66_1 == yx_71_1)
                                                                            (R (.bool (yx_66_2 == yx_71_2)) u79)
                                                                            (R (.bool false) u79))
                                                                          (R (.bool false) u79))
                                                                        (R (.bool false) u79))
                                                                      (R (.bool false) u79)))
                                                                (R (.bool false) u76))
                                                              (R (.bool false) u76)))
                                                        (R (.bool false) u73))))))))))))))))))))
def thicketlaw13_MaskFalse (R : Value → World → Prop) (x0_0 : Int) (a0_1 : Option Addr) (n0_1 : Nat) (c0_1 : Nat) (a1 : Option Addr) (n1 : Nat) (c1 : Nat) (w : World) : Prop := thicketlaw13_MaskFalse.g0 R x0_0 a0_1 n0_1 c0_1 a1 n1 c1 w
theorem thicketlaw13_MaskFalse.root0 (R : Value → World → Prop) (x0_0 : Int) (a0_1 : Option Addr) (n0_1 : Nat) (c0_1 : Nat) (a1 : Option Addr) (n1 : Nat) (c1 : Nat) (w : World) : fnN Go.Proofs.Tryd.prog Go.Proofs.Tryd.f3 thicketlaw13_MaskFalse.an #[.agg #[.int .i64 x0_0, .slice a0_1 n0_1 c0_1], .slice a1 n1 c1] w R = thicketlaw13_MaskFalse.g0 R x0_0 a0_1 n0_1 c0_1 a1 n1 c1 w := by kernel_rfl
theorem thicketlaw13_MaskFalse.calls {R : Value → World → Prop} {x0_0 : Int} {a0_1 : Option Addr} {n0_1 : Nat} {c0_1 : Nat} {a1 : Option Addr} {n1 : Nat} {c1 : Nat} {w : World} (h : thicketlaw13_MaskFalse R x0_0 a0_1 n0_1 c0_1 a1 n1 c1 w) : Go.E.CallsD Go.Proofs.Tryd.prog 3 #[.agg #[.int .i64 x0_0, .slice a0_1 n0_1 c0_1], .slice a1 n1 c1] w R := by
  refine callsD_of (n := thicketlaw13_MaskFalse.an) M_follows M_sizes Go.Proofs.Tryd.func3 (by rfl) ?_
  rw [thicketlaw13_MaskFalse.root0]
  unfold thicketlaw13_MaskFalse at h
  exact h
end Go.Mir
