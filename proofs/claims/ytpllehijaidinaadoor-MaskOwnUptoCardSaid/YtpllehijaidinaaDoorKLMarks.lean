/- Part of a proof of laws of the seat YtpllehijaidinaaDoor: functions' weakest preconditions, each checked by the kernel, contracts out of them, plain lemmas; no conditions. -/
import Derived.Test.YtpllehijaidinaaDoorKM0
set_option linter.unusedVariables false
set_option linter.unusedSimpArgs false
set_option linter.unusedVariables false
set_option maxRecDepth 100000
namespace Go.Mir
open Go Go.E Go.RowKit
-- thicket/thicketlaw13.MaskMarks
def thicketlaw13_MaskMarks.an : An := An.nil
def thicketlaw13_MaskMarks.g0 (R : Value → World → Prop) (x0_0 : Int) (a0_1 : Option Addr) (n0_1 : Nat) (c0_1 : Nat) (w : World) : Prop :=
  nw (w.alloc (.cells #[.int .i64 x0_0, .slice a0_1 n0_1 c0_1] 24)) fun w51 =>
  ∃ F52 : Nat → Value → World → Prop, (∀ i v u u', F52 i v u → Below u.heap.size u u' → F52 i v u') ∧
    (∃ yx_53 : Int, w51.cell? ((na w).add 0) = some (.int .i64 yx_53) ∧
      (∃ ya_54 : Option Addr, ∃ yn_54 : Nat, ∃ yc_54 : Nat, w51.cell? ((na w).add 1) = some (.slice ya_54 yn_54 yc_54) ∧
        ((∀ u55 : World, Below w51.heap.size w51 u55 → Go.E.CallsD Go.Proofs.Tryd.prog 21 #[.slice ya_54 yn_54 yc_54] u55 fun yv57 u58 => ∃ ya_56 : Option Addr, ∃ yn_56 : Nat, ∃ yc_56 : Nat, yv57 = .slice ya_56 yn_56 yc_56 ∧ F52 4 (.slice ya_56 yn_56 yc_56) u58 ∧ Below u55.heap.size u55 u58) ∧
          (∀ ya_59 : Option Addr, ∀ yn_59 : Nat, ∀ yc_59 : Nat, (∃ u, Below w51.heap.size w51 u ∧ F52 4 (.slice ya_59 yn_59 yc_59) u) →
          (∀ u60 : World, Below w51.heap.size w51 u60 → F52 6 (.pointer (some (na u60))) (u60.alloc (.cells #[.int .i64 0, .slice none 0 0] 24))) ∧
            (∀ q61 : Addr, (∃ u, Below w51.heap.size w51 u ∧ F52 6 (.pointer (some q61)) u) →
            ∀ u62 : World, Below w51.heap.size w51 u62 → F52 4 (.slice ya_59 yn_59 yc_59) u62 → F52 6 (.pointer (some q61)) u62 → 
              okSt u62 (q61.add 0) ∧
                (nw (u62.setCell (q61.add 0) (.int .i64 yx_53)) fun w63 =>
                okSt w63 (q61.add 1) ∧
                  (nw (w63.setCell (q61.add 1) (.slice ya_59 yn_59 yc_59)) fun w64 =>
                  ∃ yx_65 : Int, w64.cell? (q61.add 0) = some (.int .i64 yx_65) ∧
                    (∃ ya_66 : Option Addr, ∃ yn_66 : Nat, ∃ yc_66 : Nat, w64.cell? (q61.add 1) = some (.slice ya_66 yn_66 yc_66) ∧
                      (Go.E.CallsD Go.Proofs.Tryd.prog 18 #[.agg #[.int .i64 yx_65, .slice ya_66 yn_66 yc_66]] w64 fun yv67 u68 =>
                        ∃ ya_69_0 : Option Addr, ∃ yn_69_0 : Nat, ∃ yc_69_0 : Nat, ∃ yx_69_1 : Int, yv67 = .tuple #[.slice ya_69_0 yn_69_0 yc_69_0, .int .i64 yx_69_1] ∧
                          (∃ yx_70 : Int, u68.cell? ((na w).add 0) = some (.int .i64 yx_70) ∧
                            (∃ ya_71 : Option Addr, ∃ yn_71 : Nat, ∃ yc_71 : Nat, u68.cell? ((na w).add 1) = some (.slice ya_71 yn_71 yc_71) ∧
                              (Go.E.CallsD Go.Proofs.Tryd.prog 23 #[.agg #[.int .i64 yx_70, .slice ya_71 yn_71 yc_71]] u68 fun yv72 u73 =>
                                ∃ ya_74_0 : Option Addr, ∃ yn_74_0 : Nat, ∃ yc_74_0 : Nat, ∃ yx_74_1 : Int, yv72 = .tuple #[.slice ya_74_0 yn_74_0 yc_74_0, .int .i64 yx_74_1] ∧
                                  (∃ yx_75 : Int, u73.cell? (q61.add 0) = some (.int .i64 yx_75) ∧
                                    (∃ ya_76 : Option Addr, ∃ yn_76 : Nat, ∃ yc_76 : Nat, u73.cell? (q61.add 1) = some (.slice ya_76 yn_76 yc_76) ∧
                                      (Go.E.CallsD Go.Proofs.Tryd.prog 24 #[.agg #[.int .i64 yx_75, .slice ya_76 yn_76 yc_76]] u73 fun yv77 u78 =>
                                        ∃ ya_79_0 : Option Addr, ∃ yn_79_0 : Nat, ∃ yc_79_0 : Nat, ∃ yx_79_1 : Int, yv77 = .tuple #[.slice ya_79_0 yn_79_0 yc_79_0, .int .i64 yx_79_1] ∧
                                          (∃ yx_80 : Int, u78.cell? ((na w).add 0) = some (.int .i64 yx_80) ∧
                                            (∃ ya_81 : Option Addr, ∃ yn_81 : Nat, ∃ yc_81 : Nat, u78.cell? ((na w).add 1) = some (.slice ya_81 yn_81 yc_81) ∧
                                              (Go.E.CallsD Go.Proofs.Tryd.prog 25 #[.agg #[.int .i64 yx_80, .slice ya_81 yn_81 yc_81]] u78 fun yv82 u83 =>
                                                ∃ ya_84_0 : Option Addr, ∃ yn_84_0 : Nat, ∃ yc_84_0 : Nat, ∃ yx_84_1 : Int, yv82 = .tuple #[.slice ya_84_0 yn_84_0 yc_84_0, .int .i64 yx_84_1] ∧
                                                  (Go.E.CallsD Go.Proofs.Tryd.prog 15 #[] u83 fun yv85 u86 =>
                                                    ∃ yb_87 : Bool, yv85 = .bool yb_87 ∧
                                                      (onBool yb_87
                                                        (Go.E.CallsD Go.Proofs.Tryd.prog 16 #[.slice ya_69_0 yn_69_0 yc_69_0, .slice ya_74_0 yn_74_0 yc_74_0] u86 fun yv88 u89 =>
                                                          ∃ yb_90 : Bool, yv88 = .bool yb_90 ∧
                                                            (onBool yb_90
                                                              (onBool (yx_69_1 == yx_74_1)
                                                                (Go.E.CallsD Go.Proofs.Tryd.prog 26 #[.slice ya_79_0 yn_79_0 yc_79_0, .slice ya_84_0 yn_84_0 yc_84_0] u89 fun yv91 u92 =>
                                                                  ∃ yb_93 : Bool, yv91 = .bool yb_93 ∧
                                                                    (onBool yb_93
                                                                      (onBool (yx_79_1 == yx_84_1)
                                                                        (∃ yx_94 : Int, u92.cell? (q61.add 0) = some (.int .i64 yx_94) ∧
                                                                          (∃ ya_95 : Option Addr, ∃ yn_95 : Nat, ∃ yc_95 : Nat, u92.cell? (q61.add 1) = some (.slice ya_95 yn_95 yc_95) ∧
                                                                            (∃ yx_96 : Int, u92.cell? ((na w).add 0) = some (.int .i64 yx_96) ∧
                                                                              (∃ ya_97 : Option Addr, ∃ yn_97 : Nat, ∃ yc_97 : Nat, u92.cell? ((na w).add 1) = some (.slice ya_97 yn_97 yc_97) ∧
                                                                                (Go.E.CallsD Go.Proofs.Tryd.prog 27 #[.agg #[.int .i64 yx_94, .slice ya_95 yn_95 yc_95], .agg #[.int .i64 yx_96, .slice ya_97 yn_97 yc_97]] u92 fun yv98 u99 =>
                                                                                  ∃ yb_100 : Bool, yv98 = .bool yb_100 ∧
                                                                                    (R (.bool yb_100) u99))))))
                                                                        (R (.bool false) u92))
                                                                      (R (.bool false) u92)))
                                                                (R (.bool false) u89))
                                                              (R (.bool false) u89)))
                                                        (R (.bool false) u86)))))))))))))))))))))
def thicketlaw13_MaskMarks (R : Value → World → Prop) (x0_0 : Int) (a0_1 : Option Addr) (n0_1 : Nat) (c0_1 : Nat) (w : World) : Prop := thicketlaw13_MaskMarks.g0 R x0_0 a0_1 n0_1 c0_1 w
theorem thicketlaw13_MaskMarks.root0 (R : Value → World → Prop) (x0_0 : Int) (a0_1 : Option Addr) (n0_1 : Nat) (c0_1 : Nat) (w : World) : fnN Go.Proofs.Tryd.prog Go.Proofs.Tryd.f5 thicketlaw13_MaskMarks.an #[.agg #[.int .i64 x0_0, .slice a0_1 n0_1 c0_1]] w R = thicketlaw13_MaskMarks.g0 R x0_0 a0_1 n0_1 c0_1 w := by kernel_rfl
theorem thicketlaw13_MaskMarks.calls {R : Value → World → Prop} {x0_0 : Int} {a0_1 : Option Addr} {n0_1 : Nat} {c0_1 : Nat} {w : World} (h : thicketlaw13_MaskMarks R x0_0 a0_1 n0_1 c0_1 w) : Go.E.CallsD Go.Proofs.Tryd.prog 5 #[.agg #[.int .i64 x0_0, .slice a0_1 n0_1 c0_1]] w R := by
  refine callsD_of (n := thicketlaw13_MaskMarks.an) M_follows M_sizes Go.Proofs.Tryd.func5 (by rfl) ?_
  rw [thicketlaw13_MaskMarks.root0]
  unfold thicketlaw13_MaskMarks at h
  exact h
end Go.Mir
