/- Part of a proof of laws of the seat Ytfcablfoenhiiaa: functions' weakest preconditions, each checked by the kernel, and contracts out of them; no conditions. -/
import Derived.Test.YtfcablfoenhiiaaLM
import Derived.Test.YtfcablfoenhiiaaProg
import Derived.KernelRfl
set_option linter.unusedVariables false
set_option linter.unusedSimpArgs false
namespace Go.Mir
open Go Go.E Go.RowKit
-- thicket/thicketlaw18.begins
def thicketlaw18_begins.an : An := An.nil
def thicketlaw18_begins.g0 (R : Value → World → Prop) (w : World) : Prop :=
  nw (w.alloc (.cells #[.float .f64 4607182418800017408, .float .f64 4611686018427387904] 22)) fun w64 =>
  nw (w64.alloc (.cells #[.float .f64 4613937818241073152, .float .f64 4616189618054758400] 22)) fun w65 =>
  nw (w65.alloc (.cells #[.slice (some (na w)) 2 2, .slice (some (na w64)) 2 2] 48)) fun w66 =>
  Go.E.CallsD Go.Proofs.Try.prog 15 #[.slice (some (na w65)) 2 2, .int .i64 2] w66 fun v67 u68 =>
    ∃ ya_69_0 : Option Addr, ∃ yn_69_0 : Nat, ∃ yc_69_0 : Nat, ∃ yx_69_1 : Int, v67 = .tuple #[.slice ya_69_0 yn_69_0 yc_69_0, .int .i64 yx_69_1] ∧
      (nw (u68.alloc (.cells #[.float .f64 0, .float .f64 0, .float .f64 0, .float .f64 0, .float .f64 0, .float .f64 0, .float .f64 0, .float .f64 0] 24)) fun w70 =>
      okSt w70 ((na u68).add 0) ∧
        (nw (w70.setCell ((na u68).add 0) (.float .f64 4607182418800017408)) fun w71 =>
        okSt w71 ((na u68).add 1) ∧
          (nw (w71.setCell ((na u68).add 1) (.float .f64 4611686018427387904)) fun w72 =>
          okSt w72 ((na u68).add 2) ∧
            (nw (w72.setCell ((na u68).add 2) (.float .f64 4613937818241073152)) fun w73 =>
            okSt w73 ((na u68).add 3) ∧
              (nw (w73.setCell ((na u68).add 3) (.float .f64 4616189618054758400)) fun w74 =>
              okSt w74 ((na u68).add 4) ∧
                (nw (w74.setCell ((na u68).add 4) (.float .f64 4617315517961601024)) fun w75 =>
                okSt w75 ((na u68).add 5) ∧
                  (nw (w75.setCell ((na u68).add 5) (.float .f64 4618441417868443648)) fun w76 =>
                  okSt w76 ((na u68).add 6) ∧
                    (nw (w76.setCell ((na u68).add 6) (.float .f64 4619567317775286272)) fun w77 =>
                    okSt w77 ((na u68).add 7) ∧
                      (nw (w77.setCell ((na u68).add 7) (.float .f64 4620693217682128896)) fun w78 =>
                      onBool (yx_69_1 == 0)
                        (onBool ((yn_69_0 : Int) == 1)
                          (optN ya_69_0 fun p79 =>
                          if (0 : Int) ≤ 0 ∧ 0 < (yn_69_0 : Int) then
                            ∃ ya_80 : Option Addr, ∃ yn_80 : Nat, ∃ yc_80 : Nat, w78.cell? (p79.add 0) = some (.slice ya_80 yn_80 yc_80) ∧
                              (onBool ((yn_80 : Int) == 2)
                                (optN ya_69_0 fun p81 =>
                                if (0 : Int) ≤ 0 ∧ 0 < (yn_69_0 : Int) then
                                  ∃ ya_82 : Option Addr, ∃ yn_82 : Nat, ∃ yc_82 : Nat, w78.cell? (p81.add 0) = some (.slice ya_82 yn_82 yc_82) ∧
                                    (optN ya_82 fun p83 =>
                                    if (0 : Int) ≤ 0 ∧ 0 < (yn_82 : Int) then
                                      ∃ yf_84 : Nat, w78.cell? ((p83.add 0).add 0) = some (.float .f64 yf_84) ∧
                                        (∃ yf_85 : Nat, w78.cell? ((p83.add 0).add 1) = some (.float .f64 yf_85) ∧
                                          (∃ yf_86 : Nat, w78.cell? ((p83.add 0).add 2) = some (.float .f64 yf_86) ∧
                                            (∃ yf_87 : Nat, w78.cell? ((p83.add 0).add 3) = some (.float .f64 yf_87) ∧
                                              (∃ yf_88 : Nat, w78.cell? ((p83.add 0).add 4) = some (.float .f64 yf_88) ∧
                                                (∃ yf_89 : Nat, w78.cell? ((p83.add 0).add 5) = some (.float .f64 yf_89) ∧
                                                  (∃ yf_90 : Nat, w78.cell? ((p83.add 0).add 6) = some (.float .f64 yf_90) ∧
                                                    (∃ yf_91 : Nat, w78.cell? ((p83.add 0).add 7) = some (.float .f64 yf_91) ∧
                                                      (∃ b92 : Bool, (∀ w, (Op.equal 24 (.agg #[.float .f64 yf_84, .float .f64 yf_85, .float .f64 yf_86, .float .f64 yf_87, .float .f64 yf_88, .float .f64 yf_89, .float .f64 yf_90, .float .f64 yf_91]) (.agg #[.float .f64 4607182418800017408, .float .f64 4613937818241073152, .float .f64 4613937818241073152, .float .f64 4613937818241073152, .float .f64 4613937818241073152, .float .f64 4613937818241073152, .float .f64 4613937818241073152, .float .f64 4613937818241073152])).run Go.Proofs.Try.prog w = .ok b92 w) ∧
                                                        (onBool b92
                                                          (∃ yf_93 : Nat, w78.cell? ((na u68).add 0) = some (.float .f64 yf_93) ∧
                                                            (∃ yf_94 : Nat, w78.cell? ((na u68).add 1) = some (.float .f64 yf_94) ∧
                                                              (∃ yf_95 : Nat, w78.cell? ((na u68).add 2) = some (.float .f64 yf_95) ∧
                                                                (∃ yf_96 : Nat, w78.cell? ((na u68).add 3) = some (.float .f64 yf_96) ∧
                                                                  (∃ yf_97 : Nat, w78.cell? ((na u68).add 4) = some (.float .f64 yf_97) ∧
                                                                    (∃ yf_98 : Nat, w78.cell? ((na u68).add 5) = some (.float .f64 yf_98) ∧
                                                                      (∃ yf_99 : Nat, w78.cell? ((na u68).add 6) = some (.float .f64 yf_99) ∧
                                                                        (∃ yf_100 : Nat, w78.cell? ((na u68).add 7) = some (.float .f64 yf_100) ∧
                                                                          (Go.E.CallsD Go.Proofs.Try.prog 7 #[.agg #[.float .f64 yf_93, .float .f64 yf_94, .float .f64 yf_95, .float .f64 yf_96, .float .f64 yf_97, .float .f64 yf_98, .float .f64 yf_99, .float .f64 yf_100], .float .f64 4618441417868443648] w78 fun v101 u102 =>
                                                                            ∃ yx_103 : Int, v101 = .int .u8 yx_103 ∧
                                                                              (onBool (yx_103 == 192)
                                                                                (∃ yf_104 : Nat, u102.cell? ((na u68).add 0) = some (.float .f64 yf_104) ∧
                                                                                  (∃ yf_105 : Nat, u102.cell? ((na u68).add 1) = some (.float .f64 yf_105) ∧
                                                                                    (∃ yf_106 : Nat, u102.cell? ((na u68).add 2) = some (.float .f64 yf_106) ∧
                                                                                      (∃ yf_107 : Nat, u102.cell? ((na u68).add 3) = some (.float .f64 yf_107) ∧
                                                                                        (∃ yf_108 : Nat, u102.cell? ((na u68).add 4) = some (.float .f64 yf_108) ∧
                                                                                          (∃ yf_109 : Nat, u102.cell? ((na u68).add 5) = some (.float .f64 yf_109) ∧
                                                                                            (∃ yf_110 : Nat, u102.cell? ((na u68).add 6) = some (.float .f64 yf_110) ∧
                                                                                              (∃ yf_111 : Nat, u102.cell? ((na u68).add 7) = some (.float .f64 yf_111) ∧
                                                                                                (nw (u102.alloc (.cells #[.int .i64 1, .int .i64 3] 3)) fun w112 =>
                                                                                                Go.E.CallsD Go.Proofs.Try.prog 9 #[.agg #[.float .f64 yf_104, .float .f64 yf_105, .float .f64 yf_106, .float .f64 yf_107, .float .f64 yf_108, .float .f64 yf_109, .float .f64 yf_110, .float .f64 yf_111], .slice (some (na u102)) 2 2] w112 fun v113 u114 =>
                                                                                                  ∃ yx_115 : Int, v113 = .int .u8 yx_115 ∧
                                                                                                    (onBool (yx_115 == 250)
                                                                                                      (∃ yf_116 : Nat, u114.cell? ((na u68).add 0) = some (.float .f64 yf_116) ∧
                                                                                                        (∃ yf_117 : Nat, u114.cell? ((na u68).add 1) = some (.float .f64 yf_117) ∧
                                                                                                          (∃ yf_118 : Nat, u114.cell? ((na u68).add 2) = some (.float .f64 yf_118) ∧
                                                                                                            (∃ yf_119 : Nat, u114.cell? ((na u68).add 3) = some (.float .f64 yf_119) ∧
                                                                                                              (∃ yf_120 : Nat, u114.cell? ((na u68).add 4) = some (.float .f64 yf_120) ∧
                                                                                                                (∃ yf_121 : Nat, u114.cell? ((na u68).add 5) = some (.float .f64 yf_121) ∧
                                                                                                                  (∃ yf_122 : Nat, u114.cell? ((na u68).add 6) = some (.float .f64 yf_122) ∧
                                                                                                                    (∃ yf_123 : Nat, u114.cell? ((na u68).add 7) = some (.float .f64 yf_123) ∧
                                                                                                                      (Go.E.CallsD Go.Proofs.Try.prog 11 #[.agg #[.float .f64 yf_116, .float .f64 yf_117, .float .f64 yf_118, .float .f64 yf_119, .float .f64 yf_120, .float .f64 yf_121, .float .f64 yf_122, .float .f64 yf_123]] u114 fun v124 u125 =>
                                                                                                                        ∃ yx_126 : Int, v124 = .int .u8 yx_126 ∧
                                                                                                                          (R (.bool (yx_126 == 0)) u125))))))))))
                                                                                                      (R (.bool false) u114)))))))))))
                                                                                (R (.bool false) u102)))))))))))
                                                          (R (.bool false) w78)))))))))) else False) else False)
                                (R (.bool false) w78)) else False)
                          (R (.bool false) w78))
                        (R (.bool false) w78))))))))))
def thicketlaw18_begins (R : Value → World → Prop) (w : World) : Prop := thicketlaw18_begins.g0 R  w
theorem thicketlaw18_begins.root0 (R : Value → World → Prop) (w : World) : fnN Go.Proofs.Try.prog Go.Proofs.Try.f21 thicketlaw18_begins.an #[] w R = thicketlaw18_begins.g0 R  w := by kernel_rfl
theorem thicketlaw18_begins.calls {R : Value → World → Prop} {w : World} (h : thicketlaw18_begins R  w) : Go.E.CallsD Go.Proofs.Try.prog 21 #[] w R := by
  refine callsD_of (n := thicketlaw18_begins.an) M_follows M_sizes Go.Proofs.Try.func21 (by rfl) ?_
  rw [thicketlaw18_begins.root0]
  unfold thicketlaw18_begins at h
  exact h
-- thicket/thicketlaw18.LanesApart
def thicketlaw18_LanesApart.an : An := (.mk none .nil (.mk none .nil (.mk none .nil (.mk none .nil (.mk none .nil (.mk none (.mk none .nil (.mk none (.mk (some [1, 2, 3, 4, 9, 10, 11]) (.mk none .nil (.mk none (.mk none (.mk none .nil (.mk none (.mk none .nil (.mk none (.mk (some [1, 2, 3, 4, 9, 10, 11, 12, 13]) .nil .nil) .nil)) .nil)) .nil) .nil)) .nil) .nil)) (.mk (some [2, 3, 4]) .nil .nil)))))))
def thicketlaw18_LanesApart.g0 (R : Value → World → Prop) (e26 : (Option Addr) → Nat → Nat → Nat → Nat → (Option Addr) → Int → Int → Int → World → Prop) (f0_0 : Nat) (f0_1 : Nat) (f0_2 : Nat) (f0_3 : Nat) (f0_4 : Nat) (f0_5 : Nat) (f0_6 : Nat) (f0_7 : Nat) (a1 : Option Addr) (n1 : Nat) (c1 : Nat) (f2 : Nat) (f3 : Nat) (w : World) : Prop :=
  nw (w.alloc (.cells #[.float .f64 f0_0, .float .f64 f0_1, .float .f64 f0_2, .float .f64 f0_3, .float .f64 f0_4, .float .f64 f0_5, .float .f64 f0_6, .float .f64 f0_7] 24)) fun w64 =>
  Go.E.CallsD Go.Proofs.Try.prog 21 #[] w64 fun v65 u66 =>
    ∃ yb_67 : Bool, v65 = .bool yb_67 ∧
      (onBool (!yb_67)
        (R (.bool false) u66)
        (∃ yf_68 : Nat, u66.cell? ((na w).add 0) = some (.float .f64 yf_68) ∧
          (∃ yf_69 : Nat, u66.cell? ((na w).add 1) = some (.float .f64 yf_69) ∧
            (∃ yf_70 : Nat, u66.cell? ((na w).add 2) = some (.float .f64 yf_70) ∧
              (∃ yf_71 : Nat, u66.cell? ((na w).add 3) = some (.float .f64 yf_71) ∧
                (∃ yf_72 : Nat, u66.cell? ((na w).add 4) = some (.float .f64 yf_72) ∧
                  (∃ yf_73 : Nat, u66.cell? ((na w).add 5) = some (.float .f64 yf_73) ∧
                    (∃ yf_74 : Nat, u66.cell? ((na w).add 6) = some (.float .f64 yf_74) ∧
                      (∃ yf_75 : Nat, u66.cell? ((na w).add 7) = some (.float .f64 yf_75) ∧
                        (Go.E.CallsD Go.Proofs.Try.prog 11 #[.agg #[.float .f64 yf_68, .float .f64 yf_69, .float .f64 yf_70, .float .f64 yf_71, .float .f64 yf_72, .float .f64 yf_73, .float .f64 yf_74, .float .f64 yf_75]] u66 fun v76 u77 =>
                          ∃ yx_78 : Int, v76 = .int .u8 yx_78 ∧
                            (∃ yf_79 : Nat, u77.cell? ((na w).add 0) = some (.float .f64 yf_79) ∧
                              (∃ yf_80 : Nat, u77.cell? ((na w).add 1) = some (.float .f64 yf_80) ∧
                                (∃ yf_81 : Nat, u77.cell? ((na w).add 2) = some (.float .f64 yf_81) ∧
                                  (∃ yf_82 : Nat, u77.cell? ((na w).add 3) = some (.float .f64 yf_82) ∧
                                    (∃ yf_83 : Nat, u77.cell? ((na w).add 4) = some (.float .f64 yf_83) ∧
                                      (∃ yf_84 : Nat, u77.cell? ((na w).add 5) = some (.float .f64 yf_84) ∧
                                        (∃ yf_85 : Nat, u77.cell? ((na w).add 6) = some (.float .f64 yf_85) ∧
                                          (∃ yf_86 : Nat, u77.cell? ((na w).add 7) = some (.float .f64 yf_86) ∧
                                            (Go.E.CallsD Go.Proofs.Try.prog 9 #[.agg #[.float .f64 yf_79, .float .f64 yf_80, .float .f64 yf_81, .float .f64 yf_82, .float .f64 yf_83, .float .f64 yf_84, .float .f64 yf_85, .float .f64 yf_86], .slice a1 n1 c1] u77 fun v87 u88 =>
                                              ∃ yx_89 : Int, v87 = .int .u8 yx_89 ∧
                                                (onBool ((bitsI .and .u8 yx_78 yx_89) != 0)
                                                  (R (.bool false) u88)
                                                  (e26 a1 n1 c1 f2 f3 (some (na w)) yx_78 yx_89 0 u88)))))))))))))))))))))
def thicketlaw18_LanesApart.g26 (R : Value → World → Prop) (e41 : (Option Addr) → Nat → Nat → Nat → Nat → (Option Addr) → Int → Int → Int → Bool → Int → World → Prop) (j66 : Nat → Nat → (Option Addr) → World → Prop) (a1 : Option Addr) (n1 : Nat) (c1 : Nat) (f2 : Nat) (f3 : Nat) (p4 : Option Addr) (x9 : Int) (x10 : Int) (x11 : Int) (w : World) : Prop :=
  onBool (decide (x11 < 8))
    (e41 a1 n1 c1 f2 f3 p4 x9 x10 x11 false 0 w)
    (onBool (FloatKind.f64.format.order f2 f3 == some .gt)
      (j66 f3 f2 p4 w)
      (j66 f2 f3 p4 w))
def thicketlaw18_LanesApart.g41 (R : Value → World → Prop) (b26 : (Option Addr) → Nat → Nat → Nat → Nat → (Option Addr) → Int → Int → Int → World → Prop) (b41 : (Option Addr) → Nat → Nat → Nat → Nat → (Option Addr) → Int → Int → Int → Bool → Int → World → Prop) (a1 : Option Addr) (n1 : Nat) (c1 : Nat) (f2 : Nat) (f3 : Nat) (p4 : Option Addr) (x9 : Int) (x10 : Int) (x11 : Int) (b12 : Bool) (x13 : Int) (w : World) : Prop :=
  onBool (decide (x13 < (n1 : Int)))
    (onBool b12
      (b41 a1 n1 c1 f2 f3 p4 x9 x10 x11 true (IntKind.i64.wrap (x13 + 1)) w)
      (optN a1 fun p90 =>
      if (0 : Int) ≤ x13 ∧ x13 < (n1 : Int) then
        ∃ yx_91 : Int, w.cell? (p90.add (x13.toNat * 1)) = some (.int .i64 yx_91) ∧
          (optN p4 fun p92 =>
          if (0 : Int) ≤ x11 ∧ x11 < (8 : Int) then
            ∃ yf_93 : Nat, w.cell? (p92.add (x11.toNat * 1)) = some (.float .f64 yf_93) ∧
              (b41 a1 n1 c1 f2 f3 p4 x9 x10 x11 (FloatKind.f64.format.order (FloatKind.f64.nearest yx_91) yf_93 == some .eq) (IntKind.i64.wrap (x13 + 1)) w) else False) else False))
    (if IntKind.u64.wrap x11 < 0 then False else
      onBool (!(b12 == ((bitsI .and .u8 (Int.fdiv (bitsI .or .u8 x9 x10) (2 ^ (min (IntKind.u64.wrap x11).toNat 8))) 1) == 0)))
        (R (.bool false) w)
        (optN p4 fun p94 =>
        if (0 : Int) ≤ x11 ∧ x11 < (8 : Int) then
          ∃ yf_95 : Nat, w.cell? (p94.add (x11.toNat * 1)) = some (.float .f64 yf_95) ∧
            (optN p4 fun p96 =>
            if (0 : Int) ≤ x11 ∧ x11 < (8 : Int) then
              ∃ yf_97 : Nat, w.cell? (p96.add (x11.toNat * 1)) = some (.float .f64 yf_97) ∧
                (if IntKind.u64.wrap x11 < 0 then False else
                  onBool (!((FloatKind.f64.format.order yf_95 yf_97 != some .eq) == ((bitsI .and .u8 (Int.fdiv x9 (2 ^ (min (IntKind.u64.wrap x11).toNat 8))) 1) == 1)))
                    (R (.bool false) w)
                    (b26 a1 n1 c1 f2 f3 p4 x9 x10 (IntKind.i64.wrap (x11 + 1)) w)) else False) else False))
def thicketlaw18_LanesApart.g66 (R : Value → World → Prop) (f2 : Nat) (f3 : Nat) (p4 : Option Addr) (w : World) : Prop :=
  onBool (FloatKind.f64.format.order f2 f2 != some .eq)
    (∀ u98 : World, Below w.heap.size w u98 →
      R (.bool true) u98)
    (onBool (FloatKind.f64.format.order f3 f3 != some .eq)
      (∀ u99 : World, Below w.heap.size w u99 →
        R (.bool true) u99)
      (optN p4 fun p100 =>
      ∃ yf_101 : Nat, w.cell? (p100.add 0) = some (.float .f64 yf_101) ∧
        (∃ yf_102 : Nat, w.cell? (p100.add 1) = some (.float .f64 yf_102) ∧
          (∃ yf_103 : Nat, w.cell? (p100.add 2) = some (.float .f64 yf_103) ∧
            (∃ yf_104 : Nat, w.cell? (p100.add 3) = some (.float .f64 yf_104) ∧
              (∃ yf_105 : Nat, w.cell? (p100.add 4) = some (.float .f64 yf_105) ∧
                (∃ yf_106 : Nat, w.cell? (p100.add 5) = some (.float .f64 yf_106) ∧
                  (∃ yf_107 : Nat, w.cell? (p100.add 6) = some (.float .f64 yf_107) ∧
                    (∃ yf_108 : Nat, w.cell? (p100.add 7) = some (.float .f64 yf_108) ∧
                      (∃ yx_109 : Int, (∀ u110 : World, Below w.heap.size w u110 → Go.E.CallsD Go.Proofs.Try.prog 7 #[.agg #[.float .f64 yf_101, .float .f64 yf_102, .float .f64 yf_103, .float .f64 yf_104, .float .f64 yf_105, .float .f64 yf_106, .float .f64 yf_107, .float .f64 yf_108], .float .f64 f3] u110 fun v111 u112 => v111 = .int .u8 yx_109 ∧ Below w.heap.size w u112) ∧
                        (optN p4 fun p113 =>
                        ∃ yf_114 : Nat, w.cell? (p113.add 0) = some (.float .f64 yf_114) ∧
                          (∃ yf_115 : Nat, w.cell? (p113.add 1) = some (.float .f64 yf_115) ∧
                            (∃ yf_116 : Nat, w.cell? (p113.add 2) = some (.float .f64 yf_116) ∧
                              (∃ yf_117 : Nat, w.cell? (p113.add 3) = some (.float .f64 yf_117) ∧
                                (∃ yf_118 : Nat, w.cell? (p113.add 4) = some (.float .f64 yf_118) ∧
                                  (∃ yf_119 : Nat, w.cell? (p113.add 5) = some (.float .f64 yf_119) ∧
                                    (∃ yf_120 : Nat, w.cell? (p113.add 6) = some (.float .f64 yf_120) ∧
                                      (∃ yf_121 : Nat, w.cell? (p113.add 7) = some (.float .f64 yf_121) ∧
                                        (∃ yx_122 : Int, (∀ u123 : World, Below w.heap.size w u123 → Go.E.CallsD Go.Proofs.Try.prog 7 #[.agg #[.float .f64 yf_114, .float .f64 yf_115, .float .f64 yf_116, .float .f64 yf_117, .float .f64 yf_118, .float .f64 yf_119, .float .f64 yf_120, .float .f64 yf_121], .float .f64 f2] u123 fun v124 u125 => v124 = .int .u8 yx_122 ∧ Below w.heap.size w u125) ∧
                                          (∀ u126 : World, Below w.heap.size w u126 →
                                            R (.bool ((bitsI .andNot .u8 yx_109 yx_122) == 0)) u126))))))))))))))))))))
def thicketlaw18_LanesApart.q2 (R : Value → World → Prop) : Exit → Act → World → Prop := (fin Go.Proofs.Try.prog Go.Proofs.Try.f5 R)
def thicketlaw18_LanesApart.q10 (R : Value → World → Prop) : Exit → Act → World → Prop := (thicketlaw18_LanesApart.q2 R)
def thicketlaw18_LanesApart.q12 (R : Value → World → Prop) : Exit → Act → World → Prop := (thicketlaw18_LanesApart.q10 R)
def thicketlaw18_LanesApart.q14 (R : Value → World → Prop) : Exit → Act → World → Prop := (thicketlaw18_LanesApart.q12 R)
def thicketlaw18_LanesApart.q22 (R : Value → World → Prop) : Exit → Act → World → Prop := (thicketlaw18_LanesApart.q14 R)
def thicketlaw18_LanesApart.q23 (R : Value → World → Prop) : Exit → Act → World → Prop := Exit.then (startN none (codeN Go.Proofs.Try.prog (sub (codeOf Go.Proofs.Try.f5) [1, 1, 1, 1, 1, 1]) (nsub thicketlaw18_LanesApart.an [1, 1, 1, 1, 1, 1]) (thicketlaw18_LanesApart.q22 R))) (thicketlaw18_LanesApart.q22 R)
def thicketlaw18_LanesApart.q25 (R : Value → World → Prop) : Exit → Act → World → Prop := (thicketlaw18_LanesApart.q23 R)
def thicketlaw18_LanesApart.q26 (R : Value → World → Prop) : Exit → Act → World → Prop := Exit.inBlock 0 (thicketlaw18_LanesApart.q25 R)
def thicketlaw18_LanesApart.rl26 (R : Value → World → Prop) (k : Nat) (a1 : Option Addr) (n1 : Nat) (c1 : Nat) (f2 : Nat) (f3 : Nat) (p4 : Option Addr) (x9 : Int) (x10 : Int) (x11 : Int) (w : World) : Prop := loopN [1, 2, 3, 4, 9, 10, 11] (codeN Go.Proofs.Try.prog (sub (codeOf Go.Proofs.Try.f5) [1, 1, 1, 1, 1, 0, 1, 0, 0]) (nsub thicketlaw18_LanesApart.an [1, 1, 1, 1, 1, 0, 1, 0, 0])) (thicketlaw18_LanesApart.q26 R) k ⟨#[undef, .slice a1 n1 c1, .float .f64 f2, .float .f64 f3, .pointer p4, undef, undef, undef, undef, .int .u8 x9, .int .u8 x10, .int .i64 x11, undef, undef, undef, undef, undef, undef, undef, undef, undef, undef, undef, undef, undef, undef, undef, undef, undef, undef, undef, undef, undef, undef, undef, undef, undef, undef, undef, undef, undef, undef, undef, undef, undef, undef, undef, undef, undef, undef, undef, undef, undef, undef, undef, undef, undef, undef, undef, undef, undef, undef, undef, undef, undef, undef, undef, undef, undef, undef, undef, undef, undef, undef, undef, undef, undef, undef, undef, undef, undef, undef, undef, undef, undef, undef, undef, undef, undef, undef, undef, undef, undef, undef, undef, undef], []⟩ w
def thicketlaw18_LanesApart.re26 (R : Value → World → Prop) (a1 : Option Addr) (n1 : Nat) (c1 : Nat) (f2 : Nat) (f3 : Nat) (p4 : Option Addr) (x9 : Int) (x10 : Int) (x11 : Int) (w : World) : Prop := ∃ k, thicketlaw18_LanesApart.rl26 R k a1 n1 c1 f2 f3 p4 x9 x10 x11 w
def thicketlaw18_LanesApart.q27 (R : Value → World → Prop) (k26 : Nat) : Exit → Act → World → Prop := Exit.then (fun a w => loopN [1, 2, 3, 4, 9, 10, 11] (codeN Go.Proofs.Try.prog (sub (codeOf Go.Proofs.Try.f5) [1, 1, 1, 1, 1, 0, 1, 0, 0]) (nsub thicketlaw18_LanesApart.an [1, 1, 1, 1, 1, 0, 1, 0, 0])) (thicketlaw18_LanesApart.q26 R) k26 (clr [1, 2, 3, 4, 9, 10, 11] a) w) (thicketlaw18_LanesApart.q26 R)
def thicketlaw18_LanesApart.q33 (R : Value → World → Prop) (k26 : Nat) : Exit → Act → World → Prop := (thicketlaw18_LanesApart.q27 R k26)
def thicketlaw18_LanesApart.q34 (R : Value → World → Prop) (k26 : Nat) : Exit → Act → World → Prop := Exit.then (startN none (codeN Go.Proofs.Try.prog (sub (codeOf Go.Proofs.Try.f5) [1, 1, 1, 1, 1, 0, 1, 0, 0, 1, 1]) (nsub thicketlaw18_LanesApart.an [1, 1, 1, 1, 1, 0, 1, 0, 0, 1, 1]) (thicketlaw18_LanesApart.q33 R k26))) (thicketlaw18_LanesApart.q33 R k26)
def thicketlaw18_LanesApart.q35 (R : Value → World → Prop) (k26 : Nat) : Exit → Act → World → Prop := Exit.inBlock 1 (thicketlaw18_LanesApart.q34 R k26)
def thicketlaw18_LanesApart.q37 (R : Value → World → Prop) (k26 : Nat) : Exit → Act → World → Prop := (thicketlaw18_LanesApart.q35 R k26)
def thicketlaw18_LanesApart.q38 (R : Value → World → Prop) (k26 : Nat) : Exit → Act → World → Prop := Exit.then (startN none (codeN Go.Proofs.Try.prog (sub (codeOf Go.Proofs.Try.f5) [1, 1, 1, 1, 1, 0, 1, 0, 0, 1, 0, 0, 1, 1]) (nsub thicketlaw18_LanesApart.an [1, 1, 1, 1, 1, 0, 1, 0, 0, 1, 0, 0, 1, 1]) (thicketlaw18_LanesApart.q37 R k26))) (thicketlaw18_LanesApart.q37 R k26)
def thicketlaw18_LanesApart.q40 (R : Value → World → Prop) (k26 : Nat) : Exit → Act → World → Prop := (thicketlaw18_LanesApart.q38 R k26)
def thicketlaw18_LanesApart.q41 (R : Value → World → Prop) (k26 : Nat) : Exit → Act → World → Prop := Exit.inBlock 2 (thicketlaw18_LanesApart.q40 R k26)
def thicketlaw18_LanesApart.rl41 (R : Value → World → Prop) (k26 : Nat) (k : Nat) (a1 : Option Addr) (n1 : Nat) (c1 : Nat) (f2 : Nat) (f3 : Nat) (p4 : Option Addr) (x9 : Int) (x10 : Int) (x11 : Int) (b12 : Bool) (x13 : Int) (w : World) : Prop := loopN [1, 2, 3, 4, 9, 10, 11, 12, 13] (codeN Go.Proofs.Try.prog (sub (codeOf Go.Proofs.Try.f5) [1, 1, 1, 1, 1, 0, 1, 0, 0, 1, 0, 0, 1, 0, 1, 0, 0]) (nsub thicketlaw18_LanesApart.an [1, 1, 1, 1, 1, 0, 1, 0, 0, 1, 0, 0, 1, 0, 1, 0, 0])) (thicketlaw18_LanesApart.q41 R k26) k ⟨#[undef, .slice a1 n1 c1, .float .f64 f2, .float .f64 f3, .pointer p4, undef, undef, undef, undef, .int .u8 x9, .int .u8 x10, .int .i64 x11, .bool b12, .int .i64 x13, undef, undef, undef, undef, undef, undef, undef, undef, undef, undef, undef, undef, undef, undef, undef, undef, undef, undef, undef, undef, undef, undef, undef, undef, undef, undef, undef, undef, undef, undef, undef, undef, undef, undef, undef, undef, undef, undef, undef, undef, undef, undef, undef, undef, undef, undef, undef, undef, undef, undef, undef, undef, undef, undef, undef, undef, undef, undef, undef, undef, undef, undef, undef, undef, undef, undef, undef, undef, undef, undef, undef, undef, undef, undef, undef, undef, undef, undef, undef, undef, undef, undef], []⟩ w
def thicketlaw18_LanesApart.re41 (R : Value → World → Prop) (k26 : Nat) (a1 : Option Addr) (n1 : Nat) (c1 : Nat) (f2 : Nat) (f3 : Nat) (p4 : Option Addr) (x9 : Int) (x10 : Int) (x11 : Int) (b12 : Bool) (x13 : Int) (w : World) : Prop := ∃ k, thicketlaw18_LanesApart.rl41 R k26 k a1 n1 c1 f2 f3 p4 x9 x10 x11 b12 x13 w
def thicketlaw18_LanesApart.q60 (R : Value → World → Prop) : Exit → Act → World → Prop := (thicketlaw18_LanesApart.q22 R)
def thicketlaw18_LanesApart.q66 (R : Value → World → Prop) : Exit → Act → World → Prop := (thicketlaw18_LanesApart.q60 R)
def thicketlaw18_LanesApart.rj66 (R : Value → World → Prop) (f2 : Nat) (f3 : Nat) (p4 : Option Addr) (w : World) : Prop := startN (some [2, 3, 4]) (codeN Go.Proofs.Try.prog (sub (codeOf Go.Proofs.Try.f5) [1, 1, 1, 1, 1, 1, 1]) (nsub thicketlaw18_LanesApart.an [1, 1, 1, 1, 1, 1, 1]) (thicketlaw18_LanesApart.q66 R)) ⟨#[undef, undef, .float .f64 f2, .float .f64 f3, .pointer p4, undef, undef, undef, undef, undef, undef, undef, undef, undef, undef, undef, undef, undef, undef, undef, undef, undef, undef, undef, undef, undef, undef, undef, undef, undef, undef, undef, undef, undef, undef, undef, undef, undef, undef, undef, undef, undef, undef, undef, undef, undef, undef, undef, undef, undef, undef, undef, undef, undef, undef, undef, undef, undef, undef, undef, undef, undef, undef, undef, undef, undef, undef, undef, undef, undef, undef, undef, undef, undef, undef, undef, undef, undef, undef, undef, undef, undef, undef, undef, undef, undef, undef, undef, undef, undef, undef, undef, undef, undef, undef, undef], []⟩ w
def thicketlaw18_LanesApart.l41 (R : Value → World → Prop) (b26 : (Option Addr) → Nat → Nat → Nat → Nat → (Option Addr) → Int → Int → Int → World → Prop) : Nat → (Option Addr) → Nat → Nat → Nat → Nat → (Option Addr) → Int → Int → Int → Bool → Int → World → Prop
  | 0, _, _, _, _, _, _, _, _, _, _, _, _ => False
  | k + 1, a1, n1, c1, f2, f3, p4, x9, x10, x11, b12, x13, w => thicketlaw18_LanesApart.g41 R b26 (thicketlaw18_LanesApart.l41 R b26 k) a1 n1 c1 f2 f3 p4 x9 x10 x11 b12 x13 w
def thicketlaw18_LanesApart.e41 (R : Value → World → Prop) (b26 : (Option Addr) → Nat → Nat → Nat → Nat → (Option Addr) → Int → Int → Int → World → Prop) (a1 : Option Addr) (n1 : Nat) (c1 : Nat) (f2 : Nat) (f3 : Nat) (p4 : Option Addr) (x9 : Int) (x10 : Int) (x11 : Int) (b12 : Bool) (x13 : Int) (w : World) : Prop := ∃ k, thicketlaw18_LanesApart.l41 R b26 k a1 n1 c1 f2 f3 p4 x9 x10 x11 b12 x13 w
theorem thicketlaw18_LanesApart.s41 (R : Value → World → Prop) (k26 : Nat) (k : Nat) (a1 : Option Addr) (n1 : Nat) (c1 : Nat) (f2 : Nat) (f3 : Nat) (p4 : Option Addr) (x9 : Int) (x10 : Int) (x11 : Int) (b12 : Bool) (x13 : Int) (w : World) : thicketlaw18_LanesApart.rl41 R k26 (k + 1) a1 n1 c1 f2 f3 p4 x9 x10 x11 b12 x13 w = ∀ _ : Nat → Value, thicketlaw18_LanesApart.g41 R (thicketlaw18_LanesApart.rl26 R k26) (thicketlaw18_LanesApart.rl41 R k26 k) a1 n1 c1 f2 f3 p4 x9 x10 x11 b12 x13 w := by kernel_rfl
theorem thicketlaw18_LanesApart.lq41 (R : Value → World → Prop) (k26 : Nat) (b26 : (Option Addr) → Nat → Nat → Nat → Nat → (Option Addr) → Int → Int → Int → World → Prop) (hb26 : b26 = thicketlaw18_LanesApart.rl26 R k26) : ∀ k, thicketlaw18_LanesApart.l41 R b26 k = thicketlaw18_LanesApart.rl41 R k26 k
  | 0 => by funext a1 n1 c1 f2 f3 p4 x9 x10 x11 b12 x13 w; rfl
  | k + 1 => by
    funext a1 n1 c1 f2 f3 p4 x9 x10 x11 b12 x13 w
    rw [thicketlaw18_LanesApart.s41, forall_const]
    unfold thicketlaw18_LanesApart.l41
    have ih := thicketlaw18_LanesApart.lq41 R k26 b26 hb26 k
    subst hb26
    rw [ih]
    all_goals rfl
theorem thicketlaw18_LanesApart.eq41 (R : Value → World → Prop) (k26 : Nat) (b26 : (Option Addr) → Nat → Nat → Nat → Nat → (Option Addr) → Int → Int → Int → World → Prop) (hb26 : b26 = thicketlaw18_LanesApart.rl26 R k26) : thicketlaw18_LanesApart.e41 R b26 = thicketlaw18_LanesApart.re41 R k26 := by
  funext a1 n1 c1 f2 f3 p4 x9 x10 x11 b12 x13 w
  unfold thicketlaw18_LanesApart.e41 thicketlaw18_LanesApart.re41
  simp only [thicketlaw18_LanesApart.lq41 R k26 b26 hb26]
def thicketlaw18_LanesApart.j66 (R : Value → World → Prop) (f2 : Nat) (f3 : Nat) (p4 : Option Addr) (w : World) : Prop := thicketlaw18_LanesApart.g66 R f2 f3 p4 w
theorem thicketlaw18_LanesApart.s66 (R : Value → World → Prop) (f2 : Nat) (f3 : Nat) (p4 : Option Addr) (w : World) : thicketlaw18_LanesApart.rj66 R f2 f3 p4 w = ∀ _ : Nat → Value, thicketlaw18_LanesApart.g66 R f2 f3 p4 w := by kernel_rfl
theorem thicketlaw18_LanesApart.jq66 (R : Value → World → Prop) : thicketlaw18_LanesApart.j66 R = thicketlaw18_LanesApart.rj66 R := by
    funext f2 f3 p4 w
    rw [thicketlaw18_LanesApart.s66, forall_const]
    unfold thicketlaw18_LanesApart.j66
    all_goals rfl
def thicketlaw18_LanesApart.l26 (R : Value → World → Prop) : Nat → (Option Addr) → Nat → Nat → Nat → Nat → (Option Addr) → Int → Int → Int → World → Prop
  | 0, _, _, _, _, _, _, _, _, _, _ => False
  | k + 1, a1, n1, c1, f2, f3, p4, x9, x10, x11, w => thicketlaw18_LanesApart.g26 R (thicketlaw18_LanesApart.e41 R (thicketlaw18_LanesApart.l26 R k)) (thicketlaw18_LanesApart.j66 R) a1 n1 c1 f2 f3 p4 x9 x10 x11 w
def thicketlaw18_LanesApart.e26 (R : Value → World → Prop) (a1 : Option Addr) (n1 : Nat) (c1 : Nat) (f2 : Nat) (f3 : Nat) (p4 : Option Addr) (x9 : Int) (x10 : Int) (x11 : Int) (w : World) : Prop := ∃ k, thicketlaw18_LanesApart.l26 R k a1 n1 c1 f2 f3 p4 x9 x10 x11 w
theorem thicketlaw18_LanesApart.s26 (R : Value → World → Prop) (k : Nat) (a1 : Option Addr) (n1 : Nat) (c1 : Nat) (f2 : Nat) (f3 : Nat) (p4 : Option Addr) (x9 : Int) (x10 : Int) (x11 : Int) (w : World) : thicketlaw18_LanesApart.rl26 R (k + 1) a1 n1 c1 f2 f3 p4 x9 x10 x11 w = ∀ _ : Nat → Value, thicketlaw18_LanesApart.g26 R (thicketlaw18_LanesApart.re41 R k) (thicketlaw18_LanesApart.rj66 R) a1 n1 c1 f2 f3 p4 x9 x10 x11 w := by kernel_rfl
theorem thicketlaw18_LanesApart.lq26 (R : Value → World → Prop) : ∀ k, thicketlaw18_LanesApart.l26 R k = thicketlaw18_LanesApart.rl26 R k
  | 0 => by funext a1 n1 c1 f2 f3 p4 x9 x10 x11 w; rfl
  | k + 1 => by
    funext a1 n1 c1 f2 f3 p4 x9 x10 x11 w
    rw [thicketlaw18_LanesApart.s26, forall_const]
    unfold thicketlaw18_LanesApart.l26
    have ih := thicketlaw18_LanesApart.lq26 R k
    rw [thicketlaw18_LanesApart.eq41 R k _ ih]
    rw [thicketlaw18_LanesApart.jq66 R]
    all_goals rfl
theorem thicketlaw18_LanesApart.eq26 (R : Value → World → Prop) : thicketlaw18_LanesApart.e26 R = thicketlaw18_LanesApart.re26 R := by
  funext a1 n1 c1 f2 f3 p4 x9 x10 x11 w
  unfold thicketlaw18_LanesApart.e26 thicketlaw18_LanesApart.re26
  simp only [thicketlaw18_LanesApart.lq26 R]
def thicketlaw18_LanesApart (R : Value → World → Prop) (f0_0 : Nat) (f0_1 : Nat) (f0_2 : Nat) (f0_3 : Nat) (f0_4 : Nat) (f0_5 : Nat) (f0_6 : Nat) (f0_7 : Nat) (a1 : Option Addr) (n1 : Nat) (c1 : Nat) (f2 : Nat) (f3 : Nat) (w : World) : Prop := thicketlaw18_LanesApart.g0 R (thicketlaw18_LanesApart.e26 R) f0_0 f0_1 f0_2 f0_3 f0_4 f0_5 f0_6 f0_7 a1 n1 c1 f2 f3 w
theorem thicketlaw18_LanesApart.root0 (R : Value → World → Prop) (f0_0 : Nat) (f0_1 : Nat) (f0_2 : Nat) (f0_3 : Nat) (f0_4 : Nat) (f0_5 : Nat) (f0_6 : Nat) (f0_7 : Nat) (a1 : Option Addr) (n1 : Nat) (c1 : Nat) (f2 : Nat) (f3 : Nat) (w : World) : fnN Go.Proofs.Try.prog Go.Proofs.Try.f5 thicketlaw18_LanesApart.an #[.agg #[.float .f64 f0_0, .float .f64 f0_1, .float .f64 f0_2, .float .f64 f0_3, .float .f64 f0_4, .float .f64 f0_5, .float .f64 f0_6, .float .f64 f0_7], .slice a1 n1 c1, .float .f64 f2, .float .f64 f3] w R = thicketlaw18_LanesApart.g0 R (thicketlaw18_LanesApart.re26 R) f0_0 f0_1 f0_2 f0_3 f0_4 f0_5 f0_6 f0_7 a1 n1 c1 f2 f3 w := by kernel_rfl
theorem thicketlaw18_LanesApart.calls {R : Value → World → Prop} {f0_0 : Nat} {f0_1 : Nat} {f0_2 : Nat} {f0_3 : Nat} {f0_4 : Nat} {f0_5 : Nat} {f0_6 : Nat} {f0_7 : Nat} {a1 : Option Addr} {n1 : Nat} {c1 : Nat} {f2 : Nat} {f3 : Nat} {w : World} (h : thicketlaw18_LanesApart R f0_0 f0_1 f0_2 f0_3 f0_4 f0_5 f0_6 f0_7 a1 n1 c1 f2 f3 w) : Go.E.CallsD Go.Proofs.Try.prog 5 #[.agg #[.float .f64 f0_0, .float .f64 f0_1, .float .f64 f0_2, .float .f64 f0_3, .float .f64 f0_4, .float .f64 f0_5, .float .f64 f0_6, .float .f64 f0_7], .slice a1 n1 c1, .float .f64 f2, .float .f64 f3] w R := by
  refine callsD_of (n := thicketlaw18_LanesApart.an) M_follows M_sizes Go.Proofs.Try.func5 (by rfl) ?_
  rw [thicketlaw18_LanesApart.root0]
  unfold thicketlaw18_LanesApart at h
  rw [thicketlaw18_LanesApart.eq26 R] at h
  exact h
-- thicket/thicketlaw18.LanesTurned
def thicketlaw18_LanesTurned.an : An := An.nil
def thicketlaw18_LanesTurned.g0 (R : Value → World → Prop) (a0 : Option Addr) (n0 : Nat) (c0 : Nat) (x1 : Int) (w : World) : Prop :=
  Go.E.CallsD Go.Proofs.Try.prog 21 #[] w fun v13 u14 =>
    ∃ yb_15 : Bool, v13 = .bool yb_15 ∧
      (onBool (!yb_15)
        (R (.bool false) u14)
        (Go.E.CallsD Go.Proofs.Try.prog 15 #[.slice a0 n0 c0, .int .i64 x1] u14 fun v16 u17 =>
          ∃ ya_18_0 : Option Addr, ∃ yn_18_0 : Nat, ∃ yc_18_0 : Nat, ∃ yx_18_1 : Int, v16 = .tuple #[.slice ya_18_0 yn_18_0 yc_18_0, .int .i64 yx_18_1] ∧
            (onBool (yx_18_1 != 0)
              (R (.bool ((yn_18_0 : Int) == 0)) u17)
              (Go.E.CallsD Go.Proofs.Try.prog 17 #[.slice ya_18_0 yn_18_0 yc_18_0, .int .i64 (n0 : Int), .int .i64 x1] u17 fun v19 u20 =>
                ∃ ya_21_0 : Option Addr, ∃ yn_21_0 : Nat, ∃ yc_21_0 : Nat, ∃ yx_21_1 : Int, v19 = .tuple #[.slice ya_21_0 yn_21_0 yc_21_0, .int .i64 yx_21_1] ∧
                  (onBool (yx_21_1 == 0)
                    (Go.E.CallsD Go.Proofs.Try.prog 20 #[.slice ya_21_0 yn_21_0 yc_21_0, .slice a0 n0 c0] u20 fun v22 u23 =>
                      ∃ yb_24 : Bool, v22 = .bool yb_24 ∧
                        (R (.bool yb_24) u23))
                    (R (.bool false) u20))))))
def thicketlaw18_LanesTurned (R : Value → World → Prop) (a0 : Option Addr) (n0 : Nat) (c0 : Nat) (x1 : Int) (w : World) : Prop := thicketlaw18_LanesTurned.g0 R a0 n0 c0 x1 w
theorem thicketlaw18_LanesTurned.root0 (R : Value → World → Prop) (a0 : Option Addr) (n0 : Nat) (c0 : Nat) (x1 : Int) (w : World) : fnN Go.Proofs.Try.prog Go.Proofs.Try.f6 thicketlaw18_LanesTurned.an #[.slice a0 n0 c0, .int .i64 x1] w R = thicketlaw18_LanesTurned.g0 R a0 n0 c0 x1 w := by kernel_rfl
theorem thicketlaw18_LanesTurned.calls {R : Value → World → Prop} {a0 : Option Addr} {n0 : Nat} {c0 : Nat} {x1 : Int} {w : World} (h : thicketlaw18_LanesTurned R a0 n0 c0 x1 w) : Go.E.CallsD Go.Proofs.Try.prog 6 #[.slice a0 n0 c0, .int .i64 x1] w R := by
  refine callsD_of (n := thicketlaw18_LanesTurned.an) M_follows M_sizes Go.Proofs.Try.func6 (by rfl) ?_
  rw [thicketlaw18_LanesTurned.root0]
  unfold thicketlaw18_LanesTurned at h
  exact h
end Go.Mir
