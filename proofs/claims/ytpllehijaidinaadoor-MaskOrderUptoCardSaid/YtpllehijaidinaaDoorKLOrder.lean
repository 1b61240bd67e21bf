/- Part of a proof of laws of the seat YtpllehijaidinaaDoor: functions' weakest preconditions, each checked by the kernel, contracts out of them, plain lemmas; no conditions. -/
import Derived.Test.YtpllehijaidinaaDoorKM0
set_option linter.unusedVariables false
set_option linter.unusedSimpArgs false
set_option linter.unusedVariables false
set_option maxRecDepth 100000
namespace Go.Mir
open Go Go.E Go.RowKit
-- thicket/thicketlaw13.MaskOrder
def thicketlaw13_MaskOrder.an : An := (.mk none .nil (.mk none .nil (.mk none .nil (.mk none .nil (.mk none .nil (.mk none .nil (.mk none .nil (.mk none .nil (.mk none .nil (.mk none (.mk none .nil (.mk none (.mk (some [1, 3, 7, 9, 12, 13, 65, 66, 67]) .nil .nil) .nil)) (.mk none (.mk none .nil (.mk none (.mk (some [1, 3, 7, 9, 12, 13, 19]) .nil .nil) .nil)) .nil)))))))))))
def thicketlaw13_MaskOrder.g0 (R : Value → World → Prop) (e40 : (Option Addr) → Nat → Nat → (Option Addr) → (Option Addr) → Nat → Nat → (Option Addr) → Nat → Nat → Int → (Option Addr) → Nat → Nat → (Option Addr) → Nat → Nat → Int → Int → World → Prop) (x0_0 : Int) (a0_1 : Option Addr) (n0_1 : Nat) (c0_1 : Nat) (a1 : Option Addr) (n1 : Nat) (c1 : Nat) (a2 : Option Addr) (n2 : Nat) (c2 : Nat) (w : World) : Prop :=
  nw (w.alloc (.cells #[.int .i64 x0_0, .slice a0_1 n0_1 c0_1] 24)) fun w68 =>
  Go.E.CallsD Go.Proofs.Tryd.prog 15 #[] w68 fun yv69 u70 =>
    ∃ yb_71 : Bool, yv69 = .bool yb_71 ∧
      (onBool (!yb_71)
        (R (.bool false) u70)
        (∃ yx_72 : Int, u70.cell? ((na w).add 0) = some (.int .i64 yx_72) ∧
          (∃ ya_73 : Option Addr, ∃ yn_73 : Nat, ∃ yc_73 : Nat, u70.cell? ((na w).add 1) = some (.slice ya_73 yn_73 yc_73) ∧
            (Go.E.CallsD Go.Proofs.Tryd.prog 11 #[.agg #[.int .i64 yx_72, .slice ya_73 yn_73 yc_73], .slice a1 n1 c1] u70 fun yv74 u75 =>
              ∃ ya_76_0 : Option Addr, ∃ yn_76_0 : Nat, ∃ yc_76_0 : Nat, ∃ yx_76_1 : Int, yv74 = .tuple #[.slice ya_76_0 yn_76_0 yc_76_0, .int .i64 yx_76_1] ∧
                (∃ yx_77 : Int, u75.cell? ((na w).add 0) = some (.int .i64 yx_77) ∧
                  (∃ ya_78 : Option Addr, ∃ yn_78 : Nat, ∃ yc_78 : Nat, u75.cell? ((na w).add 1) = some (.slice ya_78 yn_78 yc_78) ∧
                    (Go.E.CallsD Go.Proofs.Tryd.prog 9 #[.agg #[.int .i64 yx_77, .slice ya_78 yn_78 yc_78], .slice a1 n1 c1] u75 fun yv79 u80 =>
                      ∃ ya_81_0 : Option Addr, ∃ yn_81_0 : Nat, ∃ yc_81_0 : Nat, ∃ yx_81_1 : Int, yv79 = .tuple #[.slice ya_81_0 yn_81_0 yc_81_0, .int .i64 yx_81_1] ∧
                        (onBool (yx_76_1 != 0)
                          (R (.bool (yx_76_1 == yx_81_1)) u80)
                          (onBool (yx_81_1 != 0)
                            (R (.bool (yx_76_1 == yx_81_1)) u80)
                            (∃ yx_82 : Int, u80.cell? ((na w).add 0) = some (.int .i64 yx_82) ∧
                              (∃ ya_83 : Option Addr, ∃ yn_83 : Nat, ∃ yc_83 : Nat, u80.cell? ((na w).add 1) = some (.slice ya_83 yn_83 yc_83) ∧
                                (Go.E.CallsD Go.Proofs.Tryd.prog 19 #[.agg #[.int .i64 yx_82, .slice ya_83 yn_83 yc_83]] u80 fun yv84 u85 =>
                                  ∃ ya_86_0 : Option Addr, ∃ yn_86_0 : Nat, ∃ yc_86_0 : Nat, ∃ yx_86_1 : Int, yv84 = .tuple #[.slice ya_86_0 yn_86_0 yc_86_0, .int .i64 yx_86_1] ∧
                                    (Go.E.CallsD Go.Proofs.Tryd.prog 29 #[.int .i64 (yn_86_0 : Int)] u85 fun yv87 u88 =>
                                      ∃ ya_89_0 : Option Addr, ∃ yn_89_0 : Nat, ∃ yc_89_0 : Nat, ∃ yx_89_1 : Int, yv87 = .tuple #[.slice ya_89_0 yn_89_0 yc_89_0, .int .i64 yx_89_1] ∧
                                        (onBool (yx_86_1 != 0)
                                          (R (.bool false) u88)
                                          (onBool (yx_89_1 != 0)
                                            (R (.bool false) u88)
                                            (e40 a1 n1 c1 (some (na w)) ya_76_0 yn_76_0 yc_76_0 ya_81_0 yn_81_0 yc_81_0 (yn_86_0 : Int) ya_89_0 yn_89_0 yc_89_0 a2 n2 c2 (n2 : Int) 0 u88))))))))))))))))
def thicketlaw13_MaskOrder.g40 (R : Value → World → Prop) (b40 : (Option Addr) → Nat → Nat → (Option Addr) → (Option Addr) → Nat → Nat → (Option Addr) → Nat → Nat → Int → (Option Addr) → Nat → Nat → (Option Addr) → Nat → Nat → Int → Int → World → Prop) (e71 : (Option Addr) → Nat → Nat → (Option Addr) → (Option Addr) → Nat → Nat → (Option Addr) → Nat → Nat → Int → (Option Addr) → Nat → Nat → Int → World → Prop) (a1 : Option Addr) (n1 : Nat) (c1 : Nat) (p3 : Option Addr) (a7 : Option Addr) (n7 : Nat) (c7 : Nat) (a9 : Option Addr) (n9 : Nat) (c9 : Nat) (x12 : Int) (a13 : Option Addr) (n13 : Nat) (c13 : Nat) (a65 : Option Addr) (n65 : Nat) (c65 : Nat) (x66 : Int) (x67 : Int) (w : World) : Prop :=
  onBool (decide (x67 < x66))
    (optN a65 fun q90 =>
    chk ((0 : Int) ≤ x67 ∧ x67 < (n65 : Int))
      (∃ yx_91 : Int, w.cell? (q90.add (x67.toNat * 1)) = some (.int .i64 yx_91) ∧
        (onBool (decide ((n9 : Int) > 0))
          (nv (IntKind.u64.wrap yx_91) fun t92 =>
          nv (IntKind.u64.wrap (n9 : Int)) fun t93 =>
          nchk (t93 = 0)
            (nv (Int.tmod t92 t93) fun t94 =>
            nv (IntKind.i64.wrap t94) fun t95 =>
            optN a9 fun q96 =>
            chk ((0 : Int) ≤ t95 ∧ t95 < (n9 : Int))
              (∃ yx_97 : Int, w.cell? ((q96.add (t95.toNat * 3)).add 0) = some (.int .i64 yx_97) ∧
                (∃ yx_98 : Int, w.cell? ((q96.add (t95.toNat * 3)).add 1) = some (.int .i64 yx_98) ∧
                  (∃ yx_99 : Int, w.cell? ((q96.add (t95.toNat * 3)).add 2) = some (.int .i64 yx_99) ∧
                    (nw (w.alloc (.cells #[.int .i64 0, .int .i64 0, .int .i64 0] 44)) fun w100 =>
                    okSt w100 ((na w).add 0) ∧
                      (nw (w100.setCell ((na w).add 0) (.int .i64 yx_97)) fun w101 =>
                      okSt w101 ((na w).add 1) ∧
                        (nw (w101.setCell ((na w).add 1) (.int .i64 yx_98)) fun w102 =>
                        okSt w102 ((na w).add 2) ∧
                          (nw (w102.setCell ((na w).add 2) (.int .i64 yx_99)) fun w103 =>
                          ∃ yx_104 : Int, w103.cell? ((na w).add 1) = some (.int .i64 yx_104) ∧
                            (∃ yx_105 : Int, w103.cell? ((na w).add 2) = some (.int .i64 yx_105) ∧
                              (Go.E.CallsD Go.Proofs.Tryd.prog 30 #[.int .i64 x12, .int .i64 yx_104, .int .i64 yx_105] w103 fun yv106 u107 =>
                                ∃ ya_108_0 : Option Addr, ∃ yn_108_0 : Nat, ∃ yc_108_0 : Nat, ∃ yx_108_1 : Int, yv106 = .tuple #[.slice ya_108_0 yn_108_0 yc_108_0, .int .i64 yx_108_1] ∧
                                  (onBool (yx_108_1 != 0)
                                    (R (.bool false) u107)
                                    (Go.E.CallsD Go.Proofs.Tryd.prog 31 #[.slice a13 n13 c13, .slice ya_108_0 yn_108_0 yc_108_0] u107 fun yv109 u110 =>
                                      ∃ yx_111 : Int, yv109 = .int .i64 yx_111 ∧
                                        (onBool (yx_111 != 0)
                                          (R (.bool false) u110)
                                          (nv (IntKind.i64.wrap (x67 + 1)) fun t112 =>
                                          b40 a1 n1 c1 p3 a7 n7 c7 a9 n9 c9 x12 a13 n13 c13 a65 n65 c65 x66 t112 u110)))))))))))))))
          (nv (IntKind.i64.wrap (x67 + 1)) fun t113 =>
          b40 a1 n1 c1 p3 a7 n7 c7 a9 n9 c9 x12 a13 n13 c13 a65 n65 c65 x66 t113 w))))
    (nv (IntKind.i64.wrap ((n9 : Int) - 1)) fun t114 =>
    e71 a1 n1 c1 p3 a7 n7 c7 a9 n9 c9 x12 a13 n13 c13 t114 w)
def thicketlaw13_MaskOrder.g71 (R : Value → World → Prop) (b71 : (Option Addr) → Nat → Nat → (Option Addr) → (Option Addr) → Nat → Nat → (Option Addr) → Nat → Nat → Int → (Option Addr) → Nat → Nat → Int → World → Prop) (a1 : Option Addr) (n1 : Nat) (c1 : Nat) (p3 : Option Addr) (a7 : Option Addr) (n7 : Nat) (c7 : Nat) (a9 : Option Addr) (n9 : Nat) (c9 : Nat) (x12 : Int) (a13 : Option Addr) (n13 : Nat) (c13 : Nat) (x19 : Int) (w : World) : Prop :=
  onBool (decide (x19 ≥ 0))
    (∃ F115 : Nat → Value → World → Prop, (∀ i v u u', F115 i v u → Below u.heap.size u u' → F115 i v u') ∧
      (optN a9 fun q116 =>
      chk ((0 : Int) ≤ x19 ∧ x19 < (n9 : Int))
        (∃ yx_117 : Int, w.cell? ((q116.add (x19.toNat * 3)).add 1) = some (.int .i64 yx_117) ∧
          (optN a9 fun q118 =>
          chk ((0 : Int) ≤ x19 ∧ x19 < (n9 : Int))
            (∃ yx_119 : Int, w.cell? ((q118.add (x19.toNat * 3)).add 2) = some (.int .i64 yx_119) ∧
              ((∀ u120 : World, Below w.heap.size w u120 → Go.E.CallsD Go.Proofs.Tryd.prog 30 #[.int .i64 x12, .int .i64 yx_117, .int .i64 yx_119] u120 fun yv122 u123 => ∃ ya_121_0 : Option Addr, ∃ yn_121_0 : Nat, ∃ yc_121_0 : Nat, ∃ yx_121_1 : Int, yv122 = .tuple #[.slice ya_121_0 yn_121_0 yc_121_0, .int .i64 yx_121_1] ∧ F115 11 (.tuple #[.slice ya_121_0 yn_121_0 yc_121_0, .int .i64 yx_121_1]) u123 ∧ Below u120.heap.size u120 u123) ∧
                (∀ ya_124_0 : Option Addr, ∀ yn_124_0 : Nat, ∀ yc_124_0 : Nat, ∀ yx_124_1 : Int, (∃ u, Below w.heap.size w u ∧ F115 11 (.tuple #[.slice ya_124_0 yn_124_0 yc_124_0, .int .i64 yx_124_1]) u) →
                ∀ u125 : World, Below w.heap.size w u125 → F115 11 (.tuple #[.slice ya_124_0 yn_124_0 yc_124_0, .int .i64 yx_124_1]) u125 → 
                  onBool (yx_124_1 != 0)
                    (R (.bool false) u125)
                    (Go.E.CallsD Go.Proofs.Tryd.prog 31 #[.slice a13 n13 c13, .slice ya_124_0 yn_124_0 yc_124_0] u125 fun yv126 u127 =>
                      ∃ yx_128 : Int, yv126 = .int .i64 yx_128 ∧
                        (onBool (yx_128 != 0)
                          (R (.bool false) u127)
                          (nv (IntKind.i64.wrap (x19 - 1)) fun t129 =>
                          b71 a1 n1 c1 p3 a7 n7 c7 a9 n9 c9 x12 a13 n13 c13 t129 u127))))))))))
    (optN p3 fun q130 =>
    ∃ yx_131 : Int, w.cell? (q130.add 0) = some (.int .i64 yx_131) ∧
      (∃ ya_132 : Option Addr, ∃ yn_132 : Nat, ∃ yc_132 : Nat, w.cell? (q130.add 1) = some (.slice ya_132 yn_132 yc_132) ∧
        (Go.E.CallsD Go.Proofs.Tryd.prog 28 #[.agg #[.int .i64 yx_131, .slice ya_132 yn_132 yc_132], .slice a1 n1 c1] w fun yv133 u134 =>
          ∃ yx_135_0 : Int, ∃ yx_135_1 : Int, ∃ yx_135_2 : Int, yv133 = .tuple #[.int .i64 yx_135_0, .int .i64 yx_135_1, .int .i64 yx_135_2] ∧
            (onBool (yx_135_2 == 0)
              (Go.E.CallsD Go.Proofs.Tryd.prog 17 #[.slice a7 n7 c7, .slice a13 n13 c13] u134 fun yv136 u137 =>
                ∃ yb_138 : Bool, yv136 = .bool yb_138 ∧
                  (onBool yb_138
                    (Go.E.CallsD Go.Proofs.Tryd.prog 32 #[.slice a7 n7 c7, .int .i64 yx_135_0] u137 fun yv139 u140 =>
                      ∃ yb_141 : Bool, yv139 = .bool yb_141 ∧
                        (onBool yb_141
                          (Go.E.CallsD Go.Proofs.Tryd.prog 33 #[.slice a7 n7 c7, .int .i64 yx_135_0] u140 fun yv142 u143 =>
                            ∃ yx_144 : Int, yv142 = .int .i64 yx_144 ∧
                              (R (.bool (yx_144 == 0)) u143))
                          (R (.bool false) u140)))
                    (R (.bool false) u137)))
              (R (.bool false) u134)))))
def thicketlaw13_MaskOrder.q2 (R : Value → World → Prop) : Exit → Act → World → Prop := (fin Go.Proofs.Tryd.prog Go.Proofs.Tryd.f8 R)
def thicketlaw13_MaskOrder.q10 (R : Value → World → Prop) : Exit → Act → World → Prop := (thicketlaw13_MaskOrder.q2 R)
def thicketlaw13_MaskOrder.q12 (R : Value → World → Prop) : Exit → Act → World → Prop := (thicketlaw13_MaskOrder.q10 R)
def thicketlaw13_MaskOrder.q14 (R : Value → World → Prop) : Exit → Act → World → Prop := (thicketlaw13_MaskOrder.q12 R)
def thicketlaw13_MaskOrder.q22 (R : Value → World → Prop) : Exit → Act → World → Prop := (thicketlaw13_MaskOrder.q14 R)
def thicketlaw13_MaskOrder.q24 (R : Value → World → Prop) : Exit → Act → World → Prop := (thicketlaw13_MaskOrder.q22 R)
def thicketlaw13_MaskOrder.q26 (R : Value → World → Prop) : Exit → Act → World → Prop := (thicketlaw13_MaskOrder.q24 R)
def thicketlaw13_MaskOrder.q28 (R : Value → World → Prop) : Exit → Act → World → Prop := (thicketlaw13_MaskOrder.q26 R)
def thicketlaw13_MaskOrder.q36 (R : Value → World → Prop) : Exit → Act → World → Prop := (thicketlaw13_MaskOrder.q28 R)
def thicketlaw13_MaskOrder.q37 (R : Value → World → Prop) : Exit → Act → World → Prop := Exit.then (startN none (codeN Go.Proofs.Tryd.prog (sub (codeOf Go.Proofs.Tryd.f8) [1, 1, 1, 1, 1, 1, 1, 1, 1, 1]) (nsub thicketlaw13_MaskOrder.an [1, 1, 1, 1, 1, 1, 1, 1, 1, 1]) (thicketlaw13_MaskOrder.q36 R))) (thicketlaw13_MaskOrder.q36 R)
def thicketlaw13_MaskOrder.q39 (R : Value → World → Prop) : Exit → Act → World → Prop := (thicketlaw13_MaskOrder.q37 R)
def thicketlaw13_MaskOrder.q40 (R : Value → World → Prop) : Exit → Act → World → Prop := Exit.inBlock 0 (thicketlaw13_MaskOrder.q39 R)
def thicketlaw13_MaskOrder.rl40 (R : Value → World → Prop) (k : Nat) (a1 : Option Addr) (n1 : Nat) (c1 : Nat) (p3 : Option Addr) (a7 : Option Addr) (n7 : Nat) (c7 : Nat) (a9 : Option Addr) (n9 : Nat) (c9 : Nat) (x12 : Int) (a13 : Option Addr) (n13 : Nat) (c13 : Nat) (a65 : Option Addr) (n65 : Nat) (c65 : Nat) (x66 : Int) (x67 : Int) (w : World) : Prop := loopN [1, 3, 7, 9, 12, 13, 65, 66, 67] (codeN Go.Proofs.Tryd.prog (sub (codeOf Go.Proofs.Tryd.f8) [1, 1, 1, 1, 1, 1, 1, 1, 1, 0, 1, 0, 0]) (nsub thicketlaw13_MaskOrder.an [1, 1, 1, 1, 1, 1, 1, 1, 1, 0, 1, 0, 0])) (thicketlaw13_MaskOrder.q40 R) k ⟨#[undef, .slice a1 n1 c1, undef, .pointer p3, undef, undef, undef, .slice a7 n7 c7, undef, .slice a9 n9 c9, undef, undef, .int .i64 x12, .slice a13 n13 c13, undef, undef, undef, undef, undef, undef, undef, undef, undef, undef, undef, undef, undef, undef, undef, undef, undef, undef, undef, undef, undef, undef, undef, undef, undef, undef, undef, undef, undef, undef, undef, undef, undef, undef, undef, undef, undef, undef, undef, undef, undef, undef, undef, undef, undef, undef, undef, undef, undef, undef, undef, .slice a65 n65 c65, .int .i64 x66, .int .i64 x67, undef, undef, undef, undef, undef, undef, undef, undef, undef, undef, undef, undef, undef, undef, undef, undef, undef, undef, undef, undef, undef, undef, undef, undef, undef, undef, undef, undef, undef, undef, undef, undef, undef, undef, undef, undef, undef, undef, undef, undef, undef, undef, undef, undef, undef, undef, undef, undef, undef, undef, undef, undef, undef, undef, undef, undef, undef, undef, undef, undef, undef, undef, undef, undef, undef, undef, undef, undef, undef, undef, undef, undef, undef, undef, undef, undef, undef, undef, undef, undef, undef, undef, undef, undef, undef, undef, undef, undef, undef], []⟩ w
def thicketlaw13_MaskOrder.re40 (R : Value → World → Prop) (a1 : Option Addr) (n1 : Nat) (c1 : Nat) (p3 : Option Addr) (a7 : Option Addr) (n7 : Nat) (c7 : Nat) (a9 : Option Addr) (n9 : Nat) (c9 : Nat) (x12 : Int) (a13 : Option Addr) (n13 : Nat) (c13 : Nat) (a65 : Option Addr) (n65 : Nat) (c65 : Nat) (x66 : Int) (x67 : Int) (w : World) : Prop := ∃ k, thicketlaw13_MaskOrder.rl40 R k a1 n1 c1 p3 a7 n7 c7 a9 n9 c9 x12 a13 n13 c13 a65 n65 c65 x66 x67 w
def thicketlaw13_MaskOrder.q67 (R : Value → World → Prop) : Exit → Act → World → Prop := (thicketlaw13_MaskOrder.q36 R)
def thicketlaw13_MaskOrder.q68 (R : Value → World → Prop) : Exit → Act → World → Prop := Exit.then (startN none (codeN Go.Proofs.Tryd.prog (sub (codeOf Go.Proofs.Tryd.f8) [1, 1, 1, 1, 1, 1, 1, 1, 1, 1, 1]) (nsub thicketlaw13_MaskOrder.an [1, 1, 1, 1, 1, 1, 1, 1, 1, 1, 1]) (thicketlaw13_MaskOrder.q67 R))) (thicketlaw13_MaskOrder.q67 R)
def thicketlaw13_MaskOrder.q70 (R : Value → World → Prop) : Exit → Act → World → Prop := (thicketlaw13_MaskOrder.q68 R)
def thicketlaw13_MaskOrder.q71 (R : Value → World → Prop) : Exit → Act → World → Prop := Exit.inBlock 2 (thicketlaw13_MaskOrder.q70 R)
def thicketlaw13_MaskOrder.rl71 (R : Value → World → Prop) (k : Nat) (a1 : Option Addr) (n1 : Nat) (c1 : Nat) (p3 : Option Addr) (a7 : Option Addr) (n7 : Nat) (c7 : Nat) (a9 : Option Addr) (n9 : Nat) (c9 : Nat) (x12 : Int) (a13 : Option Addr) (n13 : Nat) (c13 : Nat) (x19 : Int) (w : World) : Prop := loopN [1, 3, 7, 9, 12, 13, 19] (codeN Go.Proofs.Tryd.prog (sub (codeOf Go.Proofs.Tryd.f8) [1, 1, 1, 1, 1, 1, 1, 1, 1, 1, 0, 1, 0, 0]) (nsub thicketlaw13_MaskOrder.an [1, 1, 1, 1, 1, 1, 1, 1, 1, 1, 0, 1, 0, 0])) (thicketlaw13_MaskOrder.q71 R) k ⟨#[undef, .slice a1 n1 c1, undef, .pointer p3, undef, undef, undef, .slice a7 n7 c7, undef, .slice a9 n9 c9, undef, undef, .int .i64 x12, .slice a13 n13 c13, undef, undef, undef, undef, undef, .int .i64 x19, undef, undef, undef, undef, undef, undef, undef, undef, undef, undef, undef, undef, undef, undef, undef, undef, undef, undef, undef, undef, undef, undef, undef, undef, undef, undef, undef, undef, undef, undef, undef, undef, undef, undef, undef, undef, undef, undef, undef, undef, undef, undef, undef, undef, undef, undef, undef, undef, undef, undef, undef, undef, undef, undef, undef, undef, undef, undef, undef, undef, undef, undef, undef, undef, undef, undef, undef, undef, undef, undef, undef, undef, undef, undef, undef, undef, undef, undef, undef, undef, undef, undef, undef, undef, undef, undef, undef, undef, undef, undef, undef, undef, undef, undef, undef, undef, undef, undef, undef, undef, undef, undef, undef, undef, undef, undef, undef, undef, undef, undef, undef, undef, undef, undef, undef, undef, undef, undef, undef, undef, undef, undef, undef, undef, undef, undef, undef, undef, undef, undef, undef, undef, undef, undef, undef, undef, undef], []⟩ w
def thicketlaw13_MaskOrder.re71 (R : Value → World → Prop) (a1 : Option Addr) (n1 : Nat) (c1 : Nat) (p3 : Option Addr) (a7 : Option Addr) (n7 : Nat) (c7 : Nat) (a9 : Option Addr) (n9 : Nat) (c9 : Nat) (x12 : Int) (a13 : Option Addr) (n13 : Nat) (c13 : Nat) (x19 : Int) (w : World) : Prop := ∃ k, thicketlaw13_MaskOrder.rl71 R k a1 n1 c1 p3 a7 n7 c7 a9 n9 c9 x12 a13 n13 c13 x19 w
def thicketlaw13_MaskOrder.l71 (R : Value → World → Prop) : Nat → (Option Addr) → Nat → Nat → (Option Addr) → (Option Addr) → Nat → Nat → (Option Addr) → Nat → Nat → Int → (Option Addr) → Nat → Nat → Int → World → Prop
  | 0, _, _, _, _, _, _, _, _, _, _, _, _, _, _, _, _ => False
  | k + 1, a1, n1, c1, p3, a7, n7, c7, a9, n9, c9, x12, a13, n13, c13, x19, w => thicketlaw13_MaskOrder.g71 R (thicketlaw13_MaskOrder.l71 R k) a1 n1 c1 p3 a7 n7 c7 a9 n9 c9 x12 a13 n13 c13 x19 w
def thicketlaw13_MaskOrder.e71 (R : Value → World → Prop) (a1 : Option Addr) (n1 : Nat) (c1 : Nat) (p3 : Option Addr) (a7 : Option Addr) (n7 : Nat) (c7 : Nat) (a9 : Option Addr) (n9 : Nat) (c9 : Nat) (x12 : Int) (a13 : Option Addr) (n13 : Nat) (c13 : Nat) (x19 : Int) (w : World) : Prop := ∃ k, thicketlaw13_MaskOrder.l71 R k a1 n1 c1 p3 a7 n7 c7 a9 n9 c9 x12 a13 n13 c13 x19 w
theorem thicketlaw13_MaskOrder.s71 (R : Value → World → Prop) (k : Nat) (a1 : Option Addr) (n1 : Nat) (c1 : Nat) (p3 : Option Addr) (a7 : Option Addr) (n7 : Nat) (c7 : Nat) (a9 : Option Addr) (n9 : Nat) (c9 : Nat) (x12 : Int) (a13 : Option Addr) (n13 : Nat) (c13 : Nat) (x19 : Int) (w : World) : thicketlaw13_MaskOrder.rl71 R (k + 1) a1 n1 c1 p3 a7 n7 c7 a9 n9 c9 x12 a13 n13 c13 x19 w = ∀ _ : Nat → Value, thicketlaw13_MaskOrder.g71 R (thicketlaw13_MaskOrder.rl71 R k) a1 n1 c1 p3 a7 n7 c7 a9 n9 c9 x12 a13 n13 c13 x19 w := by kernel_rfl
theorem thicketlaw13_MaskOrder.lq71 (R : Value → World → Prop) : ∀ k, thicketlaw13_MaskOrder.l71 R k = thicketlaw13_MaskOrder.rl71 R k
  | 0 => by funext a1 n1 c1 p3 a7 n7 c7 a9 n9 c9 x12 a13 n13 c13 x19 w; first | rfl | kernel_rfl
  | k + 1 => by
    funext a1 n1 c1 p3 a7 n7 c7 a9 n9 c9 x12 a13 n13 c13 x19 w
    rw [thicketlaw13_MaskOrder.s71, forall_const]
    unfold thicketlaw13_MaskOrder.l71
    have ih := thicketlaw13_MaskOrder.lq71 R k
    rw [ih]
    all_goals rfl
theorem thicketlaw13_MaskOrder.eq71 (R : Value → World → Prop) : thicketlaw13_MaskOrder.e71 R = thicketlaw13_MaskOrder.re71 R := by
  funext a1 n1 c1 p3 a7 n7 c7 a9 n9 c9 x12 a13 n13 c13 x19 w
  unfold thicketlaw13_MaskOrder.e71 thicketlaw13_MaskOrder.re71
  simp only [thicketlaw13_MaskOrder.lq71 R]
def thicketlaw13_MaskOrder.l40 (R : Value → World → Prop) : Nat → (Option Addr) → Nat → Nat → (Option Addr) → (Option Addr) → Nat → Nat → (Option Addr) → Nat → Nat → Int → (Option Addr) → Nat → Nat → (Option Addr) → Nat → Nat → Int → Int → World → Prop
  | 0, _, _, _, _, _, _, _, _, _, _, _, _, _, _, _, _, _, _, _, _ => False
  | k + 1, a1, n1, c1, p3, a7, n7, c7, a9, n9, c9, x12, a13, n13, c13, a65, n65, c65, x66, x67, w => thicketlaw13_MaskOrder.g40 R (thicketlaw13_MaskOrder.l40 R k) (thicketlaw13_MaskOrder.e71 R) a1 n1 c1 p3 a7 n7 c7 a9 n9 c9 x12 a13 n13 c13 a65 n65 c65 x66 x67 w
def thicketlaw13_MaskOrder.e40 (R : Value → World → Prop) (a1 : Option Addr) (n1 : Nat) (c1 : Nat) (p3 : Option Addr) (a7 : Option Addr) (n7 : Nat) (c7 : Nat) (a9 : Option Addr) (n9 : Nat) (c9 : Nat) (x12 : Int) (a13 : Option Addr) (n13 : Nat) (c13 : Nat) (a65 : Option Addr) (n65 : Nat) (c65 : Nat) (x66 : Int) (x67 : Int) (w : World) : Prop := ∃ k, thicketlaw13_MaskOrder.l40 R k a1 n1 c1 p3 a7 n7 c7 a9 n9 c9 x12 a13 n13 c13 a65 n65 c65 x66 x67 w
theorem thicketlaw13_MaskOrder.s40 (R : Value → World → Prop) (k : Nat) (a1 : Option Addr) (n1 : Nat) (c1 : Nat) (p3 : Option Addr) (a7 : Option Addr) (n7 : Nat) (c7 : Nat) (a9 : Option Addr) (n9 : Nat) (c9 : Nat) (x12 : Int) (a13 : Option Addr) (n13 : Nat) (c13 : Nat) (a65 : Option Addr) (n65 : Nat) (c65 : Nat) (x66 : Int) (x67 : Int) (w : World) : thicketlaw13_MaskOrder.rl40 R (k + 1) a1 n1 c1 p3 a7 n7 c7 a9 n9 c9 x12 a13 n13 c13 a65 n65 c65 x66 x67 w = ∀ _ : Nat → Value, thicketlaw13_MaskOrder.g40 R (thicketlaw13_MaskOrder.rl40 R k) (thicketlaw13_MaskOrder.re71 R) a1 n1 c1 p3 a7 n7 c7 a9 n9 c9 x12 a13 n13 c13 a65 n65 c65 x66 x67 w := by kernel_rfl
theorem thicketlaw13_MaskOrder.lq40 (R : Value → World → Prop) : ∀ k, thicketlaw13_MaskOrder.l40 R k = thicketlaw13_MaskOrder.rl40 R k
  | 0 => by funext a1 n1 c1 p3 a7 n7 c7 a9 n9 c9 x12 a13 n13 c13 a65 n65 c65 x66 x67 w; first | rfl | kernel_rfl
  | k + 1 => by
    funext a1 n1 c1 p3 a7 n7 c7 a9 n9 c9 x12 a13 n13 c13 a65 n65 c65 x66 x67 w
    rw [thicketlaw13_MaskOrder.s40, forall_const]
    unfold thicketlaw13_MaskOrder.l40
    have ih := thicketlaw13_MaskOrder.lq40 R k
    rw [thicketlaw13_MaskOrder.eq71 R]
    rw [ih]
    all_goals rfl
theorem thicketlaw13_MaskOrder.eq40 (R : Value → World → Prop) : thicketlaw13_MaskOrder.e40 R = thicketlaw13_MaskOrder.re40 R := by
  funext a1 n1 c1 p3 a7 n7 c7 a9 n9 c9 x12 a13 n13 c13 a65 n65 c65 x66 x67 w
  unfold thicketlaw13_MaskOrder.e40 thicketlaw13_MaskOrder.re40
  simp only [thicketlaw13_MaskOrder.lq40 R]
def thicketlaw13_MaskOrder (R : Value → World → Prop) (x0_0 : Int) (a0_1 : Option Addr) (n0_1 : Nat) (c0_1 : Nat) (a1 : Option Addr) (n1 : Nat) (c1 : Nat) (a2 : Option Addr) (n2 : Nat) (c2 : Nat) (w : World) : Prop := thicketlaw13_MaskOrder.g0 R (thicketlaw13_MaskOrder.e40 R) x0_0 a0_1 n0_1 c0_1 a1 n1 c1 a2 n2 c2 w
theorem thicketlaw13_MaskOrder.root0 (R : Value → World → Prop) (x0_0 : Int) (a0_1 : Option Addr) (n0_1 : Nat) (c0_1 : Nat) (a1 : Option Addr) (n1 : Nat) (c1 : Nat) (a2 : Option Addr) (n2 : Nat) (c2 : Nat) (w : World) : fnN Go.Proofs.Tryd.prog Go.Proofs.Tryd.f8 thicketlaw13_MaskOrder.an #[.agg #[.int .i64 x0_0, .slice a0_1 n0_1 c0_1], .slice a1 n1 c1, .slice a2 n2 c2] w R = thicketlaw13_MaskOrder.g0 R (thicketlaw13_MaskOrder.re40 R) x0_0 a0_1 n0_1 c0_1 a1 n1 c1 a2 n2 c2 w := by kernel_rfl
theorem thicketlaw13_MaskOrder.calls {R : Value → World → Prop} {x0_0 : Int} {a0_1 : Option Addr} {n0_1 : Nat} {c0_1 : Nat} {a1 : Option Addr} {n1 : Nat} {c1 : Nat} {a2 : Option Addr} {n2 : Nat} {c2 : Nat} {w : World} (h : thicketlaw13_MaskOrder R x0_0 a0_1 n0_1 c0_1 a1 n1 c1 a2 n2 c2 w) : Go.E.CallsD Go.Proofs.Tryd.prog 8 #[.agg #[.int .i64 x0_0, .slice a0_1 n0_1 c0_1], .slice a1 n1 c1, .slice a2 n2 c2] w R := by
  refine callsD_of (n := thicketlaw13_MaskOrder.an) M_follows M_sizes Go.Proofs.Tryd.func8 (by rfl) ?_
  rw [thicketlaw13_MaskOrder.root0]
  unfold thicketlaw13_MaskOrder at h
  rw [thicketlaw13_MaskOrder.eq40 R] at h
  exact h
end Go.Mir
