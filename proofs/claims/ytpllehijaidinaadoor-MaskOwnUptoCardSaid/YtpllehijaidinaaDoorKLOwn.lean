/- Part of a proof of laws of the seat YtpllehijaidinaaDoor: functions' weakest preconditions, each checked by the kernel, contracts out of them, plain lemmas; no conditions. -/
import Derived.Test.YtpllehijaidinaaDoorKM0
set_option linter.unusedVariables false
set_option linter.unusedSimpArgs false
set_option linter.unusedVariables false
set_option maxRecDepth 100000
namespace Go.Mir
open Go Go.E Go.RowKit
-- thicket/thicketlaw13.MaskOwn
def thicketlaw13_MaskOwn.an : An := (.mk none .nil (.mk none .nil (.mk none .nil (.mk none .nil (.mk none .nil (.mk none .nil (.mk none .nil (.mk none (.mk none .nil (.mk none (.mk (some [1, 2, 5, 7, 9, 11, 13, 55, 56]) (.mk none .nil (.mk none .nil (.mk none (.mk none (.mk none .nil (.mk none .nil (.mk none (.mk (some [1, 2, 5, 7, 9, 11, 13, 15, 55, 56, 63, 64]) .nil .nil) .nil))) .nil) .nil))) .nil) .nil)) (.mk none (.mk none .nil (.mk none (.mk (some [1, 2, 5, 7, 9, 11, 13, 79, 80]) .nil .nil) .nil)) (.mk none (.mk none .nil (.mk none (.mk (some [1, 2, 5, 7, 9, 11, 13, 94, 95]) .nil .nil) .nil)) (.mk none (.mk none .nil (.mk none (.mk (some [1, 2, 5, 7, 9, 11, 13, 104, 105]) .nil .nil) .nil)) (.mk none (.mk none .nil (.mk none (.mk (some [1, 2, 5, 7, 9, 11, 13, 114, 115]) .nil .nil) .nil)) (.mk none .nil (.mk none .nil (.mk none .nil (.mk none (.mk none .nil (.mk none (.mk (some [1, 2, 5, 7, 9, 11, 21, 138, 139]) (.mk none .nil (.mk none .nil (.mk none (.mk none (.mk none .nil (.mk none .nil (.mk none (.mk (some [1, 2, 5, 7, 9, 11, 21, 23, 138, 139, 146, 147]) .nil .nil) .nil))) .nil) .nil))) .nil) .nil)) .nil))))))))))))))))
def thicketlaw13_MaskOwn.g0 (R : Value → World → Prop) (e24 : (Option Addr) → Nat → Nat → (Option Addr) → (Option Addr) → Nat → Nat → (Option Addr) → Nat → Nat → (Option Addr) → Nat → Nat → (Option Addr) → Nat → Nat → (Option Addr) → Nat → Nat → Int → Int → World → Prop) (x0_0 : Int) (a0_1 : Option Addr) (n0_1 : Nat) (c0_1 : Nat) (a1 : Option Addr) (n1 : Nat) (c1 : Nat) (w : World) : Prop :=
  nw (w.alloc (.cells #[.int .i64 x0_0, .slice a0_1 n0_1 c0_1] 24)) fun w101 =>
  Go.E.CallsD Go.Proofs.Tryd.prog 15 #[] w101 fun yv102 u103 =>
    ∃ yb_104 : Bool, yv102 = .bool yb_104 ∧
      (onBool (!yb_104)
        (R (.bool false) u103)
        (∃ yx_105 : Int, u103.cell? ((na w).add 0) = some (.int .i64 yx_105) ∧
          (∃ ya_106 : Option Addr, ∃ yn_106 : Nat, ∃ yc_106 : Nat, u103.cell? ((na w).add 1) = some (.slice ya_106 yn_106 yc_106) ∧
            (Go.E.CallsD Go.Proofs.Tryd.prog 24 #[.agg #[.int .i64 yx_105, .slice ya_106 yn_106 yc_106]] u103 fun yv107 u108 =>
              ∃ ya_109_0 : Option Addr, ∃ yn_109_0 : Nat, ∃ yc_109_0 : Nat, ∃ yx_109_1 : Int, yv107 = .tuple #[.slice ya_109_0 yn_109_0 yc_109_0, .int .i64 yx_109_1] ∧
                (∃ yx_110 : Int, u108.cell? ((na w).add 0) = some (.int .i64 yx_110) ∧
                  (∃ ya_111 : Option Addr, ∃ yn_111 : Nat, ∃ yc_111 : Nat, u108.cell? ((na w).add 1) = some (.slice ya_111 yn_111 yc_111) ∧
                    (Go.E.CallsD Go.Proofs.Tryd.prog 24 #[.agg #[.int .i64 yx_110, .slice ya_111 yn_111 yc_111]] u108 fun yv112 u113 =>
                      ∃ ya_114_0 : Option Addr, ∃ yn_114_0 : Nat, ∃ yc_114_0 : Nat, ∃ yx_114_1 : Int, yv112 = .tuple #[.slice ya_114_0 yn_114_0 yc_114_0, .int .i64 yx_114_1] ∧
                        (∃ yx_115 : Int, u113.cell? ((na w).add 0) = some (.int .i64 yx_115) ∧
                          (∃ ya_116 : Option Addr, ∃ yn_116 : Nat, ∃ yc_116 : Nat, u113.cell? ((na w).add 1) = some (.slice ya_116 yn_116 yc_116) ∧
                            (Go.E.CallsD Go.Proofs.Tryd.prog 18 #[.agg #[.int .i64 yx_115, .slice ya_116 yn_116 yc_116]] u113 fun yv117 u118 =>
                              ∃ ya_119_0 : Option Addr, ∃ yn_119_0 : Nat, ∃ yc_119_0 : Nat, ∃ yx_119_1 : Int, yv117 = .tuple #[.slice ya_119_0 yn_119_0 yc_119_0, .int .i64 yx_119_1] ∧
                                (∃ yx_120 : Int, u118.cell? ((na w).add 0) = some (.int .i64 yx_120) ∧
                                  (∃ ya_121 : Option Addr, ∃ yn_121 : Nat, ∃ yc_121 : Nat, u118.cell? ((na w).add 1) = some (.slice ya_121 yn_121 yc_121) ∧
                                    (Go.E.CallsD Go.Proofs.Tryd.prog 9 #[.agg #[.int .i64 yx_120, .slice ya_121 yn_121 yc_121], .slice a1 n1 c1] u118 fun yv122 u123 =>
                                      ∃ ya_124_0 : Option Addr, ∃ yn_124_0 : Nat, ∃ yc_124_0 : Nat, ∃ yx_124_1 : Int, yv122 = .tuple #[.slice ya_124_0 yn_124_0 yc_124_0, .int .i64 yx_124_1] ∧
                                        (∃ yx_125 : Int, u123.cell? ((na w).add 0) = some (.int .i64 yx_125) ∧
                                          (∃ ya_126 : Option Addr, ∃ yn_126 : Nat, ∃ yc_126 : Nat, u123.cell? ((na w).add 1) = some (.slice ya_126 yn_126 yc_126) ∧
                                            (Go.E.CallsD Go.Proofs.Tryd.prog 11 #[.agg #[.int .i64 yx_125, .slice ya_126 yn_126 yc_126], .slice a1 n1 c1] u123 fun yv127 u128 =>
                                              ∃ ya_129_0 : Option Addr, ∃ yn_129_0 : Nat, ∃ yc_129_0 : Nat, ∃ yx_129_1 : Int, yv127 = .tuple #[.slice ya_129_0 yn_129_0 yc_129_0, .int .i64 yx_129_1] ∧
                                                (e24 a1 n1 c1 (some (na w)) ya_109_0 yn_109_0 yc_109_0 ya_114_0 yn_114_0 yc_114_0 ya_119_0 yn_119_0 yc_119_0 ya_124_0 yn_124_0 yc_124_0 ya_129_0 yn_129_0 yc_129_0 (yn_109_0 : Int) 0 u128)))))))))))))))))
def thicketlaw13_MaskOwn.g24 (R : Value → World → Prop) (e38 : (Option Addr) → Nat → Nat → (Option Addr) → (Option Addr) → Nat → Nat → (Option Addr) → Nat → Nat → (Option Addr) → Nat → Nat → (Option Addr) → Nat → Nat → (Option Addr) → Nat → Nat → Int → Int → Int → Int → Int → World → Prop) (e56 : (Option Addr) → Nat → Nat → (Option Addr) → (Option Addr) → Nat → Nat → (Option Addr) → Nat → Nat → (Option Addr) → Nat → Nat → (Option Addr) → Nat → Nat → (Option Addr) → Nat → Nat → Int → Int → World → Prop) (a1 : Option Addr) (n1 : Nat) (c1 : Nat) (p2 : Option Addr) (a5 : Option Addr) (n5 : Nat) (c5 : Nat) (a7 : Option Addr) (n7 : Nat) (c7 : Nat) (a9 : Option Addr) (n9 : Nat) (c9 : Nat) (a11 : Option Addr) (n11 : Nat) (c11 : Nat) (a13 : Option Addr) (n13 : Nat) (c13 : Nat) (x55 : Int) (x56 : Int) (w : World) : Prop :=
  onBool (decide (x56 < x55))
    (optN a5 fun q130 =>
    chk ((0 : Int) ≤ x56 ∧ x56 < (n5 : Int))
      (∃ ya_131 : Option Addr, ∃ yn_131 : Nat, ∃ yc_131 : Nat, w.cell? (q130.add (x56.toNat * 1)) = some (.slice ya_131 yn_131 yc_131) ∧
        (e38 a1 n1 c1 p2 a5 n5 c5 a7 n7 c7 a9 n9 c9 a11 n11 c11 a13 n13 c13 x56 x55 x56 (yn_131 : Int) 0 w)))
    (e56 a1 n1 c1 p2 a5 n5 c5 a7 n7 c7 a9 n9 c9 a11 n11 c11 a13 n13 c13 (n5 : Int) 0 w)
def thicketlaw13_MaskOwn.g38 (R : Value → World → Prop) (b24 : (Option Addr) → Nat → Nat → (Option Addr) → (Option Addr) → Nat → Nat → (Option Addr) → Nat → Nat → (Option Addr) → Nat → Nat → (Option Addr) → Nat → Nat → (Option Addr) → Nat → Nat → Int → Int → World → Prop) (b38 : (Option Addr) → Nat → Nat → (Option Addr) → (Option Addr) → Nat → Nat → (Option Addr) → Nat → Nat → (Option Addr) → Nat → Nat → (Option Addr) → Nat → Nat → (Option Addr) → Nat → Nat → Int → Int → Int → Int → Int → World → Prop) (a1 : Option Addr) (n1 : Nat) (c1 : Nat) (p2 : Option Addr) (a5 : Option Addr) (n5 : Nat) (c5 : Nat) (a7 : Option Addr) (n7 : Nat) (c7 : Nat) (a9 : Option Addr) (n9 : Nat) (c9 : Nat) (a11 : Option Addr) (n11 : Nat) (c11 : Nat) (a13 : Option Addr) (n13 : Nat) (c13 : Nat) (x15 : Int) (x55 : Int) (x56 : Int) (x63 : Int) (x64 : Int) (w : World) : Prop :=
  onBool (decide (x64 < x63))
    (optN a5 fun q132 =>
    chk ((0 : Int) ≤ x15 ∧ x15 < (n5 : Int))
      (∃ ya_133 : Option Addr, ∃ yn_133 : Nat, ∃ yc_133 : Nat, w.cell? (q132.add (x15.toNat * 1)) = some (.slice ya_133 yn_133 yc_133) ∧
        (nv (IntKind.i64.wrap (x15 + 1)) fun t134 =>
        nv (IntKind.u64.wrap t134) fun t135 =>
        optN ya_133 fun q136 =>
        chk ((0 : Int) ≤ x64 ∧ x64 < (yn_133 : Int))
          (okSt w ((q136.add (x64.toNat * 1)).add 0) ∧
            (nw (w.setCell ((q136.add (x64.toNat * 1)).add 0) (.int .u64 t135)) fun w137 =>
            nv (IntKind.i64.wrap (x64 + 1)) fun t138 =>
            b38 a1 n1 c1 p2 a5 n5 c5 a7 n7 c7 a9 n9 c9 a11 n11 c11 a13 n13 c13 x15 x55 x56 x63 t138 w137)))))
    (nv (IntKind.i64.wrap (x56 + 1)) fun t139 =>
    b24 a1 n1 c1 p2 a5 n5 c5 a7 n7 c7 a9 n9 c9 a11 n11 c11 a13 n13 c13 x55 t139 w)
def thicketlaw13_MaskOwn.g56 (R : Value → World → Prop) (b56 : (Option Addr) → Nat → Nat → (Option Addr) → (Option Addr) → Nat → Nat → (Option Addr) → Nat → Nat → (Option Addr) → Nat → Nat → (Option Addr) → Nat → Nat → (Option Addr) → Nat → Nat → Int → Int → World → Prop) (e73 : (Option Addr) → Nat → Nat → (Option Addr) → (Option Addr) → Nat → Nat → (Option Addr) → Nat → Nat → (Option Addr) → Nat → Nat → (Option Addr) → Nat → Nat → (Option Addr) → Nat → Nat → Int → Int → World → Prop) (a1 : Option Addr) (n1 : Nat) (c1 : Nat) (p2 : Option Addr) (a5 : Option Addr) (n5 : Nat) (c5 : Nat) (a7 : Option Addr) (n7 : Nat) (c7 : Nat) (a9 : Option Addr) (n9 : Nat) (c9 : Nat) (a11 : Option Addr) (n11 : Nat) (c11 : Nat) (a13 : Option Addr) (n13 : Nat) (c13 : Nat) (x79 : Int) (x80 : Int) (w : World) : Prop :=
  onBool (decide (x80 < x79))
    (optN a5 fun q140 =>
    chk ((0 : Int) ≤ x80 ∧ x80 < (n5 : Int))
      (∃ ya_141 : Option Addr, ∃ yn_141 : Nat, ∃ yc_141 : Nat, w.cell? (q140.add (x80.toNat * 1)) = some (.slice ya_141 yn_141 yc_141) ∧
        (nw (w.alloc (.cells #[.int .u64 7, .int .u64 7, .int .u64 7] 58)) fun w142 =>
        rawN Go.Proofs.Tryd.prog (Builtin.append_ #[30, 30] 30 #[.slice ya_141 yn_141 yc_141, .slice (some (na w)) 3 3]) w142 fun yv143 u144 =>
          ∃ ya_145 : Option Addr, ∃ yn_145 : Nat, ∃ yc_145 : Nat, yv143 = .slice ya_145 yn_145 yc_145 ∧
            (optN a5 fun q146 =>
            chk ((0 : Int) ≤ x80 ∧ x80 < (n5 : Int))
              (okSt u144 ((q146.add (x80.toNat * 1)).add 0) ∧
                (nw (u144.setCell ((q146.add (x80.toNat * 1)).add 0) (.slice ya_145 yn_145 yc_145)) fun w147 =>
                nv (IntKind.i64.wrap (x80 + 1)) fun t148 =>
                b56 a1 n1 c1 p2 a5 n5 c5 a7 n7 c7 a9 n9 c9 a11 n11 c11 a13 n13 c13 x79 t148 w147))))))
    (e73 a1 n1 c1 p2 a5 n5 c5 a7 n7 c7 a9 n9 c9 a11 n11 c11 a13 n13 c13 (n9 : Int) 0 w)
def thicketlaw13_MaskOwn.g73 (R : Value → World → Prop) (b73 : (Option Addr) → Nat → Nat → (Option Addr) → (Option Addr) → Nat → Nat → (Option Addr) → Nat → Nat → (Option Addr) → Nat → Nat → (Option Addr) → Nat → Nat → (Option Addr) → Nat → Nat → Int → Int → World → Prop) (e90 : (Option Addr) → Nat → Nat → (Option Addr) → (Option Addr) → Nat → Nat → (Option Addr) → Nat → Nat → (Option Addr) → Nat → Nat → (Option Addr) → Nat → Nat → (Option Addr) → Nat → Nat → Int → Int → World → Prop) (a1 : Option Addr) (n1 : Nat) (c1 : Nat) (p2 : Option Addr) (a5 : Option Addr) (n5 : Nat) (c5 : Nat) (a7 : Option Addr) (n7 : Nat) (c7 : Nat) (a9 : Option Addr) (n9 : Nat) (c9 : Nat) (a11 : Option Addr) (n11 : Nat) (c11 : Nat) (a13 : Option Addr) (n13 : Nat) (c13 : Nat) (x94 : Int) (x95 : Int) (w : World) : Prop :=
  onBool (decide (x95 < x94))
    (optN a9 fun q149 =>
    chk ((0 : Int) ≤ x95 ∧ x95 < (n9 : Int))
      (okSt w ((q149.add (x95.toNat * 3)).add 0) ∧
        (nw (w.setCell ((q149.add (x95.toNat * 3)).add 0) (.int .i64 (-1))) fun w150 =>
        okSt w150 ((q149.add (x95.toNat * 3)).add 1) ∧
          (nw (w150.setCell ((q149.add (x95.toNat * 3)).add 1) (.int .i64 0)) fun w151 =>
          okSt w151 ((q149.add (x95.toNat * 3)).add 2) ∧
            (nw (w151.setCell ((q149.add (x95.toNat * 3)).add 2) (.int .i64 0)) fun w152 =>
            nv (IntKind.i64.wrap (x95 + 1)) fun t153 =>
            b73 a1 n1 c1 p2 a5 n5 c5 a7 n7 c7 a9 n9 c9 a11 n11 c11 a13 n13 c13 x94 t153 w152)))))
    (e90 a1 n1 c1 p2 a5 n5 c5 a7 n7 c7 a9 n9 c9 a11 n11 c11 a13 n13 c13 (n11 : Int) 0 w)
def thicketlaw13_MaskOwn.g90 (R : Value → World → Prop) (b90 : (Option Addr) → Nat → Nat → (Option Addr) → (Option Addr) → Nat → Nat → (Option Addr) → Nat → Nat → (Option Addr) → Nat → Nat → (Option Addr) → Nat → Nat → (Option Addr) → Nat → Nat → Int → Int → World → Prop) (e107 : (Option Addr) → Nat → Nat → (Option Addr) → (Option Addr) → Nat → Nat → (Option Addr) → Nat → Nat → (Option Addr) → Nat → Nat → (Option Addr) → Nat → Nat → (Option Addr) → Nat → Nat → Int → Int → World → Prop) (a1 : Option Addr) (n1 : Nat) (c1 : Nat) (p2 : Option Addr) (a5 : Option Addr) (n5 : Nat) (c5 : Nat) (a7 : Option Addr) (n7 : Nat) (c7 : Nat) (a9 : Option Addr) (n9 : Nat) (c9 : Nat) (a11 : Option Addr) (n11 : Nat) (c11 : Nat) (a13 : Option Addr) (n13 : Nat) (c13 : Nat) (x104 : Int) (x105 : Int) (w : World) : Prop :=
  onBool (decide (x105 < x104))
    (optN a11 fun q154 =>
    chk ((0 : Int) ≤ x105 ∧ x105 < (n11 : Int))
      (okSt w ((q154.add (x105.toNat * 3)).add 0) ∧
        (nw (w.setCell ((q154.add (x105.toNat * 3)).add 0) (.int .i64 (-2))) fun w155 =>
        okSt w155 ((q154.add (x105.toNat * 3)).add 1) ∧
          (nw (w155.setCell ((q154.add (x105.toNat * 3)).add 1) (.int .i64 0)) fun w156 =>
          okSt w156 ((q154.add (x105.toNat * 3)).add 2) ∧
            (nw (w156.setCell ((q154.add (x105.toNat * 3)).add 2) (.int .i64 0)) fun w157 =>
            nv (IntKind.i64.wrap (x105 + 1)) fun t158 =>
            b90 a1 n1 c1 p2 a5 n5 c5 a7 n7 c7 a9 n9 c9 a11 n11 c11 a13 n13 c13 x104 t158 w157)))))
    (e107 a1 n1 c1 p2 a5 n5 c5 a7 n7 c7 a9 n9 c9 a11 n11 c11 a13 n13 c13 (n13 : Int) 0 w)
def thicketlaw13_MaskOwn.g107 (R : Value → World → Prop) (b107 : (Option Addr) → Nat → Nat → (Option Addr) → (Option Addr) → Nat → Nat → (Option Addr) → Nat → Nat → (Option Addr) → Nat → Nat → (Option Addr) → Nat → Nat → (Option Addr) → Nat → Nat → Int → Int → World → Prop) (e130 : (Option Addr) → Nat → Nat → (Option Addr) → (Option Addr) → Nat → Nat → (Option Addr) → Nat → Nat → (Option Addr) → Nat → Nat → (Option Addr) → Nat → Nat → (Option Addr) → Nat → Nat → Int → Int → World → Prop) (a1 : Option Addr) (n1 : Nat) (c1 : Nat) (p2 : Option Addr) (a5 : Option Addr) (n5 : Nat) (c5 : Nat) (a7 : Option Addr) (n7 : Nat) (c7 : Nat) (a9 : Option Addr) (n9 : Nat) (c9 : Nat) (a11 : Option Addr) (n11 : Nat) (c11 : Nat) (a13 : Option Addr) (n13 : Nat) (c13 : Nat) (x114 : Int) (x115 : Int) (w : World) : Prop :=
  onBool (decide (x115 < x114))
    (optN a13 fun q159 =>
    chk ((0 : Int) ≤ x115 ∧ x115 < (n13 : Int))
      (okSt w ((q159.add (x115.toNat * 1)).add 0) ∧
        (nw (w.setCell ((q159.add (x115.toNat * 1)).add 0) (.int .u64 0)) fun w160 =>
        nv (IntKind.i64.wrap (x115 + 1)) fun t161 =>
        b107 a1 n1 c1 p2 a5 n5 c5 a7 n7 c7 a9 n9 c9 a11 n11 c11 a13 n13 c13 x114 t161 w160)))
    (nw (w.alloc (.cells #[.int .i64 0, .int .i64 0, .int .i64 0, .int .i64 0, .int .i64 0, .int .i64 0] 44)) fun w162 =>
    rawN Go.Proofs.Tryd.prog (Builtin.append_ #[26, 26] 26 #[.slice a9 n9 c9, .slice (some (na w)) 2 2]) w162 fun yv163 u164 =>
      ∃ ya_165 : Option Addr, ∃ yn_165 : Nat, ∃ yc_165 : Nat, yv163 = .slice ya_165 yn_165 yc_165 ∧
        (nw (u164.alloc (.cells #[.int .i64 0, .int .i64 0, .int .i64 0, .int .i64 0, .int .i64 0, .int .i64 0] 44)) fun w166 =>
        rawN Go.Proofs.Tryd.prog (Builtin.append_ #[26, 26] 26 #[.slice a11 n11 c11, .slice (some (na u164)) 2 2]) w166 fun yv167 u168 =>
          ∃ ya_169 : Option Addr, ∃ yn_169 : Nat, ∃ yc_169 : Nat, yv167 = .slice ya_169 yn_169 yc_169 ∧
            (optN p2 fun q170 =>
            ∃ yx_171 : Int, u168.cell? (q170.add 0) = some (.int .i64 yx_171) ∧
              (∃ ya_172 : Option Addr, ∃ yn_172 : Nat, ∃ yc_172 : Nat, u168.cell? (q170.add 1) = some (.slice ya_172 yn_172 yc_172) ∧
                (Go.E.CallsD Go.Proofs.Tryd.prog 25 #[.agg #[.int .i64 yx_171, .slice ya_172 yn_172 yc_172]] u168 fun yv173 u174 =>
                  ∃ ya_175_0 : Option Addr, ∃ yn_175_0 : Nat, ∃ yc_175_0 : Nat, ∃ yx_175_1 : Int, yv173 = .tuple #[.slice ya_175_0 yn_175_0 yc_175_0, .int .i64 yx_175_1] ∧
                    (e130 a1 n1 c1 p2 a5 n5 c5 a7 n7 c7 ya_165 yn_165 yc_165 ya_169 yn_169 yc_169 ya_175_0 yn_175_0 yc_175_0 (yn_175_0 : Int) 0 u174))))))
def thicketlaw13_MaskOwn.g130 (R : Value → World → Prop) (e144 : (Option Addr) → Nat → Nat → (Option Addr) → (Option Addr) → Nat → Nat → (Option Addr) → Nat → Nat → (Option Addr) → Nat → Nat → (Option Addr) → Nat → Nat → (Option Addr) → Nat → Nat → Int → Int → Int → Int → Int → World → Prop) (a1 : Option Addr) (n1 : Nat) (c1 : Nat) (p2 : Option Addr) (a5 : Option Addr) (n5 : Nat) (c5 : Nat) (a7 : Option Addr) (n7 : Nat) (c7 : Nat) (a9 : Option Addr) (n9 : Nat) (c9 : Nat) (a11 : Option Addr) (n11 : Nat) (c11 : Nat) (a21 : Option Addr) (n21 : Nat) (c21 : Nat) (x138 : Int) (x139 : Int) (w : World) : Prop :=
  onBool (decide (x139 < x138))
    (optN a21 fun q176 =>
    chk ((0 : Int) ≤ x139 ∧ x139 < (n21 : Int))
      (∃ ya_177 : Option Addr, ∃ yn_177 : Nat, ∃ yc_177 : Nat, w.cell? (q176.add (x139.toNat * 1)) = some (.slice ya_177 yn_177 yc_177) ∧
        (e144 a1 n1 c1 p2 a5 n5 c5 a7 n7 c7 a9 n9 c9 a11 n11 c11 a21 n21 c21 x139 x138 x139 (yn_177 : Int) 0 w)))
    (Go.E.CallsD Go.Proofs.Tryd.prog 26 #[.slice a7 n7 c7, .slice a21 n21 c21] w fun yv178 u179 =>
      ∃ yb_180 : Bool, yv178 = .bool yb_180 ∧
        (onBool yb_180
          (optN p2 fun q181 =>
          ∃ yx_182 : Int, u179.cell? (q181.add 0) = some (.int .i64 yx_182) ∧
            (∃ ya_183 : Option Addr, ∃ yn_183 : Nat, ∃ yc_183 : Nat, u179.cell? (q181.add 1) = some (.slice ya_183 yn_183 yc_183) ∧
              (Go.E.CallsD Go.Proofs.Tryd.prog 5 #[.agg #[.int .i64 yx_182, .slice ya_183 yn_183 yc_183]] u179 fun yv184 u185 =>
                ∃ yb_186 : Bool, yv184 = .bool yb_186 ∧
                  (onBool yb_186
                    (optN p2 fun q187 =>
                    ∃ yx_188 : Int, u185.cell? (q187.add 0) = some (.int .i64 yx_188) ∧
                      (∃ ya_189 : Option Addr, ∃ yn_189 : Nat, ∃ yc_189 : Nat, u185.cell? (q187.add 1) = some (.slice ya_189 yn_189 yc_189) ∧
                        (Go.E.CallsD Go.Proofs.Tryd.prog 3 #[.agg #[.int .i64 yx_188, .slice ya_189 yn_189 yc_189], .slice a1 n1 c1] u185 fun yv190 u191 =>
                          ∃ yb_192 : Bool, yv190 = .bool yb_192 ∧
                            (onBool yb_192
                              (onBool (decide ((n9 : Int) > 1))
                                (R (.bool (decide ((n11 : Int) > 1))) u191)
                                (R (.bool false) u191))
                              (R (.bool false) u191)))))
                    (R (.bool false) u185)))))
          (R (.bool false) u179)))
def thicketlaw13_MaskOwn.g144 (R : Value → World → Prop) (b130 : (Option Addr) → Nat → Nat → (Option Addr) → (Option Addr) → Nat → Nat → (Option Addr) → Nat → Nat → (Option Addr) → Nat → Nat → (Option Addr) → Nat → Nat → (Option Addr) → Nat → Nat → Int → Int → World → Prop) (b144 : (Option Addr) → Nat → Nat → (Option Addr) → (Option Addr) → Nat → Nat → (Option Addr) → Nat → Nat → (Option Addr) → Nat → Nat → (Option Addr) → Nat → Nat → (Option Addr) → Nat → Nat → Int → Int → Int → Int → Int → World → Prop) (a1 : Option Addr) (n1 : Nat) (c1 : Nat) (p2 : Option Addr) (a5 : Option Addr) (n5 : Nat) (c5 : Nat) (a7 : Option Addr) (n7 : Nat) (c7 : Nat) (a9 : Option Addr) (n9 : Nat) (c9 : Nat) (a11 : Option Addr) (n11 : Nat) (c11 : Nat) (a21 : Option Addr) (n21 : Nat) (c21 : Nat) (x23 : Int) (x138 : Int) (x139 : Int) (x146 : Int) (x147 : Int) (w : World) : Prop :=
  onBool (decide (x147 < x146))
    (optN a5 fun q193 =>
    chk ((0 : Int) ≤ x23 ∧ x23 < (n5 : Int))
      (∃ ya_194 : Option Addr, ∃ yn_194 : Nat, ∃ yc_194 : Nat, w.cell? (q193.add (x23.toNat * 1)) = some (.slice ya_194 yn_194 yc_194) ∧
        (optN ya_194 fun q195 =>
        chk ((0 : Int) ≤ x147 ∧ x147 < (yn_194 : Int))
          (∃ yx_196 : Int, w.cell? (q195.add (x147.toNat * 1)) = some (.int .u64 yx_196) ∧
            (nv (IntKind.i64.wrap (x23 + 1)) fun t197 =>
            nv (IntKind.u64.wrap t197) fun t198 =>
            onBool (yx_196 != t198)
              (R (.bool false) w)
              (nv (IntKind.i64.wrap (x147 + 1)) fun t199 =>
              b144 a1 n1 c1 p2 a5 n5 c5 a7 n7 c7 a9 n9 c9 a11 n11 c11 a21 n21 c21 x23 x138 x139 x146 t199 w))))))
    (nv (IntKind.i64.wrap (x139 + 1)) fun t200 =>
    b130 a1 n1 c1 p2 a5 n5 c5 a7 n7 c7 a9 n9 c9 a11 n11 c11 a21 n21 c21 x138 t200 w)
def thicketlaw13_MaskOwn.q2 (R : Value → World → Prop) : Exit → Act → World → Prop := (fin Go.Proofs.Tryd.prog Go.Proofs.Tryd.f6 R)
def thicketlaw13_MaskOwn.q10 (R : Value → World → Prop) : Exit → Act → World → Prop := (thicketlaw13_MaskOwn.q2 R)
def thicketlaw13_MaskOwn.q12 (R : Value → World → Prop) : Exit → Act → World → Prop := (thicketlaw13_MaskOwn.q10 R)
def thicketlaw13_MaskOwn.q14 (R : Value → World → Prop) : Exit → Act → World → Prop := (thicketlaw13_MaskOwn.q12 R)
def thicketlaw13_MaskOwn.q16 (R : Value → World → Prop) : Exit → Act → World → Prop := (thicketlaw13_MaskOwn.q14 R)
def thicketlaw13_MaskOwn.q18 (R : Value → World → Prop) : Exit → Act → World → Prop := (thicketlaw13_MaskOwn.q16 R)
def thicketlaw13_MaskOwn.q20 (R : Value → World → Prop) : Exit → Act → World → Prop := (thicketlaw13_MaskOwn.q18 R)
def thicketlaw13_MaskOwn.q21 (R : Value → World → Prop) : Exit → Act → World → Prop := Exit.then (startN none (codeN Go.Proofs.Tryd.prog (sub (codeOf Go.Proofs.Tryd.f6) [1, 1, 1, 1, 1, 1, 1, 1]) (nsub thicketlaw13_MaskOwn.an [1, 1, 1, 1, 1, 1, 1, 1]) (thicketlaw13_MaskOwn.q20 R))) (thicketlaw13_MaskOwn.q20 R)
def thicketlaw13_MaskOwn.q23 (R : Value → World → Prop) : Exit → Act → World → Prop := (thicketlaw13_MaskOwn.q21 R)
def thicketlaw13_MaskOwn.q24 (R : Value → World → Prop) : Exit → Act → World → Prop := Exit.inBlock 0 (thicketlaw13_MaskOwn.q23 R)
def thicketlaw13_MaskOwn.rl24 (R : Value → World → Prop) (k : Nat) (a1 : Option Addr) (n1 : Nat) (c1 : Nat) (p2 : Option Addr) (a5 : Option Addr) (n5 : Nat) (c5 : Nat) (a7 : Option Addr) (n7 : Nat) (c7 : Nat) (a9 : Option Addr) (n9 : Nat) (c9 : Nat) (a11 : Option Addr) (n11 : Nat) (c11 : Nat) (a13 : Option Addr) (n13 : Nat) (c13 : Nat) (x55 : Int) (x56 : Int) (w : World) : Prop := loopN [1, 2, 5, 7, 9, 11, 13, 55, 56] (codeN Go.Proofs.Tryd.prog (sub (codeOf Go.Proofs.Tryd.f6) [1, 1, 1, 1, 1, 1, 1, 0, 1, 0, 0]) (nsub thicketlaw13_MaskOwn.an [1, 1, 1, 1, 1, 1, 1, 0, 1, 0, 0])) (thicketlaw13_MaskOwn.q24 R) k ⟨#[undef, .slice a1 n1 c1, .pointer p2, undef, undef, .slice a5 n5 c5, undef, .slice a7 n7 c7, undef, .slice a9 n9 c9, undef, .slice a11 n11 c11, undef, .slice a13 n13 c13, undef, undef, undef, undef, undef, undef, undef, undef, undef, undef, undef, undef, undef, undef, undef, undef, undef, undef, undef, undef, undef, undef, undef, undef, undef, undef, undef, undef, undef, undef, undef, undef, undef, undef, undef, undef, undef, undef, undef, undef, undef, .int .i64 x55, .int .i64 x56, undef, undef, undef, undef, undef, undef, undef, undef, undef, undef, undef, undef, undef, undef, undef, undef, undef, undef, undef, undef, undef, undef, undef, undef, undef, undef, undef, undef, undef, undef, undef, undef, undef, undef, undef, undef, undef, undef, undef, undef, undef, undef, undef, undef, undef, undef, undef, undef, undef, undef, undef, undef, undef, undef, undef, undef, undef, undef, undef, undef, undef, undef, undef, undef, undef, undef, undef, undef, undef, undef, undef, undef, undef, undef, undef, undef, undef, undef, undef, undef, undef, undef, undef, undef, undef, undef, undef, undef, undef, undef, undef, undef, undef, undef, undef, undef, undef, undef, undef, undef, undef, undef, undef, undef, undef, undef, undef, undef, undef, undef, undef, undef, undef, undef, undef, undef, undef, undef, undef, undef, undef, undef, undef, undef, undef, undef, undef, undef], []⟩ w
def thicketlaw13_MaskOwn.re24 (R : Value → World → Prop) (a1 : Option Addr) (n1 : Nat) (c1 : Nat) (p2 : Option Addr) (a5 : Option Addr) (n5 : Nat) (c5 : Nat) (a7 : Option Addr) (n7 : Nat) (c7 : Nat) (a9 : Option Addr) (n9 : Nat) (c9 : Nat) (a11 : Option Addr) (n11 : Nat) (c11 : Nat) (a13 : Option Addr) (n13 : Nat) (c13 : Nat) (x55 : Int) (x56 : Int) (w : World) : Prop := ∃ k, thicketlaw13_MaskOwn.rl24 R k a1 n1 c1 p2 a5 n5 c5 a7 n7 c7 a9 n9 c9 a11 n11 c11 a13 n13 c13 x55 x56 w
def thicketlaw13_MaskOwn.q25 (R : Value → World → Prop) (k24 : Nat) : Exit → Act → World → Prop := Exit.then (fun a w => loopN [1, 2, 5, 7, 9, 11, 13, 55, 56] (codeN Go.Proofs.Tryd.prog (sub (codeOf Go.Proofs.Tryd.f6) [1, 1, 1, 1, 1, 1, 1, 0, 1, 0, 0]) (nsub thicketlaw13_MaskOwn.an [1, 1, 1, 1, 1, 1, 1, 0, 1, 0, 0])) (thicketlaw13_MaskOwn.q24 R) k24 (clr [1, 2, 5, 7, 9, 11, 13, 55, 56] a) w) (thicketlaw13_MaskOwn.q24 R)
def thicketlaw13_MaskOwn.q27 (R : Value → World → Prop) (k24 : Nat) : Exit → Act → World → Prop := (thicketlaw13_MaskOwn.q25 R k24)
def thicketlaw13_MaskOwn.q31 (R : Value → World → Prop) (k24 : Nat) : Exit → Act → World → Prop := (thicketlaw13_MaskOwn.q27 R k24)
def thicketlaw13_MaskOwn.q32 (R : Value → World → Prop) (k24 : Nat) : Exit → Act → World → Prop := Exit.then (startN none (codeN Go.Proofs.Tryd.prog (sub (codeOf Go.Proofs.Tryd.f6) [1, 1, 1, 1, 1, 1, 1, 0, 1, 0, 0, 1, 1, 1]) (nsub thicketlaw13_MaskOwn.an [1, 1, 1, 1, 1, 1, 1, 0, 1, 0, 0, 1, 1, 1]) (thicketlaw13_MaskOwn.q31 R k24))) (thicketlaw13_MaskOwn.q31 R k24)
def thicketlaw13_MaskOwn.q33 (R : Value → World → Prop) (k24 : Nat) : Exit → Act → World → Prop := Exit.inBlock 1 (thicketlaw13_MaskOwn.q32 R k24)
def thicketlaw13_MaskOwn.q35 (R : Value → World → Prop) (k24 : Nat) : Exit → Act → World → Prop := (thicketlaw13_MaskOwn.q33 R k24)
def thicketlaw13_MaskOwn.q37 (R : Value → World → Prop) (k24 : Nat) : Exit → Act → World → Prop := (thicketlaw13_MaskOwn.q35 R k24)
def thicketlaw13_MaskOwn.q38 (R : Value → World → Prop) (k24 : Nat) : Exit → Act → World → Prop := Exit.inBlock 2 (thicketlaw13_MaskOwn.q37 R k24)
def thicketlaw13_MaskOwn.rl38 (R : Value → World → Prop) (k24 : Nat) (k : Nat) (a1 : Option Addr) (n1 : Nat) (c1 : Nat) (p2 : Option Addr) (a5 : Option Addr) (n5 : Nat) (c5 : Nat) (a7 : Option Addr) (n7 : Nat) (c7 : Nat) (a9 : Option Addr) (n9 : Nat) (c9 : Nat) (a11 : Option Addr) (n11 : Nat) (c11 : Nat) (a13 : Option Addr) (n13 : Nat) (c13 : Nat) (x15 : Int) (x55 : Int) (x56 : Int) (x63 : Int) (x64 : Int) (w : World) : Prop := loopN [1, 2, 5, 7, 9, 11, 13, 15, 55, 56, 63, 64] (codeN Go.Proofs.Tryd.prog (sub (codeOf Go.Proofs.Tryd.f6) [1, 1, 1, 1, 1, 1, 1, 0, 1, 0, 0, 1, 1, 0, 0, 1, 1, 0, 0]) (nsub thicketlaw13_MaskOwn.an [1, 1, 1, 1, 1, 1, 1, 0, 1, 0, 0, 1, 1, 0, 0, 1, 1, 0, 0])) (thicketlaw13_MaskOwn.q38 R k24) k ⟨#[undef, .slice a1 n1 c1, .pointer p2, undef, undef, .slice a5 n5 c5, undef, .slice a7 n7 c7, undef, .slice a9 n9 c9, undef, .slice a11 n11 c11, undef, .slice a13 n13 c13, undef, .int .i64 x15, undef, undef, undef, undef, undef, undef, undef, undef, undef, undef, undef, undef, undef, undef, undef, undef, undef, undef, undef, undef, undef, undef, undef, undef, undef, undef, undef, undef, undef, undef, undef, undef, undef, undef, undef, undef, undef, undef, undef, .int .i64 x55, .int .i64 x56, undef, undef, undef, undef, undef, undef, .int .i64 x63, .int .i64 x64, undef, undef, undef, undef, undef, undef, undef, undef, undef, undef, undef, undef, undef, undef, undef, undef, undef, undef, undef, undef, undef, undef, undef, undef, undef, undef, undef, undef, undef, undef, undef, undef, undef, undef, undef, undef, undef, undef, undef, undef, undef, undef, undef, undef, undef, undef, undef, undef, undef, undef, undef, undef, undef, undef, undef, undef, undef, undef, undef, undef, undef, undef, undef, undef, undef, undef, undef, undef, undef, undef, undef, undef, undef, undef, undef, undef, undef, undef, undef, undef, undef, undef, undef, undef, undef, undef, undef, undef, undef, undef, undef, undef, undef, undef, undef, undef, undef, undef, undef, undef, undef, undef, undef, undef, undef, undef, undef, undef, undef, undef, undef, undef, undef, undef, undef, undef, undef, undef, undef, undef], []⟩ w
def thicketlaw13_MaskOwn.re38 (R : Value → World → Prop) (k24 : Nat) (a1 : Option Addr) (n1 : Nat) (c1 : Nat) (p2 : Option Addr) (a5 : Option Addr) (n5 : Nat) (c5 : Nat) (a7 : Option Addr) (n7 : Nat) (c7 : Nat) (a9 : Option Addr) (n9 : Nat) (c9 : Nat) (a11 : Option Addr) (n11 : Nat) (c11 : Nat) (a13 : Option Addr) (n13 : Nat) (c13 : Nat) (x15 : Int) (x55 : Int) (x56 : Int) (x63 : Int) (x64 : Int) (w : World) : Prop := ∃ k, thicketlaw13_MaskOwn.rl38 R k24 k a1 n1 c1 p2 a5 n5 c5 a7 n7 c7 a9 n9 c9 a11 n11 c11 a13 n13 c13 x15 x55 x56 x63 x64 w
def thicketlaw13_MaskOwn.q52 (R : Value → World → Prop) : Exit → Act → World → Prop := (thicketlaw13_MaskOwn.q20 R)
def thicketlaw13_MaskOwn.q53 (R : Value → World → Prop) : Exit → Act → World → Prop := Exit.then (startN none (codeN Go.Proofs.Tryd.prog (sub (codeOf Go.Proofs.Tryd.f6) [1, 1, 1, 1, 1, 1, 1, 1, 1]) (nsub thicketlaw13_MaskOwn.an [1, 1, 1, 1, 1, 1, 1, 1, 1]) (thicketlaw13_MaskOwn.q52 R))) (thicketlaw13_MaskOwn.q52 R)
def thicketlaw13_MaskOwn.q55 (R : Value → World → Prop) : Exit → Act → World → Prop := (thicketlaw13_MaskOwn.q53 R)
def thicketlaw13_MaskOwn.q56 (R : Value → World → Prop) : Exit → Act → World → Prop := Exit.inBlock 4 (thicketlaw13_MaskOwn.q55 R)
def thicketlaw13_MaskOwn.rl56 (R : Value → World → Prop) (k : Nat) (a1 : Option Addr) (n1 : Nat) (c1 : Nat) (p2 : Option Addr) (a5 : Option Addr) (n5 : Nat) (c5 : Nat) (a7 : Option Addr) (n7 : Nat) (c7 : Nat) (a9 : Option Addr) (n9 : Nat) (c9 : Nat) (a11 : Option Addr) (n11 : Nat) (c11 : Nat) (a13 : Option Addr) (n13 : Nat) (c13 : Nat) (x79 : Int) (x80 : Int) (w : World) : Prop := loopN [1, 2, 5, 7, 9, 11, 13, 79, 80] (codeN Go.Proofs.Tryd.prog (sub (codeOf Go.Proofs.Tryd.f6) [1, 1, 1, 1, 1, 1, 1, 1, 0, 1, 0, 0]) (nsub thicketlaw13_MaskOwn.an [1, 1, 1, 1, 1, 1, 1, 1, 0, 1, 0, 0])) (thicketlaw13_MaskOwn.q56 R) k ⟨#[undef, .slice a1 n1 c1, .pointer p2, undef, undef, .slice a5 n5 c5, undef, .slice a7 n7 c7, undef, .slice a9 n9 c9, undef, .slice a11 n11 c11, undef, .slice a13 n13 c13, undef, undef, undef, undef, undef, undef, undef, undef, undef, undef, undef, undef, undef, undef, undef, undef, undef, undef, undef, undef, undef, undef, undef, undef, undef, undef, undef, undef, undef, undef, undef, undef, undef, undef, undef, undef, undef, undef, undef, undef, undef, undef, undef, undef, undef, undef, undef, undef, undef, undef, undef, undef, undef, undef, undef, undef, undef, undef, undef, undef, undef, undef, undef, undef, undef, .int .i64 x79, .int .i64 x80, undef, undef, undef, undef, undef, undef, undef, undef, undef, undef, undef, undef, undef, undef, undef, undef, undef, undef, undef, undef, undef, undef, undef, undef, undef, undef, undef, undef, undef, undef, undef, undef, undef, undef, undef, undef, undef, undef, undef, undef, undef, undef, undef, undef, undef, undef, undef, undef, undef, undef, undef, undef, undef, undef, undef, undef, undef, undef, undef, undef, undef, undef, undef, undef, undef, undef, undef, undef, undef, undef, undef, undef, undef, undef, undef, undef, undef, undef, undef, undef, undef, undef, undef, undef, undef, undef, undef, undef, undef, undef, undef, undef, undef, undef, undef, undef, undef, undef, undef, undef, undef, undef, undef, undef], []⟩ w
def thicketlaw13_MaskOwn.re56 (R : Value → World → Prop) (a1 : Option Addr) (n1 : Nat) (c1 : Nat) (p2 : Option Addr) (a5 : Option Addr) (n5 : Nat) (c5 : Nat) (a7 : Option Addr) (n7 : Nat) (c7 : Nat) (a9 : Option Addr) (n9 : Nat) (c9 : Nat) (a11 : Option Addr) (n11 : Nat) (c11 : Nat) (a13 : Option Addr) (n13 : Nat) (c13 : Nat) (x79 : Int) (x80 : Int) (w : World) : Prop := ∃ k, thicketlaw13_MaskOwn.rl56 R k a1 n1 c1 p2 a5 n5 c5 a7 n7 c7 a9 n9 c9 a11 n11 c11 a13 n13 c13 x79 x80 w
def thicketlaw13_MaskOwn.q69 (R : Value → World → Prop) : Exit → Act → World → Prop := (thicketlaw13_MaskOwn.q52 R)
def thicketlaw13_MaskOwn.q70 (R : Value → World → Prop) : Exit → Act → World → Prop := Exit.then (startN none (codeN Go.Proofs.Tryd.prog (sub (codeOf Go.Proofs.Tryd.f6) [1, 1, 1, 1, 1, 1, 1, 1, 1, 1]) (nsub thicketlaw13_MaskOwn.an [1, 1, 1, 1, 1, 1, 1, 1, 1, 1]) (thicketlaw13_MaskOwn.q69 R))) (thicketlaw13_MaskOwn.q69 R)
def thicketlaw13_MaskOwn.q72 (R : Value → World → Prop) : Exit → Act → World → Prop := (thicketlaw13_MaskOwn.q70 R)
def thicketlaw13_MaskOwn.q73 (R : Value → World → Prop) : Exit → Act → World → Prop := Exit.inBlock 6 (thicketlaw13_MaskOwn.q72 R)
def thicketlaw13_MaskOwn.rl73 (R : Value → World → Prop) (k : Nat) (a1 : Option Addr) (n1 : Nat) (c1 : Nat) (p2 : Option Addr) (a5 : Option Addr) (n5 : Nat) (c5 : Nat) (a7 : Option Addr) (n7 : Nat) (c7 : Nat) (a9 : Option Addr) (n9 : Nat) (c9 : Nat) (a11 : Option Addr) (n11 : Nat) (c11 : Nat) (a13 : Option Addr) (n13 : Nat) (c13 : Nat) (x94 : Int) (x95 : Int) (w : World) : Prop := loopN [1, 2, 5, 7, 9, 11, 13, 94, 95] (codeN Go.Proofs.Tryd.prog (sub (codeOf Go.Proofs.Tryd.f6) [1, 1, 1, 1, 1, 1, 1, 1, 1, 0, 1, 0, 0]) (nsub thicketlaw13_MaskOwn.an [1, 1, 1, 1, 1, 1, 1, 1, 1, 0, 1, 0, 0])) (thicketlaw13_MaskOwn.q73 R) k ⟨#[undef, .slice a1 n1 c1, .pointer p2, undef, undef, .slice a5 n5 c5, undef, .slice a7 n7 c7, undef, .slice a9 n9 c9, undef, .slice a11 n11 c11, undef, .slice a13 n13 c13, undef, undef, undef, undef, undef, undef, undef, undef, undef, undef, undef, undef, undef, undef, undef, undef, undef, undef, undef, undef, undef, undef, undef, undef, undef, undef, undef, undef, undef, undef, undef, undef, undef, undef, undef, undef, undef, undef, undef, undef, undef, undef, undef, undef, undef, undef, undef, undef, undef, undef, undef, undef, undef, undef, undef, undef, undef, undef, undef, undef, undef, undef, undef, undef, undef, undef, undef, undef, undef, undef, undef, undef, undef, undef, undef, undef, undef, undef, undef, undef, .int .i64 x94, .int .i64 x95, undef, undef, undef, undef, undef, undef, undef, undef, undef, undef, undef, undef, undef, undef, undef, undef, undef, undef, undef, undef, undef, undef, undef, undef, undef, undef, undef, undef, undef, undef, undef, undef, undef, undef, undef, undef, undef, undef, undef, undef, undef, undef, undef, undef, undef, undef, undef, undef, undef, undef, undef, undef, undef, undef, undef, undef, undef, undef, undef, undef, undef, undef, undef, undef, undef, undef, undef, undef, undef, undef, undef, undef, undef, undef, undef, undef, undef, undef, undef, undef, undef, undef, undef, undef, undef, undef, undef, undef, undef], []⟩ w
def thicketlaw13_MaskOwn.re73 (R : Value → World → Prop) (a1 : Option Addr) (n1 : Nat) (c1 : Nat) (p2 : Option Addr) (a5 : Option Addr) (n5 : Nat) (c5 : Nat) (a7 : Option Addr) (n7 : Nat) (c7 : Nat) (a9 : Option Addr) (n9 : Nat) (c9 : Nat) (a11 : Option Addr) (n11 : Nat) (c11 : Nat) (a13 : Option Addr) (n13 : Nat) (c13 : Nat) (x94 : Int) (x95 : Int) (w : World) : Prop := ∃ k, thicketlaw13_MaskOwn.rl73 R k a1 n1 c1 p2 a5 n5 c5 a7 n7 c7 a9 n9 c9 a11 n11 c11 a13 n13 c13 x94 x95 w
def thicketlaw13_MaskOwn.q86 (R : Value → World → Prop) : Exit → Act → World → Prop := (thicketlaw13_MaskOwn.q69 R)
def thicketlaw13_MaskOwn.q87 (R : Value → World → Prop) : Exit → Act → World → Prop := Exit.then (startN none (codeN Go.Proofs.Tryd.prog (sub (codeOf Go.Proofs.Tryd.f6) [1, 1, 1, 1, 1, 1, 1, 1, 1, 1, 1]) (nsub thicketlaw13_MaskOwn.an [1, 1, 1, 1, 1, 1, 1, 1, 1, 1, 1]) (thicketlaw13_MaskOwn.q86 R))) (thicketlaw13_MaskOwn.q86 R)
def thicketlaw13_MaskOwn.q89 (R : Value → World → Prop) : Exit → Act → World → Prop := (thicketlaw13_MaskOwn.q87 R)
def thicketlaw13_MaskOwn.q90 (R : Value → World → Prop) : Exit → Act → World → Prop := Exit.inBlock 8 (thicketlaw13_MaskOwn.q89 R)
def thicketlaw13_MaskOwn.rl90 (R : Value → World → Prop) (k : Nat) (a1 : Option Addr) (n1 : Nat) (c1 : Nat) (p2 : Option Addr) (a5 : Option Addr) (n5 : Nat) (c5 : Nat) (a7 : Option Addr) (n7 : Nat) (c7 : Nat) (a9 : Option Addr) (n9 : Nat) (c9 : Nat) (a11 : Option Addr) (n11 : Nat) (c11 : Nat) (a13 : Option Addr) (n13 : Nat) (c13 : Nat) (x104 : Int) (x105 : Int) (w : World) : Prop := loopN [1, 2, 5, 7, 9, 11, 13, 104, 105] (codeN Go.Proofs.Tryd.prog (sub (codeOf Go.Proofs.Tryd.f6) [1, 1, 1, 1, 1, 1, 1, 1, 1, 1, 0, 1, 0, 0]) (nsub thicketlaw13_MaskOwn.an [1, 1, 1, 1, 1, 1, 1, 1, 1, 1, 0, 1, 0, 0])) (thicketlaw13_MaskOwn.q90 R) k ⟨#[undef, .slice a1 n1 c1, .pointer p2, undef, undef, .slice a5 n5 c5, undef, .slice a7 n7 c7, undef, .slice a9 n9 c9, undef, .slice a11 n11 c11, undef, .slice a13 n13 c13, undef, undef, undef, undef, undef, undef, undef, undef, undef, undef, undef, undef, undef, undef, undef, undef, undef, undef, undef, undef, undef, undef, undef, undef, undef, undef, undef, undef, undef, undef, undef, undef, undef, undef, undef, undef, undef, undef, undef, undef, undef, undef, undef, undef, undef, undef, undef, undef, undef, undef, undef, undef, undef, undef, undef, undef, undef, undef, undef, undef, undef, undef, undef, undef, undef, undef, undef, undef, undef, undef, undef, undef, undef, undef, undef, undef, undef, undef, undef, undef, undef, undef, undef, undef, undef, undef, undef, undef, undef, undef, .int .i64 x104, .int .i64 x105, undef, undef, undef, undef, undef, undef, undef, undef, undef, undef, undef, undef, undef, undef, undef, undef, undef, undef, undef, undef, undef, undef, undef, undef, undef, undef, undef, undef, undef, undef, undef, undef, undef, undef, undef, undef, undef, undef, undef, undef, undef, undef, undef, undef, undef, undef, undef, undef, undef, undef, undef, undef, undef, undef, undef, undef, undef, undef, undef, undef, undef, undef, undef, undef, undef, undef, undef, undef, undef, undef, undef, undef, undef, undef, undef, undef, undef, undef, undef], []⟩ w
def thicketlaw13_MaskOwn.re90 (R : Value → World → Prop) (a1 : Option Addr) (n1 : Nat) (c1 : Nat) (p2 : Option Addr) (a5 : Option Addr) (n5 : Nat) (c5 : Nat) (a7 : Option Addr) (n7 : Nat) (c7 : Nat) (a9 : Option Addr) (n9 : Nat) (c9 : Nat) (a11 : Option Addr) (n11 : Nat) (c11 : Nat) (a13 : Option Addr) (n13 : Nat) (c13 : Nat) (x104 : Int) (x105 : Int) (w : World) : Prop := ∃ k, thicketlaw13_MaskOwn.rl90 R k a1 n1 c1 p2 a5 n5 c5 a7 n7 c7 a9 n9 c9 a11 n11 c11 a13 n13 c13 x104 x105 w
def thicketlaw13_MaskOwn.q103 (R : Value → World → Prop) : Exit → Act → World → Prop := (thicketlaw13_MaskOwn.q86 R)
def thicketlaw13_MaskOwn.q104 (R : Value → World → Prop) : Exit → Act → World → Prop := Exit.then (startN none (codeN Go.Proofs.Tryd.prog (sub (codeOf Go.Proofs.Tryd.f6) [1, 1, 1, 1, 1, 1, 1, 1, 1, 1, 1, 1]) (nsub thicketlaw13_MaskOwn.an [1, 1, 1, 1, 1, 1, 1, 1, 1, 1, 1, 1]) (thicketlaw13_MaskOwn.q103 R))) (thicketlaw13_MaskOwn.q103 R)
def thicketlaw13_MaskOwn.q106 (R : Value → World → Prop) : Exit → Act → World → Prop := (thicketlaw13_MaskOwn.q104 R)
def thicketlaw13_MaskOwn.q107 (R : Value → World → Prop) : Exit → Act → World → Prop := Exit.inBlock 10 (thicketlaw13_MaskOwn.q106 R)
def thicketlaw13_MaskOwn.rl107 (R : Value → World → Prop) (k : Nat) (a1 : Option Addr) (n1 : Nat) (c1 : Nat) (p2 : Option Addr) (a5 : Option Addr) (n5 : Nat) (c5 : Nat) (a7 : Option Addr) (n7 : Nat) (c7 : Nat) (a9 : Option Addr) (n9 : Nat) (c9 : Nat) (a11 : Option Addr) (n11 : Nat) (c11 : Nat) (a13 : Option Addr) (n13 : Nat) (c13 : Nat) (x114 : Int) (x115 : Int) (w : World) : Prop := loopN [1, 2, 5, 7, 9, 11, 13, 114, 115] (codeN Go.Proofs.Tryd.prog (sub (codeOf Go.Proofs.Tryd.f6) [1, 1, 1, 1, 1, 1, 1, 1, 1, 1, 1, 0, 1, 0, 0]) (nsub thicketlaw13_MaskOwn.an [1, 1, 1, 1, 1, 1, 1, 1, 1, 1, 1, 0, 1, 0, 0])) (thicketlaw13_MaskOwn.q107 R) k ⟨#[undef, .slice a1 n1 c1, .pointer p2, undef, undef, .slice a5 n5 c5, undef, .slice a7 n7 c7, undef, .slice a9 n9 c9, undef, .slice a11 n11 c11, undef, .slice a13 n13 c13, undef, undef, undef, undef, undef, undef, undef, undef, undef, undef, undef, undef, undef, undef, undef, undef, undef, undef, undef, undef, undef, undef, undef, undef, undef, undef, undef, undef, undef, undef, undef, undef, undef, undef, undef, undef, undef, undef, undef, undef, undef, undef, undef, undef, undef, undef, undef, undef, undef, undef, undef, undef, undef, undef, undef, undef, undef, undef, undef, undef, undef, undef, undef, undef, undef, undef, undef, undef, undef, undef, undef, undef, undef, undef, undef, undef, undef, undef, undef, undef, undef, undef, undef, undef, undef, undef, undef, undef, undef, undef, undef, undef, undef, undef, undef, undef, undef, undef, undef, undef, .int .i64 x114, .int .i64 x115, undef, undef, undef, undef, undef, undef, undef, undef, undef, undef, undef, undef, undef, undef, undef, undef, undef, undef, undef, undef, undef, undef, undef, undef, undef, undef, undef, undef, undef, undef, undef, undef, undef, undef, undef, undef, undef, undef, undef, undef, undef, undef, undef, undef, undef, undef, undef, undef, undef, undef, undef, undef, undef, undef, undef, undef, undef, undef, undef, undef, undef, undef, undef, undef, undef, undef, undef, undef, undef], []⟩ w
def thicketlaw13_MaskOwn.re107 (R : Value → World → Prop) (a1 : Option Addr) (n1 : Nat) (c1 : Nat) (p2 : Option Addr) (a5 : Option Addr) (n5 : Nat) (c5 : Nat) (a7 : Option Addr) (n7 : Nat) (c7 : Nat) (a9 : Option Addr) (n9 : Nat) (c9 : Nat) (a11 : Option Addr) (n11 : Nat) (c11 : Nat) (a13 : Option Addr) (n13 : Nat) (c13 : Nat) (x114 : Int) (x115 : Int) (w : World) : Prop := ∃ k, thicketlaw13_MaskOwn.rl107 R k a1 n1 c1 p2 a5 n5 c5 a7 n7 c7 a9 n9 c9 a11 n11 c11 a13 n13 c13 x114 x115 w
def thicketlaw13_MaskOwn.q120 (R : Value → World → Prop) : Exit → Act → World → Prop := (thicketlaw13_MaskOwn.q103 R)
def thicketlaw13_MaskOwn.q122 (R : Value → World → Prop) : Exit → Act → World → Prop := (thicketlaw13_MaskOwn.q120 R)
def thicketlaw13_MaskOwn.q124 (R : Value → World → Prop) : Exit → Act → World → Prop := (thicketlaw13_MaskOwn.q122 R)
def thicketlaw13_MaskOwn.q126 (R : Value → World → Prop) : Exit → Act → World → Prop := (thicketlaw13_MaskOwn.q124 R)
def thicketlaw13_MaskOwn.q127 (R : Value → World → Prop) : Exit → Act → World → Prop := Exit.then (startN none (codeN Go.Proofs.Tryd.prog (sub (codeOf Go.Proofs.Tryd.f6) [1, 1, 1, 1, 1, 1, 1, 1, 1, 1, 1, 1, 1, 1, 1, 1]) (nsub thicketlaw13_MaskOwn.an [1, 1, 1, 1, 1, 1, 1, 1, 1, 1, 1, 1, 1, 1, 1, 1]) (thicketlaw13_MaskOwn.q126 R))) (thicketlaw13_MaskOwn.q126 R)
def thicketlaw13_MaskOwn.q129 (R : Value → World → Prop) : Exit → Act → World → Prop := (thicketlaw13_MaskOwn.q127 R)
def thicketlaw13_MaskOwn.q130 (R : Value → World → Prop) : Exit → Act → World → Prop := Exit.inBlock 12 (thicketlaw13_MaskOwn.q129 R)
def thicketlaw13_MaskOwn.rl130 (R : Value → World → Prop) (k : Nat) (a1 : Option Addr) (n1 : Nat) (c1 : Nat) (p2 : Option Addr) (a5 : Option Addr) (n5 : Nat) (c5 : Nat) (a7 : Option Addr) (n7 : Nat) (c7 : Nat) (a9 : Option Addr) (n9 : Nat) (c9 : Nat) (a11 : Option Addr) (n11 : Nat) (c11 : Nat) (a21 : Option Addr) (n21 : Nat) (c21 : Nat) (x138 : Int) (x139 : Int) (w : World) : Prop := loopN [1, 2, 5, 7, 9, 11, 21, 138, 139] (codeN Go.Proofs.Tryd.prog (sub (codeOf Go.Proofs.Tryd.f6) [1, 1, 1, 1, 1, 1, 1, 1, 1, 1, 1, 1, 1, 1, 1, 0, 1, 0, 0]) (nsub thicketlaw13_MaskOwn.an [1, 1, 1, 1, 1, 1, 1, 1, 1, 1, 1, 1, 1, 1, 1, 0, 1, 0, 0])) (thicketlaw13_MaskOwn.q130 R) k ⟨#[undef, .slice a1 n1 c1, .pointer p2, undef, undef, .slice a5 n5 c5, undef, .slice a7 n7 c7, undef, .slice a9 n9 c9, undef, .slice a11 n11 c11, undef, undef, undef, undef, undef, undef, undef, undef, undef, .slice a21 n21 c21, undef, undef, undef, undef, undef, undef, undef, undef, undef, undef, undef, undef, undef, undef, undef, undef, undef, undef, undef, undef, undef, undef, undef, undef, undef, undef, undef, undef, undef, undef, undef, undef, undef, undef, undef, undef, undef, undef, undef, undef, undef, undef, undef, undef, undef, undef, undef, undef, undef, undef, undef, undef, undef, undef, undef, undef, undef, undef, undef, undef, undef, undef, undef, undef, undef, undef, undef, undef, undef, undef, undef, undef, undef, undef, undef, undef, undef, undef, undef, undef, undef, undef, undef, undef, undef, undef, undef, undef, undef, undef, undef, undef, undef, undef, undef, undef, undef, undef, undef, undef, undef, undef, undef, undef, undef, undef, undef, undef, undef, undef, undef, undef, undef, undef, undef, undef, .int .i64 x138, .int .i64 x139, undef, undef, undef, undef, undef, undef, undef, undef, undef, undef, undef, undef, undef, undef, undef, undef, undef, undef, undef, undef, undef, undef, undef, undef, undef, undef, undef, undef, undef, undef, undef, undef, undef, undef, undef, undef, undef, undef, undef, undef, undef, undef, undef, undef, undef], []⟩ w
def thicketlaw13_MaskOwn.re130 (R : Value → World → Prop) (a1 : Option Addr) (n1 : Nat) (c1 : Nat) (p2 : Option Addr) (a5 : Option Addr) (n5 : Nat) (c5 : Nat) (a7 : Option Addr) (n7 : Nat) (c7 : Nat) (a9 : Option Addr) (n9 : Nat) (c9 : Nat) (a11 : Option Addr) (n11 : Nat) (c11 : Nat) (a21 : Option Addr) (n21 : Nat) (c21 : Nat) (x138 : Int) (x139 : Int) (w : World) : Prop := ∃ k, thicketlaw13_MaskOwn.rl130 R k a1 n1 c1 p2 a5 n5 c5 a7 n7 c7 a9 n9 c9 a11 n11 c11 a21 n21 c21 x138 x139 w
def thicketlaw13_MaskOwn.q131 (R : Value → World → Prop) (k130 : Nat) : Exit → Act → World → Prop := Exit.then (fun a w => loopN [1, 2, 5, 7, 9, 11, 21, 138, 139] (codeN Go.Proofs.Tryd.prog (sub (codeOf Go.Proofs.Tryd.f6) [1, 1, 1, 1, 1, 1, 1, 1, 1, 1, 1, 1, 1, 1, 1, 0, 1, 0, 0]) (nsub thicketlaw13_MaskOwn.an [1, 1, 1, 1, 1, 1, 1, 1, 1, 1, 1, 1, 1, 1, 1, 0, 1, 0, 0])) (thicketlaw13_MaskOwn.q130 R) k130 (clr [1, 2, 5, 7, 9, 11, 21, 138, 139] a) w) (thicketlaw13_MaskOwn.q130 R)
def thicketlaw13_MaskOwn.q133 (R : Value → World → Prop) (k130 : Nat) : Exit → Act → World → Prop := (thicketlaw13_MaskOwn.q131 R k130)
def thicketlaw13_MaskOwn.q137 (R : Value → World → Prop) (k130 : Nat) : Exit → Act → World → Prop := (thicketlaw13_MaskOwn.q133 R k130)
def thicketlaw13_MaskOwn.q138 (R : Value → World → Prop) (k130 : Nat) : Exit → Act → World → Prop := Exit.then (startN none (codeN Go.Proofs.Tryd.prog (sub (codeOf Go.Proofs.Tryd.f6) [1, 1, 1, 1, 1, 1, 1, 1, 1, 1, 1, 1, 1, 1, 1, 0, 1, 0, 0, 1, 1, 1]) (nsub thicketlaw13_MaskOwn.an [1, 1, 1, 1, 1, 1, 1, 1, 1, 1, 1, 1, 1, 1, 1, 0, 1, 0, 0, 1, 1, 1]) (thicketlaw13_MaskOwn.q137 R k130))) (thicketlaw13_MaskOwn.q137 R k130)
def thicketlaw13_MaskOwn.q139 (R : Value → World → Prop) (k130 : Nat) : Exit → Act → World → Prop := Exit.inBlock 13 (thicketlaw13_MaskOwn.q138 R k130)
def thicketlaw13_MaskOwn.q141 (R : Value → World → Prop) (k130 : Nat) : Exit → Act → World → Prop := (thicketlaw13_MaskOwn.q139 R k130)
def thicketlaw13_MaskOwn.q143 (R : Value → World → Prop) (k130 : Nat) : Exit → Act → World → Prop := (thicketlaw13_MaskOwn.q141 R k130)
def thicketlaw13_MaskOwn.q144 (R : Value → World → Prop) (k130 : Nat) : Exit → Act → World → Prop := Exit.inBlock 14 (thicketlaw13_MaskOwn.q143 R k130)
def thicketlaw13_MaskOwn.rl144 (R : Value → World → Prop) (k130 : Nat) (k : Nat) (a1 : Option Addr) (n1 : Nat) (c1 : Nat) (p2 : Option Addr) (a5 : Option Addr) (n5 : Nat) (c5 : Nat) (a7 : Option Addr) (n7 : Nat) (c7 : Nat) (a9 : Option Addr) (n9 : Nat) (c9 : Nat) (a11 : Option Addr) (n11 : Nat) (c11 : Nat) (a21 : Option Addr) (n21 : Nat) (c21 : Nat) (x23 : Int) (x138 : Int) (x139 : Int) (x146 : Int) (x147 : Int) (w : World) : Prop := loopN [1, 2, 5, 7, 9, 11, 21, 23, 138, 139, 146, 147] (codeN Go.Proofs.Tryd.prog (sub (codeOf Go.Proofs.Tryd.f6) [1, 1, 1, 1, 1, 1, 1, 1, 1, 1, 1, 1, 1, 1, 1, 0, 1, 0, 0, 1, 1, 0, 0, 1, 1, 0, 0]) (nsub thicketlaw13_MaskOwn.an [1, 1, 1, 1, 1, 1, 1, 1, 1, 1, 1, 1, 1, 1, 1, 0, 1, 0, 0, 1, 1, 0, 0, 1, 1, 0, 0])) (thicketlaw13_MaskOwn.q144 R k130) k ⟨#[undef, .slice a1 n1 c1, .pointer p2, undef, undef, .slice a5 n5 c5, undef, .slice a7 n7 c7, undef, .slice a9 n9 c9, undef, .slice a11 n11 c11, undef, undef, undef, undef, undef, undef, undef, undef, undef, .slice a21 n21 c21, undef, .int .i64 x23, undef, undef, undef, undef, undef, undef, undef, undef, undef, undef, undef, undef, undef, undef, undef, undef, undef, undef, undef, undef, undef, undef, undef, undef, undef, undef, undef, undef, undef, undef, undef, undef, undef, undef, undef, undef, undef, undef, undef, undef, undef, undef, undef, undef, undef, undef, undef, undef, undef, undef, undef, undef, undef, undef, undef, undef, undef, undef, undef, undef, undef, undef, undef, undef, undef, undef, undef, undef, undef, undef, undef, undef, undef, undef, undef, undef, undef, undef, undef, undef, undef, undef, undef, undef, undef, undef, undef, undef, undef, undef, undef, undef, undef, undef, undef, undef, undef, undef, undef, undef, undef, undef, undef, undef, undef, undef, undef, undef, undef, undef, undef, undef, undef, undef, .int .i64 x138, .int .i64 x139, undef, undef, undef, undef, undef, undef, .int .i64 x146, .int .i64 x147, undef, undef, undef, undef, undef, undef, undef, undef, undef, undef, undef, undef, undef, undef, undef, undef, undef, undef, undef, undef, undef, undef, undef, undef, undef, undef, undef, undef, undef, undef, undef, undef, undef, undef, undef, undef, undef], []⟩ w
def thicketlaw13_MaskOwn.re144 (R : Value → World → Prop) (k130 : Nat) (a1 : Option Addr) (n1 : Nat) (c1 : Nat) (p2 : Option Addr) (a5 : Option Addr) (n5 : Nat) (c5 : Nat) (a7 : Option Addr) (n7 : Nat) (c7 : Nat) (a9 : Option Addr) (n9 : Nat) (c9 : Nat) (a11 : Option Addr) (n11 : Nat) (c11 : Nat) (a21 : Option Addr) (n21 : Nat) (c21 : Nat) (x23 : Int) (x138 : Int) (x139 : Int) (x146 : Int) (x147 : Int) (w : World) : Prop := ∃ k, thicketlaw13_MaskOwn.rl144 R k130 k a1 n1 c1 p2 a5 n5 c5 a7 n7 c7 a9 n9 c9 a11 n11 c11 a21 n21 c21 x23 x138 x139 x146 x147 w
def thicketlaw13_MaskOwn.l38 (R : Value → World → Prop) (b24 : (Option Addr) → Nat → Nat → (Option Addr) → (Option Addr) → Nat → Nat → (Option Addr) → Nat → Nat → (Option Addr) → Nat → Nat → (Option Addr) → Nat → Nat → (Option Addr) → Nat → Nat → Int → Int → World → Prop) : Nat → (Option Addr) → Nat → Nat → (Option Addr) → (Option Addr) → Nat → Nat → (Option Addr) → Nat → Nat → (Option Addr) → Nat → Nat → (Option Addr) → Nat → Nat → (Option Addr) → Nat → Nat → Int → Int → Int → Int → Int → World → Prop
  | 0, _, _, _, _, _, _, _, _, _, _, _, _, _, _, _, _, _, _, _, _, _, _, _, _, _ => False
  | k + 1, a1, n1, c1, p2, a5, n5, c5, a7, n7, c7, a9, n9, c9, a11, n11, c11, a13, n13, c13, x15, x55, x56, x63, x64, w => thicketlaw13_MaskOwn.g38 R b24 (thicketlaw13_MaskOwn.l38 R b24 k) a1 n1 c1 p2 a5 n5 c5 a7 n7 c7 a9 n9 c9 a11 n11 c11 a13 n13 c13 x15 x55 x56 x63 x64 w
def thicketlaw13_MaskOwn.e38 (R : Value → World → Prop) (b24 : (Option Addr) → Nat → Nat → (Option Addr) → (Option Addr) → Nat → Nat → (Option Addr) → Nat → Nat → (Option Addr) → Nat → Nat → (Option Addr) → Nat → Nat → (Option Addr) → Nat → Nat → Int → Int → World → Prop) (a1 : Option Addr) (n1 : Nat) (c1 : Nat) (p2 : Option Addr) (a5 : Option Addr) (n5 : Nat) (c5 : Nat) (a7 : Option Addr) (n7 : Nat) (c7 : Nat) (a9 : Option Addr) (n9 : Nat) (c9 : Nat) (a11 : Option Addr) (n11 : Nat) (c11 : Nat) (a13 : Option Addr) (n13 : Nat) (c13 : Nat) (x15 : Int) (x55 : Int) (x56 : Int) (x63 : Int) (x64 : Int) (w : World) : Prop := ∃ k, thicketlaw13_MaskOwn.l38 R b24 k a1 n1 c1 p2 a5 n5 c5 a7 n7 c7 a9 n9 c9 a11 n11 c11 a13 n13 c13 x15 x55 x56 x63 x64 w
theorem thicketlaw13_MaskOwn.s38 (R : Value → World → Prop) (k24 : Nat) (k : Nat) (a1 : Option Addr) (n1 : Nat) (c1 : Nat) (p2 : Option Addr) (a5 : Option Addr) (n5 : Nat) (c5 : Nat) (a7 : Option Addr) (n7 : Nat) (c7 : Nat) (a9 : Option Addr) (n9 : Nat) (c9 : Nat) (a11 : Option Addr) (n11 : Nat) (c11 : Nat) (a13 : Option Addr) (n13 : Nat) (c13 : Nat) (x15 : Int) (x55 : Int) (x56 : Int) (x63 : Int) (x64 : Int) (w : World) : thicketlaw13_MaskOwn.rl38 R k24 (k + 1) a1 n1 c1 p2 a5 n5 c5 a7 n7 c7 a9 n9 c9 a11 n11 c11 a13 n13 c13 x15 x55 x56 x63 x64 w = ∀ _ : Nat → Value, thicketlaw13_MaskOwn.g38 R (thicketlaw13_MaskOwn.rl24 R k24) (thicketlaw13_MaskOwn.rl38 R k24 k) a1 n1 c1 p2 a5 n5 c5 a7 n7 c7 a9 n9 c9 a11 n11 c11 a13 n13 c13 x15 x55 x56 x63 x64 w := by kernel_rfl
theorem thicketlaw13_MaskOwn.lq38 (R : Value → World → Prop) (k24 : Nat) (b24 : (Option Addr) → Nat → Nat → (Option Addr) → (Option Addr) → Nat → Nat → (Option Addr) → Nat → Nat → (Option Addr) → Nat → Nat → (Option Addr) → Nat → Nat → (Option Addr) → Nat → Nat → Int → Int → World → Prop) (hb24 : b24 = thicketlaw13_MaskOwn.rl24 R k24) : ∀ k, thicketlaw13_MaskOwn.l38 R b24 k = thicketlaw13_MaskOwn.rl38 R k24 k
  | 0 => by funext a1 n1 c1 p2 a5 n5 c5 a7 n7 c7 a9 n9 c9 a11 n11 c11 a13 n13 c13 x15 x55 x56 x63 x64 w; first | rfl | kernel_rfl
  | k + 1 => by
    funext a1 n1 c1 p2 a5 n5 c5 a7 n7 c7 a9 n9 c9 a11 n11 c11 a13 n13 c13 x15 x55 x56 x63 x64 w
    rw [thicketlaw13_MaskOwn.s38, forall_const]
    unfold thicketlaw13_MaskOwn.l38
    have ih := thicketlaw13_MaskOwn.lq38 R k24 b24 hb24 k
    subst hb24
    rw [ih]
    all_goals rfl
theorem thicketlaw13_MaskOwn.eq38 (R : Value → World → Prop) (k24 : Nat) (b24 : (Option Addr) → Nat → Nat → (Option Addr) → (Option Addr) → Nat → Nat → (Option Addr) → Nat → Nat → (Option Addr) → Nat → Nat → (Option Addr) → Nat → Nat → (Option Addr) → Nat → Nat → Int → Int → World → Prop) (hb24 : b24 = thicketlaw13_MaskOwn.rl24 R k24) : thicketlaw13_MaskOwn.e38 R b24 = thicketlaw13_MaskOwn.re38 R k24 := by
  funext a1 n1 c1 p2 a5 n5 c5 a7 n7 c7 a9 n9 c9 a11 n11 c11 a13 n13 c13 x15 x55 x56 x63 x64 w
  unfold thicketlaw13_MaskOwn.e38 thicketlaw13_MaskOwn.re38
  simp only [thicketlaw13_MaskOwn.lq38 R k24 b24 hb24]
def thicketlaw13_MaskOwn.l144 (R : Value → World → Prop) (b130 : (Option Addr) → Nat → Nat → (Option Addr) → (Option Addr) → Nat → Nat → (Option Addr) → Nat → Nat → (Option Addr) → Nat → Nat → (Option Addr) → Nat → Nat → (Option Addr) → Nat → Nat → Int → Int → World → Prop) : Nat → (Option Addr) → Nat → Nat → (Option Addr) → (Option Addr) → Nat → Nat → (Option Addr) → Nat → Nat → (Option Addr) → Nat → Nat → (Option Addr) → Nat → Nat → (Option Addr) → Nat → Nat → Int → Int → Int → Int → Int → World → Prop
  | 0, _, _, _, _, _, _, _, _, _, _, _, _, _, _, _, _, _, _, _, _, _, _, _, _, _ => False
  | k + 1, a1, n1, c1, p2, a5, n5, c5, a7, n7, c7, a9, n9, c9, a11, n11, c11, a21, n21, c21, x23, x138, x139, x146, x147, w => thicketlaw13_MaskOwn.g144 R b130 (thicketlaw13_MaskOwn.l144 R b130 k) a1 n1 c1 p2 a5 n5 c5 a7 n7 c7 a9 n9 c9 a11 n11 c11 a21 n21 c21 x23 x138 x139 x146 x147 w
def thicketlaw13_MaskOwn.e144 (R : Value → World → Prop) (b130 : (Option Addr) → Nat → Nat → (Option Addr) → (Option Addr) → Nat → Nat → (Option Addr) → Nat → Nat → (Option Addr) → Nat → Nat → (Option Addr) → Nat → Nat → (Option Addr) → Nat → Nat → Int → Int → World → Prop) (a1 : Option Addr) (n1 : Nat) (c1 : Nat) (p2 : Option Addr) (a5 : Option Addr) (n5 : Nat) (c5 : Nat) (a7 : Option Addr) (n7 : Nat) (c7 : Nat) (a9 : Option Addr) (n9 : Nat) (c9 : Nat) (a11 : Option Addr) (n11 : Nat) (c11 : Nat) (a21 : Option Addr) (n21 : Nat) (c21 : Nat) (x23 : Int) (x138 : Int) (x139 : Int) (x146 : Int) (x147 : Int) (w : World) : Prop := ∃ k, thicketlaw13_MaskOwn.l144 R b130 k a1 n1 c1 p2 a5 n5 c5 a7 n7 c7 a9 n9 c9 a11 n11 c11 a21 n21 c21 x23 x138 x139 x146 x147 w
theorem thicketlaw13_MaskOwn.s144 (R : Value → World → Prop) (k130 : Nat) (k : Nat) (a1 : Option Addr) (n1 : Nat) (c1 : Nat) (p2 : Option Addr) (a5 : Option Addr) (n5 : Nat) (c5 : Nat) (a7 : Option Addr) (n7 : Nat) (c7 : Nat) (a9 : Option Addr) (n9 : Nat) (c9 : Nat) (a11 : Option Addr) (n11 : Nat) (c11 : Nat) (a21 : Option Addr) (n21 : Nat) (c21 : Nat) (x23 : Int) (x138 : Int) (x139 : Int) (x146 : Int) (x147 : Int) (w : World) : thicketlaw13_MaskOwn.rl144 R k130 (k + 1) a1 n1 c1 p2 a5 n5 c5 a7 n7 c7 a9 n9 c9 a11 n11 c11 a21 n21 c21 x23 x138 x139 x146 x147 w = ∀ _ : Nat → Value, thicketlaw13_MaskOwn.g144 R (thicketlaw13_MaskOwn.rl130 R k130) (thicketlaw13_MaskOwn.rl144 R k130 k) a1 n1 c1 p2 a5 n5 c5 a7 n7 c7 a9 n9 c9 a11 n11 c11 a21 n21 c21 x23 x138 x139 x146 x147 w := by kernel_rfl
theorem thicketlaw13_MaskOwn.lq144 (R : Value → World → Prop) (k130 : Nat) (b130 : (Option Addr) → Nat → Nat → (Option Addr) → (Option Addr) → Nat → Nat → (Option Addr) → Nat → Nat → (Option Addr) → Nat → Nat → (Option Addr) → Nat → Nat → (Option Addr) → Nat → Nat → Int → Int → World → Prop) (hb130 : b130 = thicketlaw13_MaskOwn.rl130 R k130) : ∀ k, thicketlaw13_MaskOwn.l144 R b130 k = thicketlaw13_MaskOwn.rl144 R k130 k
  | 0 => by funext a1 n1 c1 p2 a5 n5 c5 a7 n7 c7 a9 n9 c9 a11 n11 c11 a21 n21 c21 x23 x138 x139 x146 x147 w; first | rfl | kernel_rfl
  | k + 1 => by
    funext a1 n1 c1 p2 a5 n5 c5 a7 n7 c7 a9 n9 c9 a11 n11 c11 a21 n21 c21 x23 x138 x139 x146 x147 w
    rw [thicketlaw13_MaskOwn.s144, forall_const]
    unfold thicketlaw13_MaskOwn.l144
    have ih := thicketlaw13_MaskOwn.lq144 R k130 b130 hb130 k
    subst hb130
    rw [ih]
    all_goals rfl
theorem thicketlaw13_MaskOwn.eq144 (R : Value → World → Prop) (k130 : Nat) (b130 : (Option Addr) → Nat → Nat → (Option Addr) → (Option Addr) → Nat → Nat → (Option Addr) → Nat → Nat → (Option Addr) → Nat → Nat → (Option Addr) → Nat → Nat → (Option Addr) → Nat → Nat → Int → Int → World → Prop) (hb130 : b130 = thicketlaw13_MaskOwn.rl130 R k130) : thicketlaw13_MaskOwn.e144 R b130 = thicketlaw13_MaskOwn.re144 R k130 := by
  funext a1 n1 c1 p2 a5 n5 c5 a7 n7 c7 a9 n9 c9 a11 n11 c11 a21 n21 c21 x23 x138 x139 x146 x147 w
  unfold thicketlaw13_MaskOwn.e144 thicketlaw13_MaskOwn.re144
  simp only [thicketlaw13_MaskOwn.lq144 R k130 b130 hb130]
def thicketlaw13_MaskOwn.l130 (R : Value → World → Prop) : Nat → (Option Addr) → Nat → Nat → (Option Addr) → (Option Addr) → Nat → Nat → (Option Addr) → Nat → Nat → (Option Addr) → Nat → Nat → (Option Addr) → Nat → Nat → (Option Addr) → Nat → Nat → Int → Int → World → Prop
  | 0, _, _, _, _, _, _, _, _, _, _, _, _, _, _, _, _, _, _, _, _, _, _ => False
  | k + 1, a1, n1, c1, p2, a5, n5, c5, a7, n7, c7, a9, n9, c9, a11, n11, c11, a21, n21, c21, x138, x139, w => thicketlaw13_MaskOwn.g130 R (thicketlaw13_MaskOwn.e144 R (thicketlaw13_MaskOwn.l130 R k)) a1 n1 c1 p2 a5 n5 c5 a7 n7 c7 a9 n9 c9 a11 n11 c11 a21 n21 c21 x138 x139 w
def thicketlaw13_MaskOwn.e130 (R : Value → World → Prop) (a1 : Option Addr) (n1 : Nat) (c1 : Nat) (p2 : Option Addr) (a5 : Option Addr) (n5 : Nat) (c5 : Nat) (a7 : Option Addr) (n7 : Nat) (c7 : Nat) (a9 : Option Addr) (n9 : Nat) (c9 : Nat) (a11 : Option Addr) (n11 : Nat) (c11 : Nat) (a21 : Option Addr) (n21 : Nat) (c21 : Nat) (x138 : Int) (x139 : Int) (w : World) : Prop := ∃ k, thicketlaw13_MaskOwn.l130 R k a1 n1 c1 p2 a5 n5 c5 a7 n7 c7 a9 n9 c9 a11 n11 c11 a21 n21 c21 x138 x139 w
theorem thicketlaw13_MaskOwn.s130 (R : Value → World → Prop) (k : Nat) (a1 : Option Addr) (n1 : Nat) (c1 : Nat) (p2 : Option Addr) (a5 : Option Addr) (n5 : Nat) (c5 : Nat) (a7 : Option Addr) (n7 : Nat) (c7 : Nat) (a9 : Option Addr) (n9 : Nat) (c9 : Nat) (a11 : Option Addr) (n11 : Nat) (c11 : Nat) (a21 : Option Addr) (n21 : Nat) (c21 : Nat) (x138 : Int) (x139 : Int) (w : World) : thicketlaw13_MaskOwn.rl130 R (k + 1) a1 n1 c1 p2 a5 n5 c5 a7 n7 c7 a9 n9 c9 a11 n11 c11 a21 n21 c21 x138 x139 w = ∀ _ : Nat → Value, thicketlaw13_MaskOwn.g130 R (thicketlaw13_MaskOwn.re144 R k) a1 n1 c1 p2 a5 n5 c5 a7 n7 c7 a9 n9 c9 a11 n11 c11 a21 n21 c21 x138 x139 w := by kernel_rfl
theorem thicketlaw13_MaskOwn.lq130 (R : Value → World → Prop) : ∀ k, thicketlaw13_MaskOwn.l130 R k = thicketlaw13_MaskOwn.rl130 R k
  | 0 => by funext a1 n1 c1 p2 a5 n5 c5 a7 n7 c7 a9 n9 c9 a11 n11 c11 a21 n21 c21 x138 x139 w; first | rfl | kernel_rfl
  | k + 1 => by
    funext a1 n1 c1 p2 a5 n5 c5 a7 n7 c7 a9 n9 c9 a11 n11 c11 a21 n21 c21 x138 x139 w
    rw [thicketlaw13_MaskOwn.s130, forall_const]
    unfold thicketlaw13_MaskOwn.l130
    have ih := thicketlaw13_MaskOwn.lq130 R k
    rw [thicketlaw13_MaskOwn.eq144 R k _ ih]
    all_goals rfl
theorem thicketlaw13_MaskOwn.eq130 (R : Value → World → Prop) : thicketlaw13_MaskOwn.e130 R = thicketlaw13_MaskOwn.re130 R := by
  funext a1 n1 c1 p2 a5 n5 c5 a7 n7 c7 a9 n9 c9 a11 n11 c11 a21 n21 c21 x138 x139 w
  unfold thicketlaw13_MaskOwn.e130 thicketlaw13_MaskOwn.re130
  simp only [thicketlaw13_MaskOwn.lq130 R]
def thicketlaw13_MaskOwn.l107 (R : Value → World → Prop) : Nat → (Option Addr) → Nat → Nat → (Option Addr) → (Option Addr) → Nat → Nat → (Option Addr) → Nat → Nat → (Option Addr) → Nat → Nat → (Option Addr) → Nat → Nat → (Option Addr) → Nat → Nat → Int → Int → World → Prop
  | 0, _, _, _, _, _, _, _, _, _, _, _, _, _, _, _, _, _, _, _, _, _, _ => False
  | k + 1, a1, n1, c1, p2, a5, n5, c5, a7, n7, c7, a9, n9, c9, a11, n11, c11, a13, n13, c13, x114, x115, w => thicketlaw13_MaskOwn.g107 R (thicketlaw13_MaskOwn.l107 R k) (thicketlaw13_MaskOwn.e130 R) a1 n1 c1 p2 a5 n5 c5 a7 n7 c7 a9 n9 c9 a11 n11 c11 a13 n13 c13 x114 x115 w
def thicketlaw13_MaskOwn.e107 (R : Value → World → Prop) (a1 : Option Addr) (n1 : Nat) (c1 : Nat) (p2 : Option Addr) (a5 : Option Addr) (n5 : Nat) (c5 : Nat) (a7 : Option Addr) (n7 : Nat) (c7 : Nat) (a9 : Option Addr) (n9 : Nat) (c9 : Nat) (a11 : Option Addr) (n11 : Nat) (c11 : Nat) (a13 : Option Addr) (n13 : Nat) (c13 : Nat) (x114 : Int) (x115 : Int) (w : World) : Prop := ∃ k, thicketlaw13_MaskOwn.l107 R k a1 n1 c1 p2 a5 n5 c5 a7 n7 c7 a9 n9 c9 a11 n11 c11 a13 n13 c13 x114 x115 w
theorem thicketlaw13_MaskOwn.s107 (R : Value → World → Prop) (k : Nat) (a1 : Option Addr) (n1 : Nat) (c1 : Nat) (p2 : Option Addr) (a5 : Option Addr) (n5 : Nat) (c5 : Nat) (a7 : Option Addr) (n7 : Nat) (c7 : Nat) (a9 : Option Addr) (n9 : Nat) (c9 : Nat) (a11 : Option Addr) (n11 : Nat) (c11 : Nat) (a13 : Option Addr) (n13 : Nat) (c13 : Nat) (x114 : Int) (x115 : Int) (w : World) : thicketlaw13_MaskOwn.rl107 R (k + 1) a1 n1 c1 p2 a5 n5 c5 a7 n7 c7 a9 n9 c9 a11 n11 c11 a13 n13 c13 x114 x115 w = ∀ _ : Nat → Value, thicketlaw13_MaskOwn.g107 R (thicketlaw13_MaskOwn.rl107 R k) (thicketlaw13_MaskOwn.re130 R) a1 n1 c1 p2 a5 n5 c5 a7 n7 c7 a9 n9 c9 a11 n11 c11 a13 n13 c13 x114 x115 w := by kernel_rfl
theorem thicketlaw13_MaskOwn.lq107 (R : Value → World → Prop) : ∀ k, thicketlaw13_MaskOwn.l107 R k = thicketlaw13_MaskOwn.rl107 R k
  | 0 => by funext a1 n1 c1 p2 a5 n5 c5 a7 n7 c7 a9 n9 c9 a11 n11 c11 a13 n13 c13 x114 x115 w; first | rfl | kernel_rfl
  | k + 1 => by
    funext a1 n1 c1 p2 a5 n5 c5 a7 n7 c7 a9 n9 c9 a11 n11 c11 a13 n13 c13 x114 x115 w
    rw [thicketlaw13_MaskOwn.s107, forall_const]
    unfold thicketlaw13_MaskOwn.l107
    have ih := thicketlaw13_MaskOwn.lq107 R k
    rw [thicketlaw13_MaskOwn.eq130 R]
    rw [ih]
    all_goals rfl
theorem thicketlaw13_MaskOwn.eq107 (R : Value → World → Prop) : thicketlaw13_MaskOwn.e107 R = thicketlaw13_MaskOwn.re107 R := by
  funext a1 n1 c1 p2 a5 n5 c5 a7 n7 c7 a9 n9 c9 a11 n11 c11 a13 n13 c13 x114 x115 w
  unfold thicketlaw13_MaskOwn.e107 thicketlaw13_MaskOwn.re107
  simp only [thicketlaw13_MaskOwn.lq107 R]
def thicketlaw13_MaskOwn.l90 (R : Value → World → Prop) : Nat → (Option Addr) → Nat → Nat → (Option Addr) → (Option Addr) → Nat → Nat → (Option Addr) → Nat → Nat → (Option Addr) → Nat → Nat → (Option Addr) → Nat → Nat → (Option Addr) → Nat → Nat → Int → Int → World → Prop
  | 0, _, _, _, _, _, _, _, _, _, _, _, _, _, _, _, _, _, _, _, _, _, _ => False
  | k + 1, a1, n1, c1, p2, a5, n5, c5, a7, n7, c7, a9, n9, c9, a11, n11, c11, a13, n13, c13, x104, x105, w => thicketlaw13_MaskOwn.g90 R (thicketlaw13_MaskOwn.l90 R k) (thicketlaw13_MaskOwn.e107 R) a1 n1 c1 p2 a5 n5 c5 a7 n7 c7 a9 n9 c9 a11 n11 c11 a13 n13 c13 x104 x105 w
def thicketlaw13_MaskOwn.e90 (R : Value → World → Prop) (a1 : Option Addr) (n1 : Nat) (c1 : Nat) (p2 : Option Addr) (a5 : Option Addr) (n5 : Nat) (c5 : Nat) (a7 : Option Addr) (n7 : Nat) (c7 : Nat) (a9 : Option Addr) (n9 : Nat) (c9 : Nat) (a11 : Option Addr) (n11 : Nat) (c11 : Nat) (a13 : Option Addr) (n13 : Nat) (c13 : Nat) (x104 : Int) (x105 : Int) (w : World) : Prop := ∃ k, thicketlaw13_MaskOwn.l90 R k a1 n1 c1 p2 a5 n5 c5 a7 n7 c7 a9 n9 c9 a11 n11 c11 a13 n13 c13 x104 x105 w
theorem thicketlaw13_MaskOwn.s90 (R : Value → World → Prop) (k : Nat) (a1 : Option Addr) (n1 : Nat) (c1 : Nat) (p2 : Option Addr) (a5 : Option Addr) (n5 : Nat) (c5 : Nat) (a7 : Option Addr) (n7 : Nat) (c7 : Nat) (a9 : Option Addr) (n9 : Nat) (c9 : Nat) (a11 : Option Addr) (n11 : Nat) (c11 : Nat) (a13 : Option Addr) (n13 : Nat) (c13 : Nat) (x104 : Int) (x105 : Int) (w : World) : thicketlaw13_MaskOwn.rl90 R (k + 1) a1 n1 c1 p2 a5 n5 c5 a7 n7 c7 a9 n9 c9 a11 n11 c11 a13 n13 c13 x104 x105 w = ∀ _ : Nat → Value, thicketlaw13_MaskOwn.g90 R (thicketlaw13_MaskOwn.rl90 R k) (thicketlaw13_MaskOwn.re107 R) a1 n1 c1 p2 a5 n5 c5 a7 n7 c7 a9 n9 c9 a11 n11 c11 a13 n13 c13 x104 x105 w := by kernel_rfl
theorem thicketlaw13_MaskOwn.lq90 (R : Value → World → Prop) : ∀ k, thicketlaw13_MaskOwn.l90 R k = thicketlaw13_MaskOwn.rl90 R k
  | 0 => by funext a1 n1 c1 p2 a5 n5 c5 a7 n7 c7 a9 n9 c9 a11 n11 c11 a13 n13 c13 x104 x105 w; first | rfl | kernel_rfl
  | k + 1 => by
    funext a1 n1 c1 p2 a5 n5 c5 a7 n7 c7 a9 n9 c9 a11 n11 c11 a13 n13 c13 x104 x105 w
    rw [thicketlaw13_MaskOwn.s90, forall_const]
    unfold thicketlaw13_MaskOwn.l90
    have ih := thicketlaw13_MaskOwn.lq90 R k
    rw [thicketlaw13_MaskOwn.eq107 R]
    rw [ih]
    all_goals rfl
theorem thicketlaw13_MaskOwn.eq90 (R : Value → World → Prop) : thicketlaw13_MaskOwn.e90 R = thicketlaw13_MaskOwn.re90 R := by
  funext a1 n1 c1 p2 a5 n5 c5 a7 n7 c7 a9 n9 c9 a11 n11 c11 a13 n13 c13 x104 x105 w
  unfold thicketlaw13_MaskOwn.e90 thicketlaw13_MaskOwn.re90
  simp only [thicketlaw13_MaskOwn.lq90 R]
def thicketlaw13_MaskOwn.l73 (R : Value → World → Prop) : Nat → (Option Addr) → Nat → Nat → (Option Addr) → (Option Addr) → Nat → Nat → (Option Addr) → Nat → Nat → (Option Addr) → Nat → Nat → (Option Addr) → Nat → Nat → (Option Addr) → Nat → Nat → Int → Int → World → Prop
  | 0, _, _, _, _, _, _, _, _, _, _, _, _, _, _, _, _, _, _, _, _, _, _ => False
  | k + 1, a1, n1, c1, p2, a5, n5, c5, a7, n7, c7, a9, n9, c9, a11, n11, c11, a13, n13, c13, x94, x95, w => thicketlaw13_MaskOwn.g73 R (thicketlaw13_MaskOwn.l73 R k) (thicketlaw13_MaskOwn.e90 R) a1 n1 c1 p2 a5 n5 c5 a7 n7 c7 a9 n9 c9 a11 n11 c11 a13 n13 c13 x94 x95 w
def thicketlaw13_MaskOwn.e73 (R : Value → World → Prop) (a1 : Option Addr) (n1 : Nat) (c1 : Nat) (p2 : Option Addr) (a5 : Option Addr) (n5 : Nat) (c5 : Nat) (a7 : Option Addr) (n7 : Nat) (c7 : Nat) (a9 : Option Addr) (n9 : Nat) (c9 : Nat) (a11 : Option Addr) (n11 : Nat) (c11 : Nat) (a13 : Option Addr) (n13 : Nat) (c13 : Nat) (x94 : Int) (x95 : Int) (w : World) : Prop := ∃ k, thicketlaw13_MaskOwn.l73 R k a1 n1 c1 p2 a5 n5 c5 a7 n7 c7 a9 n9 c9 a11 n11 c11 a13 n13 c13 x94 x95 w
theorem thicketlaw13_MaskOwn.s73 (R : Value → World → Prop) (k : Nat) (a1 : Option Addr) (n1 : Nat) (c1 : Nat) (p2 : Option Addr) (a5 : Option Addr) (n5 : Nat) (c5 : Nat) (a7 : Option Addr) (n7 : Nat) (c7 : Nat) (a9 : Option Addr) (n9 : Nat) (c9 : Nat) (a11 : Option Addr) (n11 : Nat) (c11 : Nat) (a13 : Option Addr) (n13 : Nat) (c13 : Nat) (x94 : Int) (x95 : Int) (w : World) : thicketlaw13_MaskOwn.rl73 R (k + 1) a1 n1 c1 p2 a5 n5 c5 a7 n7 c7 a9 n9 c9 a11 n11 c11 a13 n13 c13 x94 x95 w = ∀ _ : Nat → Value, thicketlaw13_MaskOwn.g73 R (thicketlaw13_MaskOwn.rl73 R k) (thicketlaw13_MaskOwn.re90 R) a1 n1 c1 p2 a5 n5 c5 a7 n7 c7 a9 n9 c9 a11 n11 c11 a13 n13 c13 x94 x95 w := by kernel_rfl
theorem thicketlaw13_MaskOwn.lq73 (R : Value → World → Prop) : ∀ k, thicketlaw13_MaskOwn.l73 R k = thicketlaw13_MaskOwn.rl73 R k
  | 0 => by funext a1 n1 c1 p2 a5 n5 c5 a7 n7 c7 a9 n9 c9 a11 n11 c11 a13 n13 c13 x94 x95 w; first | rfl | kernel_rfl
  | k + 1 => by
    funext a1 n1 c1 p2 a5 n5 c5 a7 n7 c7 a9 n9 c9 a11 n11 c11 a13 n13 c13 x94 x95 w
    rw [thicketlaw13_MaskOwn.s73, forall_const]
    unfold thicketlaw13_MaskOwn.l73
    have ih := thicketlaw13_MaskOwn.lq73 R k
    rw [thicketlaw13_MaskOwn.eq90 R]
    rw [ih]
    all_goals rfl
theorem thicketlaw13_MaskOwn.eq73 (R : Value → World → Prop) : thicketlaw13_MaskOwn.e73 R = thicketlaw13_MaskOwn.re73 R := by
  funext a1 n1 c1 p2 a5 n5 c5 a7 n7 c7 a9 n9 c9 a11 n11 c11 a13 n13 c13 x94 x95 w
  unfold thicketlaw13_MaskOwn.e73 thicketlaw13_MaskOwn.re73
  simp only [thicketlaw13_MaskOwn.lq73 R]
def thicketlaw13_MaskOwn.l56 (R : Value → World → Prop) : Nat → (Option Addr) → Nat → Nat → (Option Addr) → (Option Addr) → Nat → Nat → (Option Addr) → Nat → Nat → (Option Addr) → Nat → Nat → (Option Addr) → Nat → Nat → (Option Addr) → Nat → Nat → Int → Int → World → Prop
  | 0, _, _, _, _, _, _, _, _, _, _, _, _, _, _, _, _, _, _, _, _, _, _ => False
  | k + 1, a1, n1, c1, p2, a5, n5, c5, a7, n7, c7, a9, n9, c9, a11, n11, c11, a13, n13, c13, x79, x80, w => thicketlaw13_MaskOwn.g56 R (thicketlaw13_MaskOwn.l56 R k) (thicketlaw13_MaskOwn.e73 R) a1 n1 c1 p2 a5 n5 c5 a7 n7 c7 a9 n9 c9 a11 n11 c11 a13 n13 c13 x79 x80 w
def thicketlaw13_MaskOwn.e56 (R : Value → World → Prop) (a1 : Option Addr) (n1 : Nat) (c1 : Nat) (p2 : Option Addr) (a5 : Option Addr) (n5 : Nat) (c5 : Nat) (a7 : Option Addr) (n7 : Nat) (c7 : Nat) (a9 : Option Addr) (n9 : Nat) (c9 : Nat) (a11 : Option Addr) (n11 : Nat) (c11 : Nat) (a13 : Option Addr) (n13 : Nat) (c13 : Nat) (x79 : Int) (x80 : Int) (w : World) : Prop := ∃ k, thicketlaw13_MaskOwn.l56 R k a1 n1 c1 p2 a5 n5 c5 a7 n7 c7 a9 n9 c9 a11 n11 c11 a13 n13 c13 x79 x80 w
theorem thicketlaw13_MaskOwn.s56 (R : Value → World → Prop) (k : Nat) (a1 : Option Addr) (n1 : Nat) (c1 : Nat) (p2 : Option Addr) (a5 : Option Addr) (n5 : Nat) (c5 : Nat) (a7 : Option Addr) (n7 : Nat) (c7 : Nat) (a9 : Option Addr) (n9 : Nat) (c9 : Nat) (a11 : Option Addr) (n11 : Nat) (c11 : Nat) (a13 : Option Addr) (n13 : Nat) (c13 : Nat) (x79 : Int) (x80 : Int) (w : World) : thicketlaw13_MaskOwn.rl56 R (k + 1) a1 n1 c1 p2 a5 n5 c5 a7 n7 c7 a9 n9 c9 a11 n11 c11 a13 n13 c13 x79 x80 w = ∀ _ : Nat → Value, thicketlaw13_MaskOwn.g56 R (thicketlaw13_MaskOwn.rl56 R k) (thicketlaw13_MaskOwn.re73 R) a1 n1 c1 p2 a5 n5 c5 a7 n7 c7 a9 n9 c9 a11 n11 c11 a13 n13 c13 x79 x80 w := by kernel_rfl
theorem thicketlaw13_MaskOwn.lq56 (R : Value → World → Prop) : ∀ k, thicketlaw13_MaskOwn.l56 R k = thicketlaw13_MaskOwn.rl56 R k
  | 0 => by funext a1 n1 c1 p2 a5 n5 c5 a7 n7 c7 a9 n9 c9 a11 n11 c11 a13 n13 c13 x79 x80 w; first | rfl | kernel_rfl
  | k + 1 => by
    funext a1 n1 c1 p2 a5 n5 c5 a7 n7 c7 a9 n9 c9 a11 n11 c11 a13 n13 c13 x79 x80 w
    rw [thicketlaw13_MaskOwn.s56, forall_const]
    unfold thicketlaw13_MaskOwn.l56
    have ih := thicketlaw13_MaskOwn.lq56 R k
    rw [thicketlaw13_MaskOwn.eq73 R]
    rw [ih]
    all_goals rfl
theorem thicketlaw13_MaskOwn.eq56 (R : Value → World → Prop) : thicketlaw13_MaskOwn.e56 R = thicketlaw13_MaskOwn.re56 R := by
  funext a1 n1 c1 p2 a5 n5 c5 a7 n7 c7 a9 n9 c9 a11 n11 c11 a13 n13 c13 x79 x80 w
  unfold thicketlaw13_MaskOwn.e56 thicketlaw13_MaskOwn.re56
  simp only [thicketlaw13_MaskOwn.lq56 R]
def thicketlaw13_MaskOwn.l24 (R : Value → World → Prop) : Nat → (Option Addr) → Nat → Nat → (Option Addr) → (Option Addr) → Nat → Nat → (Option Addr) → Nat → Nat → (Option Addr) → Nat → Nat → (Option Addr) → Nat → Nat → (Option Addr) → Nat → Nat → Int → Int → World → Prop
  | 0, _, _, _, _, _, _, _, _, _, _, _, _, _, _, _, _, _, _, _, _, _, _ => False
  | k + 1, a1, n1, c1, p2, a5, n5, c5, a7, n7, c7, a9, n9, c9, a11, n11, c11, a13, n13, c13, x55, x56, w => thicketlaw13_MaskOwn.g24 R (thicketlaw13_MaskOwn.e38 R (thicketlaw13_MaskOwn.l24 R k)) (thicketlaw13_MaskOwn.e56 R) a1 n1 c1 p2 a5 n5 c5 a7 n7 c7 a9 n9 c9 a11 n11 c11 a13 n13 c13 x55 x56 w
def thicketlaw13_MaskOwn.e24 (R : Value → World → Prop) (a1 : Option Addr) (n1 : Nat) (c1 : Nat) (p2 : Option Addr) (a5 : Option Addr) (n5 : Nat) (c5 : Nat) (a7 : Option Addr) (n7 : Nat) (c7 : Nat) (a9 : Option Addr) (n9 : Nat) (c9 : Nat) (a11 : Option Addr) (n11 : Nat) (c11 : Nat) (a13 : Option Addr) (n13 : Nat) (c13 : Nat) (x55 : Int) (x56 : Int) (w : World) : Prop := ∃ k, thicketlaw13_MaskOwn.l24 R k a1 n1 c1 p2 a5 n5 c5 a7 n7 c7 a9 n9 c9 a11 n11 c11 a13 n13 c13 x55 x56 w
theorem thicketlaw13_MaskOwn.s24 (R : Value → World → Prop) (k : Nat) (a1 : Option Addr) (n1 : Nat) (c1 : Nat) (p2 : Option Addr) (a5 : Option Addr) (n5 : Nat) (c5 : Nat) (a7 : Option Addr) (n7 : Nat) (c7 : Nat) (a9 : Option Addr) (n9 : Nat) (c9 : Nat) (a11 : Option Addr) (n11 : Nat) (c11 : Nat) (a13 : Option Addr) (n13 : Nat) (c13 : Nat) (x55 : Int) (x56 : Int) (w : World) : thicketlaw13_MaskOwn.rl24 R (k + 1) a1 n1 c1 p2 a5 n5 c5 a7 n7 c7 a9 n9 c9 a11 n11 c11 a13 n13 c13 x55 x56 w = ∀ _ : Nat → Value, thicketlaw13_MaskOwn.g24 R (thicketlaw13_MaskOwn.re38 R k) (thicketlaw13_MaskOwn.re56 R) a1 n1 c1 p2 a5 n5 c5 a7 n7 c7 a9 n9 c9 a11 n11 c11 a13 n13 c13 x55 x56 w := by kernel_rfl
theorem thicketlaw13_MaskOwn.lq24 (R : Value → World → Prop) : ∀ k, thicketlaw13_MaskOwn.l24 R k = thicketlaw13_MaskOwn.rl24 R k
  | 0 => by funext a1 n1 c1 p2 a5 n5 c5 a7 n7 c7 a9 n9 c9 a11 n11 c11 a13 n13 c13 x55 x56 w; first | rfl | kernel_rfl
  | k + 1 => by
    funext a1 n1 c1 p2 a5 n5 c5 a7 n7 c7 a9 n9 c9 a11 n11 c11 a13 n13 c13 x55 x56 w
    rw [thicketlaw13_MaskOwn.s24, forall_const]
    unfold thicketlaw13_MaskOwn.l24
    have ih := thicketlaw13_MaskOwn.lq24 R k
    rw [thicketlaw13_MaskOwn.eq38 R k _ ih]
    rw [thicketlaw13_MaskOwn.eq56 R]
    all_goals rfl
theorem thicketlaw13_MaskOwn.eq24 (R : Value → World → Prop) : thicketlaw13_MaskOwn.e24 R = thicketlaw13_MaskOwn.re24 R := by
  funext a1 n1 c1 p2 a5 n5 c5 a7 n7 c7 a9 n9 c9 a11 n11 c11 a13 n13 c13 x55 x56 w
  unfold thicketlaw13_MaskOwn.e24 thicketlaw13_MaskOwn.re24
  simp only [thicketlaw13_MaskOwn.lq24 R]
def thicketlaw13_MaskOwn (R : Value → World → Prop) (x0_0 : Int) (a0_1 : Option Addr) (n0_1 : Nat) (c0_1 : Nat) (a1 : Option Addr) (n1 : Nat) (c1 : Nat) (w : World) : Prop := thicketlaw13_MaskOwn.g0 R (thicketlaw13_MaskOwn.e24 R) x0_0 a0_1 n0_1 c0_1 a1 n1 c1 w
theorem thicketlaw13_MaskOwn.root0 (R : Value → World → Prop) (x0_0 : Int) (a0_1 : Option Addr) (n0_1 : Nat) (c0_1 : Nat) (a1 : Option Addr) (n1 : Nat) (c1 : Nat) (w : World) : fnN Go.Proofs.Tryd.prog Go.Proofs.Tryd.f6 thicketlaw13_MaskOwn.an #[.agg #[.int .i64 x0_0, .slice a0_1 n0_1 c0_1], .slice a1 n1 c1] w R = thicketlaw13_MaskOwn.g0 R (thicketlaw13_MaskOwn.re24 R) x0_0 a0_1 n0_1 c0_1 a1 n1 c1 w := by kernel_rfl
theorem thicketlaw13_MaskOwn.calls {R : Value → World → Prop} {x0_0 : Int} {a0_1 : Option Addr} {n0_1 : Nat} {c0_1 : Nat} {a1 : Option Addr} {n1 : Nat} {c1 : Nat} {w : World} (h : thicketlaw13_MaskOwn R x0_0 a0_1 n0_1 c0_1 a1 n1 c1 w) : Go.E.CallsD Go.Proofs.Tryd.prog 6 #[.agg #[.int .i64 x0_0, .slice a0_1 n0_1 c0_1], .slice a1 n1 c1] w R := by
  refine callsD_of (n := thicketlaw13_MaskOwn.an) M_follows M_sizes Go.Proofs.Tryd.func6 (by rfl) ?_
  rw [thicketlaw13_MaskOwn.root0]
  unfold thicketlaw13_MaskOwn at h
  rw [thicketlaw13_MaskOwn.eq24 R] at h
  exact h
end Go.Mir
