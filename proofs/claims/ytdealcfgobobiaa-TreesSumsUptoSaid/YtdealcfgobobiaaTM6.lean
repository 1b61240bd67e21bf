/- Part of a proof of laws of the seat Ytdealcfgobobiaa: functions' weakest preconditions, each checked by the kernel, contracts out of them, plain lemmas; no conditions. -/
import Derived.Test.YtdealcfgobobiaaTM0
set_option linter.unusedVariables false
set_option linter.unusedSimpArgs false
set_option linter.unusedVariables false
set_option maxRecDepth 100000
namespace Go.Mir
open Go Go.E Go.RowKit
-- thicket/thicketref07.Canon
def thicketref07_Canon.an : An := (.mk none .nil (.mk none .nil (.mk none .nil (.mk none .nil (.mk none .nil (.mk none (.mk none .nil (.mk none (.mk (some [1, 2, 6, 7, 28, 29, 30]) .nil .nil) .nil)) (.mk none .nil (.mk none (.mk none .nil (.mk none (.mk (some [1, 2, 7, 10, 43, 44, 45]) .nil .nil) .nil)) .nil))))))))
def thicketref07_Canon.g0 (R : Value → World → Prop) (e20 : (Option Addr) → (Option Addr) → (Option Addr) → Nat → Nat → (Option Addr) → Nat → Nat → (Option Addr) → Nat → Nat → Int → Int → World → Prop) (x0_0 : Int) (a0_1 : Option Addr) (n0_1 : Nat) (c0_1 : Nat) (w : World) : Prop :=
 nw (w.alloc (.cells #[.int .i64 x0_0, .slice a0_1 n0_1 c0_1] 33)) fun w89 =>
 nw (w89.alloc (.cells #[.int .i64 0, .slice none 0 0] 33)) fun w90 =>
 ∃ yx_91 : Int, w90.cell? ((na w).add 0) = some (.int .i64 yx_91) ∧
 (∃ ya_92 : Option Addr, ∃ yn_92 : Nat, ∃ yc_92 : Nat, w90.cell? ((na w).add 1) = some (.slice ya_92 yn_92 yc_92) ∧
 (Go.E.CallsD Go.Proofs.Try.prog 26 #[.agg #[.int .i64 yx_91, .slice ya_92 yn_92 yc_92]] w90 fun yv93 u94 =>
 ∃ yx_95_0 : Int, ∃ yx_95_1 : Int, yv93 = .tuple #[.int .i64 yx_95_0, .int .i64 yx_95_1] ∧
 (onBool (yx_95_0 != 0)
 (okSt u94 ((na w89).add 0) ∧
 (nw (u94.setCell ((na w89).add 0) (.int .i64 0)) fun w96 =>
 okSt w96 ((na w89).add 1) ∧
 (nw (w96.setCell ((na w89).add 1) (.slice none 0 0)) fun w97 =>
 ∃ yx_98 : Int, w97.cell? ((na w89).add 0) = some (.int .i64 yx_98) ∧
 (∃ ya_99 : Option Addr, ∃ yn_99 : Nat, ∃ yc_99 : Nat, w97.cell? ((na w89).add 1) = some (.slice ya_99 yn_99 yc_99) ∧
 (R (.tuple #[.agg #[.int .i64 yx_98, .slice ya_99 yn_99 yc_99], .int .i64 yx_95_0]) w97)))))
 (∃ yx_100 : Int, u94.cell? ((na w).add 0) = some (.int .i64 yx_100) ∧
 (∃ ya_101 : Option Addr, ∃ yn_101 : Nat, ∃ yc_101 : Nat, u94.cell? ((na w).add 1) = some (.slice ya_101 yn_101 yc_101) ∧
 (Go.E.CallsD Go.Proofs.Try.prog 57 #[.agg #[.int .i64 yx_100, .slice ya_101 yn_101 yc_101]] u94 fun yv102 u103 =>
 ∃ ya_104 : Option Addr, ∃ yn_104 : Nat, ∃ yc_104 : Nat, yv102 = .slice ya_104 yn_104 yc_104 ∧
 (chk ((0 : Int) ≤ (yn_104 : Int) ∧ (yn_104 : Int) ≤ (yn_104 : Int) ∧ ((8 : Nat) : Int) * (yn_104 : Int) ≤ 281474976710656 ∧ (yn_104 : Int) ≤ 9223372036854775807)
 (nw (u103.alloc (.cells (madeCells #[.int .i64 0] (((yn_104 : Int)).toNat * 1)) 3)) fun w105 =>
 e20 (some (na w)) (some (na w89)) ya_104 yn_104 yc_104 (some (na u103)) (((yn_104 : Int)).toNat) (((yn_104 : Int)).toNat) ya_104 yn_104 yc_104 (yn_104 : Int) 0 w105))))))))
def thicketref07_Canon.g20 (R : Value → World → Prop) (b20 : (Option Addr) → (Option Addr) → (Option Addr) → Nat → Nat → (Option Addr) → Nat → Nat → (Option Addr) → Nat → Nat → Int → Int → World → Prop) (e39 : (Option Addr) → (Option Addr) → (Option Addr) → Nat → Nat → (Option Addr) → (Option Addr) → Nat → Nat → Int → Int → World → Prop) (p1 : Option Addr) (p2 : Option Addr) (a6 : Option Addr) (n6 : Nat) (c6 : Nat) (a7 : Option Addr) (n7 : Nat) (c7 : Nat) (a28 : Option Addr) (n28 : Nat) (c28 : Nat) (x29 : Int) (x30 : Int) (w : World) : Prop :=
 onBool (decide (x30 < x29))
 (optN a28 fun q106 =>
 chk ((0 : Int) ≤ x30 ∧ x30 < (n28 : Int))
 (∃ yx_107 : Int, w.cell? (q106.add (x30.toNat * 1)) = some (.int .i64 yx_107) ∧
 (optN a7 fun q108 =>
 chk ((0 : Int) ≤ yx_107 ∧ yx_107 < (n7 : Int))
 (okSt w ((q108.add (yx_107.toNat * 1)).add 0) ∧
 (nw (w.setCell ((q108.add (yx_107.toNat * 1)).add 0) (.int .i64 x30)) fun w109 =>
 nv (IntKind.i64.wrap (x30 + 1)) fun t110 =>
 b20 p1 p2 a6 n6 c6 a7 n7 c7 a28 n28 c28 x29 t110 w109)))))
 (optN p1 fun q111 =>
 ∃ yx_112 : Int, w.cell? (q111.add 0) = some (.int .i64 yx_112) ∧
 (nw (w.alloc (.cells #[.int .i64 0, .slice none 0 0] 33)) fun w113 =>
 okSt w113 ((na w).add 0) ∧
 (nw (w113.setCell ((na w).add 0) (.int .i64 yx_112)) fun w114 =>
 okSt w114 ((na w).add 1) ∧
 (nw (w114.setCell ((na w).add 1) (.slice none 0 0)) fun w115 =>
 e39 p1 p2 a7 n7 c7 (some (na w)) a6 n6 c6 (n6 : Int) 0 w115))))
def thicketref07_Canon.g39 (R : Value → World → Prop) (b39 : (Option Addr) → (Option Addr) → (Option Addr) → Nat → Nat → (Option Addr) → (Option Addr) → Nat → Nat → Int → Int → World → Prop) (p1 : Option Addr) (p2 : Option Addr) (a7 : Option Addr) (n7 : Nat) (c7 : Nat) (p10 : Option Addr) (a43 : Option Addr) (n43 : Nat) (c43 : Nat) (x44 : Int) (x45 : Int) (w : World) : Prop :=
 onBool (decide (x45 < x44))
 (optN a43 fun q116 =>
 chk ((0 : Int) ≤ x45 ∧ x45 < (n43 : Int))
 (∃ yx_117 : Int, w.cell? (q116.add (x45.toNat * 1)) = some (.int .i64 yx_117) ∧
 (optN p1 fun q118 =>
 ∃ ya_119 : Option Addr, ∃ yn_119 : Nat, ∃ yc_119 : Nat, w.cell? (q118.add 1) = some (.slice ya_119 yn_119 yc_119) ∧
 (nv (IntKind.i64.wrap (yx_117 + 1)) fun t120 =>
 chk ((0 : Int) ≤ t120 ∧ t120 ≤ (yc_119 : Int))
 (chk ((0 : Int) ≤ yx_117 ∧ yx_117 ≤ (t120.toNat : Int))
 (Go.E.CallsD Go.Proofs.Try.prog 50 #[.slice (slA ya_119 yc_119 yx_117.toNat 8) (t120.toNat - yx_117.toNat) (yc_119 - yx_117.toNat)] w fun yv121 u122 =>
 ∃ ya_123 : Option Addr, ∃ yn_123 : Nat, ∃ yc_123 : Nat, yv121 = .slice ya_123 yn_123 yc_123 ∧
 (optN ya_123 fun q124 =>
 chk ((0 : Int) ≤ 0 ∧ 0 < (yn_123 : Int))
 (∃ yx_125 : Int, u122.cell? ((q124.add 0).add 0) = some (.int .u8 yx_125) ∧
 (∃ yx_126 : Int, u122.cell? ((q124.add 0).add 1) = some (.int .i64 yx_126) ∧
 (∃ yx_127 : Int, u122.cell? ((q124.add 0).add 2) = some (.int .i64 yx_127) ∧
 (∃ yf_128 : Nat, u122.cell? ((q124.add 0).add 3) = some (.float .f64 yf_128) ∧
 (∃ ya_129 : Option Addr, ∃ yn_129 : Nat, ∃ yc_129 : Nat, u122.cell? ((q124.add 0).add 4) = some (.slice ya_129 yn_129 yc_129) ∧
 (∃ yx_130 : Int, u122.cell? ((q124.add 0).add 5) = some (.int .u8 yx_130) ∧
 (∃ yx_131 : Int, u122.cell? ((q124.add 0).add 6) = some (.int .i64 yx_131) ∧
 (∃ yx_132 : Int, u122.cell? ((q124.add 0).add 7) = some (.int .i64 yx_132) ∧
 (nw (u122.alloc (.cells #[.int .u8 0, .int .i64 0, .int .i64 0, .float .f64 0, .slice none 0 0, .int .u8 0, .int .i64 0, .int .i64 0] 27)) fun w133 =>
 okSt w133 ((na u122).add 0) ∧
 (nw (w133.setCell ((na u122).add 0) (.int .u8 yx_125)) fun w134 =>
 okSt w134 ((na u122).add 1) ∧
 (nw (w134.setCell ((na u122).add 1) (.int .i64 yx_126)) fun w135 =>
 okSt w135 ((na u122).add 2) ∧
 (nw (w135.setCell ((na u122).add 2) (.int .i64 yx_127)) fun w136 =>
 okSt w136 ((na u122).add 3) ∧
 (nw (w136.setCell ((na u122).add 3) (.float .f64 yf_128)) fun w137 =>
 okSt w137 ((na u122).add 4) ∧
 (nw (w137.setCell ((na u122).add 4) (.slice ya_129 yn_129 yc_129)) fun w138 =>
 okSt w138 ((na u122).add 5) ∧
 (nw (w138.setCell ((na u122).add 5) (.int .u8 yx_130)) fun w139 =>
 okSt w139 ((na u122).add 6) ∧
 (nw (w139.setCell ((na u122).add 6) (.int .i64 yx_131)) fun w140 =>
 okSt w140 ((na u122).add 7) ∧
 (nw (w140.setCell ((na u122).add 7) (.int .i64 yx_132)) fun w141 =>
 ∃ yx_142 : Int, w141.cell? ((na u122).add 0) = some (.int .u8 yx_142) ∧
 (onBool (yx_142 != 1)
 (∃ yx_143 : Int, w141.cell? ((na u122).add 6) = some (.int .i64 yx_143) ∧
 (optN a7 fun q144 =>
 chk ((0 : Int) ≤ yx_143 ∧ yx_143 < (n7 : Int))
 (∃ yx_145 : Int, w141.cell? (q144.add (yx_143.toNat * 1)) = some (.int .i64 yx_145) ∧
 (okSt w141 (((na u122).add 6).add 0) ∧
 (nw (w141.setCell (((na u122).add 6).add 0) (.int .i64 yx_145)) fun w146 =>
 ∃ yx_147 : Int, w146.cell? ((na u122).add 7) = some (.int .i64 yx_147) ∧
 (optN a7 fun q148 =>
 chk ((0 : Int) ≤ yx_147 ∧ yx_147 < (n7 : Int))
 (∃ yx_149 : Int, w146.cell? (q148.add (yx_147.toNat * 1)) = some (.int .i64 yx_149) ∧
 (okSt w146 (((na u122).add 7).add 0) ∧
 (nw (w146.setCell (((na u122).add 7).add 0) (.int .i64 yx_149)) fun w150 =>
 optN p10 fun q151 =>
 ∃ ya_152 : Option Addr, ∃ yn_152 : Nat, ∃ yc_152 : Nat, w150.cell? (q151.add 1) = some (.slice ya_152 yn_152 yc_152) ∧
 (∃ yx_153 : Int, w150.cell? ((na u122).add 0) = some (.int .u8 yx_153) ∧
 (∃ yx_154 : Int, w150.cell? ((na u122).add 1) = some (.int .i64 yx_154) ∧
 (∃ yx_155 : Int, w150.cell? ((na u122).add 2) = some (.int .i64 yx_155) ∧
 (∃ yf_156 : Nat, w150.cell? ((na u122).add 3) = some (.float .f64 yf_156) ∧
 (∃ ya_157 : Option Addr, ∃ yn_157 : Nat, ∃ yc_157 : Nat, w150.cell? ((na u122).add 4) = some (.slice ya_157 yn_157 yc_157) ∧
 (∃ yx_158 : Int, w150.cell? ((na u122).add 5) = some (.int .u8 yx_158) ∧
 (∃ yx_159 : Int, w150.cell? ((na u122).add 6) = some (.int .i64 yx_159) ∧
 (∃ yx_160 : Int, w150.cell? ((na u122).add 7) = some (.int .i64 yx_160) ∧
 (nw (w150.alloc (.cells #[.int .u8 yx_153, .int .i64 yx_154, .int .i64 yx_155, .float .f64 yf_156, .slice ya_157 yn_157 yc_157, .int .u8 yx_158, .int .i64 yx_159, .int .i64 yx_160] 27)) fun w161 =>
 rawN Go.Proofs.Try.prog (Builtin.append_ #[31, 31] 31 #[.slice ya_152 yn_152 yc_152, .slice (some (na w150)) 1 1]) w161 fun yv162 u163 =>
 ∃ ya_164 : Option Addr, ∃ yn_164 : Nat, ∃ yc_164 : Nat, yv162 = .slice ya_164 yn_164 yc_164 ∧
 (optN p10 fun q165 =>
 okSt u163 ((q165.add 1).add 0) ∧
 (nw (u163.setCell ((q165.add 1).add 0) (.slice ya_164 yn_164 yc_164)) fun w166 =>
 nv (IntKind.i64.wrap (x45 + 1)) fun t167 =>
 b39 p1 p2 a7 n7 c7 p10 a43 n43 c43 x44 t167 w166))))))))))))))))))))
 (optN p10 fun q168 =>
 ∃ ya_169 : Option Addr, ∃ yn_169 : Nat, ∃ yc_169 : Nat, w141.cell? (q168.add 1) = some (.slice ya_169 yn_169 yc_169) ∧
 (∃ yx_170 : Int, w141.cell? ((na u122).add 0) = some (.int .u8 yx_170) ∧
 (∃ yx_171 : Int, w141.cell? ((na u122).add 1) = some (.int .i64 yx_171) ∧
 (∃ yx_172 : Int, w141.cell? ((na u122).add 2) = some (.int .i64 yx_172) ∧
 (∃ yf_173 : Nat, w141.cell? ((na u122).add 3) = some (.float .f64 yf_173) ∧
 (∃ ya_174 : Option Addr, ∃ yn_174 : Nat, ∃ yc_174 : Nat, w141.cell? ((na u122).add 4) = some (.slice ya_174 yn_174 yc_174) ∧
 (∃ yx_175 : Int, w141.cell? ((na u122).add 5) = some (.int .u8 yx_175) ∧
 (∃ yx_176 : Int, w141.cell? ((na u122).add 6) = some (.int .i64 yx_176) ∧
 (∃ yx_177 : Int, w141.cell? ((na u122).add 7) = some (.int .i64 yx_177) ∧
 (nw (w141.alloc (.cells #[.int .u8 yx_170, .int .i64 yx_171, .int .i64 yx_172, .float .f64 yf_173, .slice ya_174 yn_174 yc_174, .int .u8 yx_175, .int .i64 yx_176, .int .i64 yx_177] 27)) fun w178 =>
 rawN Go.Proofs.Try.prog (Builtin.append_ #[31, 31] 31 #[.slice ya_169 yn_169 yc_169, .slice (some (na w141)) 1 1]) w178 fun yv179 u180 =>
 ∃ ya_181 : Option Addr, ∃ yn_181 : Nat, ∃ yc_181 : Nat, yv179 = .slice ya_181 yn_181 yc_181 ∧
 (optN p10 fun q182 =>
 okSt u180 ((q182.add 1).add 0) ∧
 (nw (u180.setCell ((q182.add 1).add 0) (.slice ya_181 yn_181 yc_181)) fun w183 =>
 nv (IntKind.i64.wrap (x45 + 1)) fun t184 =>
 b39 p1 p2 a7 n7 c7 p10 a43 n43 c43 x44 t184 w183)))))))))))))))))))))))))))))))))))))
 (optN p10 fun q185 =>
 ∃ yx_186 : Int, w.cell? (q185.add 0) = some (.int .i64 yx_186) ∧
 (∃ ya_187 : Option Addr, ∃ yn_187 : Nat, ∃ yc_187 : Nat, w.cell? (q185.add 1) = some (.slice ya_187 yn_187 yc_187) ∧
 (optN p2 fun q188 =>
 okSt w (q188.add 0) ∧
 (nw (w.setCell (q188.add 0) (.int .i64 yx_186)) fun w189 =>
 okSt w189 (q188.add 1) ∧
 (nw (w189.setCell (q188.add 1) (.slice ya_187 yn_187 yc_187)) fun w190 =>
 optN p2 fun q191 =>
 ∃ yx_192 : Int, w190.cell? (q191.add 0) = some (.int .i64 yx_192) ∧
 (∃ ya_193 : Option Addr, ∃ yn_193 : Nat, ∃ yc_193 : Nat, w190.cell? (q191.add 1) = some (.slice ya_193 yn_193 yc_193) ∧
 (R (.tuple #[.agg #[.int .i64 yx_192, .slice ya_193 yn_193 yc_193], .int .i64 0]) w190)))))))
def thicketref07_Canon.q2 (R : Value → World → Prop) : Exit → Act → World → Prop := (fin Go.Proofs.Try.prog Go.Proofs.Try.f41 R)
def thicketref07_Canon.q4 (R : Value → World → Prop) : Exit → Act → World → Prop := (thicketref07_Canon.q2 R)
def thicketref07_Canon.q12 (R : Value → World → Prop) : Exit → Act → World → Prop := (thicketref07_Canon.q4 R)
def thicketref07_Canon.q14 (R : Value → World → Prop) : Exit → Act → World → Prop := (thicketref07_Canon.q12 R)
def thicketref07_Canon.q16 (R : Value → World → Prop) : Exit → Act → World → Prop := (thicketref07_Canon.q14 R)
def thicketref07_Canon.q17 (R : Value → World → Prop) : Exit → Act → World → Prop := Exit.then (startN none (codeN Go.Proofs.Try.prog (sub (codeOf Go.Proofs.Try.f41) [1, 1, 1, 1, 1, 1]) (nsub thicketref07_Canon.an [1, 1, 1, 1, 1, 1]) (thicketref07_Canon.q16 R))) (thicketref07_Canon.q16 R)
def thicketref07_Canon.q19 (R : Value → World → Prop) : Exit → Act → World → Prop := (thicketref07_Canon.q17 R)
def thicketref07_Canon.q20 (R : Value → World → Prop) : Exit → Act → World → Prop := Exit.inBlock 0 (thicketref07_Canon.q19 R)
def thicketref07_Canon.rl20 (R : Value → World → Prop) (k : Nat) (p1 : Option Addr) (p2 : Option Addr) (a6 : Option Addr) (n6 : Nat) (c6 : Nat) (a7 : Option Addr) (n7 : Nat) (c7 : Nat) (a28 : Option Addr) (n28 : Nat) (c28 : Nat) (x29 : Int) (x30 : Int) (w : World) : Prop := loopN [1, 2, 6, 7, 28, 29, 30] (codeN Go.Proofs.Try.prog (sub (codeOf Go.Proofs.Try.f41) [1, 1, 1, 1, 1, 0, 1, 0, 0]) (nsub thicketref07_Canon.an [1, 1, 1, 1, 1, 0, 1, 0, 0])) (thicketref07_Canon.q20 R) k ⟨#[undef, .pointer p1, .pointer p2, undef, undef, undef, .slice a6 n6 c6, .slice a7 n7 c7, undef, undef, undef, undef, undef, undef, undef, undef, undef, undef, undef, undef, undef, undef, undef, undef, undef, undef, undef, undef, .slice a28 n28 c28, .int .i64 x29, .int .i64 x30, undef, undef, undef, undef, undef, undef, undef, undef, undef, undef, undef, undef, undef, undef, undef, undef, undef, undef, undef, undef, undef, undef, undef, undef, undef, undef, undef, undef, undef, undef, undef, undef, undef, undef, undef, undef, undef, undef, undef, undef, undef, undef, undef, undef, undef, undef, undef, undef, undef, undef], []⟩ w
def thicketref07_Canon.re20 (R : Value → World → Prop) (p1 : Option Addr) (p2 : Option Addr) (a6 : Option Addr) (n6 : Nat) (c6 : Nat) (a7 : Option Addr) (n7 : Nat) (c7 : Nat) (a28 : Option Addr) (n28 : Nat) (c28 : Nat) (x29 : Int) (x30 : Int) (w : World) : Prop := ∃ k, thicketref07_Canon.rl20 R k p1 p2 a6 n6 c6 a7 n7 c7 a28 n28 c28 x29 x30 w
def thicketref07_Canon.q33 (R : Value → World → Prop) : Exit → Act → World → Prop := (thicketref07_Canon.q16 R)
def thicketref07_Canon.q35 (R : Value → World → Prop) : Exit → Act → World → Prop := (thicketref07_Canon.q33 R)
def thicketref07_Canon.q36 (R : Value → World → Prop) : Exit → Act → World → Prop := Exit.then (startN none (codeN Go.Proofs.Try.prog (sub (codeOf Go.Proofs.Try.f41) [1, 1, 1, 1, 1, 1, 1, 1]) (nsub thicketref07_Canon.an [1, 1, 1, 1, 1, 1, 1, 1]) (thicketref07_Canon.q35 R))) (thicketref07_Canon.q35 R)
def thicketref07_Canon.q38 (R : Value → World → Prop) : Exit → Act → World → Prop := (thicketref07_Canon.q36 R)
def thicketref07_Canon.q39 (R : Value → World → Prop) : Exit → Act → World → Prop := Exit.inBlock 2 (thicketref07_Canon.q38 R)
def thicketref07_Canon.rl39 (R : Value → World → Prop) (k : Nat) (p1 : Option Addr) (p2 : Option Addr) (a7 : Option Addr) (n7 : Nat) (c7 : Nat) (p10 : Option Addr) (a43 : Option Addr) (n43 : Nat) (c43 : Nat) (x44 : Int) (x45 : Int) (w : World) : Prop := loopN [1, 2, 7, 10, 43, 44, 45] (codeN Go.Proofs.Try.prog (sub (codeOf Go.Proofs.Try.f41) [1, 1, 1, 1, 1, 1, 1, 0, 1, 0, 0]) (nsub thicketref07_Canon.an [1, 1, 1, 1, 1, 1, 1, 0, 1, 0, 0])) (thicketref07_Canon.q39 R) k ⟨#[undef, .pointer p1, .pointer p2, undef, undef, undef, undef, .slice a7 n7 c7, undef, undef, .pointer p10, undef, undef, undef, undef, undef, undef, undef, undef, undef, undef, undef, undef, undef, undef, undef, undef, undef, undef, undef, undef, undef, undef, undef, undef, undef, undef, undef, undef, undef, undef, undef, undef, .slice a43 n43 c43, .int .i64 x44, .int .i64 x45, undef, undef, undef, undef, undef, undef, undef, undef, undef, undef, undef, undef, undef, undef, undef, undef, undef, undef, undef, undef, undef, undef, undef, undef, undef, undef, undef, undef, undef, undef, undef, undef, undef, undef, undef], []⟩ w
def thicketref07_Canon.re39 (R : Value → World → Prop) (p1 : Option Addr) (p2 : Option Addr) (a7 : Option Addr) (n7 : Nat) (c7 : Nat) (p10 : Option Addr) (a43 : Option Addr) (n43 : Nat) (c43 : Nat) (x44 : Int) (x45 : Int) (w : World) : Prop := ∃ k, thicketref07_Canon.rl39 R k p1 p2 a7 n7 c7 p10 a43 n43 c43 x44 x45 w
def thicketref07_Canon.l39 (R : Value → World → Prop) : Nat → (Option Addr) → (Option Addr) → (Option Addr) → Nat → Nat → (Option Addr) → (Option Addr) → Nat → Nat → Int → Int → World → Prop
  | 0, _, _, _, _, _, _, _, _, _, _, _, _ => False
  | k + 1, p1, p2, a7, n7, c7, p10, a43, n43, c43, x44, x45, w => thicketref07_Canon.g39 R (thicketref07_Canon.l39 R k) p1 p2 a7 n7 c7 p10 a43 n43 c43 x44 x45 w
def thicketref07_Canon.e39 (R : Value → World → Prop) (p1 : Option Addr) (p2 : Option Addr) (a7 : Option Addr) (n7 : Nat) (c7 : Nat) (p10 : Option Addr) (a43 : Option Addr) (n43 : Nat) (c43 : Nat) (x44 : Int) (x45 : Int) (w : World) : Prop := ∃ k, thicketref07_Canon.l39 R k p1 p2 a7 n7 c7 p10 a43 n43 c43 x44 x45 w
theorem thicketref07_Canon.s39 (R : Value → World → Prop) (k : Nat) (p1 : Option Addr) (p2 : Option Addr) (a7 : Option Addr) (n7 : Nat) (c7 : Nat) (p10 : Option Addr) (a43 : Option Addr) (n43 : Nat) (c43 : Nat) (x44 : Int) (x45 : Int) (w : World) : thicketref07_Canon.rl39 R (k + 1) p1 p2 a7 n7 c7 p10 a43 n43 c43 x44 x45 w = ∀ _ : Nat → Value, thicketref07_Canon.g39 R (thicketref07_Canon.rl39 R k) p1 p2 a7 n7 c7 p10 a43 n43 c43 x44 x45 w := by kernel_rfl
theorem thicketref07_Canon.lq39 (R : Value → World → Prop) : ∀ k, thicketref07_Canon.l39 R k = thicketref07_Canon.rl39 R k
  | 0 => by funext p1 p2 a7 n7 c7 p10 a43 n43 c43 x44 x45 w; first | rfl | kernel_rfl
  | k + 1 => by
    funext p1 p2 a7 n7 c7 p10 a43 n43 c43 x44 x45 w
    rw [thicketref07_Canon.s39, forall_const]
    unfold thicketref07_Canon.l39
    have ih := thicketref07_Canon.lq39 R k
    rw [ih]
    all_goals rfl
theorem thicketref07_Canon.eq39 (R : Value → World → Prop) : thicketref07_Canon.e39 R = thicketref07_Canon.re39 R := by
  funext p1 p2 a7 n7 c7 p10 a43 n43 c43 x44 x45 w
  unfold thicketref07_Canon.e39 thicketref07_Canon.re39
  simp only [thicketref07_Canon.lq39 R]
def thicketref07_Canon.l20 (R : Value → World → Prop) : Nat → (Option Addr) → (Option Addr) → (Option Addr) → Nat → Nat → (Option Addr) → Nat → Nat → (Option Addr) → Nat → Nat → Int → Int → World → Prop
  | 0, _, _, _, _, _, _, _, _, _, _, _, _, _, _ => False
  | k + 1, p1, p2, a6, n6, c6, a7, n7, c7, a28, n28, c28, x29, x30, w => thicketref07_Canon.g20 R (thicketref07_Canon.l20 R k) (thicketref07_Canon.e39 R) p1 p2 a6 n6 c6 a7 n7 c7 a28 n28 c28 x29 x30 w
def thicketref07_Canon.e20 (R : Value → World → Prop) (p1 : Option Addr) (p2 : Option Addr) (a6 : Option Addr) (n6 : Nat) (c6 : Nat) (a7 : Option Addr) (n7 : Nat) (c7 : Nat) (a28 : Option Addr) (n28 : Nat) (c28 : Nat) (x29 : Int) (x30 : Int) (w : World) : Prop := ∃ k, thicketref07_Canon.l20 R k p1 p2 a6 n6 c6 a7 n7 c7 a28 n28 c28 x29 x30 w
theorem thicketref07_Canon.s20 (R : Value → World → Prop) (k : Nat) (p1 : Option Addr) (p2 : Option Addr) (a6 : Option Addr) (n6 : Nat) (c6 : Nat) (a7 : Option Addr) (n7 : Nat) (c7 : Nat) (a28 : Option Addr) (n28 : Nat) (c28 : Nat) (x29 : Int) (x30 : Int) (w : World) : thicketref07_Canon.rl20 R (k + 1) p1 p2 a6 n6 c6 a7 n7 c7 a28 n28 c28 x29 x30 w = ∀ _ : Nat → Value, thicketref07_Canon.g20 R (thicketref07_Canon.rl20 R k) (thicketref07_Canon.re39 R) p1 p2 a6 n6 c6 a7 n7 c7 a28 n28 c28 x29 x30 w := by kernel_rfl
theorem thicketref07_Canon.lq20 (R : Value → World → Prop) : ∀ k, thicketref07_Canon.l20 R k = thicketref07_Canon.rl20 R k
  | 0 => by funext p1 p2 a6 n6 c6 a7 n7 c7 a28 n28 c28 x29 x30 w; first | rfl | kernel_rfl
  | k + 1 => by
    funext p1 p2 a6 n6 c6 a7 n7 c7 a28 n28 c28 x29 x30 w
    rw [thicketref07_Canon.s20, forall_const]
    unfold thicketref07_Canon.l20
    have ih := thicketref07_Canon.lq20 R k
    rw [thicketref07_Canon.eq39 R]
    rw [ih]
    all_goals rfl
theorem thicketref07_Canon.eq20 (R : Value → World → Prop) : thicketref07_Canon.e20 R = thicketref07_Canon.re20 R := by
  funext p1 p2 a6 n6 c6 a7 n7 c7 a28 n28 c28 x29 x30 w
  unfold thicketref07_Canon.e20 thicketref07_Canon.re20
  simp only [thicketref07_Canon.lq20 R]
def thicketref07_Canon (R : Value → World → Prop) (x0_0 : Int) (a0_1 : Option Addr) (n0_1 : Nat) (c0_1 : Nat) (w : World) : Prop := thicketref07_Canon.g0 R (thicketref07_Canon.e20 R) x0_0 a0_1 n0_1 c0_1 w
theorem thicketref07_Canon.root0 (R : Value → World → Prop) (x0_0 : Int) (a0_1 : Option Addr) (n0_1 : Nat) (c0_1 : Nat) (w : World) : fnN Go.Proofs.Try.prog Go.Proofs.Try.f41 thicketref07_Canon.an #[.agg #[.int .i64 x0_0, .slice a0_1 n0_1 c0_1]] w R = thicketref07_Canon.g0 R (thicketref07_Canon.re20 R) x0_0 a0_1 n0_1 c0_1 w := by kernel_rfl
theorem thicketref07_Canon.calls {R : Value → World → Prop} {x0_0 : Int} {a0_1 : Option Addr} {n0_1 : Nat} {c0_1 : Nat} {w : World} (h : thicketref07_Canon R x0_0 a0_1 n0_1 c0_1 w) : Go.E.CallsD Go.Proofs.Try.prog 41 #[.agg #[.int .i64 x0_0, .slice a0_1 n0_1 c0_1]] w R := by
  refine callsD_of (n := thicketref07_Canon.an) M_follows M_sizes Go.Proofs.Try.func41 (by rfl) ?_
  rw [thicketref07_Canon.root0]
  unfold thicketref07_Canon at h
  rw [thicketref07_Canon.eq20 R] at h
  exact h
-- thicket/trees.Model
def trees_Model.an : An := (.mk none .nil (.mk none .nil (.mk none (.mk none .nil (.mk none (.mk (some [2, 4, 12, 13, 14]) .nil .nil) .nil)) .nil)))
def trees_Model.g0 (R : Value → World → Prop) (e8 : (Option Addr) → (Option Addr) → (Option Addr) → Nat → Nat → Int → Int → World → Prop) (s0_0 : ByteArray) (a0_1 : Option Addr) (n0_1 : Nat) (c0_1 : Nat) (x0_2 : Int) (a0_3 : Option Addr) (n0_3 : Nat) (c0_3 : Nat) (a0_4 : Option Addr) (n0_4 : Nat) (c0_4 : Nat) (w : World) : Prop :=
 nw (w.alloc (.cells #[.string s0_0, .slice a0_1 n0_1 c0_1, .int .i64 x0_2, .slice a0_3 n0_3 c0_3, .slice a0_4 n0_4 c0_4] 46)) fun w70 =>
 nw (w70.alloc (.cells #[.string ⟨#[]⟩, .slice none 0 0, .int .i64 0, .slice none 0 0, .slice none 0 0] 46)) fun w71 =>
 ∃ ys_72 : ByteArray, w71.cell? ((na w).add 0) = some (.string ys_72) ∧
 (∃ ya_73 : Option Addr, ∃ yn_73 : Nat, ∃ yc_73 : Nat, w71.cell? ((na w).add 1) = some (.slice ya_73 yn_73 yc_73) ∧
 (∃ yx_74 : Int, w71.cell? ((na w).add 2) = some (.int .i64 yx_74) ∧
 (∃ ya_75 : Option Addr, ∃ yn_75 : Nat, ∃ yc_75 : Nat, w71.cell? ((na w).add 3) = some (.slice ya_75 yn_75 yc_75) ∧
 (∃ ya_76 : Option Addr, ∃ yn_76 : Nat, ∃ yc_76 : Nat, w71.cell? ((na w).add 4) = some (.slice ya_76 yn_76 yc_76) ∧
 (Go.E.CallsD Go.Proofs.Try.prog 34 #[.agg #[.string ys_72, .slice ya_73 yn_73 yc_73, .int .i64 yx_74, .slice ya_75 yn_75 yc_75, .slice ya_76 yn_76 yc_76]] w71 fun yv77 u78 =>
 ∃ ys_79_0 : ByteArray, ∃ ya_79_1 : Option Addr, ∃ yn_79_1 : Nat, ∃ yc_79_1 : Nat, ∃ yx_79_2 : Int, ∃ ya_79_3 : Option Addr, ∃ yn_79_3 : Nat, ∃ yc_79_3 : Nat, ∃ ya_79_4 : Option Addr, ∃ yn_79_4 : Nat, ∃ yc_79_4 : Nat, yv77 = .agg #[.string ys_79_0, .slice ya_79_1 yn_79_1 yc_79_1, .int .i64 yx_79_2, .slice ya_79_3 yn_79_3 yc_79_3, .slice ya_79_4 yn_79_4 yc_79_4] ∧
 (nw (u78.alloc (.cells #[.string ⟨#[]⟩, .slice none 0 0, .int .i64 0, .slice none 0 0, .slice none 0 0] 46)) fun w80 =>
 okSt w80 ((na u78).add 0) ∧
 (nw (w80.setCell ((na u78).add 0) (.string ys_79_0)) fun w81 =>
 okSt w81 ((na u78).add 1) ∧
 (nw (w81.setCell ((na u78).add 1) (.slice ya_79_1 yn_79_1 yc_79_1)) fun w82 =>
 okSt w82 ((na u78).add 2) ∧
 (nw (w82.setCell ((na u78).add 2) (.int .i64 yx_79_2)) fun w83 =>
 okSt w83 ((na u78).add 3) ∧
 (nw (w83.setCell ((na u78).add 3) (.slice ya_79_3 yn_79_3 yc_79_3)) fun w84 =>
 okSt w84 ((na u78).add 4) ∧
 (nw (w84.setCell ((na u78).add 4) (.slice ya_79_4 yn_79_4 yc_79_4)) fun w85 =>
 ∃ ya_86 : Option Addr, ∃ yn_86 : Nat, ∃ yc_86 : Nat, w85.cell? ((na w).add 4) = some (.slice ya_86 yn_86 yc_86) ∧
 (e8 (some (na w70)) (some (na u78)) ya_86 yn_86 yc_86 (yn_86 : Int) 0 w85))))))))))))
def trees_Model.g8 (R : Value → World → Prop) (b8 : (Option Addr) → (Option Addr) → (Option Addr) → Nat → Nat → Int → Int → World → Prop) (p2 : Option Addr) (p4 : Option Addr) (a12 : Option Addr) (n12 : Nat) (c12 : Nat) (x13 : Int) (x14 : Int) (w : World) : Prop :=
 onBool (decide (x14 < x13))
 (optN a12 fun q87 =>
 chk ((0 : Int) ≤ x14 ∧ x14 < (n12 : Int))
 (∃ yx_88 : Int, w.cell? ((q87.add (x14.toNat * 2)).add 0) = some (.int .i64 yx_88) ∧
 (∃ ya_89 : Option Addr, ∃ yn_89 : Nat, ∃ yc_89 : Nat, w.cell? ((q87.add (x14.toNat * 2)).add 1) = some (.slice ya_89 yn_89 yc_89) ∧
 (nw (w.alloc (.cells #[.int .i64 0, .slice none 0 0] 33)) fun w90 =>
 okSt w90 ((na w).add 0) ∧
 (nw (w90.setCell ((na w).add 0) (.int .i64 yx_88)) fun w91 =>
 okSt w91 ((na w).add 1) ∧
 (nw (w91.setCell ((na w).add 1) (.slice ya_89 yn_89 yc_89)) fun w92 =>
 ∃ yx_93 : Int, w92.cell? ((na w).add 0) = some (.int .i64 yx_93) ∧
 (∃ ya_94 : Option Addr, ∃ yn_94 : Nat, ∃ yc_94 : Nat, w92.cell? ((na w).add 1) = some (.slice ya_94 yn_94 yc_94) ∧
 (Go.E.CallsD Go.Proofs.Try.prog 37 #[.agg #[.int .i64 yx_93, .slice ya_94 yn_94 yc_94]] w92 fun yv95 u96 =>
 ∃ yx_97_0_0 : Int, ∃ ya_97_0_1 : Option Addr, ∃ yn_97_0_1 : Nat, ∃ yc_97_0_1 : Nat, ∃ yx_97_1 : Int, yv95 = .tuple #[.agg #[.int .i64 yx_97_0_0, .slice ya_97_0_1 yn_97_0_1 yc_97_0_1], .int .i64 yx_97_1] ∧
 (nw (u96.alloc (.cells #[.int .i64 0, .slice none 0 0] 33)) fun w98 =>
 okSt w98 ((na u96).add 0) ∧
 (nw (w98.setCell ((na u96).add 0) (.int .i64 yx_97_0_0)) fun w99 =>
 okSt w99 ((na u96).add 1) ∧
 (nw (w99.setCell ((na u96).add 1) (.slice ya_97_0_1 yn_97_0_1 yc_97_0_1)) fun w100 =>
 onBool (yx_97_1 != 0)
 (optN p2 fun q101 =>
 okSt w100 (q101.add 0) ∧
 (nw (w100.setCell (q101.add 0) (.string ⟨#[]⟩)) fun w102 =>
 okSt w102 (q101.add 1) ∧
 (nw (w102.setCell (q101.add 1) (.slice none 0 0)) fun w103 =>
 okSt w103 (q101.add 2) ∧
 (nw (w103.setCell (q101.add 2) (.int .i64 0)) fun w104 =>
 okSt w104 (q101.add 3) ∧
 (nw (w104.setCell (q101.add 3) (.slice none 0 0)) fun w105 =>
 okSt w105 (q101.add 4) ∧
 (nw (w105.setCell (q101.add 4) (.slice none 0 0)) fun w106 =>
 optN p2 fun q107 =>
 ∃ ys_108 : ByteArray, w106.cell? (q107.add 0) = some (.string ys_108) ∧
 (∃ ya_109 : Option Addr, ∃ yn_109 : Nat, ∃ yc_109 : Nat, w106.cell? (q107.add 1) = some (.slice ya_109 yn_109 yc_109) ∧
 (∃ yx_110 : Int, w106.cell? (q107.add 2) = some (.int .i64 yx_110) ∧
 (∃ ya_111 : Option Addr, ∃ yn_111 : Nat, ∃ yc_111 : Nat, w106.cell? (q107.add 3) = some (.slice ya_111 yn_111 yc_111) ∧
 (∃ ya_112 : Option Addr, ∃ yn_112 : Nat, ∃ yc_112 : Nat, w106.cell? (q107.add 4) = some (.slice ya_112 yn_112 yc_112) ∧
 (R (.tuple #[.agg #[.string ys_108, .slice ya_109 yn_109 yc_109, .int .i64 yx_110, .slice ya_111 yn_111 yc_111, .slice ya_112 yn_112 yc_112], .int .i64 yx_97_1]) w106)))))))))))
 (optN p4 fun q113 =>
 ∃ ya_114 : Option Addr, ∃ yn_114 : Nat, ∃ yc_114 : Nat, w100.cell? (q113.add 4) = some (.slice ya_114 yn_114 yc_114) ∧
 (∃ yx_115 : Int, w100.cell? ((na u96).add 0) = some (.int .i64 yx_115) ∧
 (∃ ya_116 : Option Addr, ∃ yn_116 : Nat, ∃ yc_116 : Nat, w100.cell? ((na u96).add 1) = some (.slice ya_116 yn_116 yc_116) ∧
 (optN ya_114 fun q117 =>
 chk ((0 : Int) ≤ x14 ∧ x14 < (yn_114 : Int))
 (okSt w100 ((q117.add (x14.toNat * 2)).add 0) ∧
 (nw (w100.setCell ((q117.add (x14.toNat * 2)).add 0) (.int .i64 yx_115)) fun w118 =>
 okSt w118 ((q117.add (x14.toNat * 2)).add 1) ∧
 (nw (w118.setCell ((q117.add (x14.toNat * 2)).add 1) (.slice ya_116 yn_116 yc_116)) fun w119 =>
 nv (IntKind.i64.wrap (x14 + 1)) fun t120 =>
 b8 p2 p4 a12 n12 c12 x13 t120 w119))))))))))))))))))
 (optN p4 fun q121 =>
 ∃ ys_122 : ByteArray, w.cell? (q121.add 0) = some (.string ys_122) ∧
 (∃ ya_123 : Option Addr, ∃ yn_123 : Nat, ∃ yc_123 : Nat, w.cell? (q121.add 1) = some (.slice ya_123 yn_123 yc_123) ∧
 (∃ yx_124 : Int, w.cell? (q121.add 2) = some (.int .i64 yx_124) ∧
 (∃ ya_125 : Option Addr, ∃ yn_125 : Nat, ∃ yc_125 : Nat, w.cell? (q121.add 3) = some (.slice ya_125 yn_125 yc_125) ∧
 (∃ ya_126 : Option Addr, ∃ yn_126 : Nat, ∃ yc_126 : Nat, w.cell? (q121.add 4) = some (.slice ya_126 yn_126 yc_126) ∧
 (optN p2 fun q127 =>
 okSt w (q127.add 0) ∧
 (nw (w.setCell (q127.add 0) (.string ys_122)) fun w128 =>
 okSt w128 (q127.add 1) ∧
 (nw (w128.setCell (q127.add 1) (.slice ya_123 yn_123 yc_123)) fun w129 =>
 okSt w129 (q127.add 2) ∧
 (nw (w129.setCell (q127.add 2) (.int .i64 yx_124)) fun w130 =>
 okSt w130 (q127.add 3) ∧
 (nw (w130.setCell (q127.add 3) (.slice ya_125 yn_125 yc_125)) fun w131 =>
 okSt w131 (q127.add 4) ∧
 (nw (w131.setCell (q127.add 4) (.slice ya_126 yn_126 yc_126)) fun w132 =>
 optN p2 fun q133 =>
 ∃ ys_134 : ByteArray, w132.cell? (q133.add 0) = some (.string ys_134) ∧
 (∃ ya_135 : Option Addr, ∃ yn_135 : Nat, ∃ yc_135 : Nat, w132.cell? (q133.add 1) = some (.slice ya_135 yn_135 yc_135) ∧
 (∃ yx_136 : Int, w132.cell? (q133.add 2) = some (.int .i64 yx_136) ∧
 (∃ ya_137 : Option Addr, ∃ yn_137 : Nat, ∃ yc_137 : Nat, w132.cell? (q133.add 3) = some (.slice ya_137 yn_137 yc_137) ∧
 (∃ ya_138 : Option Addr, ∃ yn_138 : Nat, ∃ yc_138 : Nat, w132.cell? (q133.add 4) = some (.slice ya_138 yn_138 yc_138) ∧
 (R (.tuple #[.agg #[.string ys_134, .slice ya_135 yn_135 yc_135, .int .i64 yx_136, .slice ya_137 yn_137 yc_137, .slice ya_138 yn_138 yc_138], .int .i64 0]) w132))))))))))))))))
def trees_Model.q2 (R : Value → World → Prop) : Exit → Act → World → Prop := (fin Go.Proofs.Try.prog Go.Proofs.Try.f33 R)
def trees_Model.q4 (R : Value → World → Prop) : Exit → Act → World → Prop := (trees_Model.q2 R)
def trees_Model.q5 (R : Value → World → Prop) : Exit → Act → World → Prop := Exit.then (startN none (codeN Go.Proofs.Try.prog (sub (codeOf Go.Proofs.Try.f33) [1, 1, 1]) (nsub trees_Model.an [1, 1, 1]) (trees_Model.q4 R))) (trees_Model.q4 R)
def trees_Model.q7 (R : Value → World → Prop) : Exit → Act → World → Prop := (trees_Model.q5 R)
def trees_Model.q8 (R : Value → World → Prop) : Exit → Act → World → Prop := Exit.inBlock 0 (trees_Model.q7 R)
def trees_Model.rl8 (R : Value → World → Prop) (k : Nat) (p2 : Option Addr) (p4 : Option Addr) (a12 : Option Addr) (n12 : Nat) (c12 : Nat) (x13 : Int) (x14 : Int) (w : World) : Prop := loopN [2, 4, 12, 13, 14] (codeN Go.Proofs.Try.prog (sub (codeOf Go.Proofs.Try.f33) [1, 1, 0, 1, 0, 0]) (nsub trees_Model.an [1, 1, 0, 1, 0, 0])) (trees_Model.q8 R) k ⟨#[undef, undef, .pointer p2, undef, .pointer p4, undef, undef, undef, undef, undef, undef, undef, .slice a12 n12 c12, .int .i64 x13, .int .i64 x14, undef, undef, undef, undef, undef, undef, undef, undef, undef, undef, undef, undef, undef, undef, undef, undef, undef, undef, undef, undef], []⟩ w
def trees_Model.re8 (R : Value → World → Prop) (p2 : Option Addr) (p4 : Option Addr) (a12 : Option Addr) (n12 : Nat) (c12 : Nat) (x13 : Int) (x14 : Int) (w : World) : Prop := ∃ k, trees_Model.rl8 R k p2 p4 a12 n12 c12 x13 x14 w
def trees_Model.l8 (R : Value → World → Prop) : Nat → (Option Addr) → (Option Addr) → (Option Addr) → Nat → Nat → Int → Int → World → Prop
  | 0, _, _, _, _, _, _, _, _ => False
  | k + 1, p2, p4, a12, n12, c12, x13, x14, w => trees_Model.g8 R (trees_Model.l8 R k) p2 p4 a12 n12 c12 x13 x14 w
def trees_Model.e8 (R : Value → World → Prop) (p2 : Option Addr) (p4 : Option Addr) (a12 : Option Addr) (n12 : Nat) (c12 : Nat) (x13 : Int) (x14 : Int) (w : World) : Prop := ∃ k, trees_Model.l8 R k p2 p4 a12 n12 c12 x13 x14 w
theorem trees_Model.s8 (R : Value → World → Prop) (k : Nat) (p2 : Option Addr) (p4 : Option Addr) (a12 : Option Addr) (n12 : Nat) (c12 : Nat) (x13 : Int) (x14 : Int) (w : World) : trees_Model.rl8 R (k + 1) p2 p4 a12 n12 c12 x13 x14 w = ∀ _ : Nat → Value, trees_Model.g8 R (trees_Model.rl8 R k) p2 p4 a12 n12 c12 x13 x14 w := by kernel_rfl
theorem trees_Model.lq8 (R : Value → World → Prop) : ∀ k, trees_Model.l8 R k = trees_Model.rl8 R k
  | 0 => by funext p2 p4 a12 n12 c12 x13 x14 w; first | rfl | kernel_rfl
  | k + 1 => by
    funext p2 p4 a12 n12 c12 x13 x14 w
    rw [trees_Model.s8, forall_const]
    unfold trees_Model.l8
    have ih := trees_Model.lq8 R k
    rw [ih]
    all_goals rfl
theorem trees_Model.eq8 (R : Value → World → Prop) : trees_Model.e8 R = trees_Model.re8 R := by
  funext p2 p4 a12 n12 c12 x13 x14 w
  unfold trees_Model.e8 trees_Model.re8
  simp only [trees_Model.lq8 R]
def trees_Model (R : Value → World → Prop) (s0_0 : ByteArray) (a0_1 : Option Addr) (n0_1 : Nat) (c0_1 : Nat) (x0_2 : Int) (a0_3 : Option Addr) (n0_3 : Nat) (c0_3 : Nat) (a0_4 : Option Addr) (n0_4 : Nat) (c0_4 : Nat) (w : World) : Prop := trees_Model.g0 R (trees_Model.e8 R) s0_0 a0_1 n0_1 c0_1 x0_2 a0_3 n0_3 c0_3 a0_4 n0_4 c0_4 w
theorem trees_Model.root0 (R : Value → World → Prop) (s0_0 : ByteArray) (a0_1 : Option Addr) (n0_1 : Nat) (c0_1 : Nat) (x0_2 : Int) (a0_3 : Option Addr) (n0_3 : Nat) (c0_3 : Nat) (a0_4 : Option Addr) (n0_4 : Nat) (c0_4 : Nat) (w : World) : fnN Go.Proofs.Try.prog Go.Proofs.Try.f33 trees_Model.an #[.agg #[.string s0_0, .slice a0_1 n0_1 c0_1, .int .i64 x0_2, .slice a0_3 n0_3 c0_3, .slice a0_4 n0_4 c0_4]] w R = trees_Model.g0 R (trees_Model.re8 R) s0_0 a0_1 n0_1 c0_1 x0_2 a0_3 n0_3 c0_3 a0_4 n0_4 c0_4 w := by kernel_rfl
theorem trees_Model.calls {R : Value → World → Prop} {s0_0 : ByteArray} {a0_1 : Option Addr} {n0_1 : Nat} {c0_1 : Nat} {x0_2 : Int} {a0_3 : Option Addr} {n0_3 : Nat} {c0_3 : Nat} {a0_4 : Option Addr} {n0_4 : Nat} {c0_4 : Nat} {w : World} (h : trees_Model R s0_0 a0_1 n0_1 c0_1 x0_2 a0_3 n0_3 c0_3 a0_4 n0_4 c0_4 w) : Go.E.CallsD Go.Proofs.Try.prog 33 #[.agg #[.string s0_0, .slice a0_1 n0_1 c0_1, .int .i64 x0_2, .slice a0_3 n0_3 c0_3, .slice a0_4 n0_4 c0_4]] w R := by
  refine callsD_of (n := trees_Model.an) M_follows M_sizes Go.Proofs.Try.func33 (by rfl) ?_
  rw [trees_Model.root0]
  unfold trees_Model at h
  rw [trees_Model.eq8 R] at h
  exact h
-- thicket/thicketref07.Model
def thicketref07_Model.an : An := (.mk none .nil (.mk none .nil (.mk none (.mk none .nil (.mk none (.mk (some [2, 4, 12, 13, 14]) .nil .nil) .nil)) .nil)))
def thicketref07_Model.g0 (R : Value → World → Prop) (e8 : (Option Addr) → (Option Addr) → (Option Addr) → Nat → Nat → Int → Int → World → Prop) (s0_0 : ByteArray) (a0_1 : Option Addr) (n0_1 : Nat) (c0_1 : Nat) (x0_2 : Int) (a0_3 : Option Addr) (n0_3 : Nat) (c0_3 : Nat) (a0_4 : Option Addr) (n0_4 : Nat) (c0_4 : Nat) (w : World) : Prop :=
 nw (w.alloc (.cells #[.string s0_0, .slice a0_1 n0_1 c0_1, .int .i64 x0_2, .slice a0_3 n0_3 c0_3, .slice a0_4 n0_4 c0_4] 46)) fun w70 =>
 nw (w70.alloc (.cells #[.string ⟨#[]⟩, .slice none 0 0, .int .i64 0, .slice none 0 0, .slice none 0 0] 46)) fun w71 =>
 ∃ ys_72 : ByteArray, w71.cell? ((na w).add 0) = some (.string ys_72) ∧
 (∃ ya_73 : Option Addr, ∃ yn_73 : Nat, ∃ yc_73 : Nat, w71.cell? ((na w).add 1) = some (.slice ya_73 yn_73 yc_73) ∧
 (∃ yx_74 : Int, w71.cell? ((na w).add 2) = some (.int .i64 yx_74) ∧
 (∃ ya_75 : Option Addr, ∃ yn_75 : Nat, ∃ yc_75 : Nat, w71.cell? ((na w).add 3) = some (.slice ya_75 yn_75 yc_75) ∧
 (∃ ya_76 : Option Addr, ∃ yn_76 : Nat, ∃ yc_76 : Nat, w71.cell? ((na w).add 4) = some (.slice ya_76 yn_76 yc_76) ∧
 (Go.E.CallsD Go.Proofs.Try.prog 20 #[.agg #[.string ys_72, .slice ya_73 yn_73 yc_73, .int .i64 yx_74, .slice ya_75 yn_75 yc_75, .slice ya_76 yn_76 yc_76]] w71 fun yv77 u78 =>
 ∃ ys_79_0 : ByteArray, ∃ ya_79_1 : Option Addr, ∃ yn_79_1 : Nat, ∃ yc_79_1 : Nat, ∃ yx_79_2 : Int, ∃ ya_79_3 : Option Addr, ∃ yn_79_3 : Nat, ∃ yc_79_3 : Nat, ∃ ya_79_4 : Option Addr, ∃ yn_79_4 : Nat, ∃ yc_79_4 : Nat, yv77 = .agg #[.string ys_79_0, .slice ya_79_1 yn_79_1 yc_79_1, .int .i64 yx_79_2, .slice ya_79_3 yn_79_3 yc_79_3, .slice ya_79_4 yn_79_4 yc_79_4] ∧
 (nw (u78.alloc (.cells #[.string ⟨#[]⟩, .slice none 0 0, .int .i64 0, .slice none 0 0, .slice none 0 0] 46)) fun w80 =>
 okSt w80 ((na u78).add 0) ∧
 (nw (w80.setCell ((na u78).add 0) (.string ys_79_0)) fun w81 =>
 okSt w81 ((na u78).add 1) ∧
 (nw (w81.setCell ((na u78).add 1) (.slice ya_79_1 yn_79_1 yc_79_1)) fun w82 =>
 okSt w82 ((na u78).add 2) ∧
 (nw (w82.setCell ((na u78).add 2) (.int .i64 yx_79_2)) fun w83 =>
 okSt w83 ((na u78).add 3) ∧
 (nw (w83.setCell ((na u78).add 3) (.slice ya_79_3 yn_79_3 yc_79_3)) fun w84 =>
 okSt w84 ((na u78).add 4) ∧
 (nw (w84.setCell ((na u78).add 4) (.slice ya_79_4 yn_79_4 yc_79_4)) fun w85 =>
 ∃ ya_86 : Option Addr, ∃ yn_86 : Nat, ∃ yc_86 : Nat, w85.cell? ((na w).add 4) = some (.slice ya_86 yn_86 yc_86) ∧
 (e8 (some (na w70)) (some (na u78)) ya_86 yn_86 yc_86 (yn_86 : Int) 0 w85))))))))))))
def thicketref07_Model.g8 (R : Value → World → Prop) (b8 : (Option Addr) → (Option Addr) → (Option Addr) → Nat → Nat → Int → Int → World → Prop) (p2 : Option Addr) (p4 : Option Addr) (a12 : Option Addr) (n12 : Nat) (c12 : Nat) (x13 : Int) (x14 : Int) (w : World) : Prop :=
 onBool (decide (x14 < x13))
 (optN a12 fun q87 =>
 chk ((0 : Int) ≤ x14 ∧ x14 < (n12 : Int))
 (∃ yx_88 : Int, w.cell? ((q87.add (x14.toNat * 2)).add 0) = some (.int .i64 yx_88) ∧
 (∃ ya_89 : Option Addr, ∃ yn_89 : Nat, ∃ yc_89 : Nat, w.cell? ((q87.add (x14.toNat * 2)).add 1) = some (.slice ya_89 yn_89 yc_89) ∧
 (nw (w.alloc (.cells #[.int .i64 0, .slice none 0 0] 33)) fun w90 =>
 okSt w90 ((na w).add 0) ∧
 (nw (w90.setCell ((na w).add 0) (.int .i64 yx_88)) fun w91 =>
 okSt w91 ((na w).add 1) ∧
 (nw (w91.setCell ((na w).add 1) (.slice ya_89 yn_89 yc_89)) fun w92 =>
 ∃ yx_93 : Int, w92.cell? ((na w).add 0) = some (.int .i64 yx_93) ∧
 (∃ ya_94 : Option Addr, ∃ yn_94 : Nat, ∃ yc_94 : Nat, w92.cell? ((na w).add 1) = some (.slice ya_94 yn_94 yc_94) ∧
 (Go.E.CallsD Go.Proofs.Try.prog 41 #[.agg #[.int .i64 yx_93, .slice ya_94 yn_94 yc_94]] w92 fun yv95 u96 =>
 ∃ yx_97_0_0 : Int, ∃ ya_97_0_1 : Option Addr, ∃ yn_97_0_1 : Nat, ∃ yc_97_0_1 : Nat, ∃ yx_97_1 : Int, yv95 = .tuple #[.agg #[.int .i64 yx_97_0_0, .slice ya_97_0_1 yn_97_0_1 yc_97_0_1], .int .i64 yx_97_1] ∧
 (nw (u96.alloc (.cells #[.int .i64 0, .slice none 0 0] 33)) fun w98 =>
 okSt w98 ((na u96).add 0) ∧
 (nw (w98.setCell ((na u96).add 0) (.int .i64 yx_97_0_0)) fun w99 =>
 okSt w99 ((na u96).add 1) ∧
 (nw (w99.setCell ((na u96).add 1) (.slice ya_97_0_1 yn_97_0_1 yc_97_0_1)) fun w100 =>
 onBool (yx_97_1 != 0)
 (optN p2 fun q101 =>
 okSt w100 (q101.add 0) ∧
 (nw (w100.setCell (q101.add 0) (.string ⟨#[]⟩)) fun w102 =>
 okSt w102 (q101.add 1) ∧
 (nw (w102.setCell (q101.add 1) (.slice none 0 0)) fun w103 =>
 okSt w103 (q101.add 2) ∧
 (nw (w103.setCell (q101.add 2) (.int .i64 0)) fun w104 =>
 okSt w104 (q101.add 3) ∧
 (nw (w104.setCell (q101.add 3) (.slice none 0 0)) fun w105 =>
 okSt w105 (q101.add 4) ∧
 (nw (w105.setCell (q101.add 4) (.slice none 0 0)) fun w106 =>
 optN p2 fun q107 =>
 ∃ ys_108 : ByteArray, w106.cell? (q107.add 0) = some (.string ys_108) ∧
 (∃ ya_109 : Option Addr, ∃ yn_109 : Nat, ∃ yc_109 : Nat, w106.cell? (q107.add 1) = some (.slice ya_109 yn_109 yc_109) ∧
 (∃ yx_110 : Int, w106.cell? (q107.add 2) = some (.int .i64 yx_110) ∧
 (∃ ya_111 : Option Addr, ∃ yn_111 : Nat, ∃ yc_111 : Nat, w106.cell? (q107.add 3) = some (.slice ya_111 yn_111 yc_111) ∧
 (∃ ya_112 : Option Addr, ∃ yn_112 : Nat, ∃ yc_112 : Nat, w106.cell? (q107.add 4) = some (.slice ya_112 yn_112 yc_112) ∧
 (R (.tuple #[.agg #[.string ys_108, .slice ya_109 yn_109 yc_109, .int .i64 yx_110, .slice ya_111 yn_111 yc_111, .slice ya_112 yn_112 yc_112], .int .i64 yx_97_1]) w106)))))))))))
 (optN p4 fun q113 =>
 ∃ ya_114 : Option Addr, ∃ yn_114 : Nat, ∃ yc_114 : Nat, w100.cell? (q113.add 4) = some (.slice ya_114 yn_114 yc_114) ∧
 (∃ yx_115 : Int, w100.cell? ((na u96).add 0) = some (.int .i64 yx_115) ∧
 (∃ ya_116 : Option Addr, ∃ yn_116 : Nat, ∃ yc_116 : Nat, w100.cell? ((na u96).add 1) = some (.slice ya_116 yn_116 yc_116) ∧
 (optN ya_114 fun q117 =>
 chk ((0 : Int) ≤ x14 ∧ x14 < (yn_114 : Int))
 (okSt w100 ((q117.add (x14.toNat * 2)).add 0) ∧
 (nw (w100.setCell ((q117.add (x14.toNat * 2)).add 0) (.int .i64 yx_115)) fun w118 =>
 okSt w118 ((q117.add (x14.toNat * 2)).add 1) ∧
 (nw (w118.setCell ((q117.add (x14.toNat * 2)).add 1) (.slice ya_116 yn_116 yc_116)) fun w119 =>
 nv (IntKind.i64.wrap (x14 + 1)) fun t120 =>
 b8 p2 p4 a12 n12 c12 x13 t120 w119))))))))))))))))))
 (optN p4 fun q121 =>
 ∃ ys_122 : ByteArray, w.cell? (q121.add 0) = some (.string ys_122) ∧
 (∃ ya_123 : Option Addr, ∃ yn_123 : Nat, ∃ yc_123 : Nat, w.cell? (q121.add 1) = some (.slice ya_123 yn_123 yc_123) ∧
 (∃ yx_124 : Int, w.cell? (q121.add 2) = some (.int .i64 yx_124) ∧
 (∃ ya_125 : Option Addr, ∃ yn_125 : Nat, ∃ yc_125 : Nat, w.cell? (q121.add 3) = some (.slice ya_125 yn_125 yc_125) ∧
 (∃ ya_126 : Option Addr, ∃ yn_126 : Nat, ∃ yc_126 : Nat, w.cell? (q121.add 4) = some (.slice ya_126 yn_126 yc_126) ∧
 (optN p2 fun q127 =>
 okSt w (q127.add 0) ∧
 (nw (w.setCell (q127.add 0) (.string ys_122)) fun w128 =>
 okSt w128 (q127.add 1) ∧
 (nw (w128.setCell (q127.add 1) (.slice ya_123 yn_123 yc_123)) fun w129 =>
 okSt w129 (q127.add 2) ∧
 (nw (w129.setCell (q127.add 2) (.int .i64 yx_124)) fun w130 =>
 okSt w130 (q127.add 3) ∧
 (nw (w130.setCell (q127.add 3) (.slice ya_125 yn_125 yc_125)) fun w131 =>
 okSt w131 (q127.add 4) ∧
 (nw (w131.setCell (q127.add 4) (.slice ya_126 yn_126 yc_126)) fun w132 =>
 optN p2 fun q133 =>
 ∃ ys_134 : ByteArray, w132.cell? (q133.add 0) = some (.string ys_134) ∧
 (∃ ya_135 : Option Addr, ∃ yn_135 : Nat, ∃ yc_135 : Nat, w132.cell? (q133.add 1) = some (.slice ya_135 yn_135 yc_135) ∧
 (∃ yx_136 : Int, w132.cell? (q133.add 2) = some (.int .i64 yx_136) ∧
 (∃ ya_137 : Option Addr, ∃ yn_137 : Nat, ∃ yc_137 : Nat, w132.cell? (q133.add 3) = some (.slice ya_137 yn_137 yc_137) ∧
 (∃ ya_138 : Option Addr, ∃ yn_138 : Nat, ∃ yc_138 : Nat, w132.cell? (q133.add 4) = some (.slice ya_138 yn_138 yc_138) ∧
 (R (.tuple #[.agg #[.string ys_134, .slice ya_135 yn_135 yc_135, .int .i64 yx_136, .slice ya_137 yn_137 yc_137, .slice ya_138 yn_138 yc_138], .int .i64 0]) w132))))))))))))))))
def thicketref07_Model.q2 (R : Value → World → Prop) : Exit → Act → World → Prop := (fin Go.Proofs.Try.prog Go.Proofs.Try.f35 R)
def thicketref07_Model.q4 (R : Value → World → Prop) : Exit → Act → World → Prop := (thicketref07_Model.q2 R)
def thicketref07_Model.q5 (R : Value → World → Prop) : Exit → Act → World → Prop := Exit.then (startN none (codeN Go.Proofs.Try.prog (sub (codeOf Go.Proofs.Try.f35) [1, 1, 1]) (nsub thicketref07_Model.an [1, 1, 1]) (thicketref07_Model.q4 R))) (thicketref07_Model.q4 R)
def thicketref07_Model.q7 (R : Value → World → Prop) : Exit → Act → World → Prop := (thicketref07_Model.q5 R)
def thicketref07_Model.q8 (R : Value → World → Prop) : Exit → Act → World → Prop := Exit.inBlock 0 (thicketref07_Model.q7 R)
def thicketref07_Model.rl8 (R : Value → World → Prop) (k : Nat) (p2 : Option Addr) (p4 : Option Addr) (a12 : Option Addr) (n12 : Nat) (c12 : Nat) (x13 : Int) (x14 : Int) (w : World) : Prop := loopN [2, 4, 12, 13, 14] (codeN Go.Proofs.Try.prog (sub (codeOf Go.Proofs.Try.f35) [1, 1, 0, 1, 0, 0]) (nsub thicketref07_Model.an [1, 1, 0, 1, 0, 0])) (thicketref07_Model.q8 R) k ⟨#[undef, undef, .pointer p2, undef, .pointer p4, undef, undef, undef, undef, undef, undef, undef, .slice a12 n12 c12, .int .i64 x13, .int .i64 x14, undef, undef, undef, undef, undef, undef, undef, undef, undef, undef, undef, undef, undef, undef, undef, undef, undef, undef, undef, undef], []⟩ w
def thicketref07_Model.re8 (R : Value → World → Prop) (p2 : Option Addr) (p4 : Option Addr) (a12 : Option Addr) (n12 : Nat) (c12 : Nat) (x13 : Int) (x14 : Int) (w : World) : Prop := ∃ k, thicketref07_Model.rl8 R k p2 p4 a12 n12 c12 x13 x14 w
def thicketref07_Model.l8 (R : Value → World → Prop) : Nat → (Option Addr) → (Option Addr) → (Option Addr) → Nat → Nat → Int → Int → World → Prop
  | 0, _, _, _, _, _, _, _, _ => False
  | k + 1, p2, p4, a12, n12, c12, x13, x14, w => thicketref07_Model.g8 R (thicketref07_Model.l8 R k) p2 p4 a12 n12 c12 x13 x14 w
def thicketref07_Model.e8 (R : Value → World → Prop) (p2 : Option Addr) (p4 : Option Addr) (a12 : Option Addr) (n12 : Nat) (c12 : Nat) (x13 : Int) (x14 : Int) (w : World) : Prop := ∃ k, thicketref07_Model.l8 R k p2 p4 a12 n12 c12 x13 x14 w
theorem thicketref07_Model.s8 (R : Value → World → Prop) (k : Nat) (p2 : Option Addr) (p4 : Option Addr) (a12 : Option Addr) (n12 : Nat) (c12 : Nat) (x13 : Int) (x14 : Int) (w : World) : thicketref07_Model.rl8 R (k + 1) p2 p4 a12 n12 c12 x13 x14 w = ∀ _ : Nat → Value, thicketref07_Model.g8 R (thicketref07_Model.rl8 R k) p2 p4 a12 n12 c12 x13 x14 w := by kernel_rfl
theorem thicketref07_Model.lq8 (R : Value → World → Prop) : ∀ k, thicketref07_Model.l8 R k = thicketref07_Model.rl8 R k
  | 0 => by funext p2 p4 a12 n12 c12 x13 x14 w; first | rfl | kernel_rfl
  | k + 1 => by
    funext p2 p4 a12 n12 c12 x13 x14 w
    rw [thicketref07_Model.s8, forall_const]
    unfold thicketref07_Model.l8
    have ih := thicketref07_Model.lq8 R k
    rw [ih]
    all_goals rfl
theorem thicketref07_Model.eq8 (R : Value → World → Prop) : thicketref07_Model.e8 R = thicketref07_Model.re8 R := by
  funext p2 p4 a12 n12 c12 x13 x14 w
  unfold thicketref07_Model.e8 thicketref07_Model.re8
  simp only [thicketref07_Model.lq8 R]
def thicketref07_Model (R : Value → World → Prop) (s0_0 : ByteArray) (a0_1 : Option Addr) (n0_1 : Nat) (c0_1 : Nat) (x0_2 : Int) (a0_3 : Option Addr) (n0_3 : Nat) (c0_3 : Nat) (a0_4 : Option Addr) (n0_4 : Nat) (c0_4 : Nat) (w : World) : Prop := thicketref07_Model.g0 R (thicketref07_Model.e8 R) s0_0 a0_1 n0_1 c0_1 x0_2 a0_3 n0_3 c0_3 a0_4 n0_4 c0_4 w
theorem thicketref07_Model.root0 (R : Value → World → Prop) (s0_0 : ByteArray) (a0_1 : Option Addr) (n0_1 : Nat) (c0_1 : Nat) (x0_2 : Int) (a0_3 : Option Addr) (n0_3 : Nat) (c0_3 : Nat) (a0_4 : Option Addr) (n0_4 : Nat) (c0_4 : Nat) (w : World) : fnN Go.Proofs.Try.prog Go.Proofs.Try.f35 thicketref07_Model.an #[.agg #[.string s0_0, .slice a0_1 n0_1 c0_1, .int .i64 x0_2, .slice a0_3 n0_3 c0_3, .slice a0_4 n0_4 c0_4]] w R = thicketref07_Model.g0 R (thicketref07_Model.re8 R) s0_0 a0_1 n0_1 c0_1 x0_2 a0_3 n0_3 c0_3 a0_4 n0_4 c0_4 w := by kernel_rfl
theorem thicketref07_Model.calls {R : Value → World → Prop} {s0_0 : ByteArray} {a0_1 : Option Addr} {n0_1 : Nat} {c0_1 : Nat} {x0_2 : Int} {a0_3 : Option Addr} {n0_3 : Nat} {c0_3 : Nat} {a0_4 : Option Addr} {n0_4 : Nat} {c0_4 : Nat} {w : World} (h : thicketref07_Model R s0_0 a0_1 n0_1 c0_1 x0_2 a0_3 n0_3 c0_3 a0_4 n0_4 c0_4 w) : Go.E.CallsD Go.Proofs.Try.prog 35 #[.agg #[.string s0_0, .slice a0_1 n0_1 c0_1, .int .i64 x0_2, .slice a0_3 n0_3 c0_3, .slice a0_4 n0_4 c0_4]] w R := by
  refine callsD_of (n := thicketref07_Model.an) M_follows M_sizes Go.Proofs.Try.func35 (by rfl) ?_
  rw [thicketref07_Model.root0]
  unfold thicketref07_Model at h
  rw [thicketref07_Model.eq8 R] at h
  exact h
-- thicket/thicketref07.Ints
def thicketref07_Ints.an : An := (.mk none .nil (.mk none .nil (.mk none (.mk none .nil (.mk none (.mk (some [0, 1, 12, 13]) .nil .nil) .nil)) .nil)))
def thicketref07_Ints.g0 (R : Value → World → Prop) (e14 : (Option Addr) → Nat → Nat → (Option Addr) → Nat → Nat → Int → Int → World → Prop) (a0 : Option Addr) (n0 : Nat) (c0 : Nat) (a1 : Option Addr) (n1 : Nat) (c1 : Nat) (w : World) : Prop :=
 onBool ((n0 : Int) != (n1 : Int))
 (R (.bool false) w)
 (e14 a0 n0 c0 a1 n1 c1 (n0 : Int) 0 w)
def thicketref07_Ints.g14 (R : Value → World → Prop) (b14 : (Option Addr) → Nat → Nat → (Option Addr) → Nat → Nat → Int → Int → World → Prop) (a0 : Option Addr) (n0 : Nat) (c0 : Nat) (a1 : Option Addr) (n1 : Nat) (c1 : Nat) (x12 : Int) (x13 : Int) (w : World) : Prop :=
 onBool (decide (x13 < x12))
 (optN a0 fun q6 =>
 chk ((0 : Int) ≤ x13 ∧ x13 < (n0 : Int))
 (∃ yx_7 : Int, w.cell? (q6.add (x13.toNat * 1)) = some (.int .i64 yx_7) ∧
 (optN a1 fun q8 =>
 chk ((0 : Int) ≤ x13 ∧ x13 < (n1 : Int))
 (∃ yx_9 : Int, w.cell? (q8.add (x13.toNat * 1)) = some (.int .i64 yx_9) ∧
 (onBool (yx_7 != yx_9)
 (R (.bool false) w)
 (nv (IntKind.i64.wrap (x13 + 1)) fun t10 =>
 b14 a0 n0 c0 a1 n1 c1 x12 t10 w))))))
 (R (.bool true) w)
def thicketref07_Ints.q2 (R : Value → World → Prop) : Exit → Act → World → Prop := (fin Go.Proofs.Try.prog Go.Proofs.Try.f19 R)
def thicketref07_Ints.q10 (R : Value → World → Prop) : Exit → Act → World → Prop := (thicketref07_Ints.q2 R)
def thicketref07_Ints.q11 (R : Value → World → Prop) : Exit → Act → World → Prop := Exit.then (startN none (codeN Go.Proofs.Try.prog (sub (codeOf Go.Proofs.Try.f19) [1, 1, 1]) (nsub thicketref07_Ints.an [1, 1, 1]) (thicketref07_Ints.q10 R))) (thicketref07_Ints.q10 R)
def thicketref07_Ints.q13 (R : Value → World → Prop) : Exit → Act → World → Prop := (thicketref07_Ints.q11 R)
def thicketref07_Ints.q14 (R : Value → World → Prop) : Exit → Act → World → Prop := Exit.inBlock 0 (thicketref07_Ints.q13 R)
def thicketref07_Ints.rl14 (R : Value → World → Prop) (k : Nat) (a0 : Option Addr) (n0 : Nat) (c0 : Nat) (a1 : Option Addr) (n1 : Nat) (c1 : Nat) (x12 : Int) (x13 : Int) (w : World) : Prop := loopN [0, 1, 12, 13] (codeN Go.Proofs.Try.prog (sub (codeOf Go.Proofs.Try.f19) [1, 1, 0, 1, 0, 0]) (nsub thicketref07_Ints.an [1, 1, 0, 1, 0, 0])) (thicketref07_Ints.q14 R) k ⟨#[.slice a0 n0 c0, .slice a1 n1 c1, undef, undef, undef, undef, undef, undef, undef, undef, undef, undef, .int .i64 x12, .int .i64 x13, undef, undef, undef, undef, undef, undef, undef, undef, undef, undef, undef, undef], []⟩ w
def thicketref07_Ints.re14 (R : Value → World → Prop) (a0 : Option Addr) (n0 : Nat) (c0 : Nat) (a1 : Option Addr) (n1 : Nat) (c1 : Nat) (x12 : Int) (x13 : Int) (w : World) : Prop := ∃ k, thicketref07_Ints.rl14 R k a0 n0 c0 a1 n1 c1 x12 x13 w
def thicketref07_Ints.l14 (R : Value → World → Prop) : Nat → (Option Addr) → Nat → Nat → (Option Addr) → Nat → Nat → Int → Int → World → Prop
  | 0, _, _, _, _, _, _, _, _, _ => False
  | k + 1, a0, n0, c0, a1, n1, c1, x12, x13, w => thicketref07_Ints.g14 R (thicketref07_Ints.l14 R k) a0 n0 c0 a1 n1 c1 x12 x13 w
def thicketref07_Ints.e14 (R : Value → World → Prop) (a0 : Option Addr) (n0 : Nat) (c0 : Nat) (a1 : Option Addr) (n1 : Nat) (c1 : Nat) (x12 : Int) (x13 : Int) (w : World) : Prop := ∃ k, thicketref07_Ints.l14 R k a0 n0 c0 a1 n1 c1 x12 x13 w
theorem thicketref07_Ints.s14 (R : Value → World → Prop) (k : Nat) (a0 : Option Addr) (n0 : Nat) (c0 : Nat) (a1 : Option Addr) (n1 : Nat) (c1 : Nat) (x12 : Int) (x13 : Int) (w : World) : thicketref07_Ints.rl14 R (k + 1) a0 n0 c0 a1 n1 c1 x12 x13 w = ∀ _ : Nat → Value, thicketref07_Ints.g14 R (thicketref07_Ints.rl14 R k) a0 n0 c0 a1 n1 c1 x12 x13 w := by kernel_rfl
theorem thicketref07_Ints.lq14 (R : Value → World → Prop) : ∀ k, thicketref07_Ints.l14 R k = thicketref07_Ints.rl14 R k
  | 0 => by funext a0 n0 c0 a1 n1 c1 x12 x13 w; first | rfl | kernel_rfl
  | k + 1 => by
    funext a0 n0 c0 a1 n1 c1 x12 x13 w
    rw [thicketref07_Ints.s14, forall_const]
    unfold thicketref07_Ints.l14
    have ih := thicketref07_Ints.lq14 R k
    rw [ih]
    all_goals rfl
theorem thicketref07_Ints.eq14 (R : Value → World → Prop) : thicketref07_Ints.e14 R = thicketref07_Ints.re14 R := by
  funext a0 n0 c0 a1 n1 c1 x12 x13 w
  unfold thicketref07_Ints.e14 thicketref07_Ints.re14
  simp only [thicketref07_Ints.lq14 R]
def thicketref07_Ints (R : Value → World → Prop) (a0 : Option Addr) (n0 : Nat) (c0 : Nat) (a1 : Option Addr) (n1 : Nat) (c1 : Nat) (w : World) : Prop := thicketref07_Ints.g0 R (thicketref07_Ints.e14 R) a0 n0 c0 a1 n1 c1 w
theorem thicketref07_Ints.root0 (R : Value → World → Prop) (a0 : Option Addr) (n0 : Nat) (c0 : Nat) (a1 : Option Addr) (n1 : Nat) (c1 : Nat) (w : World) : fnN Go.Proofs.Try.prog Go.Proofs.Try.f19 thicketref07_Ints.an #[.slice a0 n0 c0, .slice a1 n1 c1] w R = thicketref07_Ints.g0 R (thicketref07_Ints.re14 R) a0 n0 c0 a1 n1 c1 w := by kernel_rfl
theorem thicketref07_Ints.calls {R : Value → World → Prop} {a0 : Option Addr} {n0 : Nat} {c0 : Nat} {a1 : Option Addr} {n1 : Nat} {c1 : Nat} {w : World} (h : thicketref07_Ints R a0 n0 c0 a1 n1 c1 w) : Go.E.CallsD Go.Proofs.Try.prog 19 #[.slice a0 n0 c0, .slice a1 n1 c1] w R := by
  refine callsD_of (n := thicketref07_Ints.an) M_follows M_sizes Go.Proofs.Try.func19 (by rfl) ?_
  rw [thicketref07_Ints.root0]
  unfold thicketref07_Ints at h
  rw [thicketref07_Ints.eq14 R] at h
  exact h
-- thicket/thicketlaw07.sums
def thicketlaw07_sums.an : An := (.mk none .nil (.mk none .nil (.mk none (.mk none .nil (.mk none (.mk (some [0, 1, 12, 13]) .nil .nil) .nil)) .nil)))
def thicketlaw07_sums.g0 (R : Value → World → Prop) (e14 : (Option Addr) → Nat → Nat → (Option Addr) → Nat → Nat → Int → Int → World → Prop) (a0 : Option Addr) (n0 : Nat) (c0 : Nat) (a1 : Option Addr) (n1 : Nat) (c1 : Nat) (w : World) : Prop :=
 onBool ((n0 : Int) != (n1 : Int))
 (R (.bool false) w)
 (e14 a0 n0 c0 a1 n1 c1 (n0 : Int) 0 w)
def thicketlaw07_sums.g14 (R : Value → World → Prop) (b14 : (Option Addr) → Nat → Nat → (Option Addr) → Nat → Nat → Int → Int → World → Prop) (a0 : Option Addr) (n0 : Nat) (c0 : Nat) (a1 : Option Addr) (n1 : Nat) (c1 : Nat) (x12 : Int) (x13 : Int) (w : World) : Prop :=
 onBool (decide (x13 < x12))
 (optN a0 fun q6 =>
 chk ((0 : Int) ≤ x13 ∧ x13 < (n0 : Int))
 (∃ yx_7 : Int, w.cell? (q6.add (x13.toNat * 1)) = some (.int .i64 yx_7) ∧
 (optN a1 fun q8 =>
 chk ((0 : Int) ≤ x13 ∧ x13 < (n1 : Int))
 (∃ yx_9 : Int, w.cell? (q8.add (x13.toNat * 1)) = some (.int .i64 yx_9) ∧
 (onBool (yx_7 != yx_9)
 (R (.bool false) w)
 (nv (IntKind.i64.wrap (x13 + 1)) fun t10 =>
 b14 a0 n0 c0 a1 n1 c1 x12 t10 w))))))
 (R (.bool true) w)
def thicketlaw07_sums.q2 (R : Value → World → Prop) : Exit → Act → World → Prop := (fin Go.Proofs.Try.prog Go.Proofs.Try.f23 R)
def thicketlaw07_sums.q10 (R : Value → World → Prop) : Exit → Act → World → Prop := (thicketlaw07_sums.q2 R)
def thicketlaw07_sums.q11 (R : Value → World → Prop) : Exit → Act → World → Prop := Exit.then (startN none (codeN Go.Proofs.Try.prog (sub (codeOf Go.Proofs.Try.f23) [1, 1, 1]) (nsub thicketlaw07_sums.an [1, 1, 1]) (thicketlaw07_sums.q10 R))) (thicketlaw07_sums.q10 R)
def thicketlaw07_sums.q13 (R : Value → World → Prop) : Exit → Act → World → Prop := (thicketlaw07_sums.q11 R)
def thicketlaw07_sums.q14 (R : Value → World → Prop) : Exit → Act → World → Prop := Exit.inBlock 0 (thicketlaw07_sums.q13 R)
def thicketlaw07_sums.rl14 (R : Value → World → Prop) (k : Nat) (a0 : Option Addr) (n0 : Nat) (c0 : Nat) (a1 : Option Addr) (n1 : Nat) (c1 : Nat) (x12 : Int) (x13 : Int) (w : World) : Prop := loopN [0, 1, 12, 13] (codeN Go.Proofs.Try.prog (sub (codeOf Go.Proofs.Try.f23) [1, 1, 0, 1, 0, 0]) (nsub thicketlaw07_sums.an [1, 1, 0, 1, 0, 0])) (thicketlaw07_sums.q14 R) k ⟨#[.slice a0 n0 c0, .slice a1 n1 c1, undef, undef, undef, undef, undef, undef, undef, undef, undef, undef, .int .i64 x12, .int .i64 x13, undef, undef, undef, undef, undef, undef, undef, undef, undef, undef, undef, undef], []⟩ w
def thicketlaw07_sums.re14 (R : Value → World → Prop) (a0 : Option Addr) (n0 : Nat) (c0 : Nat) (a1 : Option Addr) (n1 : Nat) (c1 : Nat) (x12 : Int) (x13 : Int) (w : World) : Prop := ∃ k, thicketlaw07_sums.rl14 R k a0 n0 c0 a1 n1 c1 x12 x13 w
def thicketlaw07_sums.l14 (R : Value → World → Prop) : Nat → (Option Addr) → Nat → Nat → (Option Addr) → Nat → Nat → Int → Int → World → Prop
  | 0, _, _, _, _, _, _, _, _, _ => False
  | k + 1, a0, n0, c0, a1, n1, c1, x12, x13, w => thicketlaw07_sums.g14 R (thicketlaw07_sums.l14 R k) a0 n0 c0 a1 n1 c1 x12 x13 w
def thicketlaw07_sums.e14 (R : Value → World → Prop) (a0 : Option Addr) (n0 : Nat) (c0 : Nat) (a1 : Option Addr) (n1 : Nat) (c1 : Nat) (x12 : Int) (x13 : Int) (w : World) : Prop := ∃ k, thicketlaw07_sums.l14 R k a0 n0 c0 a1 n1 c1 x12 x13 w
theorem thicketlaw07_sums.s14 (R : Value → World → Prop) (k : Nat) (a0 : Option Addr) (n0 : Nat) (c0 : Nat) (a1 : Option Addr) (n1 : Nat) (c1 : Nat) (x12 : Int) (x13 : Int) (w : World) : thicketlaw07_sums.rl14 R (k + 1) a0 n0 c0 a1 n1 c1 x12 x13 w = ∀ _ : Nat → Value, thicketlaw07_sums.g14 R (thicketlaw07_sums.rl14 R k) a0 n0 c0 a1 n1 c1 x12 x13 w := by kernel_rfl
theorem thicketlaw07_sums.lq14 (R : Value → World → Prop) : ∀ k, thicketlaw07_sums.l14 R k = thicketlaw07_sums.rl14 R k
  | 0 => by funext a0 n0 c0 a1 n1 c1 x12 x13 w; first | rfl | kernel_rfl
  | k + 1 => by
    funext a0 n0 c0 a1 n1 c1 x12 x13 w
    rw [thicketlaw07_sums.s14, forall_const]
    unfold thicketlaw07_sums.l14
    have ih := thicketlaw07_sums.lq14 R k
    rw [ih]
    all_goals rfl
theorem thicketlaw07_sums.eq14 (R : Value → World → Prop) : thicketlaw07_sums.e14 R = thicketlaw07_sums.re14 R := by
  funext a0 n0 c0 a1 n1 c1 x12 x13 w
  unfold thicketlaw07_sums.e14 thicketlaw07_sums.re14
  simp only [thicketlaw07_sums.lq14 R]
def thicketlaw07_sums (R : Value → World → Prop) (a0 : Option Addr) (n0 : Nat) (c0 : Nat) (a1 : Option Addr) (n1 : Nat) (c1 : Nat) (w : World) : Prop := thicketlaw07_sums.g0 R (thicketlaw07_sums.e14 R) a0 n0 c0 a1 n1 c1 w
theorem thicketlaw07_sums.root0 (R : Value → World → Prop) (a0 : Option Addr) (n0 : Nat) (c0 : Nat) (a1 : Option Addr) (n1 : Nat) (c1 : Nat) (w : World) : fnN Go.Proofs.Try.prog Go.Proofs.Try.f23 thicketlaw07_sums.an #[.slice a0 n0 c0, .slice a1 n1 c1] w R = thicketlaw07_sums.g0 R (thicketlaw07_sums.re14 R) a0 n0 c0 a1 n1 c1 w := by kernel_rfl
theorem thicketlaw07_sums.calls {R : Value → World → Prop} {a0 : Option Addr} {n0 : Nat} {c0 : Nat} {a1 : Option Addr} {n1 : Nat} {c1 : Nat} {w : World} (h : thicketlaw07_sums R a0 n0 c0 a1 n1 c1 w) : Go.E.CallsD Go.Proofs.Try.prog 23 #[.slice a0 n0 c0, .slice a1 n1 c1] w R := by
  refine callsD_of (n := thicketlaw07_sums.an) M_follows M_sizes Go.Proofs.Try.func23 (by rfl) ?_
  rw [thicketlaw07_sums.root0]
  unfold thicketlaw07_sums at h
  rw [thicketlaw07_sums.eq14 R] at h
  exact h
-- thicket/thicketref07.Same
def thicketref07_Same.an : An := (.mk none .nil (.mk none .nil (.mk none (.mk none .nil (.mk none (.mk (some [2, 3, 49, 50]) .nil .nil) .nil)) (.mk none (.mk none .nil (.mk none (.mk (some [2, 3, 67, 68]) .nil .nil) .nil)) (.mk none (.mk none .nil (.mk none (.mk (some [2, 3, 85, 86]) .nil .nil) .nil)) .nil)))))
def thicketref07_Same.g0 (R : Value → World → Prop) (e14 : (Option Addr) → (Option Addr) → Int → Int → World → Prop) (s0_0 : ByteArray) (a0_1 : Option Addr) (n0_1 : Nat) (c0_1 : Nat) (x0_2 : Int) (a0_3 : Option Addr) (n0_3 : Nat) (c0_3 : Nat) (a0_4 : Option Addr) (n0_4 : Nat) (c0_4 : Nat) (s1_0 : ByteArray) (a1_1 : Option Addr) (n1_1 : Nat) (c1_1 : Nat) (x1_2 : Int) (a1_3 : Option Addr) (n1_3 : Nat) (c1_3 : Nat) (a1_4 : Option Addr) (n1_4 : Nat) (c1_4 : Nat) (w : World) : Prop :=
 nw (w.alloc (.cells #[.string s0_0, .slice a0_1 n0_1 c0_1, .int .i64 x0_2, .slice a0_3 n0_3 c0_3, .slice a0_4 n0_4 c0_4] 46)) fun w49 =>
 nw (w49.alloc (.cells #[.string s1_0, .slice a1_1 n1_1 c1_1, .int .i64 x1_2, .slice a1_3 n1_3 c1_3, .slice a1_4 n1_4 c1_4] 46)) fun w50 =>
 ∃ ys_51 : ByteArray, w50.cell? ((na w).add 0) = some (.string ys_51) ∧
 (∃ ys_52 : ByteArray, w50.cell? ((na w49).add 0) = some (.string ys_52) ∧
 (onBool (!((ys_51 : ByteArray).toList == (ys_52 : ByteArray).toList))
 (R (.bool false) w50)
 (∃ yx_53 : Int, w50.cell? ((na w).add 2) = some (.int .i64 yx_53) ∧
 (∃ yx_54 : Int, w50.cell? ((na w49).add 2) = some (.int .i64 yx_54) ∧
 (onBool (yx_53 != yx_54)
 (R (.bool false) w50)
 (∃ ya_55 : Option Addr, ∃ yn_55 : Nat, ∃ yc_55 : Nat, w50.cell? ((na w).add 1) = some (.slice ya_55 yn_55 yc_55) ∧
 (∃ ya_56 : Option Addr, ∃ yn_56 : Nat, ∃ yc_56 : Nat, w50.cell? ((na w49).add 1) = some (.slice ya_56 yn_56 yc_56) ∧
 (onBool ((yn_55 : Int) != (yn_56 : Int))
 (R (.bool false) w50)
 (∃ ya_57 : Option Addr, ∃ yn_57 : Nat, ∃ yc_57 : Nat, w50.cell? ((na w).add 3) = some (.slice ya_57 yn_57 yc_57) ∧
 (∃ ya_58 : Option Addr, ∃ yn_58 : Nat, ∃ yc_58 : Nat, w50.cell? ((na w49).add 3) = some (.slice ya_58 yn_58 yc_58) ∧
 (onBool ((yn_57 : Int) != (yn_58 : Int))
 (R (.bool false) w50)
 (∃ ya_59 : Option Addr, ∃ yn_59 : Nat, ∃ yc_59 : Nat, w50.cell? ((na w).add 4) = some (.slice ya_59 yn_59 yc_59) ∧
 (∃ ya_60 : Option Addr, ∃ yn_60 : Nat, ∃ yc_60 : Nat, w50.cell? ((na w49).add 4) = some (.slice ya_60 yn_60 yc_60) ∧
 (onBool ((yn_59 : Int) != (yn_60 : Int))
 (R (.bool false) w50)
 (∃ ya_61 : Option Addr, ∃ yn_61 : Nat, ∃ yc_61 : Nat, w50.cell? ((na w).add 1) = some (.slice ya_61 yn_61 yc_61) ∧
 (e14 (some (na w)) (some (na w49)) (yn_61 : Int) 0 w50))))))))))))))))
def thicketref07_Same.g14 (R : Value → World → Prop) (b14 : (Option Addr) → (Option Addr) → Int → Int → World → Prop) (e37 : (Option Addr) → (Option Addr) → Int → Int → World → Prop) (p2 : Option Addr) (p3 : Option Addr) (x49 : Int) (x50 : Int) (w : World) : Prop :=
 onBool (decide (x50 < x49))
 (optN p2 fun q62 =>
 ∃ ya_63 : Option Addr, ∃ yn_63 : Nat, ∃ yc_63 : Nat, w.cell? (q62.add 1) = some (.slice ya_63 yn_63 yc_63) ∧
 (optN ya_63 fun q64 =>
 chk ((0 : Int) ≤ x50 ∧ x50 < (yn_63 : Int))
 (∃ ys_65 : ByteArray, w.cell? (q64.add (x50.toNat * 1)) = some (.string ys_65) ∧
 (optN p3 fun q66 =>
 ∃ ya_67 : Option Addr, ∃ yn_67 : Nat, ∃ yc_67 : Nat, w.cell? (q66.add 1) = some (.slice ya_67 yn_67 yc_67) ∧
 (optN ya_67 fun q68 =>
 chk ((0 : Int) ≤ x50 ∧ x50 < (yn_67 : Int))
 (∃ ys_69 : ByteArray, w.cell? (q68.add (x50.toNat * 1)) = some (.string ys_69) ∧
 (onBool (!((ys_65 : ByteArray).toList == (ys_69 : ByteArray).toList))
 (R (.bool false) w)
 (nv (IntKind.i64.wrap (x50 + 1)) fun t70 =>
 b14 p2 p3 x49 t70 w))))))))
 (optN p2 fun q71 =>
 ∃ ya_72 : Option Addr, ∃ yn_72 : Nat, ∃ yc_72 : Nat, w.cell? (q71.add 3) = some (.slice ya_72 yn_72 yc_72) ∧
 (e37 p2 p3 (yn_72 : Int) 0 w))
def thicketref07_Same.g37 (R : Value → World → Prop) (b37 : (Option Addr) → (Option Addr) → Int → Int → World → Prop) (e60 : (Option Addr) → (Option Addr) → Int → Int → World → Prop) (p2 : Option Addr) (p3 : Option Addr) (x67 : Int) (x68 : Int) (w : World) : Prop :=
 onBool (decide (x68 < x67))
 (optN p2 fun q73 =>
 ∃ ya_74 : Option Addr, ∃ yn_74 : Nat, ∃ yc_74 : Nat, w.cell? (q73.add 3) = some (.slice ya_74 yn_74 yc_74) ∧
 (optN ya_74 fun q75 =>
 chk ((0 : Int) ≤ x68 ∧ x68 < (yn_74 : Int))
 (∃ yx_76 : Int, w.cell? (q75.add (x68.toNat * 1)) = some (.int .i64 yx_76) ∧
 (optN p3 fun q77 =>
 ∃ ya_78 : Option Addr, ∃ yn_78 : Nat, ∃ yc_78 : Nat, w.cell? (q77.add 3) = some (.slice ya_78 yn_78 yc_78) ∧
 (optN ya_78 fun q79 =>
 chk ((0 : Int) ≤ x68 ∧ x68 < (yn_78 : Int))
 (∃ yx_80 : Int, w.cell? (q79.add (x68.toNat * 1)) = some (.int .i64 yx_80) ∧
 (onBool (yx_76 != yx_80)
 (R (.bool false) w)
 (nv (IntKind.i64.wrap (x68 + 1)) fun t81 =>
 b37 p2 p3 x67 t81 w))))))))
 (optN p2 fun q82 =>
 ∃ ya_83 : Option Addr, ∃ yn_83 : Nat, ∃ yc_83 : Nat, w.cell? (q82.add 4) = some (.slice ya_83 yn_83 yc_83) ∧
 (e60 p2 p3 (yn_83 : Int) 0 w))
def thicketref07_Same.g60 (R : Value → World → Prop) (b60 : (Option Addr) → (Option Addr) → Int → Int → World → Prop) (p2 : Option Addr) (p3 : Option Addr) (x85 : Int) (x86 : Int) (w : World) : Prop :=
 onBool (decide (x86 < x85))
 (optN p2 fun q84 =>
 ∃ ya_85 : Option Addr, ∃ yn_85 : Nat, ∃ yc_85 : Nat, w.cell? (q84.add 4) = some (.slice ya_85 yn_85 yc_85) ∧
 (optN ya_85 fun q86 =>
 chk ((0 : Int) ≤ x86 ∧ x86 < (yn_85 : Int))
 (∃ yx_87 : Int, w.cell? ((q86.add (x86.toNat * 2)).add 0) = some (.int .i64 yx_87) ∧
 (∃ ya_88 : Option Addr, ∃ yn_88 : Nat, ∃ yc_88 : Nat, w.cell? ((q86.add (x86.toNat * 2)).add 1) = some (.slice ya_88 yn_88 yc_88) ∧
 (optN p3 fun q89 =>
 ∃ ya_90 : Option Addr, ∃ yn_90 : Nat, ∃ yc_90 : Nat, w.cell? (q89.add 4) = some (.slice ya_90 yn_90 yc_90) ∧
 (optN ya_90 fun q91 =>
 chk ((0 : Int) ≤ x86 ∧ x86 < (yn_90 : Int))
 (∃ yx_92 : Int, w.cell? ((q91.add (x86.toNat * 2)).add 0) = some (.int .i64 yx_92) ∧
 (∃ ya_93 : Option Addr, ∃ yn_93 : Nat, ∃ yc_93 : Nat, w.cell? ((q91.add (x86.toNat * 2)).add 1) = some (.slice ya_93 yn_93 yc_93) ∧
 (Go.E.CallsD Go.Proofs.Try.prog 42 #[.agg #[.int .i64 yx_87, .slice ya_88 yn_88 yc_88], .agg #[.int .i64 yx_92, .slice ya_93 yn_93 yc_93]] w fun yv94 u95 =>
 ∃ yb_96 : Bool, yv94 = .bool yb_96 ∧
 (onBool (!yb_96)
 (R (.bool false) u95)
 (nv (IntKind.i64.wrap (x86 + 1)) fun t97 =>
 b60 p2 p3 x85 t97 u95)))))))))))
 (R (.bool true) w)
def thicketref07_Same.q2 (R : Value → World → Prop) : Exit → Act → World → Prop := (fin Go.Proofs.Try.prog Go.Proofs.Try.f24 R)
def thicketref07_Same.q10 (R : Value → World → Prop) : Exit → Act → World → Prop := (thicketref07_Same.q2 R)
def thicketref07_Same.q11 (R : Value → World → Prop) : Exit → Act → World → Prop := Exit.then (startN none (codeN Go.Proofs.Try.prog (sub (codeOf Go.Proofs.Try.f24) [1, 1, 1]) (nsub thicketref07_Same.an [1, 1, 1]) (thicketref07_Same.q10 R))) (thicketref07_Same.q10 R)
def thicketref07_Same.q13 (R : Value → World → Prop) : Exit → Act → World → Prop := (thicketref07_Same.q11 R)
def thicketref07_Same.q14 (R : Value → World → Prop) : Exit → Act → World → Prop := Exit.inBlock 0 (thicketref07_Same.q13 R)
def thicketref07_Same.rl14 (R : Value → World → Prop) (k : Nat) (p2 : Option Addr) (p3 : Option Addr) (x49 : Int) (x50 : Int) (w : World) : Prop := loopN [2, 3, 49, 50] (codeN Go.Proofs.Try.prog (sub (codeOf Go.Proofs.Try.f24) [1, 1, 0, 1, 0, 0]) (nsub thicketref07_Same.an [1, 1, 0, 1, 0, 0])) (thicketref07_Same.q14 R) k ⟨#[undef, undef, .pointer p2, .pointer p3, undef, undef, undef, undef, undef, undef, undef, undef, undef, undef, undef, undef, undef, undef, undef, undef, undef, undef, undef, undef, undef, undef, undef, undef, undef, undef, undef, undef, undef, undef, undef, undef, undef, undef, undef, undef, undef, undef, undef, undef, undef, undef, undef, undef, undef, .int .i64 x49, .int .i64 x50, undef, undef, undef, undef, undef, undef, undef, undef, undef, undef, undef, undef, undef, undef, undef, undef, undef, undef, undef, undef, undef, undef, undef, undef, undef, undef, undef, undef, undef, undef, undef, undef, undef, undef, undef, undef, undef, undef, undef, undef, undef, undef, undef, undef, undef, undef, undef, undef, undef, undef, undef], []⟩ w
def thicketref07_Same.re14 (R : Value → World → Prop) (p2 : Option Addr) (p3 : Option Addr) (x49 : Int) (x50 : Int) (w : World) : Prop := ∃ k, thicketref07_Same.rl14 R k p2 p3 x49 x50 w
def thicketref07_Same.q33 (R : Value → World → Prop) : Exit → Act → World → Prop := (thicketref07_Same.q10 R)
def thicketref07_Same.q34 (R : Value → World → Prop) : Exit → Act → World → Prop := Exit.then (startN none (codeN Go.Proofs.Try.prog (sub (codeOf Go.Proofs.Try.f24) [1, 1, 1, 1]) (nsub thicketref07_Same.an [1, 1, 1, 1]) (thicketref07_Same.q33 R))) (thicketref07_Same.q33 R)
def thicketref07_Same.q36 (R : Value → World → Prop) : Exit → Act → World → Prop := (thicketref07_Same.q34 R)
def thicketref07_Same.q37 (R : Value → World → Prop) : Exit → Act → World → Prop := Exit.inBlock 2 (thicketref07_Same.q36 R)
def thicketref07_Same.rl37 (R : Value → World → Prop) (k : Nat) (p2 : Option Addr) (p3 : Option Addr) (x67 : Int) (x68 : Int) (w : World) : Prop := loopN [2, 3, 67, 68] (codeN Go.Proofs.Try.prog (sub (codeOf Go.Proofs.Try.f24) [1, 1, 1, 0, 1, 0, 0]) (nsub thicketref07_Same.an [1, 1, 1, 0, 1, 0, 0])) (thicketref07_Same.q37 R) k ⟨#[undef, undef, .pointer p2, .pointer p3, undef, undef, undef, undef, undef, undef, undef, undef, undef, undef, undef, undef, undef, undef, undef, undef, undef, undef, undef, undef, undef, undef, undef, undef, undef, undef, undef, undef, undef, undef, undef, undef, undef, undef, undef, undef, undef, undef, undef, undef, undef, undef, undef, undef, undef, undef, undef, undef, undef, undef, undef, undef, undef, undef, undef, undef, undef, undef, undef, undef, undef, undef, undef, .int .i64 x67, .int .i64 x68, undef, undef, undef, undef, undef, undef, undef, undef, undef, undef, undef, undef, undef, undef, undef, undef, undef, undef, undef, undef, undef, undef, undef, undef, undef, undef, undef, undef, undef, undef, undef, undef, undef], []⟩ w
def thicketref07_Same.re37 (R : Value → World → Prop) (p2 : Option Addr) (p3 : Option Addr) (x67 : Int) (x68 : Int) (w : World) : Prop := ∃ k, thicketref07_Same.rl37 R k p2 p3 x67 x68 w
def thicketref07_Same.q56 (R : Value → World → Prop) : Exit → Act → World → Prop := (thicketref07_Same.q33 R)
def thicketref07_Same.q57 (R : Value → World → Prop) : Exit → Act → World → Prop := Exit.then (startN none (codeN Go.Proofs.Try.prog (sub (codeOf Go.Proofs.Try.f24) [1, 1, 1, 1, 1]) (nsub thicketref07_Same.an [1, 1, 1, 1, 1]) (thicketref07_Same.q56 R))) (thicketref07_Same.q56 R)
def thicketref07_Same.q59 (R : Value → World → Prop) : Exit → Act → World → Prop := (thicketref07_Same.q57 R)
def thicketref07_Same.q60 (R : Value → World → Prop) : Exit → Act → World → Prop := Exit.inBlock 4 (thicketref07_Same.q59 R)
def thicketref07_Same.rl60 (R : Value → World → Prop) (k : Nat) (p2 : Option Addr) (p3 : Option Addr) (x85 : Int) (x86 : Int) (w : World) : Prop := loopN [2, 3, 85, 86] (codeN Go.Proofs.Try.prog (sub (codeOf Go.Proofs.Try.f24) [1, 1, 1, 1, 0, 1, 0, 0]) (nsub thicketref07_Same.an [1, 1, 1, 1, 0, 1, 0, 0])) (thicketref07_Same.q60 R) k ⟨#[undef, undef, .pointer p2, .pointer p3, undef, undef, undef, undef, undef, undef, undef, undef, undef, undef, undef, undef, undef, undef, undef, undef, undef, undef, undef, undef, undef, undef, undef, undef, undef, undef, undef, undef, undef, undef, undef, undef, undef, undef, undef, undef, undef, undef, undef, undef, undef, undef, undef, undef, undef, undef, undef, undef, undef, undef, undef, undef, undef, undef, undef, undef, undef, undef, undef, undef, undef, undef, undef, undef, undef, undef, undef, undef, undef, undef, undef, undef, undef, undef, undef, undef, undef, undef, undef, undef, undef, .int .i64 x85, .int .i64 x86, undef, undef, undef, undef, undef, undef, undef, undef, undef, undef, undef, undef, undef, undef, undef], []⟩ w
def thicketref07_Same.re60 (R : Value → World → Prop) (p2 : Option Addr) (p3 : Option Addr) (x85 : Int) (x86 : Int) (w : World) : Prop := ∃ k, thicketref07_Same.rl60 R k p2 p3 x85 x86 w
def thicketref07_Same.l60 (R : Value → World → Prop) : Nat → (Option Addr) → (Option Addr) → Int → Int → World → Prop
  | 0, _, _, _, _, _ => False
  | k + 1, p2, p3, x85, x86, w => thicketref07_Same.g60 R (thicketref07_Same.l60 R k) p2 p3 x85 x86 w
def thicketref07_Same.e60 (R : Value → World → Prop) (p2 : Option Addr) (p3 : Option Addr) (x85 : Int) (x86 : Int) (w : World) : Prop := ∃ k, thicketref07_Same.l60 R k p2 p3 x85 x86 w
theorem thicketref07_Same.s60 (R : Value → World → Prop) (k : Nat) (p2 : Option Addr) (p3 : Option Addr) (x85 : Int) (x86 : Int) (w : World) : thicketref07_Same.rl60 R (k + 1) p2 p3 x85 x86 w = ∀ _ : Nat → Value, thicketref07_Same.g60 R (thicketref07_Same.rl60 R k) p2 p3 x85 x86 w := by kernel_rfl
theorem thicketref07_Same.lq60 (R : Value → World → Prop) : ∀ k, thicketref07_Same.l60 R k = thicketref07_Same.rl60 R k
  | 0 => by funext p2 p3 x85 x86 w; first | rfl | kernel_rfl
  | k + 1 => by
    funext p2 p3 x85 x86 w
    rw [thicketref07_Same.s60, forall_const]
    unfold thicketref07_Same.l60
    have ih := thicketref07_Same.lq60 R k
    rw [ih]
    all_goals rfl
theorem thicketref07_Same.eq60 (R : Value → World → Prop) : thicketref07_Same.e60 R = thicketref07_Same.re60 R := by
  funext p2 p3 x85 x86 w
  unfold thicketref07_Same.e60 thicketref07_Same.re60
  simp only [thicketref07_Same.lq60 R]
def thicketref07_Same.l37 (R : Value → World → Prop) : Nat → (Option Addr) → (Option Addr) → Int → Int → World → Prop
  | 0, _, _, _, _, _ => False
  | k + 1, p2, p3, x67, x68, w => thicketref07_Same.g37 R (thicketref07_Same.l37 R k) (thicketref07_Same.e60 R) p2 p3 x67 x68 w
def thicketref07_Same.e37 (R : Value → World → Prop) (p2 : Option Addr) (p3 : Option Addr) (x67 : Int) (x68 : Int) (w : World) : Prop := ∃ k, thicketref07_Same.l37 R k p2 p3 x67 x68 w
theorem thicketref07_Same.s37 (R : Value → World → Prop) (k : Nat) (p2 : Option Addr) (p3 : Option Addr) (x67 : Int) (x68 : Int) (w : World) : thicketref07_Same.rl37 R (k + 1) p2 p3 x67 x68 w = ∀ _ : Nat → Value, thicketref07_Same.g37 R (thicketref07_Same.rl37 R k) (thicketref07_Same.re60 R) p2 p3 x67 x68 w := by kernel_rfl
theorem thicketref07_Same.lq37 (R : Value → World → Prop) : ∀ k, thicketref07_Same.l37 R k = thicketref07_Same.rl37 R k
  | 0 => by funext p2 p3 x67 x68 w; first | rfl | kernel_rfl
  | k + 1 => by
    funext p2 p3 x67 x68 w
    rw [thicketref07_Same.s37, forall_const]
    unfold thicketref07_Same.l37
    have ih := thicketref07_Same.lq37 R k
    rw [thicketref07_Same.eq60 R]
    rw [ih]
    all_goals rfl
theorem thicketref07_Same.eq37 (R : Value → World → Prop) : thicketref07_Same.e37 R = thicketref07_Same.re37 R := by
  funext p2 p3 x67 x68 w
  unfold thicketref07_Same.e37 thicketref07_Same.re37
  simp only [thicketref07_Same.lq37 R]
def thicketref07_Same.l14 (R : Value → World → Prop) : Nat → (Option Addr) → (Option Addr) → Int → Int → World → Prop
  | 0, _, _, _, _, _ => False
  | k + 1, p2, p3, x49, x50, w => thicketref07_Same.g14 R (thicketref07_Same.l14 R k) (thicketref07_Same.e37 R) p2 p3 x49 x50 w
def thicketref07_Same.e14 (R : Value → World → Prop) (p2 : Option Addr) (p3 : Option Addr) (x49 : Int) (x50 : Int) (w : World) : Prop := ∃ k, thicketref07_Same.l14 R k p2 p3 x49 x50 w
theorem thicketref07_Same.s14 (R : Value → World → Prop) (k : Nat) (p2 : Option Addr) (p3 : Option Addr) (x49 : Int) (x50 : Int) (w : World) : thicketref07_Same.rl14 R (k + 1) p2 p3 x49 x50 w = ∀ _ : Nat → Value, thicketref07_Same.g14 R (thicketref07_Same.rl14 R k) (thicketref07_Same.re37 R) p2 p3 x49 x50 w := by kernel_rfl
theorem thicketref07_Same.lq14 (R : Value → World → Prop) : ∀ k, thicketref07_Same.l14 R k = thicketref07_Same.rl14 R k
  | 0 => by funext p2 p3 x49 x50 w; first | rfl | kernel_rfl
  | k + 1 => by
    funext p2 p3 x49 x50 w
    rw [thicketref07_Same.s14, forall_const]
    unfold thicketref07_Same.l14
    have ih := thicketref07_Same.lq14 R k
    rw [thicketref07_Same.eq37 R]
    rw [ih]
    all_goals rfl
theorem thicketref07_Same.eq14 (R : Value → World → Prop) : thicketref07_Same.e14 R = thicketref07_Same.re14 R := by
  funext p2 p3 x49 x50 w
  unfold thicketref07_Same.e14 thicketref07_Same.re14
  simp only [thicketref07_Same.lq14 R]
def thicketref07_Same (R : Value → World → Prop) (s0_0 : ByteArray) (a0_1 : Option Addr) (n0_1 : Nat) (c0_1 : Nat) (x0_2 : Int) (a0_3 : Option Addr) (n0_3 : Nat) (c0_3 : Nat) (a0_4 : Option Addr) (n0_4 : Nat) (c0_4 : Nat) (s1_0 : ByteArray) (a1_1 : Option Addr) (n1_1 : Nat) (c1_1 : Nat) (x1_2 : Int) (a1_3 : Option Addr) (n1_3 : Nat) (c1_3 : Nat) (a1_4 : Option Addr) (n1_4 : Nat) (c1_4 : Nat) (w : World) : Prop := thicketref07_Same.g0 R (thicketref07_Same.e14 R) s0_0 a0_1 n0_1 c0_1 x0_2 a0_3 n0_3 c0_3 a0_4 n0_4 c0_4 s1_0 a1_1 n1_1 c1_1 x1_2 a1_3 n1_3 c1_3 a1_4 n1_4 c1_4 w
theorem thicketref07_Same.root0 (R : Value → World → Prop) (s0_0 : ByteArray) (a0_1 : Option Addr) (n0_1 : Nat) (c0_1 : Nat) (x0_2 : Int) (a0_3 : Option Addr) (n0_3 : Nat) (c0_3 : Nat) (a0_4 : Option Addr) (n0_4 : Nat) (c0_4 : Nat) (s1_0 : ByteArray) (a1_1 : Option Addr) (n1_1 : Nat) (c1_1 : Nat) (x1_2 : Int) (a1_3 : Option Addr) (n1_3 : Nat) (c1_3 : Nat) (a1_4 : Option Addr) (n1_4 : Nat) (c1_4 : Nat) (w : World) : fnN Go.Proofs.Try.prog Go.Proofs.Try.f24 thicketref07_Same.an #[.agg #[.string s0_0, .slice a0_1 n0_1 c0_1, .int .i64 x0_2, .slice a0_3 n0_3 c0_3, .slice a0_4 n0_4 c0_4], .agg #[.string s1_0, .slice a1_1 n1_1 c1_1, .int .i64 x1_2, .slice a1_3 n1_3 c1_3, .slice a1_4 n1_4 c1_4]] w R = thicketref07_Same.g0 R (thicketref07_Same.re14 R) s0_0 a0_1 n0_1 c0_1 x0_2 a0_3 n0_3 c0_3 a0_4 n0_4 c0_4 s1_0 a1_1 n1_1 c1_1 x1_2 a1_3 n1_3 c1_3 a1_4 n1_4 c1_4 w := by kernel_rfl
theorem thicketref07_Same.calls {R : Value → World → Prop} {s0_0 : ByteArray} {a0_1 : Option Addr} {n0_1 : Nat} {c0_1 : Nat} {x0_2 : Int} {a0_3 : Option Addr} {n0_3 : Nat} {c0_3 : Nat} {a0_4 : Option Addr} {n0_4 : Nat} {c0_4 : Nat} {s1_0 : ByteArray} {a1_1 : Option Addr} {n1_1 : Nat} {c1_1 : Nat} {x1_2 : Int} {a1_3 : Option Addr} {n1_3 : Nat} {c1_3 : Nat} {a1_4 : Option Addr} {n1_4 : Nat} {c1_4 : Nat} {w : World} (h : thicketref07_Same R s0_0 a0_1 n0_1 c0_1 x0_2 a0_3 n0_3 c0_3 a0_4 n0_4 c0_4 s1_0 a1_1 n1_1 c1_1 x1_2 a1_3 n1_3 c1_3 a1_4 n1_4 c1_4 w) : Go.E.CallsD Go.Proofs.Try.prog 24 #[.agg #[.string s0_0, .slice a0_1 n0_1 c0_1, .int .i64 x0_2, .slice a0_3 n0_3 c0_3, .slice a0_4 n0_4 c0_4], .agg #[.string s1_0, .slice a1_1 n1_1 c1_1, .int .i64 x1_2, .slice a1_3 n1_3 c1_3, .slice a1_4 n1_4 c1_4]] w R := by
  refine callsD_of (n := thicketref07_Same.an) M_follows M_sizes Go.Proofs.Try.func24 (by rfl) ?_
  rw [thicketref07_Same.root0]
  unfold thicketref07_Same at h
  rw [thicketref07_Same.eq14 R] at h
  exact h
-- thicket/thicketref07.Alike
def thicketref07_Alike.an : An := (.mk none .nil (.mk none .nil (.mk none (.mk none .nil (.mk none (.mk (some [3, 23, 24, 25]) .nil .nil) .nil)) .nil)))
def thicketref07_Alike.g0 (R : Value → World → Prop) (e14 : (Option Addr) → (Option Addr) → Nat → Nat → Int → Int → World → Prop) (x0_0 : Int) (a0_1 : Option Addr) (n0_1 : Nat) (c0_1 : Nat) (x1_0 : Int) (a1_1 : Option Addr) (n1_1 : Nat) (c1_1 : Nat) (w : World) : Prop :=
 nw (w.alloc (.cells #[.int .i64 x0_0, .slice a0_1 n0_1 c0_1] 33)) fun w75 =>
 nw (w75.alloc (.cells #[.int .i64 x1_0, .slice a1_1 n1_1 c1_1] 33)) fun w76 =>
 ∃ yx_77 : Int, w76.cell? ((na w).add 0) = some (.int .i64 yx_77) ∧
 (∃ yx_78 : Int, w76.cell? ((na w75).add 0) = some (.int .i64 yx_78) ∧
 (onBool (yx_77 != yx_78)
 (R (.bool false) w76)
 (∃ ya_79 : Option Addr, ∃ yn_79 : Nat, ∃ yc_79 : Nat, w76.cell? ((na w).add 1) = some (.slice ya_79 yn_79 yc_79) ∧
 (∃ ya_80 : Option Addr, ∃ yn_80 : Nat, ∃ yc_80 : Nat, w76.cell? ((na w75).add 1) = some (.slice ya_80 yn_80 yc_80) ∧
 (onBool ((yn_79 : Int) != (yn_80 : Int))
 (R (.bool false) w76)
 (∃ ya_81 : Option Addr, ∃ yn_81 : Nat, ∃ yc_81 : Nat, w76.cell? ((na w).add 1) = some (.slice ya_81 yn_81 yc_81) ∧
 (e14 (some (na w75)) ya_81 yn_81 yc_81 (yn_81 : Int) 0 w76)))))))
def thicketref07_Alike.g14 (R : Value → World → Prop) (b14 : (Option Addr) → (Option Addr) → Nat → Nat → Int → Int → World → Prop) (p3 : Option Addr) (a23 : Option Addr) (n23 : Nat) (c23 : Nat) (x24 : Int) (x25 : Int) (w : World) : Prop :=
 onBool (decide (x25 < x24))
 (optN a23 fun q82 =>
 chk ((0 : Int) ≤ x25 ∧ x25 < (n23 : Int))
 (∃ yx_83 : Int, w.cell? ((q82.add (x25.toNat * 8)).add 0) = some (.int .u8 yx_83) ∧
 (∃ yx_84 : Int, w.cell? ((q82.add (x25.toNat * 8)).add 1) = some (.int .i64 yx_84) ∧
 (∃ yx_85 : Int, w.cell? ((q82.add (x25.toNat * 8)).add 2) = some (.int .i64 yx_85) ∧
 (∃ yf_86 : Nat, w.cell? ((q82.add (x25.toNat * 8)).add 3) = some (.float .f64 yf_86) ∧
 (∃ ya_87 : Option Addr, ∃ yn_87 : Nat, ∃ yc_87 : Nat, w.cell? ((q82.add (x25.toNat * 8)).add 4) = some (.slice ya_87 yn_87 yc_87) ∧
 (∃ yx_88 : Int, w.cell? ((q82.add (x25.toNat * 8)).add 5) = some (.int .u8 yx_88) ∧
 (∃ yx_89 : Int, w.cell? ((q82.add (x25.toNat * 8)).add 6) = some (.int .i64 yx_89) ∧
 (∃ yx_90 : Int, w.cell? ((q82.add (x25.toNat * 8)).add 7) = some (.int .i64 yx_90) ∧
 (nw (w.alloc (.cells #[.int .u8 0, .int .i64 0, .int .i64 0, .float .f64 0, .slice none 0 0, .int .u8 0, .int .i64 0, .int .i64 0] 27)) fun w91 =>
 okSt w91 ((na w).add 0) ∧
 (nw (w91.setCell ((na w).add 0) (.int .u8 yx_83)) fun w92 =>
 okSt w92 ((na w).add 1) ∧
 (nw (w92.setCell ((na w).add 1) (.int .i64 yx_84)) fun w93 =>
 okSt w93 ((na w).add 2) ∧
 (nw (w93.setCell ((na w).add 2) (.int .i64 yx_85)) fun w94 =>
 okSt w94 ((na w).add 3) ∧
 (nw (w94.setCell ((na w).add 3) (.float .f64 yf_86)) fun w95 =>
 okSt w95 ((na w).add 4) ∧
 (nw (w95.setCell ((na w).add 4) (.slice ya_87 yn_87 yc_87)) fun w96 =>
 okSt w96 ((na w).add 5) ∧
 (nw (w96.setCell ((na w).add 5) (.int .u8 yx_88)) fun w97 =>
 okSt w97 ((na w).add 6) ∧
 (nw (w97.setCell ((na w).add 6) (.int .i64 yx_89)) fun w98 =>
 okSt w98 ((na w).add 7) ∧
 (nw (w98.setCell ((na w).add 7) (.int .i64 yx_90)) fun w99 =>
 optN p3 fun q100 =>
 ∃ ya_101 : Option Addr, ∃ yn_101 : Nat, ∃ yc_101 : Nat, w99.cell? (q100.add 1) = some (.slice ya_101 yn_101 yc_101) ∧
 (optN ya_101 fun q102 =>
 chk ((0 : Int) ≤ x25 ∧ x25 < (yn_101 : Int))
 (∃ yx_103 : Int, w99.cell? ((q102.add (x25.toNat * 8)).add 0) = some (.int .u8 yx_103) ∧
 (∃ yx_104 : Int, w99.cell? ((q102.add (x25.toNat * 8)).add 1) = some (.int .i64 yx_104) ∧
 (∃ yx_105 : Int, w99.cell? ((q102.add (x25.toNat * 8)).add 2) = some (.int .i64 yx_105) ∧
 (∃ yf_106 : Nat, w99.cell? ((q102.add (x25.toNat * 8)).add 3) = some (.float .f64 yf_106) ∧
 (∃ ya_107 : Option Addr, ∃ yn_107 : Nat, ∃ yc_107 : Nat, w99.cell? ((q102.add (x25.toNat * 8)).add 4) = some (.slice ya_107 yn_107 yc_107) ∧
 (∃ yx_108 : Int, w99.cell? ((q102.add (x25.toNat * 8)).add 5) = some (.int .u8 yx_108) ∧
 (∃ yx_109 : Int, w99.cell? ((q102.add (x25.toNat * 8)).add 6) = some (.int .i64 yx_109) ∧
 (∃ yx_110 : Int, w99.cell? ((q102.add (x25.toNat * 8)).add 7) = some (.int .i64 yx_110) ∧
 (nw (w99.alloc (.cells #[.int .u8 0, .int .i64 0, .int .i64 0, .float .f64 0, .slice none 0 0, .int .u8 0, .int .i64 0, .int .i64 0] 27)) fun w111 =>
 okSt w111 ((na w99).add 0) ∧
 (nw (w111.setCell ((na w99).add 0) (.int .u8 yx_103)) fun w112 =>
 okSt w112 ((na w99).add 1) ∧
 (nw (w112.setCell ((na w99).add 1) (.int .i64 yx_104)) fun w113 =>
 okSt w113 ((na w99).add 2) ∧
 (nw (w113.setCell ((na w99).add 2) (.int .i64 yx_105)) fun w114 =>
 okSt w114 ((na w99).add 3) ∧
 (nw (w114.setCell ((na w99).add 3) (.float .f64 yf_106)) fun w115 =>
 okSt w115 ((na w99).add 4) ∧
 (nw (w115.setCell ((na w99).add 4) (.slice ya_107 yn_107 yc_107)) fun w116 =>
 okSt w116 ((na w99).add 5) ∧
 (nw (w116.setCell ((na w99).add 5) (.int .u8 yx_108)) fun w117 =>
 okSt w117 ((na w99).add 6) ∧
 (nw (w117.setCell ((na w99).add 6) (.int .i64 yx_109)) fun w118 =>
 okSt w118 ((na w99).add 7) ∧
 (nw (w118.setCell ((na w99).add 7) (.int .i64 yx_110)) fun w119 =>
 ∃ yx_120 : Int, w119.cell? ((na w).add 0) = some (.int .u8 yx_120) ∧
 (∃ yx_121 : Int, w119.cell? ((na w99).add 0) = some (.int .u8 yx_121) ∧
 (onBool (yx_120 != yx_121)
 (∀ u122 : World, Below w119.heap.size w119 u122 →
 R (.bool false) u122)
 (∃ yx_123 : Int, w119.cell? ((na w).add 1) = some (.int .i64 yx_123) ∧
 (∃ yx_124 : Int, w119.cell? ((na w99).add 1) = some (.int .i64 yx_124) ∧
 (onBool (yx_123 != yx_124)
 (∀ u125 : World, Below w119.heap.size w119 u125 →
 R (.bool false) u125)
 (∃ yx_126 : Int, w119.cell? ((na w).add 2) = some (.int .i64 yx_126) ∧
 (∃ yx_127 : Int, w119.cell? ((na w99).add 2) = some (.int .i64 yx_127) ∧
 (onBool (yx_126 != yx_127)
 (∀ u128 : World, Below w119.heap.size w119 u128 →
 R (.bool false) u128)
 (∃ yf_129 : Nat, w119.cell? ((na w).add 3) = some (.float .f64 yf_129) ∧
 (∃ yx_130 : Int, RunV Go.Proofs.Try.prog (callFunc 63 #[.float .f64 yf_129]) w119 (.int .u64 yx_130) ∧
 (∃ yf_131 : Nat, w119.cell? ((na w99).add 3) = some (.float .f64 yf_131) ∧
 (∃ yx_132 : Int, RunV Go.Proofs.Try.prog (callFunc 63 #[.float .f64 yf_131]) w119 (.int .u64 yx_132) ∧
 (onBool (yx_130 != yx_132)
 (∀ u133 : World, Below w119.heap.size w119 u133 →
 R (.bool false) u133)
 (∃ ya_134 : Option Addr, ∃ yn_134 : Nat, ∃ yc_134 : Nat, w119.cell? ((na w).add 4) = some (.slice ya_134 yn_134 yc_134) ∧
 (∃ ya_135 : Option Addr, ∃ yn_135 : Nat, ∃ yc_135 : Nat, w119.cell? ((na w99).add 4) = some (.slice ya_135 yn_135 yc_135) ∧
 (∃ yb_136 : Bool, (∀ u137 : World, Below w119.heap.size w119 u137 → Go.E.CallsD Go.Proofs.Try.prog 19 #[.slice ya_134 yn_134 yc_134, .slice ya_135 yn_135 yc_135] u137 fun yv138 u139 => yv138 = .bool yb_136 ∧ Below w119.heap.size w119 u139) ∧
 (onBool (!yb_136)
 (∀ u140 : World, Below w119.heap.size w119 u140 →
 R (.bool false) u140)
 (∃ yx_141 : Int, w119.cell? ((na w).add 5) = some (.int .u8 yx_141) ∧
 (∃ yx_142 : Int, w119.cell? ((na w99).add 5) = some (.int .u8 yx_142) ∧
 (onBool (yx_141 != yx_142)
 (∀ u143 : World, Below w119.heap.size w119 u143 →
 R (.bool false) u143)
 (∃ yx_144 : Int, w119.cell? ((na w).add 6) = some (.int .i64 yx_144) ∧
 (∃ yx_145 : Int, w119.cell? ((na w99).add 6) = some (.int .i64 yx_145) ∧
 (onBool (yx_144 != yx_145)
 (∀ u146 : World, Below w119.heap.size w119 u146 →
 R (.bool false) u146)
 (∃ yx_147 : Int, w119.cell? ((na w).add 7) = some (.int .i64 yx_147) ∧
 (∃ yx_148 : Int, w119.cell? ((na w99).add 7) = some (.int .i64 yx_148) ∧
 (∀ u149 : World, Below w119.heap.size w119 u149 →
 onBool (yx_147 != yx_148)
 (R (.bool false) u149)
 (nv (IntKind.i64.wrap (x25 + 1)) fun t150 =>
 b14 p3 a23 n23 c23 x24 t150 u149)))))))))))))))))))))))))))))))))))))))))))))))))))))))))))))))
 (R (.bool true) w)
def thicketref07_Alike.q2 (R : Value → World → Prop) : Exit → Act → World → Prop := (fin Go.Proofs.Try.prog Go.Proofs.Try.f42 R)
def thicketref07_Alike.q10 (R : Value → World → Prop) : Exit → Act → World → Prop := (thicketref07_Alike.q2 R)
def thicketref07_Alike.q11 (R : Value → World → Prop) : Exit → Act → World → Prop := Exit.then (startN none (codeN Go.Proofs.Try.prog (sub (codeOf Go.Proofs.Try.f42) [1, 1, 1]) (nsub thicketref07_Alike.an [1, 1, 1]) (thicketref07_Alike.q10 R))) (thicketref07_Alike.q10 R)
def thicketref07_Alike.q13 (R : Value → World → Prop) : Exit → Act → World → Prop := (thicketref07_Alike.q11 R)
def thicketref07_Alike.q14 (R : Value → World → Prop) : Exit → Act → World → Prop := Exit.inBlock 0 (thicketref07_Alike.q13 R)
def thicketref07_Alike.rl14 (R : Value → World → Prop) (k : Nat) (p3 : Option Addr) (a23 : Option Addr) (n23 : Nat) (c23 : Nat) (x24 : Int) (x25 : Int) (w : World) : Prop := loopN [3, 23, 24, 25] (codeN Go.Proofs.Try.prog (sub (codeOf Go.Proofs.Try.f42) [1, 1, 0, 1, 0, 0]) (nsub thicketref07_Alike.an [1, 1, 0, 1, 0, 0])) (thicketref07_Alike.q14 R) k ⟨#[undef, undef, undef, .pointer p3, undef, undef, undef, undef, undef, undef, undef, undef, undef, undef, undef, undef, undef, undef, undef, undef, undef, undef, undef, .slice a23 n23 c23, .int .i64 x24, .int .i64 x25, undef, undef, undef, undef, undef, undef, undef, undef, undef, undef, undef, undef, undef, undef, undef, undef, undef, undef, undef, undef, undef, undef, undef, undef, undef, undef, undef, undef, undef, undef, undef, undef, undef, undef, undef, undef, undef, undef, undef, undef, undef, undef, undef, undef, undef, undef, undef, undef, undef, undef, undef, undef, undef, undef, undef, undef, undef, undef, undef, undef, undef, undef, undef, undef, undef, undef, undef], []⟩ w
def thicketref07_Alike.re14 (R : Value → World → Prop) (p3 : Option Addr) (a23 : Option Addr) (n23 : Nat) (c23 : Nat) (x24 : Int) (x25 : Int) (w : World) : Prop := ∃ k, thicketref07_Alike.rl14 R k p3 a23 n23 c23 x24 x25 w
def thicketref07_Alike.l14 (R : Value → World → Prop) : Nat → (Option Addr) → (Option Addr) → Nat → Nat → Int → Int → World → Prop
  | 0, _, _, _, _, _, _, _ => False
  | k + 1, p3, a23, n23, c23, x24, x25, w => thicketref07_Alike.g14 R (thicketref07_Alike.l14 R k) p3 a23 n23 c23 x24 x25 w
def thicketref07_Alike.e14 (R : Value → World → Prop) (p3 : Option Addr) (a23 : Option Addr) (n23 : Nat) (c23 : Nat) (x24 : Int) (x25 : Int) (w : World) : Prop := ∃ k, thicketref07_Alike.l14 R k p3 a23 n23 c23 x24 x25 w
theorem thicketref07_Alike.s14 (R : Value → World → Prop) (k : Nat) (p3 : Option Addr) (a23 : Option Addr) (n23 : Nat) (c23 : Nat) (x24 : Int) (x25 : Int) (w : World) : thicketref07_Alike.rl14 R (k + 1) p3 a23 n23 c23 x24 x25 w = ∀ _ : Nat → Value, thicketref07_Alike.g14 R (thicketref07_Alike.rl14 R k) p3 a23 n23 c23 x24 x25 w := by kernel_rfl
theorem thicketref07_Alike.lq14 (R : Value → World → Prop) : ∀ k, thicketref07_Alike.l14 R k = thicketref07_Alike.rl14 R k
  | 0 => by funext p3 a23 n23 c23 x24 x25 w; first | rfl | kernel_rfl
  | k + 1 => by
    funext p3 a23 n23 c23 x24 x25 w
    rw [thicketref07_Alike.s14, forall_const]
    unfold thicketref07_Alike.l14
    have ih := thicketref07_Alike.lq14 R k
    rw [ih]
    all_goals rfl
theorem thicketref07_Alike.eq14 (R : Value → World → Prop) : thicketref07_Alike.e14 R = thicketref07_Alike.re14 R := by
  funext p3 a23 n23 c23 x24 x25 w
  unfold thicketref07_Alike.e14 thicketref07_Alike.re14
  simp only [thicketref07_Alike.lq14 R]
def thicketref07_Alike (R : Value → World → Prop) (x0_0 : Int) (a0_1 : Option Addr) (n0_1 : Nat) (c0_1 : Nat) (x1_0 : Int) (a1_1 : Option Addr) (n1_1 : Nat) (c1_1 : Nat) (w : World) : Prop := thicketref07_Alike.g0 R (thicketref07_Alike.e14 R) x0_0 a0_1 n0_1 c0_1 x1_0 a1_1 n1_1 c1_1 w
theorem thicketref07_Alike.root0 (R : Value → World → Prop) (x0_0 : Int) (a0_1 : Option Addr) (n0_1 : Nat) (c0_1 : Nat) (x1_0 : Int) (a1_1 : Option Addr) (n1_1 : Nat) (c1_1 : Nat) (w : World) : fnN Go.Proofs.Try.prog Go.Proofs.Try.f42 thicketref07_Alike.an #[.agg #[.int .i64 x0_0, .slice a0_1 n0_1 c0_1], .agg #[.int .i64 x1_0, .slice a1_1 n1_1 c1_1]] w R = thicketref07_Alike.g0 R (thicketref07_Alike.re14 R) x0_0 a0_1 n0_1 c0_1 x1_0 a1_1 n1_1 c1_1 w := by kernel_rfl
theorem thicketref07_Alike.calls {R : Value → World → Prop} {x0_0 : Int} {a0_1 : Option Addr} {n0_1 : Nat} {c0_1 : Nat} {x1_0 : Int} {a1_1 : Option Addr} {n1_1 : Nat} {c1_1 : Nat} {w : World} (h : thicketref07_Alike R x0_0 a0_1 n0_1 c0_1 x1_0 a1_1 n1_1 c1_1 w) : Go.E.CallsD Go.Proofs.Try.prog 42 #[.agg #[.int .i64 x0_0, .slice a0_1 n0_1 c0_1], .agg #[.int .i64 x1_0, .slice a1_1 n1_1 c1_1]] w R := by
  refine callsD_of (n := thicketref07_Alike.an) M_follows M_sizes Go.Proofs.Try.func42 (by rfl) ?_
  rw [thicketref07_Alike.root0]
  unfold thicketref07_Alike at h
  rw [thicketref07_Alike.eq14 R] at h
  exact h
-- slices.Equal[[]int,int]
def slices_Equal_int.an : An := (.mk none .nil (.mk none .nil (.mk none (.mk none .nil (.mk none (.mk (some [0, 1, 12, 13]) .nil .nil) .nil)) .nil)))
def slices_Equal_int.g0 (R : Value → World → Prop) (e14 : (Option Addr) → Nat → Nat → (Option Addr) → Nat → Nat → Int → Int → World → Prop) (a0 : Option Addr) (n0 : Nat) (c0 : Nat) (a1 : Option Addr) (n1 : Nat) (c1 : Nat) (w : World) : Prop :=
 onBool ((n0 : Int) != (n1 : Int))
 (R (.bool false) w)
 (e14 a0 n0 c0 a1 n1 c1 (n0 : Int) 0 w)
def slices_Equal_int.g14 (R : Value → World → Prop) (b14 : (Option Addr) → Nat → Nat → (Option Addr) → Nat → Nat → Int → Int → World → Prop) (a0 : Option Addr) (n0 : Nat) (c0 : Nat) (a1 : Option Addr) (n1 : Nat) (c1 : Nat) (x12 : Int) (x13 : Int) (w : World) : Prop :=
 onBool (decide (x13 < x12))
 (optN a0 fun q6 =>
 chk ((0 : Int) ≤ x13 ∧ x13 < (n0 : Int))
 (∃ yx_7 : Int, w.cell? (q6.add (x13.toNat * 1)) = some (.int .i64 yx_7) ∧
 (optN a1 fun q8 =>
 chk ((0 : Int) ≤ x13 ∧ x13 < (n1 : Int))
 (∃ yx_9 : Int, w.cell? (q8.add (x13.toNat * 1)) = some (.int .i64 yx_9) ∧
 (onBool (yx_7 != yx_9)
 (R (.bool false) w)
 (nv (IntKind.i64.wrap (x13 + 1)) fun t10 =>
 b14 a0 n0 c0 a1 n1 c1 x12 t10 w))))))
 (R (.bool true) w)
def slices_Equal_int.q2 (R : Value → World → Prop) : Exit → Act → World → Prop := (fin Go.Proofs.Try.prog Go.Proofs.Try.f64 R)
def slices_Equal_int.q10 (R : Value → World → Prop) : Exit → Act → World → Prop := (slices_Equal_int.q2 R)
def slices_Equal_int.q11 (R : Value → World → Prop) : Exit → Act → World → Prop := Exit.then (startN none (codeN Go.Proofs.Try.prog (sub (codeOf Go.Proofs.Try.f64) [1, 1, 1]) (nsub slices_Equal_int.an [1, 1, 1]) (slices_Equal_int.q10 R))) (slices_Equal_int.q10 R)
def slices_Equal_int.q13 (R : Value → World → Prop) : Exit → Act → World → Prop := (slices_Equal_int.q11 R)
def slices_Equal_int.q14 (R : Value → World → Prop) : Exit → Act → World → Prop := Exit.inBlock 0 (slices_Equal_int.q13 R)
def slices_Equal_int.rl14 (R : Value → World → Prop) (k : Nat) (a0 : Option Addr) (n0 : Nat) (c0 : Nat) (a1 : Option Addr) (n1 : Nat) (c1 : Nat) (x12 : Int) (x13 : Int) (w : World) : Prop := loopN [0, 1, 12, 13] (codeN Go.Proofs.Try.prog (sub (codeOf Go.Proofs.Try.f64) [1, 1, 0, 1, 0, 0]) (nsub slices_Equal_int.an [1, 1, 0, 1, 0, 0])) (slices_Equal_int.q14 R) k ⟨#[.slice a0 n0 c0, .slice a1 n1 c1, undef, undef, undef, undef, undef, undef, undef, undef, undef, undef, .int .i64 x12, .int .i64 x13, undef, undef, undef, undef, undef, undef, undef, undef, undef, undef, undef, undef], []⟩ w
def slices_Equal_int.re14 (R : Value → World → Prop) (a0 : Option Addr) (n0 : Nat) (c0 : Nat) (a1 : Option Addr) (n1 : Nat) (c1 : Nat) (x12 : Int) (x13 : Int) (w : World) : Prop := ∃ k, slices_Equal_int.rl14 R k a0 n0 c0 a1 n1 c1 x12 x13 w
def slices_Equal_int.l14 (R : Value → World → Prop) : Nat → (Option Addr) → Nat → Nat → (Option Addr) → Nat → Nat → Int → Int → World → Prop
  | 0, _, _, _, _, _, _, _, _, _ => False
  | k + 1, a0, n0, c0, a1, n1, c1, x12, x13, w => slices_Equal_int.g14 R (slices_Equal_int.l14 R k) a0 n0 c0 a1 n1 c1 x12 x13 w
def slices_Equal_int.e14 (R : Value → World → Prop) (a0 : Option Addr) (n0 : Nat) (c0 : Nat) (a1 : Option Addr) (n1 : Nat) (c1 : Nat) (x12 : Int) (x13 : Int) (w : World) : Prop := ∃ k, slices_Equal_int.l14 R k a0 n0 c0 a1 n1 c1 x12 x13 w
theorem slices_Equal_int.s14 (R : Value → World → Prop) (k : Nat) (a0 : Option Addr) (n0 : Nat) (c0 : Nat) (a1 : Option Addr) (n1 : Nat) (c1 : Nat) (x12 : Int) (x13 : Int) (w : World) : slices_Equal_int.rl14 R (k + 1) a0 n0 c0 a1 n1 c1 x12 x13 w = ∀ _ : Nat → Value, slices_Equal_int.g14 R (slices_Equal_int.rl14 R k) a0 n0 c0 a1 n1 c1 x12 x13 w := by kernel_rfl
theorem slices_Equal_int.lq14 (R : Value → World → Prop) : ∀ k, slices_Equal_int.l14 R k = slices_Equal_int.rl14 R k
  | 0 => by funext a0 n0 c0 a1 n1 c1 x12 x13 w; first | rfl | kernel_rfl
  | k + 1 => by
    funext a0 n0 c0 a1 n1 c1 x12 x13 w
    rw [slices_Equal_int.s14, forall_const]
    unfold slices_Equal_int.l14
    have ih := slices_Equal_int.lq14 R k
    rw [ih]
    all_goals rfl
theorem slices_Equal_int.eq14 (R : Value → World → Prop) : slices_Equal_int.e14 R = slices_Equal_int.re14 R := by
  funext a0 n0 c0 a1 n1 c1 x12 x13 w
  unfold slices_Equal_int.e14 slices_Equal_int.re14
  simp only [slices_Equal_int.lq14 R]
def slices_Equal_int (R : Value → World → Prop) (a0 : Option Addr) (n0 : Nat) (c0 : Nat) (a1 : Option Addr) (n1 : Nat) (c1 : Nat) (w : World) : Prop := slices_Equal_int.g0 R (slices_Equal_int.e14 R) a0 n0 c0 a1 n1 c1 w
theorem slices_Equal_int.root0 (R : Value → World → Prop) (a0 : Option Addr) (n0 : Nat) (c0 : Nat) (a1 : Option Addr) (n1 : Nat) (c1 : Nat) (w : World) : fnN Go.Proofs.Try.prog Go.Proofs.Try.f64 slices_Equal_int.an #[.slice a0 n0 c0, .slice a1 n1 c1] w R = slices_Equal_int.g0 R (slices_Equal_int.re14 R) a0 n0 c0 a1 n1 c1 w := by kernel_rfl
theorem slices_Equal_int.calls {R : Value → World → Prop} {a0 : Option Addr} {n0 : Nat} {c0 : Nat} {a1 : Option Addr} {n1 : Nat} {c1 : Nat} {w : World} (h : slices_Equal_int R a0 n0 c0 a1 n1 c1 w) : Go.E.CallsD Go.Proofs.Try.prog 64 #[.slice a0 n0 c0, .slice a1 n1 c1] w R := by
  refine callsD_of (n := slices_Equal_int.an) M_follows M_sizes Go.Proofs.Try.func64 (by rfl) ?_
  rw [slices_Equal_int.root0]
  unfold slices_Equal_int at h
  rw [slices_Equal_int.eq14 R] at h
  exact h
-- slices.Equal[[]string,string]
def slices_Equal_str.an : An := (.mk none .nil (.mk none .nil (.mk none (.mk none .nil (.mk none (.mk (some [0, 1, 12, 13]) .nil .nil) .nil)) .nil)))
def slices_Equal_str.g0 (R : Value → World → Prop) (e14 : (Option Addr) → Nat → Nat → (Option Addr) → Nat → Nat → Int → Int → World → Prop) (a0 : Option Addr) (n0 : Nat) (c0 : Nat) (a1 : Option Addr) (n1 : Nat) (c1 : Nat) (w : World) : Prop :=
 onBool ((n0 : Int) != (n1 : Int))
 (R (.bool false) w)
 (e14 a0 n0 c0 a1 n1 c1 (n0 : Int) 0 w)
def slices_Equal_str.g14 (R : Value → World → Prop) (b14 : (Option Addr) → Nat → Nat → (Option Addr) → Nat → Nat → Int → Int → World → Prop) (a0 : Option Addr) (n0 : Nat) (c0 : Nat) (a1 : Option Addr) (n1 : Nat) (c1 : Nat) (x12 : Int) (x13 : Int) (w : World) : Prop :=
 onBool (decide (x13 < x12))
 (optN a0 fun q6 =>
 chk ((0 : Int) ≤ x13 ∧ x13 < (n0 : Int))
 (∃ ys_7 : ByteArray, w.cell? (q6.add (x13.toNat * 1)) = some (.string ys_7) ∧
 (optN a1 fun q8 =>
 chk ((0 : Int) ≤ x13 ∧ x13 < (n1 : Int))
 (∃ ys_9 : ByteArray, w.cell? (q8.add (x13.toNat * 1)) = some (.string ys_9) ∧
 (onBool (!((ys_7 : ByteArray).toList == (ys_9 : ByteArray).toList))
 (R (.bool false) w)
 (nv (IntKind.i64.wrap (x13 + 1)) fun t10 =>
 b14 a0 n0 c0 a1 n1 c1 x12 t10 w))))))
 (R (.bool true) w)
def slices_Equal_str.q2 (R : Value → World → Prop) : Exit → Act → World → Prop := (fin Go.Proofs.Try.prog Go.Proofs.Try.f65 R)
def slices_Equal_str.q10 (R : Value → World → Prop) : Exit → Act → World → Prop := (slices_Equal_str.q2 R)
def slices_Equal_str.q11 (R : Value → World → Prop) : Exit → Act → World → Prop := Exit.then (startN none (codeN Go.Proofs.Try.prog (sub (codeOf Go.Proofs.Try.f65) [1, 1, 1]) (nsub slices_Equal_str.an [1, 1, 1]) (slices_Equal_str.q10 R))) (slices_Equal_str.q10 R)
def slices_Equal_str.q13 (R : Value → World → Prop) : Exit → Act → World → Prop := (slices_Equal_str.q11 R)
def slices_Equal_str.q14 (R : Value → World → Prop) : Exit → Act → World → Prop := Exit.inBlock 0 (slices_Equal_str.q13 R)
def slices_Equal_str.rl14 (R : Value → World → Prop) (k : Nat) (a0 : Option Addr) (n0 : Nat) (c0 : Nat) (a1 : Option Addr) (n1 : Nat) (c1 : Nat) (x12 : Int) (x13 : Int) (w : World) : Prop := loopN [0, 1, 12, 13] (codeN Go.Proofs.Try.prog (sub (codeOf Go.Proofs.Try.f65) [1, 1, 0, 1, 0, 0]) (nsub slices_Equal_str.an [1, 1, 0, 1, 0, 0])) (slices_Equal_str.q14 R) k ⟨#[.slice a0 n0 c0, .slice a1 n1 c1, undef, undef, undef, undef, undef, undef, undef, undef, undef, undef, .int .i64 x12, .int .i64 x13, undef, undef, undef, undef, undef, undef, undef, undef, undef, undef, undef, undef], []⟩ w
def slices_Equal_str.re14 (R : Value → World → Prop) (a0 : Option Addr) (n0 : Nat) (c0 : Nat) (a1 : Option Addr) (n1 : Nat) (c1 : Nat) (x12 : Int) (x13 : Int) (w : World) : Prop := ∃ k, slices_Equal_str.rl14 R k a0 n0 c0 a1 n1 c1 x12 x13 w
def slices_Equal_str.l14 (R : Value → World → Prop) : Nat → (Option Addr) → Nat → Nat → (Option Addr) → Nat → Nat → Int → Int → World → Prop
  | 0, _, _, _, _, _, _, _, _, _ => False
  | k + 1, a0, n0, c0, a1, n1, c1, x12, x13, w => slices_Equal_str.g14 R (slices_Equal_str.l14 R k) a0 n0 c0 a1 n1 c1 x12 x13 w
def slices_Equal_str.e14 (R : Value → World → Prop) (a0 : Option Addr) (n0 : Nat) (c0 : Nat) (a1 : Option Addr) (n1 : Nat) (c1 : Nat) (x12 : Int) (x13 : Int) (w : World) : Prop := ∃ k, slices_Equal_str.l14 R k a0 n0 c0 a1 n1 c1 x12 x13 w
theorem slices_Equal_str.s14 (R : Value → World → Prop) (k : Nat) (a0 : Option Addr) (n0 : Nat) (c0 : Nat) (a1 : Option Addr) (n1 : Nat) (c1 : Nat) (x12 : Int) (x13 : Int) (w : World) : slices_Equal_str.rl14 R (k + 1) a0 n0 c0 a1 n1 c1 x12 x13 w = ∀ _ : Nat → Value, slices_Equal_str.g14 R (slices_Equal_str.rl14 R k) a0 n0 c0 a1 n1 c1 x12 x13 w := by kernel_rfl
theorem slices_Equal_str.lq14 (R : Value → World → Prop) : ∀ k, slices_Equal_str.l14 R k = slices_Equal_str.rl14 R k
  | 0 => by funext a0 n0 c0 a1 n1 c1 x12 x13 w; first | rfl | kernel_rfl
  | k + 1 => by
    funext a0 n0 c0 a1 n1 c1 x12 x13 w
    rw [slices_Equal_str.s14, forall_const]
    unfold slices_Equal_str.l14
    have ih := slices_Equal_str.lq14 R k
    rw [ih]
    all_goals rfl
theorem slices_Equal_str.eq14 (R : Value → World → Prop) : slices_Equal_str.e14 R = slices_Equal_str.re14 R := by
  funext a0 n0 c0 a1 n1 c1 x12 x13 w
  unfold slices_Equal_str.e14 slices_Equal_str.re14
  simp only [slices_Equal_str.lq14 R]
def slices_Equal_str (R : Value → World → Prop) (a0 : Option Addr) (n0 : Nat) (c0 : Nat) (a1 : Option Addr) (n1 : Nat) (c1 : Nat) (w : World) : Prop := slices_Equal_str.g0 R (slices_Equal_str.e14 R) a0 n0 c0 a1 n1 c1 w
theorem slices_Equal_str.root0 (R : Value → World → Prop) (a0 : Option Addr) (n0 : Nat) (c0 : Nat) (a1 : Option Addr) (n1 : Nat) (c1 : Nat) (w : World) : fnN Go.Proofs.Try.prog Go.Proofs.Try.f65 slices_Equal_str.an #[.slice a0 n0 c0, .slice a1 n1 c1] w R = slices_Equal_str.g0 R (slices_Equal_str.re14 R) a0 n0 c0 a1 n1 c1 w := by kernel_rfl
theorem slices_Equal_str.calls {R : Value → World → Prop} {a0 : Option Addr} {n0 : Nat} {c0 : Nat} {a1 : Option Addr} {n1 : Nat} {c1 : Nat} {w : World} (h : slices_Equal_str R a0 n0 c0 a1 n1 c1 w) : Go.E.CallsD Go.Proofs.Try.prog 65 #[.slice a0 n0 c0, .slice a1 n1 c1] w R := by
  refine callsD_of (n := slices_Equal_str.an) M_follows M_sizes Go.Proofs.Try.func65 (by rfl) ?_
  rw [slices_Equal_str.root0]
  unfold slices_Equal_str at h
  rw [slices_Equal_str.eq14 R] at h
  exact h
end Go.Mir
