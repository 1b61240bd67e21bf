/- Part of a proof of laws of the seat Ytdealcfgobobiaa: functions' weakest preconditions, each checked by the kernel, contracts out of them, plain lemmas; no conditions. -/
import Derived.Test.YtdealcfgobobiaaTM0
set_option linter.unusedVariables false
set_option linter.unusedSimpArgs false
set_option linter.unusedVariables false
set_option maxRecDepth 100000
namespace Go.Mir
open Go Go.E Go.RowKit
-- thicket/thicketlaw07.TreesOne
def thicketlaw07_TreesOne.an : An := (.mk none .nil (.mk none .nil (.mk none .nil (.mk none .nil (.mk none .nil (.mk none .nil (.mk none .nil (.mk none (.mk none .nil (.mk none (.mk (some [1, 2, 5, 7, 8, 10, 12]) .nil .nil) .nil)) .nil))))))))
def thicketlaw07_TreesOne.g0 (R : Value → World → Prop) (e36 : (Option Addr) → Nat → Nat → (Option Addr) → (Option Addr) → Nat → Nat → Int → Int → (Option Addr) → Nat → Nat → Int → World → Prop) (x0_0 : Int) (a0_1 : Option Addr) (n0_1 : Nat) (c0_1 : Nat) (a1 : Option Addr) (n1 : Nat) (c1 : Nat) (w : World) : Prop :=
  nw (w.alloc (.cells #[.int .i64 x0_0, .slice a0_1 n0_1 c0_1] 33)) fun w107 =>
  Go.E.CallsD Go.Proofs.Try.prog 12 #[] w107 fun yv108 u109 =>
    ∃ yb_110 : Bool, yv108 = .bool yb_110 ∧
      (onBool (!yb_110)
        (R (.bool false) u109)
        (∃ yx_111 : Int, u109.cell? ((na w).add 0) = some (.int .i64 yx_111) ∧
          (∃ ya_112 : Option Addr, ∃ yn_112 : Nat, ∃ yc_112 : Nat, u109.cell? ((na w).add 1) = some (.slice ya_112 yn_112 yc_112) ∧
            (Go.E.CallsD Go.Proofs.Try.prog 15 #[.agg #[.int .i64 yx_111, .slice ya_112 yn_112 yc_112], .slice a1 n1 c1] u109 fun yv113 u114 =>
              ∃ ya_115_0 : Option Addr, ∃ yn_115_0 : Nat, ∃ yc_115_0 : Nat, ∃ yx_115_1 : Int, yv113 = .tuple #[.slice ya_115_0 yn_115_0 yc_115_0, .int .i64 yx_115_1] ∧
                (∃ yx_116 : Int, u114.cell? ((na w).add 0) = some (.int .i64 yx_116) ∧
                  (∃ ya_117 : Option Addr, ∃ yn_117 : Nat, ∃ yc_117 : Nat, u114.cell? ((na w).add 1) = some (.slice ya_117 yn_117 yc_117) ∧
                    (Go.E.CallsD Go.Proofs.Try.prog 17 #[.agg #[.int .i64 yx_116, .slice ya_117 yn_117 yc_117], .slice a1 n1 c1] u114 fun yv118 u119 =>
                      ∃ yx_120_0 : Int, ∃ yx_120_1 : Int, ∃ yx_120_2 : Int, yv118 = .tuple #[.int .i64 yx_120_0, .int .i64 yx_120_1, .int .i64 yx_120_2] ∧
                        (onBool (yx_115_1 != 0)
                          (onBool (yx_120_2 == yx_115_1)
                            (R (.bool ((yn_115_0 : Int) == 0)) u119)
                            (R (.bool false) u119))
                          (∃ yx_121 : Int, u119.cell? ((na w).add 0) = some (.int .i64 yx_121) ∧
                            (∃ ya_122 : Option Addr, ∃ yn_122 : Nat, ∃ yc_122 : Nat, u119.cell? ((na w).add 1) = some (.slice ya_122 yn_122 yc_122) ∧
                              (Go.E.CallsD Go.Proofs.Try.prog 27 #[.agg #[.int .i64 yx_121, .slice ya_122 yn_122 yc_122]] u119 fun yv123 u124 =>
                                ∃ ya_125_0 : Option Addr, ∃ yn_125_0 : Nat, ∃ yc_125_0 : Nat, ∃ yx_125_1 : Int, yv123 = .tuple #[.slice ya_125_0 yn_125_0 yc_125_0, .int .i64 yx_125_1] ∧
                                  (onBool (yx_120_2 != 0)
                                    (R (.bool false) u124)
                                    (onBool (yx_125_1 != 0)
                                      (R (.bool false) u124)
                                      (onBool ((yn_115_0 : Int) == 0)
                                        (R (.bool false) u124)
                                        (optN ya_115_0 fun q126 =>
                                        chk ((0 : Int) ≤ 0 ∧ 0 < (yn_115_0 : Int))
                                          (∃ yx_127 : Int, u124.cell? (q126.add 0) = some (.int .i64 yx_127) ∧
                                            (onBool (yx_127 != 0)
                                              (R (.bool false) u124)
                                              (onBool (decide (yx_120_0 < 0))
                                                (R (.bool false) u124)
                                                (onBool (decide (yx_120_0 ≥ (yn_125_0 : Int)))
                                                  (R (.bool false) u124)
                                                  (e36 a1 n1 c1 (some (na w)) ya_115_0 yn_115_0 yc_115_0 yx_120_0 yx_120_1 ya_125_0 yn_125_0 yc_125_0 0 u124))))))))))))))))))))
def thicketlaw07_TreesOne.g36 (R : Value → World → Prop) (b36 : (Option Addr) → Nat → Nat → (Option Addr) → (Option Addr) → Nat → Nat → Int → Int → (Option Addr) → Nat → Nat → Int → World → Prop) (a1 : Option Addr) (n1 : Nat) (c1 : Nat) (p2 : Option Addr) (a5 : Option Addr) (n5 : Nat) (c5 : Nat) (x7 : Int) (x8 : Int) (a10 : Option Addr) (n10 : Nat) (c10 : Nat) (x12 : Int) (w : World) : Prop :=
  nv (IntKind.i64.wrap (x12 + 1)) fun t128 =>
  onBool (decide (t128 < (n5 : Int)))
    (∃ F129 : Nat → Value → World → Prop, (∀ i v u u', F129 i v u → Below u.heap.size u u' → F129 i v u') ∧
      (optN p2 fun q130 =>
      ∃ ya_131 : Option Addr, ∃ yn_131 : Nat, ∃ yc_131 : Nat, w.cell? (q130.add 1) = some (.slice ya_131 yn_131 yc_131) ∧
        (optN a5 fun q132 =>
        chk ((0 : Int) ≤ x12 ∧ x12 < (n5 : Int))
          (∃ yx_133 : Int, w.cell? (q132.add (x12.toNat * 1)) = some (.int .i64 yx_133) ∧
            (optN ya_131 fun q134 =>
            chk ((0 : Int) ≤ yx_133 ∧ yx_133 < (yn_131 : Int))
              (∃ yx_135 : Int, w.cell? ((q134.add (yx_133.toNat * 8)).add 0) = some (.int .u8 yx_135) ∧
                (∃ yx_136 : Int, w.cell? ((q134.add (yx_133.toNat * 8)).add 1) = some (.int .i64 yx_136) ∧
                  (∃ yx_137 : Int, w.cell? ((q134.add (yx_133.toNat * 8)).add 2) = some (.int .i64 yx_137) ∧
                    (∃ yf_138 : Nat, w.cell? ((q134.add (yx_133.toNat * 8)).add 3) = some (.float .f64 yf_138) ∧
                      (∃ ya_139 : Option Addr, ∃ yn_139 : Nat, ∃ yc_139 : Nat, w.cell? ((q134.add (yx_133.toNat * 8)).add 4) = some (.slice ya_139 yn_139 yc_139) ∧
                        (∃ yx_140 : Int, w.cell? ((q134.add (yx_133.toNat * 8)).add 5) = some (.int .u8 yx_140) ∧
                          (∃ yx_141 : Int, w.cell? ((q134.add (yx_133.toNat * 8)).add 6) = some (.int .i64 yx_141) ∧
                            (∃ yx_142 : Int, w.cell? ((q134.add (yx_133.toNat * 8)).add 7) = some (.int .i64 yx_142) ∧
                              ((∀ u143 : World, Below w.heap.size w u143 → F129 8 (.pointer (some (na u143))) (u143.alloc (.cells #[.int .u8 0, .int .i64 0, .int .i64 0, .float .f64 0, .slice none 0 0, .int .u8 0, .int .i64 0, .int .i64 0] 27))) ∧
                                (∀ q144 : Addr, (∃ u, Below w.heap.size w u ∧ F129 8 (.pointer (some q144)) u) →
                                ∀ u145 : World, Below w.heap.size w u145 → F129 8 (.pointer (some q144)) u145 → 
                                  okSt u145 (q144.add 0) ∧
                                    (nw (u145.setCell (q144.add 0) (.int .u8 yx_135)) fun w146 =>
                                    okSt w146 (q144.add 1) ∧
                                      (nw (w146.setCell (q144.add 1) (.int .i64 yx_136)) fun w147 =>
                                      okSt w147 (q144.add 2) ∧
                                        (nw (w147.setCell (q144.add 2) (.int .i64 yx_137)) fun w148 =>
                                        okSt w148 (q144.add 3) ∧
                                          (nw (w148.setCell (q144.add 3) (.float .f64 yf_138)) fun w149 =>
                                          okSt w149 (q144.add 4) ∧
                                            (nw (w149.setCell (q144.add 4) (.slice ya_139 yn_139 yc_139)) fun w150 =>
                                            okSt w150 (q144.add 5) ∧
                                              (nw (w150.setCell (q144.add 5) (.int .u8 yx_140)) fun w151 =>
                                              okSt w151 (q144.add 6) ∧
                                                (nw (w151.setCell (q144.add 6) (.int .i64 yx_141)) fun w152 =>
                                                okSt w152 (q144.add 7) ∧
                                                  (nw (w152.setCell (q144.add 7) (.int .i64 yx_142)) fun w153 =>
                                                  ∃ yx_154 : Int, w153.cell? (q144.add 0) = some (.int .u8 yx_154) ∧
                                                    (∃ yx_155 : Int, w153.cell? (q144.add 1) = some (.int .i64 yx_155) ∧
                                                      (∃ yx_156 : Int, w153.cell? (q144.add 2) = some (.int .i64 yx_156) ∧
                                                        (∃ yf_157 : Nat, w153.cell? (q144.add 3) = some (.float .f64 yf_157) ∧
                                                          (∃ ya_158 : Option Addr, ∃ yn_158 : Nat, ∃ yc_158 : Nat, w153.cell? (q144.add 4) = some (.slice ya_158 yn_158 yc_158) ∧
                                                            (∃ yx_159 : Int, w153.cell? (q144.add 5) = some (.int .u8 yx_159) ∧
                                                              (∃ yx_160 : Int, w153.cell? (q144.add 6) = some (.int .i64 yx_160) ∧
                                                                (∃ yx_161 : Int, w153.cell? (q144.add 7) = some (.int .i64 yx_161) ∧
                                                                  (∃ yx_162 : Int, w153.cell? (q144.add 2) = some (.int .i64 yx_162) ∧
                                                                    (optN a1 fun q163 =>
                                                                    chk ((0 : Int) ≤ yx_162 ∧ yx_162 < (n1 : Int))
                                                                      (∃ yf_164 : Nat, w153.cell? (q163.add (yx_162.toNat * 1)) = some (.float .f64 yf_164) ∧
                                                                        (Go.E.CallsD Go.Proofs.Try.prog 13 #[.agg #[.int .u8 yx_154, .int .i64 yx_155, .int .i64 yx_156, .float .f64 yf_157, .slice ya_158 yn_158 yc_158, .int .u8 yx_159, .int .i64 yx_160, .int .i64 yx_161], .float .f64 yf_164] w153 fun yv165 u166 =>
                                                                          ∃ yx_167 : Int, yv165 = .int .u8 yx_167 ∧
                                                                            (onBool (yx_167 == 0)
                                                                              (R (.bool false) u166)
                                                                              (onBool (yx_167 == 1)
                                                                                (nv (IntKind.i64.wrap (x12 + 1)) fun t168 =>
                                                                                optN a5 fun q169 =>
                                                                                chk ((0 : Int) ≤ t168 ∧ t168 < (n5 : Int))
                                                                                  (∃ yx_170 : Int, u166.cell? (q169.add (t168.toNat * 1)) = some (.int .i64 yx_170) ∧
                                                                                    (∃ yx_171 : Int, u166.cell? (q144.add 6) = some (.int .i64 yx_171) ∧
                                                                                      (onBool (yx_170 != yx_171)
                                                                                        (R (.bool false) u166)
                                                                                        (onBool (yx_167 != 1)
                                                                                          (nv (IntKind.i64.wrap (x12 + 1)) fun t172 =>
                                                                                          optN a5 fun q173 =>
                                                                                          chk ((0 : Int) ≤ t172 ∧ t172 < (n5 : Int))
                                                                                            (∃ yx_174 : Int, u166.cell? (q173.add (t172.toNat * 1)) = some (.int .i64 yx_174) ∧
                                                                                              (∃ yx_175 : Int, u166.cell? (q144.add 7) = some (.int .i64 yx_175) ∧
                                                                                                (onBool (yx_174 != yx_175)
                                                                                                  (R (.bool false) u166)
                                                                                                  (nv (IntKind.i64.wrap (x12 + 1)) fun t176 =>
                                                                                                  b36 a1 n1 c1 p2 a5 n5 c5 x7 x8 a10 n10 c10 t176 u166)))))
                                                                                          (nv (IntKind.i64.wrap (x12 + 1)) fun t177 =>
                                                                                          b36 a1 n1 c1 p2 a5 n5 c5 x7 x8 a10 n10 c10 t177 u166))))))
                                                                                (onBool (yx_167 != 1)
                                                                                  (nv (IntKind.i64.wrap (x12 + 1)) fun t178 =>
                                                                                  optN a5 fun q179 =>
                                                                                  chk ((0 : Int) ≤ t178 ∧ t178 < (n5 : Int))
                                                                                    (∃ yx_180 : Int, u166.cell? (q179.add (t178.toNat * 1)) = some (.int .i64 yx_180) ∧
                                                                                      (∃ yx_181 : Int, u166.cell? (q144.add 7) = some (.int .i64 yx_181) ∧
                                                                                        (onBool (yx_180 != yx_181)
                                                                                          (R (.bool false) u166)
                                                                                          (nv (IntKind.i64.wrap (x12 + 1)) fun t182 =>
                                                                                          b36 a1 n1 c1 p2 a5 n5 c5 x7 x8 a10 n10 c10 t182 u166)))))
                                                                                  (nv (IntKind.i64.wrap (x12 + 1)) fun t183 =>
                                                                                  b36 a1 n1 c1 p2 a5 n5 c5 x7 x8 a10 n10 c10 t183 u166))))))))))))))))))))))))))))))))))))))
    (∃ F184 : Nat → Value → World → Prop, (∀ i v u u', F184 i v u → Below u.heap.size u u' → F184 i v u') ∧
      (optN p2 fun q185 =>
      ∃ ya_186 : Option Addr, ∃ yn_186 : Nat, ∃ yc_186 : Nat, w.cell? (q185.add 1) = some (.slice ya_186 yn_186 yc_186) ∧
        (nv (IntKind.i64.wrap ((n5 : Int) - 1)) fun t187 =>
        optN a5 fun q188 =>
        chk ((0 : Int) ≤ t187 ∧ t187 < (n5 : Int))
          (∃ yx_189 : Int, w.cell? (q188.add (t187.toNat * 1)) = some (.int .i64 yx_189) ∧
            (optN ya_186 fun q190 =>
            chk ((0 : Int) ≤ yx_189 ∧ yx_189 < (yn_186 : Int))
              (∃ yx_191 : Int, w.cell? ((q190.add (yx_189.toNat * 8)).add 0) = some (.int .u8 yx_191) ∧
                (∃ yx_192 : Int, w.cell? ((q190.add (yx_189.toNat * 8)).add 1) = some (.int .i64 yx_192) ∧
                  (∃ yx_193 : Int, w.cell? ((q190.add (yx_189.toNat * 8)).add 2) = some (.int .i64 yx_193) ∧
                    (∃ yf_194 : Nat, w.cell? ((q190.add (yx_189.toNat * 8)).add 3) = some (.float .f64 yf_194) ∧
                      (∃ ya_195 : Option Addr, ∃ yn_195 : Nat, ∃ yc_195 : Nat, w.cell? ((q190.add (yx_189.toNat * 8)).add 4) = some (.slice ya_195 yn_195 yc_195) ∧
                        (∃ yx_196 : Int, w.cell? ((q190.add (yx_189.toNat * 8)).add 5) = some (.int .u8 yx_196) ∧
                          (∃ yx_197 : Int, w.cell? ((q190.add (yx_189.toNat * 8)).add 6) = some (.int .i64 yx_197) ∧
                            (∃ yx_198 : Int, w.cell? ((q190.add (yx_189.toNat * 8)).add 7) = some (.int .i64 yx_198) ∧
                              ((∀ u199 : World, Below w.heap.size w u199 → F184 10 (.pointer (some (na u199))) (u199.alloc (.cells #[.int .u8 0, .int .i64 0, .int .i64 0, .float .f64 0, .slice none 0 0, .int .u8 0, .int .i64 0, .int .i64 0] 27))) ∧
                                (∀ q200 : Addr, (∃ u, Below w.heap.size w u ∧ F184 10 (.pointer (some q200)) u) →
                                ∀ u201 : World, Below w.heap.size w u201 → F184 10 (.pointer (some q200)) u201 → 
                                  okSt u201 (q200.add 0) ∧
                                    (nw (u201.setCell (q200.add 0) (.int .u8 yx_191)) fun w202 =>
                                    okSt w202 (q200.add 1) ∧
                                      (nw (w202.setCell (q200.add 1) (.int .i64 yx_192)) fun w203 =>
                                      okSt w203 (q200.add 2) ∧
                                        (nw (w203.setCell (q200.add 2) (.int .i64 yx_193)) fun w204 =>
                                        okSt w204 (q200.add 3) ∧
                                          (nw (w204.setCell (q200.add 3) (.float .f64 yf_194)) fun w205 =>
                                          okSt w205 (q200.add 4) ∧
                                            (nw (w205.setCell (q200.add 4) (.slice ya_195 yn_195 yc_195)) fun w206 =>
                                            okSt w206 (q200.add 5) ∧
                                              (nw (w206.setCell (q200.add 5) (.int .u8 yx_196)) fun w207 =>
                                              okSt w207 (q200.add 6) ∧
                                                (nw (w207.setCell (q200.add 6) (.int .i64 yx_197)) fun w208 =>
                                                okSt w208 (q200.add 7) ∧
                                                  (nw (w208.setCell (q200.add 7) (.int .i64 yx_198)) fun w209 =>
                                                  ∃ yx_210 : Int, w209.cell? (q200.add 0) = some (.int .u8 yx_210) ∧
                                                    (onBool (yx_210 != 1)
                                                      (R (.bool false) w209)
                                                      (optN a10 fun q211 =>
                                                      chk ((0 : Int) ≤ x7 ∧ x7 < (n10 : Int))
                                                        (∃ yx_212 : Int, w209.cell? (q211.add (x7.toNat * 1)) = some (.int .i64 yx_212) ∧
                                                          (nv (IntKind.i64.wrap ((n5 : Int) - 1)) fun t213 =>
                                                          optN a5 fun q214 =>
                                                          chk ((0 : Int) ≤ t213 ∧ t213 < (n5 : Int))
                                                            (∃ yx_215 : Int, w209.cell? (q214.add (t213.toNat * 1)) = some (.int .i64 yx_215) ∧
                                                              (onBool (yx_212 != yx_215)
                                                                (R (.bool false) w209)
                                                                (∃ yx_216 : Int, w209.cell? (q200.add 1) = some (.int .i64 yx_216) ∧
                                                                  (onBool (yx_216 != x8)
                                                                    (R (.bool false) w209)
                                                                    (optN p2 fun q217 =>
                                                                    ∃ yx_218 : Int, w209.cell? (q217.add 0) = some (.int .i64 yx_218) ∧
                                                                      (∃ ya_219 : Option Addr, ∃ yn_219 : Nat, ∃ yc_219 : Nat, w209.cell? (q217.add 1) = some (.slice ya_219 yn_219 yc_219) ∧
                                                                        (Go.E.CallsD Go.Proofs.Try.prog 37 #[.agg #[.int .i64 yx_218, .slice ya_219 yn_219 yc_219]] w209 fun yv220 u221 =>
                                                                          ∃ yx_222_0_0 : Int, ∃ ya_222_0_1 : Option Addr, ∃ yn_222_0_1 : Nat, ∃ yc_222_0_1 : Nat, ∃ yx_222_1 : Int, yv220 = .tuple #[.agg #[.int .i64 yx_222_0_0, .slice ya_222_0_1 yn_222_0_1 yc_222_0_1], .int .i64 yx_222_1] ∧
                                                                            (nw (u221.alloc (.cells #[.int .i64 0, .slice none 0 0] 33)) fun w223 =>
                                                                            okSt w223 ((na u221).add 0) ∧
                                                                              (nw (w223.setCell ((na u221).add 0) (.int .i64 yx_222_0_0)) fun w224 =>
                                                                              okSt w224 ((na u221).add 1) ∧
                                                                                (nw (w224.setCell ((na u221).add 1) (.slice ya_222_0_1 yn_222_0_1 yc_222_0_1)) fun w225 =>
                                                                                onBool (yx_222_1 != 0)
                                                                                  (R (.bool false) w225)
                                                                                  (∃ yx_226 : Int, w225.cell? ((na u221).add 0) = some (.int .i64 yx_226) ∧
                                                                                    (∃ ya_227 : Option Addr, ∃ yn_227 : Nat, ∃ yc_227 : Nat, w225.cell? ((na u221).add 1) = some (.slice ya_227 yn_227 yc_227) ∧
                                                                                      (Go.E.CallsD Go.Proofs.Try.prog 17 #[.agg #[.int .i64 yx_226, .slice ya_227 yn_227 yc_227], .slice a1 n1 c1] w225 fun yv228 u229 =>
                                                                                        ∃ yx_230_0 : Int, ∃ yx_230_1 : Int, ∃ yx_230_2 : Int, yv228 = .tuple #[.int .i64 yx_230_0, .int .i64 yx_230_1, .int .i64 yx_230_2] ∧
                                                                                          (∃ yx_231 : Int, u229.cell? ((na u221).add 0) = some (.int .i64 yx_231) ∧
                                                                                            (∃ ya_232 : Option Addr, ∃ yn_232 : Nat, ∃ yc_232 : Nat, u229.cell? ((na u221).add 1) = some (.slice ya_232 yn_232 yc_232) ∧
                                                                                              (Go.E.CallsD Go.Proofs.Try.prog 37 #[.agg #[.int .i64 yx_231, .slice ya_232 yn_232 yc_232]] u229 fun yv233 u234 =>
                                                                                                ∃ yx_235_0_0 : Int, ∃ ya_235_0_1 : Option Addr, ∃ yn_235_0_1 : Nat, ∃ yc_235_0_1 : Nat, ∃ yx_235_1 : Int, yv233 = .tuple #[.agg #[.int .i64 yx_235_0_0, .slice ya_235_0_1 yn_235_0_1 yc_235_0_1], .int .i64 yx_235_1] ∧
                                                                                                  (nw (u234.alloc (.cells #[.int .i64 0, .slice none 0 0] 33)) fun w236 =>
                                                                                                  okSt w236 ((na u234).add 0) ∧
                                                                                                    (nw (w236.setCell ((na u234).add 0) (.int .i64 yx_235_0_0)) fun w237 =>
                                                                                                    okSt w237 ((na u234).add 1) ∧
                                                                                                      (nw (w237.setCell ((na u234).add 1) (.slice ya_235_0_1 yn_235_0_1 yc_235_0_1)) fun w238 =>
                                                                                                      onBool (yx_230_2 == 0)
                                                                                                        (onBool (yx_235_1 == 0)
                                                                                                          (onBool (yx_230_0 == x7)
                                                                                                            (onBool (yx_230_1 == x8)
                                                                                                              (∃ yx_239 : Int, w238.cell? ((na u221).add 0) = some (.int .i64 yx_239) ∧
                                                                                                                (∃ ya_240 : Option Addr, ∃ yn_240 : Nat, ∃ yc_240 : Nat, w238.cell? ((na u221).add 1) = some (.slice ya_240 yn_240 yc_240) ∧
                                                                                                                  (∃ yx_241 : Int, w238.cell? ((na u234).add 0) = some (.int .i64 yx_241) ∧
                                                                                                                    (∃ ya_242 : Option Addr, ∃ yn_242 : Nat, ∃ yc_242 : Nat, w238.cell? ((na u234).add 1) = some (.slice ya_242 yn_242 yc_242) ∧
                                                                                                                      (Go.E.CallsD Go.Proofs.Try.prog 38 #[.agg #[.int .i64 yx_239, .slice ya_240 yn_240 yc_240], .agg #[.int .i64 yx_241, .slice ya_242 yn_242 yc_242]] w238 fun yv243 u244 =>
                                                                                                                        ∃ yb_245 : Bool, yv243 = .bool yb_245 ∧
                                                                                                                          (onBool yb_245
                                                                                                                            (∃ ya_246 : Option Addr, ∃ yn_246 : Nat, ∃ yc_246 : Nat, u244.cell? ((na u221).add 1) = some (.slice ya_246 yn_246 yc_246) ∧
                                                                                                                              (optN p2 fun q247 =>
                                                                                                                              ∃ ya_248 : Option Addr, ∃ yn_248 : Nat, ∃ yc_248 : Nat, u244.cell? (q247.add 1) = some (.slice ya_248 yn_248 yc_248) ∧
                                                                                                                                (R (.bool ((yn_246 : Int) == (yn_248 : Int))) u244)))
                                                                                                                            (R (.bool false) u244)))))))
                                                                                                              (R (.bool false) w238))
                                                                                                            (R (.bool false) w238))
                                                                                                          (R (.bool false) w238))
                                                                                                        (R (.bool false) w238)))))))))))))))))))))))))))))))))))))))))))))))
def thicketlaw07_TreesOne.q2 (R : Value → World → Prop) : Exit → Act → World → Prop := (fin Go.Proofs.Try.prog Go.Proofs.Try.f9 R)
def thicketlaw07_TreesOne.q10 (R : Value → World → Prop) : Exit → Act → World → Prop := (thicketlaw07_TreesOne.q2 R)
def thicketlaw07_TreesOne.q12 (R : Value → World → Prop) : Exit → Act → World → Prop := (thicketlaw07_TreesOne.q10 R)
def thicketlaw07_TreesOne.q14 (R : Value → World → Prop) : Exit → Act → World → Prop := (thicketlaw07_TreesOne.q12 R)
def thicketlaw07_TreesOne.q22 (R : Value → World → Prop) : Exit → Act → World → Prop := (thicketlaw07_TreesOne.q14 R)
def thicketlaw07_TreesOne.q24 (R : Value → World → Prop) : Exit → Act → World → Prop := (thicketlaw07_TreesOne.q22 R)
def thicketlaw07_TreesOne.q32 (R : Value → World → Prop) : Exit → Act → World → Prop := (thicketlaw07_TreesOne.q24 R)
def thicketlaw07_TreesOne.q33 (R : Value → World → Prop) : Exit → Act → World → Prop := Exit.then (startN none (codeN Go.Proofs.Try.prog (sub (codeOf Go.Proofs.Try.f9) [1, 1, 1, 1, 1, 1, 1, 1]) (nsub thicketlaw07_TreesOne.an [1, 1, 1, 1, 1, 1, 1, 1]) (thicketlaw07_TreesOne.q32 R))) (thicketlaw07_TreesOne.q32 R)
def thicketlaw07_TreesOne.q35 (R : Value → World → Prop) : Exit → Act → World → Prop := (thicketlaw07_TreesOne.q33 R)
def thicketlaw07_TreesOne.q36 (R : Value → World → Prop) : Exit → Act → World → Prop := Exit.inBlock 0 (thicketlaw07_TreesOne.q35 R)
def thicketlaw07_TreesOne.rl36 (R : Value → World → Prop) (k : Nat) (a1 : Option Addr) (n1 : Nat) (c1 : Nat) (p2 : Option Addr) (a5 : Option Addr) (n5 : Nat) (c5 : Nat) (x7 : Int) (x8 : Int) (a10 : Option Addr) (n10 : Nat) (c10 : Nat) (x12 : Int) (w : World) : Prop := loopN [1, 2, 5, 7, 8, 10, 12] (codeN Go.Proofs.Try.prog (sub (codeOf Go.Proofs.Try.f9) [1, 1, 1, 1, 1, 1, 1, 0, 1, 0, 0]) (nsub thicketlaw07_TreesOne.an [1, 1, 1, 1, 1, 1, 1, 0, 1, 0, 0])) (thicketlaw07_TreesOne.q36 R) k ⟨#[undef, .slice a1 n1 c1, .pointer p2, undef, undef, .slice a5 n5 c5, undef, .int .i64 x7, .int .i64 x8, undef, .slice a10 n10 c10, undef, .int .i64 x12, undef, undef, undef, undef, undef, undef, undef, undef, undef, undef, undef, undef, undef, undef, undef, undef, undef, undef, undef, undef, undef, undef, undef, undef, undef, undef, undef, undef, undef, undef, undef, undef, undef, undef, undef, undef, undef, undef, undef, undef, undef, undef, undef, undef, undef, undef, undef, undef, undef, undef, undef, undef, undef, undef, undef, undef, undef, undef, undef, undef, undef, undef, undef, undef, undef, undef, undef, undef, undef, undef, undef, undef, undef, undef, undef, undef, undef, undef, undef, undef, undef, undef, undef, undef, undef, undef, undef, undef, undef, undef, undef, undef, undef, undef, undef, undef, undef, undef, undef, undef, undef, undef, undef, undef, undef, undef, undef, undef, undef, undef, undef, undef, undef, undef, undef, undef, undef, undef, undef, undef, undef, undef, undef, undef, undef, undef, undef, undef, undef, undef, undef, undef, undef, undef, undef, undef, undef, undef, undef, undef, undef, undef, undef, undef, undef, undef, undef, undef, undef, undef, undef, undef, undef, undef, undef, undef, undef, undef, undef, undef, undef, undef, undef, undef, undef, undef, undef, undef, undef, undef, undef, undef, undef, undef, undef, undef, undef, undef, undef, undef, undef, undef, undef, undef, undef, undef, undef, undef, undef, undef, undef, undef, undef, undef, undef, undef, undef], []⟩ w
def thicketlaw07_TreesOne.re36 (R : Value → World → Prop) (a1 : Option Addr) (n1 : Nat) (c1 : Nat) (p2 : Option Addr) (a5 : Option Addr) (n5 : Nat) (c5 : Nat) (x7 : Int) (x8 : Int) (a10 : Option Addr) (n10 : Nat) (c10 : Nat) (x12 : Int) (w : World) : Prop := ∃ k, thicketlaw07_TreesOne.rl36 R k a1 n1 c1 p2 a5 n5 c5 x7 x8 a10 n10 c10 x12 w
def thicketlaw07_TreesOne.l36 (R : Value → World → Prop) : Nat → (Option Addr) → Nat → Nat → (Option Addr) → (Option Addr) → Nat → Nat → Int → Int → (Option Addr) → Nat → Nat → Int → World → Prop
  | 0, _, _, _, _, _, _, _, _, _, _, _, _, _, _ => False
  | k + 1, a1, n1, c1, p2, a5, n5, c5, x7, x8, a10, n10, c10, x12, w => thicketlaw07_TreesOne.g36 R (thicketlaw07_TreesOne.l36 R k) a1 n1 c1 p2 a5 n5 c5 x7 x8 a10 n10 c10 x12 w
def thicketlaw07_TreesOne.e36 (R : Value → World → Prop) (a1 : Option Addr) (n1 : Nat) (c1 : Nat) (p2 : Option Addr) (a5 : Option Addr) (n5 : Nat) (c5 : Nat) (x7 : Int) (x8 : Int) (a10 : Option Addr) (n10 : Nat) (c10 : Nat) (x12 : Int) (w : World) : Prop := ∃ k, thicketlaw07_TreesOne.l36 R k a1 n1 c1 p2 a5 n5 c5 x7 x8 a10 n10 c10 x12 w
theorem thicketlaw07_TreesOne.s36 (R : Value → World → Prop) (k : Nat) (a1 : Option Addr) (n1 : Nat) (c1 : Nat) (p2 : Option Addr) (a5 : Option Addr) (n5 : Nat) (c5 : Nat) (x7 : Int) (x8 : Int) (a10 : Option Addr) (n10 : Nat) (c10 : Nat) (x12 : Int) (w : World) : thicketlaw07_TreesOne.rl36 R (k + 1) a1 n1 c1 p2 a5 n5 c5 x7 x8 a10 n10 c10 x12 w = ∀ _ : Nat → Value, thicketlaw07_TreesOne.g36 R (thicketlaw07_TreesOne.rl36 R k) a1 n1 c1 p2 a5 n5 c5 x7 x8 a10 n10 c10 x12 w := by kernel_rfl
theorem thicketlaw07_TreesOne.lq36 (R : Value → World → Prop) : ∀ k, thicketlaw07_TreesOne.l36 R k = thicketlaw07_TreesOne.rl36 R k
  | 0 => by funext a1 n1 c1 p2 a5 n5 c5 x7 x8 a10 n10 c10 x12 w; first | rfl | kernel_rfl
  | k + 1 => by
    funext a1 n1 c1 p2 a5 n5 c5 x7 x8 a10 n10 c10 x12 w
    rw [thicketlaw07_TreesOne.s36, forall_const]
    unfold thicketlaw07_TreesOne.l36
    have ih := thicketlaw07_TreesOne.lq36 R k
    rw [ih]
    all_goals rfl
theorem thicketlaw07_TreesOne.eq36 (R : Value → World → Prop) : thicketlaw07_TreesOne.e36 R = thicketlaw07_TreesOne.re36 R := by
  funext a1 n1 c1 p2 a5 n5 c5 x7 x8 a10 n10 c10 x12 w
  unfold thicketlaw07_TreesOne.e36 thicketlaw07_TreesOne.re36
  simp only [thicketlaw07_TreesOne.lq36 R]
def thicketlaw07_TreesOne (R : Value → World → Prop) (x0_0 : Int) (a0_1 : Option Addr) (n0_1 : Nat) (c0_1 : Nat) (a1 : Option Addr) (n1 : Nat) (c1 : Nat) (w : World) : Prop := thicketlaw07_TreesOne.g0 R (thicketlaw07_TreesOne.e36 R) x0_0 a0_1 n0_1 c0_1 a1 n1 c1 w
theorem thicketlaw07_TreesOne.root0 (R : Value → World → Prop) (x0_0 : Int) (a0_1 : Option Addr) (n0_1 : Nat) (c0_1 : Nat) (a1 : Option Addr) (n1 : Nat) (c1 : Nat) (w : World) : fnN Go.Proofs.Try.prog Go.Proofs.Try.f9 thicketlaw07_TreesOne.an #[.agg #[.int .i64 x0_0, .slice a0_1 n0_1 c0_1], .slice a1 n1 c1] w R = thicketlaw07_TreesOne.g0 R (thicketlaw07_TreesOne.re36 R) x0_0 a0_1 n0_1 c0_1 a1 n1 c1 w := by kernel_rfl
theorem thicketlaw07_TreesOne.calls {R : Value → World → Prop} {x0_0 : Int} {a0_1 : Option Addr} {n0_1 : Nat} {c0_1 : Nat} {a1 : Option Addr} {n1 : Nat} {c1 : Nat} {w : World} (h : thicketlaw07_TreesOne R x0_0 a0_1 n0_1 c0_1 a1 n1 c1 w) : Go.E.CallsD Go.Proofs.Try.prog 9 #[.agg #[.int .i64 x0_0, .slice a0_1 n0_1 c0_1], .slice a1 n1 c1] w R := by
  refine callsD_of (n := thicketlaw07_TreesOne.an) M_follows M_sizes Go.Proofs.Try.func9 (by rfl) ?_
  rw [thicketlaw07_TreesOne.root0]
  unfold thicketlaw07_TreesOne at h
  rw [thicketlaw07_TreesOne.eq36 R] at h
  exact h
end Go.Mir
