/- Part of a proof of laws of the seat YtpllehijaidinaaDoor: functions' weakest preconditions, each checked by the kernel, contracts out of them, plain lemmas; no conditions. -/
import Derived.Test.YtpllehijaidinaaDoorKM0
set_option linter.unusedVariables false
set_option linter.unusedSimpArgs false
set_option linter.unusedVariables false
set_option maxRecDepth 100000
namespace Go.Mir
open Go Go.E Go.RowKit
-- thicket/thicketlaw13.MaskNested
def thicketlaw13_MaskNested.an : An := (.mk none .nil (.mk none .nil (.mk none .nil (.mk none .nil (.mk none .nil (.mk none .nil (.mk none .nil (.mk none (.mk none .nil (.mk none (.mk (some [1, 3, 5, 7, 52, 53, 54]) (.mk none .nil (.mk none .nil (.mk none (.mk none (.mk none .nil (.mk none .nil (.mk none (.mk none .nil (.mk none (.mk (some [1, 3, 5, 7, 10, 52, 53, 54, 87, 88, 89]) .nil .nil) .nil)) .nil))) .nil) .nil))) .nil) .nil)) .nil))))))))
def thicketlaw13_MaskNested.g0 (R : Value → World → Prop) (e36 : (Option Addr) → (Option Addr) → Nat → Nat → (Option Addr) → Nat → Nat → (Option Addr) → Nat → Nat → (Option Addr) → Nat → Nat → Int → Int → World → Prop) (x0_0 : Int) (a0_1 : Option Addr) (n0_1 : Nat) (c0_1 : Nat) (w : World) : Prop :=
  nw (w.alloc (.cells #[.int .i64 x0_0, .slice a0_1 n0_1 c0_1] 24)) fun w126 =>
  Go.E.CallsD Go.Proofs.Tryd.prog 15 #[] w126 fun yv127 u128 =>
    ∃ yb_129 : Bool, yv127 = .bool yb_129 ∧
      (onBool (!yb_129)
        (R (.bool false) u128)
        (∃ yx_130 : Int, u128.cell? ((na w).add 0) = some (.int .i64 yx_130) ∧
          (∃ ya_131 : Option Addr, ∃ yn_131 : Nat, ∃ yc_131 : Nat, u128.cell? ((na w).add 1) = some (.slice ya_131 yn_131 yc_131) ∧
            (Go.E.CallsD Go.Proofs.Tryd.prog 18 #[.agg #[.int .i64 yx_130, .slice ya_131 yn_131 yc_131]] u128 fun yv132 u133 =>
              ∃ ya_134_0 : Option Addr, ∃ yn_134_0 : Nat, ∃ yc_134_0 : Nat, ∃ yx_134_1 : Int, yv132 = .tuple #[.slice ya_134_0 yn_134_0 yc_134_0, .int .i64 yx_134_1] ∧
                (onBool (yx_134_1 != 0)
                  (R (.bool ((yn_134_0 : Int) == 0)) u133)
                  (∃ yx_135 : Int, u133.cell? ((na w).add 0) = some (.int .i64 yx_135) ∧
                    (∃ ya_136 : Option Addr, ∃ yn_136 : Nat, ∃ yc_136 : Nat, u133.cell? ((na w).add 1) = some (.slice ya_136 yn_136 yc_136) ∧
                      (Go.E.CallsD Go.Proofs.Tryd.prog 19 #[.agg #[.int .i64 yx_135, .slice ya_136 yn_136 yc_136]] u133 fun yv137 u138 =>
                        ∃ ya_139_0 : Option Addr, ∃ yn_139_0 : Nat, ∃ yc_139_0 : Nat, ∃ yx_139_1 : Int, yv137 = .tuple #[.slice ya_139_0 yn_139_0 yc_139_0, .int .i64 yx_139_1] ∧
                          (∃ yx_140 : Int, u138.cell? ((na w).add 0) = some (.int .i64 yx_140) ∧
                            (∃ ya_141 : Option Addr, ∃ yn_141 : Nat, ∃ yc_141 : Nat, u138.cell? ((na w).add 1) = some (.slice ya_141 yn_141 yc_141) ∧
                              (Go.E.CallsD Go.Proofs.Tryd.prog 20 #[.agg #[.int .i64 yx_140, .slice ya_141 yn_141 yc_141]] u138 fun yv142 u143 =>
                                ∃ ya_144_0 : Option Addr, ∃ yn_144_0 : Nat, ∃ yc_144_0 : Nat, ∃ yx_144_1 : Int, yv142 = .tuple #[.slice ya_144_0 yn_144_0 yc_144_0, .int .i64 yx_144_1] ∧
                                  (onBool ((yn_134_0 : Int) != (yn_144_0 : Int))
                                    (R (.bool false) u143)
                                    (nv (IntKind.i64.wrap ((yn_144_0 : Int) + 1)) fun t145 =>
                                    onBool ((yn_139_0 : Int) != t145)
                                      (R (.bool false) u143)
                                      (e36 (some (na w)) ya_134_0 yn_134_0 yc_134_0 ya_139_0 yn_139_0 yc_139_0 ya_144_0 yn_144_0 yc_144_0 ya_134_0 yn_134_0 yc_134_0 (yn_134_0 : Int) 0 u143))))))))))))))
def thicketlaw13_MaskNested.g36 (R : Value → World → Prop) (e59 : (Option Addr) → (Option Addr) → Nat → Nat → (Option Addr) → Nat → Nat → (Option Addr) → Nat → Nat → (Option Addr) → (Option Addr) → Nat → Nat → Int → Int → (Option Addr) → Nat → Nat → Int → Int → World → Prop) (p1 : Option Addr) (a3 : Option Addr) (n3 : Nat) (c3 : Nat) (a5 : Option Addr) (n5 : Nat) (c5 : Nat) (a7 : Option Addr) (n7 : Nat) (c7 : Nat) (a52 : Option Addr) (n52 : Nat) (c52 : Nat) (x53 : Int) (x54 : Int) (w : World) : Prop :=
  onBool (decide (x54 < x53))
    (optN a52 fun q146 =>
    chk ((0 : Int) ≤ x54 ∧ x54 < (n52 : Int))
      (∃ yx_147 : Int, w.cell? ((q146.add (x54.toNat * 3)).add 0) = some (.int .i64 yx_147) ∧
        (∃ yx_148 : Int, w.cell? ((q146.add (x54.toNat * 3)).add 1) = some (.int .i64 yx_148) ∧
          (∃ yx_149 : Int, w.cell? ((q146.add (x54.toNat * 3)).add 2) = some (.int .i64 yx_149) ∧
            (nw (w.alloc (.cells #[.int .i64 0, .int .i64 0, .int .i64 0] 44)) fun w150 =>
            okSt w150 ((na w).add 0) ∧
              (nw (w150.setCell ((na w).add 0) (.int .i64 yx_147)) fun w151 =>
              okSt w151 ((na w).add 1) ∧
                (nw (w151.setCell ((na w).add 1) (.int .i64 yx_148)) fun w152 =>
                okSt w152 ((na w).add 2) ∧
                  (nw (w152.setCell ((na w).add 2) (.int .i64 yx_149)) fun w153 =>
                  ∃ yx_154 : Int, w153.cell? ((na w).add 0) = some (.int .i64 yx_154) ∧
                    (optN a7 fun q155 =>
                    chk ((0 : Int) ≤ x54 ∧ x54 < (n7 : Int))
                      (∃ yx_156 : Int, w153.cell? (q155.add (x54.toNat * 1)) = some (.int .i64 yx_156) ∧
                        (onBool (yx_154 != yx_156)
                          (R (.bool false) w153)
                          (∃ yx_157 : Int, w153.cell? ((na w).add 1) = some (.int .i64 yx_157) ∧
                            (onBool (decide (yx_157 < 0))
                              (R (.bool false) w153)
                              (∃ yx_158 : Int, w153.cell? ((na w).add 1) = some (.int .i64 yx_158) ∧
                                (∃ yx_159 : Int, w153.cell? ((na w).add 2) = some (.int .i64 yx_159) ∧
                                  (onBool (decide (yx_158 ≥ yx_159))
                                    (R (.bool false) w153)
                                    (∃ yx_160 : Int, w153.cell? ((na w).add 2) = some (.int .i64 yx_160) ∧
                                      (onBool (decide (yx_160 ≥ (n5 : Int)))
                                        (R (.bool false) w153)
                                        (chk ((0 : Int) ≤ x54 ∧ x54 ≤ (c3 : Int))
                                          (e59 p1 a3 n3 c3 a5 n5 c5 a7 n7 c7 (some (na w)) a52 n52 c52 x53 x54 (slA a3 c3 0 3) x54.toNat c3 (x54.toNat : Int) 0 w153))))))))))))))))))))
    (R (.bool true) w)
def thicketlaw13_MaskNested.g59 (R : Value → World → Prop) (b36 : (Option Addr) → (Option Addr) → Nat → Nat → (Option Addr) → Nat → Nat → (Option Addr) → Nat → Nat → (Option Addr) → Nat → Nat → Int → Int → World → Prop) (b59 : (Option Addr) → (Option Addr) → Nat → Nat → (Option Addr) → Nat → Nat → (Option Addr) → Nat → Nat → (Option Addr) → (Option Addr) → Nat → Nat → Int → Int → (Option Addr) → Nat → Nat → Int → Int → World → Prop) (p1 : Option Addr) (a3 : Option Addr) (n3 : Nat) (c3 : Nat) (a5 : Option Addr) (n5 : Nat) (c5 : Nat) (a7 : Option Addr) (n7 : Nat) (c7 : Nat) (p10 : Option Addr) (a52 : Option Addr) (n52 : Nat) (c52 : Nat) (x53 : Int) (x54 : Int) (a87 : Option Addr) (n87 : Nat) (c87 : Nat) (x88 : Int) (x89 : Int) (w : World) : Prop :=
  onBool (decide (x89 < x88))
    (optN a87 fun q161 =>
    chk ((0 : Int) ≤ x89 ∧ x89 < (n87 : Int))
      (∃ yx_162 : Int, w.cell? ((q161.add (x89.toNat * 3)).add 0) = some (.int .i64 yx_162) ∧
        (∃ yx_163 : Int, w.cell? ((q161.add (x89.toNat * 3)).add 1) = some (.int .i64 yx_163) ∧
          (∃ yx_164 : Int, w.cell? ((q161.add (x89.toNat * 3)).add 2) = some (.int .i64 yx_164) ∧
            (nw (w.alloc (.cells #[.int .i64 0, .int .i64 0, .int .i64 0] 44)) fun w165 =>
            okSt w165 ((na w).add 0) ∧
              (nw (w165.setCell ((na w).add 0) (.int .i64 yx_162)) fun w166 =>
              okSt w166 ((na w).add 1) ∧
                (nw (w166.setCell ((na w).add 1) (.int .i64 yx_163)) fun w167 =>
                okSt w167 ((na w).add 2) ∧
                  (nw (w167.setCell ((na w).add 2) (.int .i64 yx_164)) fun w168 =>
                  optN p10 fun q169 =>
                  ∃ yx_170 : Int, w168.cell? (q169.add 1) = some (.int .i64 yx_170) ∧
                    (∃ yx_171 : Int, w168.cell? ((na w).add 1) = some (.int .i64 yx_171) ∧
                      (onBool (decide (yx_170 < yx_171))
                        (optN p10 fun q172 =>
                        ∃ yx_173 : Int, w168.cell? (q172.add 2) = some (.int .i64 yx_173) ∧
                          (∃ yx_174 : Int, w168.cell? ((na w).add 1) = some (.int .i64 yx_174) ∧
                            (onBool (decide (yx_173 > yx_174))
                              (optN p10 fun q175 =>
                              ∃ yx_176 : Int, w168.cell? (q175.add 2) = some (.int .i64 yx_176) ∧
                                (∃ yx_177 : Int, w168.cell? ((na w).add 2) = some (.int .i64 yx_177) ∧
                                  (onBool (decide (yx_176 < yx_177))
                                    (R (.bool false) w168)
                                    (∃ yx_178 : Int, w168.cell? ((na w).add 1) = some (.int .i64 yx_178) ∧
                                      (optN p10 fun q179 =>
                                      ∃ yx_180 : Int, w168.cell? (q179.add 1) = some (.int .i64 yx_180) ∧
                                        (onBool (decide (yx_178 < yx_180))
                                          (∃ yx_181 : Int, w168.cell? ((na w).add 2) = some (.int .i64 yx_181) ∧
                                            (optN p10 fun q182 =>
                                            ∃ yx_183 : Int, w168.cell? (q182.add 1) = some (.int .i64 yx_183) ∧
                                              (onBool (decide (yx_181 > yx_183))
                                                (∃ yx_184 : Int, w168.cell? ((na w).add 2) = some (.int .i64 yx_184) ∧
                                                  (optN p10 fun q185 =>
                                                  ∃ yx_186 : Int, w168.cell? (q185.add 2) = some (.int .i64 yx_186) ∧
                                                    (onBool (decide (yx_184 < yx_186))
                                                      (R (.bool false) w168)
                                                      (nv (IntKind.i64.wrap (x89 + 1)) fun t187 =>
                                                      b59 p1 a3 n3 c3 a5 n5 c5 a7 n7 c7 p10 a52 n52 c52 x53 x54 a87 n87 c87 x88 t187 w168))))
                                                (nv (IntKind.i64.wrap (x89 + 1)) fun t188 =>
                                                b59 p1 a3 n3 c3 a5 n5 c5 a7 n7 c7 p10 a52 n52 c52 x53 x54 a87 n87 c87 x88 t188 w168))))
                                          (nv (IntKind.i64.wrap (x89 + 1)) fun t189 =>
                                          b59 p1 a3 n3 c3 a5 n5 c5 a7 n7 c7 p10 a52 n52 c52 x53 x54 a87 n87 c87 x88 t189 w168)))))))
                              (∃ yx_190 : Int, w168.cell? ((na w).add 1) = some (.int .i64 yx_190) ∧
                                (optN p10 fun q191 =>
                                ∃ yx_192 : Int, w168.cell? (q191.add 1) = some (.int .i64 yx_192) ∧
                                  (onBool (decide (yx_190 < yx_192))
                                    (∃ yx_193 : Int, w168.cell? ((na w).add 2) = some (.int .i64 yx_193) ∧
                                      (optN p10 fun q194 =>
                                      ∃ yx_195 : Int, w168.cell? (q194.add 1) = some (.int .i64 yx_195) ∧
                                        (onBool (decide (yx_193 > yx_195))
                                          (∃ yx_196 : Int, w168.cell? ((na w).add 2) = some (.int .i64 yx_196) ∧
                                            (optN p10 fun q197 =>
                                            ∃ yx_198 : Int, w168.cell? (q197.add 2) = some (.int .i64 yx_198) ∧
                                              (onBool (decide (yx_196 < yx_198))
                                                (R (.bool false) w168)
                                                (nv (IntKind.i64.wrap (x89 + 1)) fun t199 =>
                                                b59 p1 a3 n3 c3 a5 n5 c5 a7 n7 c7 p10 a52 n52 c52 x53 x54 a87 n87 c87 x88 t199 w168))))
                                          (nv (IntKind.i64.wrap (x89 + 1)) fun t200 =>
                                          b59 p1 a3 n3 c3 a5 n5 c5 a7 n7 c7 p10 a52 n52 c52 x53 x54 a87 n87 c87 x88 t200 w168))))
                                    (nv (IntKind.i64.wrap (x89 + 1)) fun t201 =>
                                    b59 p1 a3 n3 c3 a5 n5 c5 a7 n7 c7 p10 a52 n52 c52 x53 x54 a87 n87 c87 x88 t201 w168)))))))
                        (∃ yx_202 : Int, w168.cell? ((na w).add 1) = some (.int .i64 yx_202) ∧
                          (optN p10 fun q203 =>
                          ∃ yx_204 : Int, w168.cell? (q203.add 1) = some (.int .i64 yx_204) ∧
                            (onBool (decide (yx_202 < yx_204))
                              (∃ yx_205 : Int, w168.cell? ((na w).add 2) = some (.int .i64 yx_205) ∧
                                (optN p10 fun q206 =>
                                ∃ yx_207 : Int, w168.cell? (q206.add 1) = some (.int .i64 yx_207) ∧
                                  (onBool (decide (yx_205 > yx_207))
                                    (∃ yx_208 : Int, w168.cell? ((na w).add 2) = some (.int .i64 yx_208) ∧
                                      (optN p10 fun q209 =>
                                      ∃ yx_210 : Int, w168.cell? (q209.add 2) = some (.int .i64 yx_210) ∧
                                        (onBool (decide (yx_208 < yx_210))
                                          (R (.bool false) w168)
                                          (nv (IntKind.i64.wrap (x89 + 1)) fun t211 =>
                                          b59 p1 a3 n3 c3 a5 n5 c5 a7 n7 c7 p10 a52 n52 c52 x53 x54 a87 n87 c87 x88 t211 w168))))
                                    (nv (IntKind.i64.wrap (x89 + 1)) fun t212 =>
                                    b59 p1 a3 n3 c3 a5 n5 c5 a7 n7 c7 p10 a52 n52 c52 x53 x54 a87 n87 c87 x88 t212 w168))))
                              (nv (IntKind.i64.wrap (x89 + 1)) fun t213 =>
                              b59 p1 a3 n3 c3 a5 n5 c5 a7 n7 c7 p10 a52 n52 c52 x53 x54 a87 n87 c87 x88 t213 w168))))))))))))))
    (optN p1 fun q214 =>
    ∃ ya_215 : Option Addr, ∃ yn_215 : Nat, ∃ yc_215 : Nat, w.cell? (q214.add 1) = some (.slice ya_215 yn_215 yc_215) ∧
      (optN p10 fun q216 =>
      ∃ yx_217 : Int, w.cell? (q216.add 0) = some (.int .i64 yx_217) ∧
        (optN ya_215 fun q218 =>
        chk ((0 : Int) ≤ yx_217 ∧ yx_217 < (yn_215 : Int))
          (∃ yx_219 : Int, w.cell? ((q218.add (yx_217.toNat * 8)).add 0) = some (.int .u8 yx_219) ∧
            (∃ yx_220 : Int, w.cell? ((q218.add (yx_217.toNat * 8)).add 1) = some (.int .i64 yx_220) ∧
              (∃ yx_221 : Int, w.cell? ((q218.add (yx_217.toNat * 8)).add 2) = some (.int .i64 yx_221) ∧
                (∃ yf_222 : Nat, w.cell? ((q218.add (yx_217.toNat * 8)).add 3) = some (.float .f64 yf_222) ∧
                  (∃ ya_223 : Option Addr, ∃ yn_223 : Nat, ∃ yc_223 : Nat, w.cell? ((q218.add (yx_217.toNat * 8)).add 4) = some (.slice ya_223 yn_223 yc_223) ∧
                    (∃ yx_224 : Int, w.cell? ((q218.add (yx_217.toNat * 8)).add 5) = some (.int .u8 yx_224) ∧
                      (∃ yx_225 : Int, w.cell? ((q218.add (yx_217.toNat * 8)).add 6) = some (.int .i64 yx_225) ∧
                        (∃ yx_226 : Int, w.cell? ((q218.add (yx_217.toNat * 8)).add 7) = some (.int .i64 yx_226) ∧
                          (nw (w.alloc (.cells #[.int .u8 0, .int .i64 0, .int .i64 0, .float .f64 0, .slice none 0 0, .int .u8 0, .int .i64 0, .int .i64 0] 49)) fun w227 =>
                          okSt w227 ((na w).add 0) ∧
                            (nw (w227.setCell ((na w).add 0) (.int .u8 yx_219)) fun w228 =>
                            okSt w228 ((na w).add 1) ∧
                              (nw (w228.setCell ((na w).add 1) (.int .i64 yx_220)) fun w229 =>
                              okSt w229 ((na w).add 2) ∧
                                (nw (w229.setCell ((na w).add 2) (.int .i64 yx_221)) fun w230 =>
                                okSt w230 ((na w).add 3) ∧
                                  (nw (w230.setCell ((na w).add 3) (.float .f64 yf_222)) fun w231 =>
                                  okSt w231 ((na w).add 4) ∧
                                    (nw (w231.setCell ((na w).add 4) (.slice ya_223 yn_223 yc_223)) fun w232 =>
                                    okSt w232 ((na w).add 5) ∧
                                      (nw (w232.setCell ((na w).add 5) (.int .u8 yx_224)) fun w233 =>
                                      okSt w233 ((na w).add 6) ∧
                                        (nw (w233.setCell ((na w).add 6) (.int .i64 yx_225)) fun w234 =>
                                        okSt w234 ((na w).add 7) ∧
                                          (nw (w234.setCell ((na w).add 7) (.int .i64 yx_226)) fun w235 =>
                                          optN p1 fun q236 =>
                                          ∃ ya_237 : Option Addr, ∃ yn_237 : Nat, ∃ yc_237 : Nat, w235.cell? (q236.add 1) = some (.slice ya_237 yn_237 yc_237) ∧
                                            (Go.E.CallsD Go.Proofs.Tryd.prog 21 #[.slice ya_237 yn_237 yc_237] w235 fun yv238 u239 =>
                                              ∃ ya_240 : Option Addr, ∃ yn_240 : Nat, ∃ yc_240 : Nat, yv238 = .slice ya_240 yn_240 yc_240 ∧
                                                (nw (u239.alloc (.cells #[.int .i64 0, .slice none 0 0] 24)) fun w241 =>
                                                okSt w241 ((na u239).add 0) ∧
                                                  (nw (w241.setCell ((na u239).add 0) (.int .i64 0)) fun w242 =>
                                                  okSt w242 ((na u239).add 1) ∧
                                                    (nw (w242.setCell ((na u239).add 1) (.slice ya_240 yn_240 yc_240)) fun w243 =>
                                                    ∃ ya_244 : Option Addr, ∃ yn_244 : Nat, ∃ yc_244 : Nat, w243.cell? ((na u239).add 1) = some (.slice ya_244 yn_244 yc_244) ∧
                                                      (∃ yx_245 : Int, w243.cell? ((na w).add 6) = some (.int .i64 yx_245) ∧
                                                        (Go.E.CallsD Go.Proofs.Tryd.prog 22 #[.slice ya_244 yn_244 yc_244, .int .i64 yx_245] w243 fun yv246 u247 =>
                                                          ∃ ya_248 : Option Addr, ∃ yn_248 : Nat, ∃ yc_248 : Nat, yv246 = .slice ya_248 yn_248 yc_248 ∧
                                                            (okSt u247 (((na u239).add 1).add 0) ∧
                                                              (nw (u247.setCell (((na u239).add 1).add 0) (.slice ya_248 yn_248 yc_248)) fun w249 =>
                                                              ∃ yx_250 : Int, w249.cell? ((na u239).add 0) = some (.int .i64 yx_250) ∧
                                                                (∃ ya_251 : Option Addr, ∃ yn_251 : Nat, ∃ yc_251 : Nat, w249.cell? ((na u239).add 1) = some (.slice ya_251 yn_251 yc_251) ∧
                                                                  (Go.E.CallsD Go.Proofs.Tryd.prog 19 #[.agg #[.int .i64 yx_250, .slice ya_251 yn_251 yc_251]] w249 fun yv252 u253 =>
                                                                    ∃ ya_254_0 : Option Addr, ∃ yn_254_0 : Nat, ∃ yc_254_0 : Nat, ∃ yx_254_1 : Int, yv252 = .tuple #[.slice ya_254_0 yn_254_0 yc_254_0, .int .i64 yx_254_1] ∧
                                                                      (onBool (yx_254_1 != 0)
                                                                        (R (.bool false) u253)
                                                                        (optN p10 fun q255 =>
                                                                        ∃ yx_256 : Int, u253.cell? (q255.add 2) = some (.int .i64 yx_256) ∧
                                                                          (optN p10 fun q257 =>
                                                                          ∃ yx_258 : Int, u253.cell? (q257.add 1) = some (.int .i64 yx_258) ∧
                                                                            (nv (IntKind.i64.wrap (yx_256 - yx_258)) fun t259 =>
                                                                            onBool ((yn_254_0 : Int) != t259)
                                                                              (R (.bool false) u253)
                                                                              (nv (IntKind.i64.wrap (x54 + 1)) fun t260 =>
                                                                              b36 p1 a3 n3 c3 a5 n5 c5 a7 n7 c7 a52 n52 c52 x53 t260 u253)))))))))))))))))))))))))))))))))))
def thicketlaw13_MaskNested.q2 (R : Value → World → Prop) : Exit → Act → World → Prop := (fin Go.Proofs.Tryd.prog Go.Proofs.Tryd.f4 R)
def thicketlaw13_MaskNested.q10 (R : Value → World → Prop) : Exit → Act → World → Prop := (thicketlaw13_MaskNested.q2 R)
def thicketlaw13_MaskNested.q12 (R : Value → World → Prop) : Exit → Act → World → Prop := (thicketlaw13_MaskNested.q10 R)
def thicketlaw13_MaskNested.q20 (R : Value → World → Prop) : Exit → Act → World → Prop := (thicketlaw13_MaskNested.q12 R)
def thicketlaw13_MaskNested.q22 (R : Value → World → Prop) : Exit → Act → World → Prop := (thicketlaw13_MaskNested.q20 R)
def thicketlaw13_MaskNested.q24 (R : Value → World → Prop) : Exit → Act → World → Prop := (thicketlaw13_MaskNested.q22 R)
def thicketlaw13_MaskNested.q32 (R : Value → World → Prop) : Exit → Act → World → Prop := (thicketlaw13_MaskNested.q24 R)
def thicketlaw13_MaskNested.q33 (R : Value → World → Prop) : Exit → Act → World → Prop := Exit.then (startN none (codeN Go.Proofs.Tryd.prog (sub (codeOf Go.Proofs.Tryd.f4) [1, 1, 1, 1, 1, 1, 1, 1]) (nsub thicketlaw13_MaskNested.an [1, 1, 1, 1, 1, 1, 1, 1]) (thicketlaw13_MaskNested.q32 R))) (thicketlaw13_MaskNested.q32 R)
def thicketlaw13_MaskNested.q35 (R : Value → World → Prop) : Exit → Act → World → Prop := (thicketlaw13_MaskNested.q33 R)
def thicketlaw13_MaskNested.q36 (R : Value → World → Prop) : Exit → Act → World → Prop := Exit.inBlock 0 (thicketlaw13_MaskNested.q35 R)
def thicketlaw13_MaskNested.rl36 (R : Value → World → Prop) (k : Nat) (p1 : Option Addr) (a3 : Option Addr) (n3 : Nat) (c3 : Nat) (a5 : Option Addr) (n5 : Nat) (c5 : Nat) (a7 : Option Addr) (n7 : Nat) (c7 : Nat) (a52 : Option Addr) (n52 : Nat) (c52 : Nat) (x53 : Int) (x54 : Int) (w : World) : Prop := loopN [1, 3, 5, 7, 52, 53, 54] (codeN Go.Proofs.Tryd.prog (sub (codeOf Go.Proofs.Tryd.f4) [1, 1, 1, 1, 1, 1, 1, 0, 1, 0, 0]) (nsub thicketlaw13_MaskNested.an [1, 1, 1, 1, 1, 1, 1, 0, 1, 0, 0])) (thicketlaw13_MaskNested.q36 R) k ⟨#[undef, .pointer p1, undef, .slice a3 n3 c3, undef, .slice a5 n5 c5, undef, .slice a7 n7 c7, undef, undef, undef, undef, undef, undef, undef, undef, undef, undef, undef, undef, undef, undef, undef, undef, undef, undef, undef, undef, undef, undef, undef, undef, undef, undef, undef, undef, undef, undef, undef, undef, undef, undef, undef, undef, undef, undef, undef, undef, undef, undef, undef, undef, .slice a52 n52 c52, .int .i64 x53, .int .i64 x54, undef, undef, undef, undef, undef, undef, undef, undef, undef, undef, undef, undef, undef, undef, undef, undef, undef, undef, undef, undef, undef, undef, undef, undef, undef, undef, undef, undef, undef, undef, undef, undef, undef, undef, undef, undef, undef, undef, undef, undef, undef, undef, undef, undef, undef, undef, undef, undef, undef, undef, undef, undef, undef, undef, undef, undef, undef, undef, undef, undef, undef, undef, undef, undef, undef, undef, undef, undef, undef, undef, undef, undef, undef, undef, undef, undef, undef, undef, undef, undef, undef, undef, undef, undef, undef, undef, undef, undef, undef, undef, undef, undef, undef, undef, undef, undef, undef, undef, undef, undef, undef, undef, undef, undef, undef, undef, undef, undef, undef, undef, undef, undef, undef], []⟩ w
def thicketlaw13_MaskNested.re36 (R : Value → World → Prop) (p1 : Option Addr) (a3 : Option Addr) (n3 : Nat) (c3 : Nat) (a5 : Option Addr) (n5 : Nat) (c5 : Nat) (a7 : Option Addr) (n7 : Nat) (c7 : Nat) (a52 : Option Addr) (n52 : Nat) (c52 : Nat) (x53 : Int) (x54 : Int) (w : World) : Prop := ∃ k, thicketlaw13_MaskNested.rl36 R k p1 a3 n3 c3 a5 n5 c5 a7 n7 c7 a52 n52 c52 x53 x54 w
def thicketlaw13_MaskNested.q37 (R : Value → World → Prop) (k36 : Nat) : Exit → Act → World → Prop := Exit.then (fun a w => loopN [1, 3, 5, 7, 52, 53, 54] (codeN Go.Proofs.Tryd.prog (sub (codeOf Go.Proofs.Tryd.f4) [1, 1, 1, 1, 1, 1, 1, 0, 1, 0, 0]) (nsub thicketlaw13_MaskNested.an [1, 1, 1, 1, 1, 1, 1, 0, 1, 0, 0])) (thicketlaw13_MaskNested.q36 R) k36 (clr [1, 3, 5, 7, 52, 53, 54] a) w) (thicketlaw13_MaskNested.q36 R)
def thicketlaw13_MaskNested.q39 (R : Value → World → Prop) (k36 : Nat) : Exit → Act → World → Prop := (thicketlaw13_MaskNested.q37 R k36)
def thicketlaw13_MaskNested.q43 (R : Value → World → Prop) (k36 : Nat) : Exit → Act → World → Prop := (thicketlaw13_MaskNested.q39 R k36)
def thicketlaw13_MaskNested.q44 (R : Value → World → Prop) (k36 : Nat) : Exit → Act → World → Prop := Exit.then (startN none (codeN Go.Proofs.Tryd.prog (sub (codeOf Go.Proofs.Tryd.f4) [1, 1, 1, 1, 1, 1, 1, 0, 1, 0, 0, 1, 1, 1]) (nsub thicketlaw13_MaskNested.an [1, 1, 1, 1, 1, 1, 1, 0, 1, 0, 0, 1, 1, 1]) (thicketlaw13_MaskNested.q43 R k36))) (thicketlaw13_MaskNested.q43 R k36)
def thicketlaw13_MaskNested.q45 (R : Value → World → Prop) (k36 : Nat) : Exit → Act → World → Prop := Exit.inBlock 1 (thicketlaw13_MaskNested.q44 R k36)
def thicketlaw13_MaskNested.q47 (R : Value → World → Prop) (k36 : Nat) : Exit → Act → World → Prop := (thicketlaw13_MaskNested.q45 R k36)
def thicketlaw13_MaskNested.q55 (R : Value → World → Prop) (k36 : Nat) : Exit → Act → World → Prop := (thicketlaw13_MaskNested.q47 R k36)
def thicketlaw13_MaskNested.q56 (R : Value → World → Prop) (k36 : Nat) : Exit → Act → World → Prop := Exit.then (startN none (codeN Go.Proofs.Tryd.prog (sub (codeOf Go.Proofs.Tryd.f4) [1, 1, 1, 1, 1, 1, 1, 0, 1, 0, 0, 1, 1, 0, 0, 1, 1, 1]) (nsub thicketlaw13_MaskNested.an [1, 1, 1, 1, 1, 1, 1, 0, 1, 0, 0, 1, 1, 0, 0, 1, 1, 1]) (thicketlaw13_MaskNested.q55 R k36))) (thicketlaw13_MaskNested.q55 R k36)
def thicketlaw13_MaskNested.q58 (R : Value → World → Prop) (k36 : Nat) : Exit → Act → World → Prop := (thicketlaw13_MaskNested.q56 R k36)
def thicketlaw13_MaskNested.q59 (R : Value → World → Prop) (k36 : Nat) : Exit → Act → World → Prop := Exit.inBlock 2 (thicketlaw13_MaskNested.q58 R k36)
def thicketlaw13_MaskNested.rl59 (R : Value → World → Prop) (k36 : Nat) (k : Nat) (p1 : Option Addr) (a3 : Option Addr) (n3 : Nat) (c3 : Nat) (a5 : Option Addr) (n5 : Nat) (c5 : Nat) (a7 : Option Addr) (n7 : Nat) (c7 : Nat) (p10 : Option Addr) (a52 : Option Addr) (n52 : Nat) (c52 : Nat) (x53 : Int) (x54 : Int) (a87 : Option Addr) (n87 : Nat) (c87 : Nat) (x88 : Int) (x89 : Int) (w : World) : Prop := loopN [1, 3, 5, 7, 10, 52, 53, 54, 87, 88, 89] (codeN Go.Proofs.Tryd.prog (sub (codeOf Go.Proofs.Tryd.f4) [1, 1, 1, 1, 1, 1, 1, 0, 1, 0, 0, 1, 1, 0, 0, 1, 1, 0, 1, 0, 0]) (nsub thicketlaw13_MaskNested.an [1, 1, 1, 1, 1, 1, 1, 0, 1, 0, 0, 1, 1, 0, 0, 1, 1, 0, 1, 0, 0])) (thicketlaw13_MaskNested.q59 R k36) k ⟨#[undef, .pointer p1, undef, .slice a3 n3 c3, undef, .slice a5 n5 c5, undef, .slice a7 n7 c7, undef, undef, .pointer p10, undef, undef, undef, undef, undef, undef, undef, undef, undef, undef, undef, undef, undef, undef, undef, undef, undef, undef, undef, undef, undef, undef, undef, undef, undef, undef, undef, undef, undef, undef, undef, undef, undef, undef, undef, undef, undef, undef, undef, undef, undef, .slice a52 n52 c52, .int .i64 x53, .int .i64 x54, undef, undef, undef, undef, undef, undef, undef, undef, undef, undef, undef, undef, undef, undef, undef, undef, undef, undef, undef, undef, undef, undef, undef, undef, undef, undef, undef, undef, undef, undef, undef, undef, .slice a87 n87 c87, .int .i64 x88, .int .i64 x89, undef, undef, undef, undef, undef, undef, undef, undef, undef, undef, undef, undef, undef, undef, undef, undef, undef, undef, undef, undef, undef, undef, undef, undef, undef, undef, undef, undef, undef, undef, undef, undef, undef, undef, undef, undef, undef, undef, undef, undef, undef, undef, undef, undef, undef, undef, undef, undef, undef, undef, undef, undef, undef, undef, undef, undef, undef, undef, undef, undef, undef, undef, undef, undef, undef, undef, undef, undef, undef, undef, undef, undef, undef, undef, undef, undef, undef, undef], []⟩ w
def thicketlaw13_MaskNested.re59 (R : Value → World → Prop) (k36 : Nat) (p1 : Option Addr) (a3 : Option Addr) (n3 : Nat) (c3 : Nat) (a5 : Option Addr) (n5 : Nat) (c5 : Nat) (a7 : Option Addr) (n7 : Nat) (c7 : Nat) (p10 : Option Addr) (a52 : Option Addr) (n52 : Nat) (c52 : Nat) (x53 : Int) (x54 : Int) (a87 : Option Addr) (n87 : Nat) (c87 : Nat) (x88 : Int) (x89 : Int) (w : World) : Prop := ∃ k, thicketlaw13_MaskNested.rl59 R k36 k p1 a3 n3 c3 a5 n5 c5 a7 n7 c7 p10 a52 n52 c52 x53 x54 a87 n87 c87 x88 x89 w
def thicketlaw13_MaskNested.l59 (R : Value → World → Prop) (b36 : (Option Addr) → (Option Addr) → Nat → Nat → (Option Addr) → Nat → Nat → (Option Addr) → Nat → Nat → (Option Addr) → Nat → Nat → Int → Int → World → Prop) : Nat → (Option Addr) → (Option Addr) → Nat → Nat → (Option Addr) → Nat → Nat → (Option Addr) → Nat → Nat → (Option Addr) → (Option Addr) → Nat → Nat → Int → Int → (Option Addr) → Nat → Nat → Int → Int → World → Prop
  | 0, _, _, _, _, _, _, _, _, _, _, _, _, _, _, _, _, _, _, _, _, _, _ => False
  | k + 1, p1, a3, n3, c3, a5, n5, c5, a7, n7, c7, p10, a52, n52, c52, x53, x54, a87, n87, c87, x88, x89, w => thicketlaw13_MaskNested.g59 R b36 (thicketlaw13_MaskNested.l59 R b36 k) p1 a3 n3 c3 a5 n5 c5 a7 n7 c7 p10 a52 n52 c52 x53 x54 a87 n87 c87 x88 x89 w
def thicketlaw13_MaskNested.e59 (R : Value → World → Prop) (b36 : (Option Addr) → (Option Addr) → Nat → Nat → (Option Addr) → Nat → Nat → (Option Addr) → Nat → Nat → (Option Addr) → Nat → Nat → Int → Int → World → Prop) (p1 : Option Addr) (a3 : Option Addr) (n3 : Nat) (c3 : Nat) (a5 : Option Addr) (n5 : Nat) (c5 : Nat) (a7 : Option Addr) (n7 : Nat) (c7 : Nat) (p10 : Option Addr) (a52 : Option Addr) (n52 : Nat) (c52 : Nat) (x53 : Int) (x54 : Int) (a87 : Option Addr) (n87 : Nat) (c87 : Nat) (x88 : Int) (x89 : Int) (w : World) : Prop := ∃ k, thicketlaw13_MaskNested.l59 R b36 k p1 a3 n3 c3 a5 n5 c5 a7 n7 c7 p10 a52 n52 c52 x53 x54 a87 n87 c87 x88 x89 w
theorem thicketlaw13_MaskNested.s59 (R : Value → World → Prop) (k36 : Nat) (k : Nat) (p1 : Option Addr) (a3 : Option Addr) (n3 : Nat) (c3 : Nat) (a5 : Option Addr) (n5 : Nat) (c5 : Nat) (a7 : Option Addr) (n7 : Nat) (c7 : Nat) (p10 : Option Addr) (a52 : Option Addr) (n52 : Nat) (c52 : Nat) (x53 : Int) (x54 : Int) (a87 : Option Addr) (n87 : Nat) (c87 : Nat) (x88 : Int) (x89 : Int) (w : World) : thicketlaw13_MaskNested.rl59 R k36 (k + 1) p1 a3 n3 c3 a5 n5 c5 a7 n7 c7 p10 a52 n52 c52 x53 x54 a87 n87 c87 x88 x89 w = ∀ _ : Nat → Value, thicketlaw13_MaskNested.g59 R (thicketlaw13_MaskNested.rl36 R k36) (thicketlaw13_MaskNested.rl59 R k36 k) p1 a3 n3 c3 a5 n5 c5 a7 n7 c7 p10 a52 n52 c52 x53 x54 a87 n87 c87 x88 x89 w := by kernel_rfl
theorem thicketlaw13_MaskNested.lq59 (R : Value → World → Prop) (k36 : Nat) (b36 : (Option Addr) → (Option Addr) → Nat → Nat → (Option Addr) → Nat → Nat → (Option Addr) → Nat → Nat → (Option Addr) → Nat → Nat → Int → Int → World → Prop) (hb36 : b36 = thicketlaw13_MaskNested.rl36 R k36) : ∀ k, thicketlaw13_MaskNested.l59 R b36 k = thicketlaw13_MaskNested.rl59 R k36 k
  | 0 => by funext p1 a3 n3 c3 a5 n5 c5 a7 n7 c7 p10 a52 n52 c52 x53 x54 a87 n87 c87 x88 x89 w; first | rfl | kernel_rfl
  | k + 1 => by
    funext p1 a3 n3 c3 a5 n5 c5 a7 n7 c7 p10 a52 n52 c52 x53 x54 a87 n87 c87 x88 x89 w
    rw [thicketlaw13_MaskNested.s59, forall_const]
    unfold thicketlaw13_MaskNested.l59
    have ih := thicketlaw13_MaskNested.lq59 R k36 b36 hb36 k
    subst hb36
    rw [ih]
    all_goals rfl
theorem thicketlaw13_MaskNested.eq59 (R : Value → World → Prop) (k36 : Nat) (b36 : (Option Addr) → (Option Addr) → Nat → Nat → (Option Addr) → Nat → Nat → (Option Addr) → Nat → Nat → (Option Addr) → Nat → Nat → Int → Int → World → Prop) (hb36 : b36 = thicketlaw13_MaskNested.rl36 R k36) : thicketlaw13_MaskNested.e59 R b36 = thicketlaw13_MaskNested.re59 R k36 := by
  funext p1 a3 n3 c3 a5 n5 c5 a7 n7 c7 p10 a52 n52 c52 x53 x54 a87 n87 c87 x88 x89 w
  unfold thicketlaw13_MaskNested.e59 thicketlaw13_MaskNested.re59
  simp only [thicketlaw13_MaskNested.lq59 R k36 b36 hb36]
def thicketlaw13_MaskNested.l36 (R : Value → World → Prop) : Nat → (Option Addr) → (Option Addr) → Nat → Nat → (Option Addr) → Nat → Nat → (Option Addr) → Nat → Nat → (Option Addr) → Nat → Nat → Int → Int → World → Prop
  | 0, _, _, _, _, _, _, _, _, _, _, _, _, _, _, _, _ => False
  | k + 1, p1, a3, n3, c3, a5, n5, c5, a7, n7, c7, a52, n52, c52, x53, x54, w => thicketlaw13_MaskNested.g36 R (thicketlaw13_MaskNested.e59 R (thicketlaw13_MaskNested.l36 R k)) p1 a3 n3 c3 a5 n5 c5 a7 n7 c7 a52 n52 c52 x53 x54 w
def thicketlaw13_MaskNested.e36 (R : Value → World → Prop) (p1 : Option Addr) (a3 : Option Addr) (n3 : Nat) (c3 : Nat) (a5 : Option Addr) (n5 : Nat) (c5 : Nat) (a7 : Option Addr) (n7 : Nat) (c7 : Nat) (a52 : Option Addr) (n52 : Nat) (c52 : Nat) (x53 : Int) (x54 : Int) (w : World) : Prop := ∃ k, thicketlaw13_MaskNested.l36 R k p1 a3 n3 c3 a5 n5 c5 a7 n7 c7 a52 n52 c52 x53 x54 w
theorem thicketlaw13_MaskNested.s36 (R : Value → World → Prop) (k : Nat) (p1 : Option Addr) (a3 : Option Addr) (n3 : Nat) (c3 : Nat) (a5 : Option Addr) (n5 : Nat) (c5 : Nat) (a7 : Option Addr) (n7 : Nat) (c7 : Nat) (a52 : Option Addr) (n52 : Nat) (c52 : Nat) (x53 : Int) (x54 : Int) (w : World) : thicketlaw13_MaskNested.rl36 R (k + 1) p1 a3 n3 c3 a5 n5 c5 a7 n7 c7 a52 n52 c52 x53 x54 w = ∀ _ : Nat → Value, thicketlaw13_MaskNested.g36 R (thicketlaw13_MaskNested.re59 R k) p1 a3 n3 c3 a5 n5 c5 a7 n7 c7 a52 n52 c52 x53 x54 w := by kernel_rfl
theorem thicketlaw13_MaskNested.lq36 (R : Value → World → Prop) : ∀ k, thicketlaw13_MaskNested.l36 R k = thicketlaw13_MaskNested.rl36 R k
  | 0 => by funext p1 a3 n3 c3 a5 n5 c5 a7 n7 c7 a52 n52 c52 x53 x54 w; first | rfl | kernel_rfl
  | k + 1 => by
    funext p1 a3 n3 c3 a5 n5 c5 a7 n7 c7 a52 n52 c52 x53 x54 w
    rw [thicketlaw13_MaskNested.s36, forall_const]
    unfold thicketlaw13_MaskNested.l36
    have ih := thicketlaw13_MaskNested.lq36 R k
    rw [thicketlaw13_MaskNested.eq59 R k _ ih]
    all_goals rfl
theorem thicketlaw13_MaskNested.eq36 (R : Value → World → Prop) : thicketlaw13_MaskNested.e36 R = thicketlaw13_MaskNested.re36 R := by
  funext p1 a3 n3 c3 a5 n5 c5 a7 n7 c7 a52 n52 c52 x53 x54 w
  unfold thicketlaw13_MaskNested.e36 thicketlaw13_MaskNested.re36
  simp only [thicketlaw13_MaskNested.lq36 R]
def thicketlaw13_MaskNested (R : Value → World → Prop) (x0_0 : Int) (a0_1 : Option Addr) (n0_1 : Nat) (c0_1 : Nat) (w : World) : Prop := thicketlaw13_MaskNested.g0 R (thicketlaw13_MaskNested.e36 R) x0_0 a0_1 n0_1 c0_1 w
theorem thicketlaw13_MaskNested.root0 (R : Value → World → Prop) (x0_0 : Int) (a0_1 : Option Addr) (n0_1 : Nat) (c0_1 : Nat) (w : World) : fnN Go.Proofs.Tryd.prog Go.Proofs.Tryd.f4 thicketlaw13_MaskNested.an #[.agg #[.int .i64 x0_0, .slice a0_1 n0_1 c0_1]] w R = thicketlaw13_MaskNested.g0 R (thicketlaw13_MaskNested.re36 R) x0_0 a0_1 n0_1 c0_1 w := by kernel_rfl
theorem thicketlaw13_MaskNested.calls {R : Value → World → Prop} {x0_0 : Int} {a0_1 : Option Addr} {n0_1 : Nat} {c0_1 : Nat} {w : World} (h : thicketlaw13_MaskNested R x0_0 a0_1 n0_1 c0_1 w) : Go.E.CallsD Go.Proofs.Tryd.prog 4 #[.agg #[.int .i64 x0_0, .slice a0_1 n0_1 c0_1]] w R := by
  refine callsD_of (n := thicketlaw13_MaskNested.an) M_follows M_sizes Go.Proofs.Tryd.func4 (by rfl) ?_
  rw [thicketlaw13_MaskNested.root0]
  unfold thicketlaw13_MaskNested at h
  rw [thicketlaw13_MaskNested.eq36 R] at h
  exact h
end Go.Mir
