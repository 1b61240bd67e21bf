/- Part of a proof of laws of the seat Ytdealcfgobobiaa: functions' weakest preconditions, each checked by the kernel, contracts out of them, plain lemmas; no conditions. -/
import Derived.Test.YtdealcfgobobiaaTM0
set_option linter.unusedVariables false
set_option linter.unusedSimpArgs false
set_option linter.unusedVariables false
set_option maxRecDepth 100000
namespace Go.Mir
open Go Go.E Go.RowKit
-- thicket/thicketlaw07.TreesSums
def thicketlaw07_TreesSums.an : An := (.mk none .nil (.mk none .nil (.mk none .nil (.mk none .nil (.mk none .nil (.mk none .nil (.mk none (.mk none .nil (.mk none (.mk (some [1, 2, 3, 7, 9, 10, 42, 43, 44]) .nil .nil) .nil)) .nil)))))))
def thicketlaw07_TreesSums.g0 (R : Value → World → Prop) (e28 : (Option Addr) → Nat → Nat → (Option Addr) → Nat → Nat → (Option Addr) → (Option Addr) → Nat → Nat → (Option Addr) → Nat → Nat → (Option Addr) → (Option Addr) → Nat → Nat → Int → Int → World → Prop) (s0_0 : ByteArray) (a0_1 : Option Addr) (n0_1 : Nat) (c0_1 : Nat) (x0_2 : Int) (a0_3 : Option Addr) (n0_3 : Nat) (c0_3 : Nat) (a0_4 : Option Addr) (n0_4 : Nat) (c0_4 : Nat) (a1 : Option Addr) (n1 : Nat) (c1 : Nat) (a2 : Option Addr) (n2 : Nat) (c2 : Nat) (w : World) : Prop :=
  nw (w.alloc (.cells #[.string s0_0, .slice a0_1 n0_1 c0_1, .int .i64 x0_2, .slice a0_3 n0_3 c0_3, .slice a0_4 n0_4 c0_4] 46)) fun w121 =>
  Go.E.CallsD Go.Proofs.Try.prog 12 #[] w121 fun yv122 u123 =>
    ∃ yb_124 : Bool, yv122 = .bool yb_124 ∧
      (onBool (!yb_124)
        (R (.bool false) u123)
        (∃ ys_125 : ByteArray, u123.cell? ((na w).add 0) = some (.string ys_125) ∧
          (∃ ya_126 : Option Addr, ∃ yn_126 : Nat, ∃ yc_126 : Nat, u123.cell? ((na w).add 1) = some (.slice ya_126 yn_126 yc_126) ∧
            (∃ yx_127 : Int, u123.cell? ((na w).add 2) = some (.int .i64 yx_127) ∧
              (∃ ya_128 : Option Addr, ∃ yn_128 : Nat, ∃ yc_128 : Nat, u123.cell? ((na w).add 3) = some (.slice ya_128 yn_128 yc_128) ∧
                (∃ ya_129 : Option Addr, ∃ yn_129 : Nat, ∃ yc_129 : Nat, u123.cell? ((na w).add 4) = some (.slice ya_129 yn_129 yc_129) ∧
                  (Go.E.CallsD Go.Proofs.Try.prog 21 #[.agg #[.string ys_125, .slice ya_126 yn_126 yc_126, .int .i64 yx_127, .slice ya_128 yn_128 yc_128, .slice ya_129 yn_129 yc_129], .slice a1 n1 c1] u123 fun yv130 u131 =>
                    ∃ ya_132_0 : Option Addr, ∃ yn_132_0 : Nat, ∃ yc_132_0 : Nat, ∃ yx_132_1 : Int, yv130 = .tuple #[.slice ya_132_0 yn_132_0 yc_132_0, .int .i64 yx_132_1] ∧
                      (onBool (yx_132_1 != 0)
                        (R (.bool ((yn_132_0 : Int) == 0)) u131)
                        (nw (u131.alloc (.cells #[] 2)) fun w133 =>
                        ∃ ya_134 : Option Addr, ∃ yn_134 : Nat, ∃ yc_134 : Nat, w133.cell? ((na w).add 3) = some (.slice ya_134 yn_134 yc_134) ∧
                          (rawN Go.Proofs.Try.prog (Builtin.append_ #[43, 43] 43 #[.slice (some (na u131)) 0 0, .slice ya_134 yn_134 yc_134]) w133 fun yv135 u136 =>
                            ∃ ya_137 : Option Addr, ∃ yn_137 : Nat, ∃ yc_137 : Nat, yv135 = .slice ya_137 yn_137 yc_137 ∧
                              (∃ ys_138 : ByteArray, u136.cell? ((na w).add 0) = some (.string ys_138) ∧
                                (∃ ya_139 : Option Addr, ∃ yn_139 : Nat, ∃ yc_139 : Nat, u136.cell? ((na w).add 1) = some (.slice ya_139 yn_139 yc_139) ∧
                                  (∃ yx_140 : Int, u136.cell? ((na w).add 2) = some (.int .i64 yx_140) ∧
                                    (∃ ya_141 : Option Addr, ∃ yn_141 : Nat, ∃ yc_141 : Nat, u136.cell? ((na w).add 3) = some (.slice ya_141 yn_141 yc_141) ∧
                                      (∃ ya_142 : Option Addr, ∃ yn_142 : Nat, ∃ yc_142 : Nat, u136.cell? ((na w).add 4) = some (.slice ya_142 yn_142 yc_142) ∧
                                        (Go.E.CallsD Go.Proofs.Try.prog 20 #[.agg #[.string ys_138, .slice ya_139 yn_139 yc_139, .int .i64 yx_140, .slice ya_141 yn_141 yc_141, .slice ya_142 yn_142 yc_142]] u136 fun yv143 u144 =>
                                          ∃ ys_145_0 : ByteArray, ∃ ya_145_1 : Option Addr, ∃ yn_145_1 : Nat, ∃ yc_145_1 : Nat, ∃ yx_145_2 : Int, ∃ ya_145_3 : Option Addr, ∃ yn_145_3 : Nat, ∃ yc_145_3 : Nat, ∃ ya_145_4 : Option Addr, ∃ yn_145_4 : Nat, ∃ yc_145_4 : Nat, yv143 = .agg #[.string ys_145_0, .slice ya_145_1 yn_145_1 yc_145_1, .int .i64 yx_145_2, .slice ya_145_3 yn_145_3 yc_145_3, .slice ya_145_4 yn_145_4 yc_145_4] ∧
                                            (nw (u144.alloc (.cells #[.string ⟨#[]⟩, .slice none 0 0, .int .i64 0, .slice none 0 0, .slice none 0 0] 46)) fun w146 =>
                                            okSt w146 ((na u144).add 0) ∧
                                              (nw (w146.setCell ((na u144).add 0) (.string ys_145_0)) fun w147 =>
                                              okSt w147 ((na u144).add 1) ∧
                                                (nw (w147.setCell ((na u144).add 1) (.slice ya_145_1 yn_145_1 yc_145_1)) fun w148 =>
                                                okSt w148 ((na u144).add 2) ∧
                                                  (nw (w148.setCell ((na u144).add 2) (.int .i64 yx_145_2)) fun w149 =>
                                                  okSt w149 ((na u144).add 3) ∧
                                                    (nw (w149.setCell ((na u144).add 3) (.slice ya_145_3 yn_145_3 yc_145_3)) fun w150 =>
                                                    okSt w150 ((na u144).add 4) ∧
                                                      (nw (w150.setCell ((na u144).add 4) (.slice ya_145_4 yn_145_4 yc_145_4)) fun w151 =>
                                                      ∃ ya_152 : Option Addr, ∃ yn_152 : Nat, ∃ yc_152 : Nat, w151.cell? ((na w).add 4) = some (.slice ya_152 yn_152 yc_152) ∧
                                                        (e28 a1 n1 c1 a2 n2 c2 (some (na w)) ya_132_0 yn_132_0 yc_132_0 ya_137 yn_137 yc_137 (some (na u144)) ya_152 yn_152 yc_152 (yn_152 : Int) 0 w151)))))))))))))))))))))))
def thicketlaw07_TreesSums.g28 (R : Value → World → Prop) (b28 : (Option Addr) → Nat → Nat → (Option Addr) → Nat → Nat → (Option Addr) → (Option Addr) → Nat → Nat → (Option Addr) → Nat → Nat → (Option Addr) → (Option Addr) → Nat → Nat → Int → Int → World → Prop) (a1 : Option Addr) (n1 : Nat) (c1 : Nat) (a2 : Option Addr) (n2 : Nat) (c2 : Nat) (p3 : Option Addr) (a7 : Option Addr) (n7 : Nat) (c7 : Nat) (a9 : Option Addr) (n9 : Nat) (c9 : Nat) (p10 : Option Addr) (a42 : Option Addr) (n42 : Nat) (c42 : Nat) (x43 : Int) (x44 : Int) (w : World) : Prop :=
  onBool (decide (x44 < x43))
    (optN a42 fun q153 =>
    chk ((0 : Int) ≤ x44 ∧ x44 < (n42 : Int))
      (∃ yx_154 : Int, w.cell? ((q153.add (x44.toNat * 2)).add 0) = some (.int .i64 yx_154) ∧
        (∃ ya_155 : Option Addr, ∃ yn_155 : Nat, ∃ yc_155 : Nat, w.cell? ((q153.add (x44.toNat * 2)).add 1) = some (.slice ya_155 yn_155 yc_155) ∧
          (nw (w.alloc (.cells #[.int .i64 0, .slice none 0 0] 33)) fun w156 =>
          okSt w156 ((na w).add 0) ∧
            (nw (w156.setCell ((na w).add 0) (.int .i64 yx_154)) fun w157 =>
            okSt w157 ((na w).add 1) ∧
              (nw (w157.setCell ((na w).add 1) (.slice ya_155 yn_155 yc_155)) fun w158 =>
              ∃ yx_159 : Int, w158.cell? ((na w).add 0) = some (.int .i64 yx_159) ∧
                (∃ ya_160 : Option Addr, ∃ yn_160 : Nat, ∃ yc_160 : Nat, w158.cell? ((na w).add 1) = some (.slice ya_160 yn_160 yc_160) ∧
                  (Go.E.CallsD Go.Proofs.Try.prog 17 #[.agg #[.int .i64 yx_159, .slice ya_160 yn_160 yc_160], .slice a1 n1 c1] w158 fun yv161 u162 =>
                    ∃ yx_163_0 : Int, ∃ yx_163_1 : Int, ∃ yx_163_2 : Int, yv161 = .tuple #[.int .i64 yx_163_0, .int .i64 yx_163_1, .int .i64 yx_163_2] ∧
                      (onBool (yx_163_2 != 0)
                        (R (.bool false) u162)
                        (∃ yx_164 : Int, u162.cell? ((na w).add 0) = some (.int .i64 yx_164) ∧
                          (optN a9 fun q165 =>
                          chk ((0 : Int) ≤ yx_164 ∧ yx_164 < (n9 : Int))
                            (∃ yx_166 : Int, u162.cell? (q165.add (yx_164.toNat * 1)) = some (.int .i64 yx_166) ∧
                              (nv (IntKind.i64.wrap (yx_166 + yx_163_1)) fun t167 =>
                              optN a9 fun q168 =>
                              chk ((0 : Int) ≤ yx_164 ∧ yx_164 < (n9 : Int))
                                (okSt u162 ((q168.add (yx_164.toNat * 1)).add 0) ∧
                                  (nw (u162.setCell ((q168.add (yx_164.toNat * 1)).add 0) (.int .i64 t167)) fun w169 =>
                                  onBool (decide (x44 < (n2 : Int)))
                                    (optN a2 fun q170 =>
                                    chk ((0 : Int) ≤ x44 ∧ x44 < (n2 : Int))
                                      (∃ yx_171 : Int, w169.cell? (q170.add (x44.toNat * 1)) = some (.int .i64 yx_171) ∧
                                        (nv (IntKind.u64.wrap yx_171) fun t172 =>
                                        optN p3 fun q173 =>
                                        ∃ ya_174 : Option Addr, ∃ yn_174 : Nat, ∃ yc_174 : Nat, w169.cell? (q173.add 4) = some (.slice ya_174 yn_174 yc_174) ∧
                                          (nv (IntKind.u64.wrap (yn_174 : Int)) fun t175 =>
                                          nchk (t175 = 0)
                                            (nv (Int.tmod t172 t175) fun t176 =>
                                            nv (IntKind.i64.wrap t176) fun t177 =>
                                            ∃ wm178 : World, CK wm178 w169 ∧
                                              (optN p10 fun q179 =>
                                              ∃ ya_180 : Option Addr, ∃ yn_180 : Nat, ∃ yc_180 : Nat, w169.cell? (q179.add 4) = some (.slice ya_180 yn_180 yc_180) ∧
                                                (optN p10 fun q181 =>
                                                ∃ ya_182 : Option Addr, ∃ yn_182 : Nat, ∃ yc_182 : Nat, wm178.cell? (q181.add 4) = some (.slice ya_182 yn_182 yc_182) ∧
                                                  (optN p10 fun q183 =>
                                                  ∃ ya_184 : Option Addr, ∃ yn_184 : Nat, ∃ yc_184 : Nat, w169.cell? (q183.add 4) = some (.slice ya_184 yn_184 yc_184) ∧
                                                    (optN ya_184 fun q185 =>
                                                    chk ((0 : Int) ≤ t177 ∧ t177 < (yn_184 : Int))
                                                      (∃ yx_186 : Int, w169.cell? ((q185.add (t177.toNat * 2)).add 0) = some (.int .i64 yx_186) ∧
                                                        (∃ ya_187 : Option Addr, ∃ yn_187 : Nat, ∃ yc_187 : Nat, w169.cell? ((q185.add (t177.toNat * 2)).add 1) = some (.slice ya_187 yn_187 yc_187) ∧
                                                          (optN p10 fun q188 =>
                                                          ∃ ya_189 : Option Addr, ∃ yn_189 : Nat, ∃ yc_189 : Nat, wm178.cell? (q188.add 4) = some (.slice ya_189 yn_189 yc_189) ∧
                                                            (optN ya_189 fun q190 =>
                                                            chk ((0 : Int) ≤ x44 ∧ x44 < (yn_189 : Int))
                                                              (∃ yx_191 : Int, w169.cell? ((q190.add (x44.toNat * 2)).add 0) = some (.int .i64 yx_191) ∧
                                                                (∃ ya_192 : Option Addr, ∃ yn_192 : Nat, ∃ yc_192 : Nat, w169.cell? ((q190.add (x44.toNat * 2)).add 1) = some (.slice ya_192 yn_192 yc_192) ∧
                                                                  (optN ya_180 fun q193 =>
                                                                  chk ((0 : Int) ≤ x44 ∧ x44 < (yn_180 : Int))
                                                                    (okSt w169 ((q193.add (x44.toNat * 2)).add 0) ∧
                                                                      (nw (w169.setCell ((q193.add (x44.toNat * 2)).add 0) (.int .i64 yx_186)) fun w194 =>
                                                                      okSt w194 ((q193.add (x44.toNat * 2)).add 1) ∧
                                                                        (nw (w194.setCell ((q193.add (x44.toNat * 2)).add 1) (.slice ya_187 yn_187 yc_187)) fun w195 =>
                                                                        CK wm178 w195 ∧
                                                                          (optN ya_182 fun q196 =>
                                                                          chk ((0 : Int) ≤ t177 ∧ t177 < (yn_182 : Int))
                                                                            (okSt w195 ((q196.add (t177.toNat * 2)).add 0) ∧
                                                                              (nw (w195.setCell ((q196.add (t177.toNat * 2)).add 0) (.int .i64 yx_191)) fun w197 =>
                                                                              okSt w197 ((q196.add (t177.toNat * 2)).add 1) ∧
                                                                                (nw (w197.setCell ((q196.add (t177.toNat * 2)).add 1) (.slice ya_192 yn_192 yc_192)) fun w198 =>
                                                                                CK wm178 w198 ∧
                                                                                  (nv (IntKind.i64.wrap (x44 + 1)) fun t199 =>
                                                                                  b28 a1 n1 c1 a2 n2 c2 p3 a7 n7 c7 a9 n9 c9 p10 a42 n42 c42 x43 t199 w198))))))))))))))))))))))))
                                    (nv (IntKind.i64.wrap (x44 + 1)) fun t200 =>
                                    b28 a1 n1 c1 a2 n2 c2 p3 a7 n7 c7 a9 n9 c9 p10 a42 n42 c42 x43 t200 w169))))))))))))))))
    (optN p10 fun q201 =>
    ∃ ys_202 : ByteArray, w.cell? (q201.add 0) = some (.string ys_202) ∧
      (∃ ya_203 : Option Addr, ∃ yn_203 : Nat, ∃ yc_203 : Nat, w.cell? (q201.add 1) = some (.slice ya_203 yn_203 yc_203) ∧
        (∃ yx_204 : Int, w.cell? (q201.add 2) = some (.int .i64 yx_204) ∧
          (∃ ya_205 : Option Addr, ∃ yn_205 : Nat, ∃ yc_205 : Nat, w.cell? (q201.add 3) = some (.slice ya_205 yn_205 yc_205) ∧
            (∃ ya_206 : Option Addr, ∃ yn_206 : Nat, ∃ yc_206 : Nat, w.cell? (q201.add 4) = some (.slice ya_206 yn_206 yc_206) ∧
              (Go.E.CallsD Go.Proofs.Try.prog 21 #[.agg #[.string ys_202, .slice ya_203 yn_203 yc_203, .int .i64 yx_204, .slice ya_205 yn_205 yc_205, .slice ya_206 yn_206 yc_206], .slice a1 n1 c1] w fun yv207 u208 =>
                ∃ ya_209_0 : Option Addr, ∃ yn_209_0 : Nat, ∃ yc_209_0 : Nat, ∃ yx_209_1 : Int, yv207 = .tuple #[.slice ya_209_0 yn_209_0 yc_209_0, .int .i64 yx_209_1] ∧
                  (optN p3 fun q210 =>
                  ∃ ys_211 : ByteArray, u208.cell? (q210.add 0) = some (.string ys_211) ∧
                    (∃ ya_212 : Option Addr, ∃ yn_212 : Nat, ∃ yc_212 : Nat, u208.cell? (q210.add 1) = some (.slice ya_212 yn_212 yc_212) ∧
                      (∃ yx_213 : Int, u208.cell? (q210.add 2) = some (.int .i64 yx_213) ∧
                        (∃ ya_214 : Option Addr, ∃ yn_214 : Nat, ∃ yc_214 : Nat, u208.cell? (q210.add 3) = some (.slice ya_214 yn_214 yc_214) ∧
                          (∃ ya_215 : Option Addr, ∃ yn_215 : Nat, ∃ yc_215 : Nat, u208.cell? (q210.add 4) = some (.slice ya_215 yn_215 yc_215) ∧
                            (Go.E.CallsD Go.Proofs.Try.prog 33 #[.agg #[.string ys_211, .slice ya_212 yn_212 yc_212, .int .i64 yx_213, .slice ya_214 yn_214 yc_214, .slice ya_215 yn_215 yc_215]] u208 fun yv216 u217 =>
                              ∃ ys_218_0_0 : ByteArray, ∃ ya_218_0_1 : Option Addr, ∃ yn_218_0_1 : Nat, ∃ yc_218_0_1 : Nat, ∃ yx_218_0_2 : Int, ∃ ya_218_0_3 : Option Addr, ∃ yn_218_0_3 : Nat, ∃ yc_218_0_3 : Nat, ∃ ya_218_0_4 : Option Addr, ∃ yn_218_0_4 : Nat, ∃ yc_218_0_4 : Nat, ∃ yx_218_1 : Int, yv216 = .tuple #[.agg #[.string ys_218_0_0, .slice ya_218_0_1 yn_218_0_1 yc_218_0_1, .int .i64 yx_218_0_2, .slice ya_218_0_3 yn_218_0_3 yc_218_0_3, .slice ya_218_0_4 yn_218_0_4 yc_218_0_4], .int .i64 yx_218_1] ∧
                                (nw (u217.alloc (.cells #[.string ⟨#[]⟩, .slice none 0 0, .int .i64 0, .slice none 0 0, .slice none 0 0] 46)) fun w219 =>
                                okSt w219 ((na u217).add 0) ∧
                                  (nw (w219.setCell ((na u217).add 0) (.string ys_218_0_0)) fun w220 =>
                                  okSt w220 ((na u217).add 1) ∧
                                    (nw (w220.setCell ((na u217).add 1) (.slice ya_218_0_1 yn_218_0_1 yc_218_0_1)) fun w221 =>
                                    okSt w221 ((na u217).add 2) ∧
                                      (nw (w221.setCell ((na u217).add 2) (.int .i64 yx_218_0_2)) fun w222 =>
                                      okSt w222 ((na u217).add 3) ∧
                                        (nw (w222.setCell ((na u217).add 3) (.slice ya_218_0_3 yn_218_0_3 yc_218_0_3)) fun w223 =>
                                        okSt w223 ((na u217).add 4) ∧
                                          (nw (w223.setCell ((na u217).add 4) (.slice ya_218_0_4 yn_218_0_4 yc_218_0_4)) fun w224 =>
                                          ∃ ys_225 : ByteArray, w224.cell? ((na u217).add 0) = some (.string ys_225) ∧
                                            (∃ ya_226 : Option Addr, ∃ yn_226 : Nat, ∃ yc_226 : Nat, w224.cell? ((na u217).add 1) = some (.slice ya_226 yn_226 yc_226) ∧
                                              (∃ yx_227 : Int, w224.cell? ((na u217).add 2) = some (.int .i64 yx_227) ∧
                                                (∃ ya_228 : Option Addr, ∃ yn_228 : Nat, ∃ yc_228 : Nat, w224.cell? ((na u217).add 3) = some (.slice ya_228 yn_228 yc_228) ∧
                                                  (∃ ya_229 : Option Addr, ∃ yn_229 : Nat, ∃ yc_229 : Nat, w224.cell? ((na u217).add 4) = some (.slice ya_229 yn_229 yc_229) ∧
                                                    (Go.E.CallsD Go.Proofs.Try.prog 21 #[.agg #[.string ys_225, .slice ya_226 yn_226 yc_226, .int .i64 yx_227, .slice ya_228 yn_228 yc_228, .slice ya_229 yn_229 yc_229], .slice a1 n1 c1] w224 fun yv230 u231 =>
                                                      ∃ ya_232_0 : Option Addr, ∃ yn_232_0 : Nat, ∃ yc_232_0 : Nat, ∃ yx_232_1 : Int, yv230 = .tuple #[.slice ya_232_0 yn_232_0 yc_232_0, .int .i64 yx_232_1] ∧
                                                        (Go.E.CallsD Go.Proofs.Try.prog 23 #[.slice a7 n7 c7, .slice a9 n9 c9] u231 fun yv233 u234 =>
                                                          ∃ yb_235 : Bool, yv233 = .bool yb_235 ∧
                                                            (onBool yb_235
                                                              (onBool (yx_209_1 == 0)
                                                                (Go.E.CallsD Go.Proofs.Try.prog 23 #[.slice ya_209_0 yn_209_0 yc_209_0, .slice a9 n9 c9] u234 fun yv236 u237 =>
                                                                  ∃ yb_238 : Bool, yv236 = .bool yb_238 ∧
                                                                    (onBool yb_238
                                                                      (onBool (yx_218_1 == 0)
                                                                        (onBool (yx_232_1 == 0)
                                                                          (Go.E.CallsD Go.Proofs.Try.prog 23 #[.slice ya_232_0 yn_232_0 yc_232_0, .slice a9 n9 c9] u237 fun yv239 u240 =>
                                                                            ∃ yb_241 : Bool, yv239 = .bool yb_241 ∧
                                                                              (R (.bool yb_241) u240))
                                                                          (R (.bool false) u237))
                                                                        (R (.bool false) u237))
                                                                      (R (.bool false) u237)))
                                                                (R (.bool false) u234))
                                                              (R (.bool false) u234))))))))))))))))))))))))))
def thicketlaw07_TreesSums.q2 (R : Value → World → Prop) : Exit → Act → World → Prop := (fin Go.Proofs.Try.prog Go.Proofs.Try.f7 R)
def thicketlaw07_TreesSums.q10 (R : Value → World → Prop) : Exit → Act → World → Prop := (thicketlaw07_TreesSums.q2 R)
def thicketlaw07_TreesSums.q12 (R : Value → World → Prop) : Exit → Act → World → Prop := (thicketlaw07_TreesSums.q10 R)
def thicketlaw07_TreesSums.q20 (R : Value → World → Prop) : Exit → Act → World → Prop := (thicketlaw07_TreesSums.q12 R)
def thicketlaw07_TreesSums.q22 (R : Value → World → Prop) : Exit → Act → World → Prop := (thicketlaw07_TreesSums.q20 R)
def thicketlaw07_TreesSums.q24 (R : Value → World → Prop) : Exit → Act → World → Prop := (thicketlaw07_TreesSums.q22 R)
def thicketlaw07_TreesSums.q25 (R : Value → World → Prop) : Exit → Act → World → Prop := Exit.then (startN none (codeN Go.Proofs.Try.prog (sub (codeOf Go.Proofs.Try.f7) [1, 1, 1, 1, 1, 1, 1]) (nsub thicketlaw07_TreesSums.an [1, 1, 1, 1, 1, 1, 1]) (thicketlaw07_TreesSums.q24 R))) (thicketlaw07_TreesSums.q24 R)
def thicketlaw07_TreesSums.q27 (R : Value → World → Prop) : Exit → Act → World → Prop := (thicketlaw07_TreesSums.q25 R)
def thicketlaw07_TreesSums.q28 (R : Value → World → Prop) : Exit → Act → World → Prop := Exit.inBlock 0 (thicketlaw07_TreesSums.q27 R)
def thicketlaw07_TreesSums.rl28 (R : Value → World → Prop) (k : Nat) (a1 : Option Addr) (n1 : Nat) (c1 : Nat) (a2 : Option Addr) (n2 : Nat) (c2 : Nat) (p3 : Option Addr) (a7 : Option Addr) (n7 : Nat) (c7 : Nat) (a9 : Option Addr) (n9 : Nat) (c9 : Nat) (p10 : Option Addr) (a42 : Option Addr) (n42 : Nat) (c42 : Nat) (x43 : Int) (x44 : Int) (w : World) : Prop := loopN [1, 2, 3, 7, 9, 10, 42, 43, 44] (codeN Go.Proofs.Try.prog (sub (codeOf Go.Proofs.Try.f7) [1, 1, 1, 1, 1, 1, 0, 1, 0, 0]) (nsub thicketlaw07_TreesSums.an [1, 1, 1, 1, 1, 1, 0, 1, 0, 0])) (thicketlaw07_TreesSums.q28 R) k ⟨#[undef, .slice a1 n1 c1, .slice a2 n2 c2, .pointer p3, undef, undef, undef, .slice a7 n7 c7, undef, .slice a9 n9 c9, .pointer p10, undef, undef, undef, undef, undef, undef, undef, undef, undef, undef, undef, undef, undef, undef, undef, undef, undef, undef, undef, undef, undef, undef, undef, undef, undef, undef, undef, undef, undef, undef, undef, .slice a42 n42 c42, .int .i64 x43, .int .i64 x44, undef, undef, undef, undef, undef, undef, undef, undef, undef, undef, undef, undef, undef, undef, undef, undef, undef, undef, undef, undef, undef, undef, undef, undef, undef, undef, undef, undef, undef, undef, undef, undef, undef, undef, undef, undef, undef, undef, undef, undef, undef, undef, undef, undef, undef, undef, undef, undef, undef, undef, undef, undef, undef, undef, undef, undef, undef, undef, undef, undef, undef, undef, undef, undef, undef, undef, undef, undef, undef, undef, undef, undef, undef, undef, undef, undef, undef, undef, undef, undef, undef, undef, undef, undef, undef, undef, undef, undef, undef, undef, undef, undef, undef, undef, undef, undef, undef], []⟩ w
def thicketlaw07_TreesSums.re28 (R : Value → World → Prop) (a1 : Option Addr) (n1 : Nat) (c1 : Nat) (a2 : Option Addr) (n2 : Nat) (c2 : Nat) (p3 : Option Addr) (a7 : Option Addr) (n7 : Nat) (c7 : Nat) (a9 : Option Addr) (n9 : Nat) (c9 : Nat) (p10 : Option Addr) (a42 : Option Addr) (n42 : Nat) (c42 : Nat) (x43 : Int) (x44 : Int) (w : World) : Prop := ∃ k, thicketlaw07_TreesSums.rl28 R k a1 n1 c1 a2 n2 c2 p3 a7 n7 c7 a9 n9 c9 p10 a42 n42 c42 x43 x44 w
def thicketlaw07_TreesSums.l28 (R : Value → World → Prop) : Nat → (Option Addr) → Nat → Nat → (Option Addr) → Nat → Nat → (Option Addr) → (Option Addr) → Nat → Nat → (Option Addr) → Nat → Nat → (Option Addr) → (Option Addr) → Nat → Nat → Int → Int → World → Prop
  | 0, _, _, _, _, _, _, _, _, _, _, _, _, _, _, _, _, _, _, _, _ => False
  | k + 1, a1, n1, c1, a2, n2, c2, p3, a7, n7, c7, a9, n9, c9, p10, a42, n42, c42, x43, x44, w => thicketlaw07_TreesSums.g28 R (thicketlaw07_TreesSums.l28 R k) a1 n1 c1 a2 n2 c2 p3 a7 n7 c7 a9 n9 c9 p10 a42 n42 c42 x43 x44 w
def thicketlaw07_TreesSums.e28 (R : Value → World → Prop) (a1 : Option Addr) (n1 : Nat) (c1 : Nat) (a2 : Option Addr) (n2 : Nat) (c2 : Nat) (p3 : Option Addr) (a7 : Option Addr) (n7 : Nat) (c7 : Nat) (a9 : Option Addr) (n9 : Nat) (c9 : Nat) (p10 : Option Addr) (a42 : Option Addr) (n42 : Nat) (c42 : Nat) (x43 : Int) (x44 : Int) (w : World) : Prop := ∃ k, thicketlaw07_TreesSums.l28 R k a1 n1 c1 a2 n2 c2 p3 a7 n7 c7 a9 n9 c9 p10 a42 n42 c42 x43 x44 w
theorem thicketlaw07_TreesSums.s28 (R : Value → World → Prop) (k : Nat) (a1 : Option Addr) (n1 : Nat) (c1 : Nat) (a2 : Option Addr) (n2 : Nat) (c2 : Nat) (p3 : Option Addr) (a7 : Option Addr) (n7 : Nat) (c7 : Nat) (a9 : Option Addr) (n9 : Nat) (c9 : Nat) (p10 : Option Addr) (a42 : Option Addr) (n42 : Nat) (c42 : Nat) (x43 : Int) (x44 : Int) (w : World) : thicketlaw07_TreesSums.rl28 R (k + 1) a1 n1 c1 a2 n2 c2 p3 a7 n7 c7 a9 n9 c9 p10 a42 n42 c42 x43 x44 w = ∀ _ : Nat → Value, thicketlaw07_TreesSums.g28 R (thicketlaw07_TreesSums.rl28 R k) a1 n1 c1 a2 n2 c2 p3 a7 n7 c7 a9 n9 c9 p10 a42 n42 c42 x43 x44 w := by kernel_rfl
theorem thicketlaw07_TreesSums.lq28 (R : Value → World → Prop) : ∀ k, thicketlaw07_TreesSums.l28 R k = thicketlaw07_TreesSums.rl28 R k
  | 0 => by funext a1 n1 c1 a2 n2 c2 p3 a7 n7 c7 a9 n9 c9 p10 a42 n42 c42 x43 x44 w; first | rfl | kernel_rfl
  | k + 1 => by
    funext a1 n1 c1 a2 n2 c2 p3 a7 n7 c7 a9 n9 c9 p10 a42 n42 c42 x43 x44 w
    rw [thicketlaw07_TreesSums.s28, forall_const]
    unfold thicketlaw07_TreesSums.l28
    have ih := thicketlaw07_TreesSums.lq28 R k
    rw [ih]
    all_goals rfl
theorem thicketlaw07_TreesSums.eq28 (R : Value → World → Prop) : thicketlaw07_TreesSums.e28 R = thicketlaw07_TreesSums.re28 R := by
  funext a1 n1 c1 a2 n2 c2 p3 a7 n7 c7 a9 n9 c9 p10 a42 n42 c42 x43 x44 w
  unfold thicketlaw07_TreesSums.e28 thicketlaw07_TreesSums.re28
  simp only [thicketlaw07_TreesSums.lq28 R]
def thicketlaw07_TreesSums (R : Value → World → Prop) (s0_0 : ByteArray) (a0_1 : Option Addr) (n0_1 : Nat) (c0_1 : Nat) (x0_2 : Int) (a0_3 : Option Addr) (n0_3 : Nat) (c0_3 : Nat) (a0_4 : Option Addr) (n0_4 : Nat) (c0_4 : Nat) (a1 : Option Addr) (n1 : Nat) (c1 : Nat) (a2 : Option Addr) (n2 : Nat) (c2 : Nat) (w : World) : Prop := thicketlaw07_TreesSums.g0 R (thicketlaw07_TreesSums.e28 R) s0_0 a0_1 n0_1 c0_1 x0_2 a0_3 n0_3 c0_3 a0_4 n0_4 c0_4 a1 n1 c1 a2 n2 c2 w
theorem thicketlaw07_TreesSums.root0 (R : Value → World → Prop) (s0_0 : ByteArray) (a0_1 : Option Addr) (n0_1 : Nat) (c0_1 : Nat) (x0_2 : Int) (a0_3 : Option Addr) (n0_3 : Nat) (c0_3 : Nat) (a0_4 : Option Addr) (n0_4 : Nat) (c0_4 : Nat) (a1 : Option Addr) (n1 : Nat) (c1 : Nat) (a2 : Option Addr) (n2 : Nat) (c2 : Nat) (w : World) : fnN Go.Proofs.Try.prog Go.Proofs.Try.f7 thicketlaw07_TreesSums.an #[.agg #[.string s0_0, .slice a0_1 n0_1 c0_1, .int .i64 x0_2, .slice a0_3 n0_3 c0_3, .slice a0_4 n0_4 c0_4], .slice a1 n1 c1, .slice a2 n2 c2] w R = thicketlaw07_TreesSums.g0 R (thicketlaw07_TreesSums.re28 R) s0_0 a0_1 n0_1 c0_1 x0_2 a0_3 n0_3 c0_3 a0_4 n0_4 c0_4 a1 n1 c1 a2 n2 c2 w := by kernel_rfl
theorem thicketlaw07_TreesSums.calls {R : Value → World → Prop} {s0_0 : ByteArray} {a0_1 : Option Addr} {n0_1 : Nat} {c0_1 : Nat} {x0_2 : Int} {a0_3 : Option Addr} {n0_3 : Nat} {c0_3 : Nat} {a0_4 : Option Addr} {n0_4 : Nat} {c0_4 : Nat} {a1 : Option Addr} {n1 : Nat} {c1 : Nat} {a2 : Option Addr} {n2 : Nat} {c2 : Nat} {w : World} (h : thicketlaw07_TreesSums R s0_0 a0_1 n0_1 c0_1 x0_2 a0_3 n0_3 c0_3 a0_4 n0_4 c0_4 a1 n1 c1 a2 n2 c2 w) : Go.E.CallsD Go.Proofs.Try.prog 7 #[.agg #[.string s0_0, .slice a0_1 n0_1 c0_1, .int .i64 x0_2, .slice a0_3 n0_3 c0_3, .slice a0_4 n0_4 c0_4], .slice a1 n1 c1, .slice a2 n2 c2] w R := by
  refine callsD_of (n := thicketlaw07_TreesSums.an) M_follows M_sizes Go.Proofs.Try.func7 (by rfl) ?_
  rw [thicketlaw07_TreesSums.root0]
  unfold thicketlaw07_TreesSums at h
  rw [thicketlaw07_TreesSums.eq28 R] at h
  exact h
end Go.Mir
