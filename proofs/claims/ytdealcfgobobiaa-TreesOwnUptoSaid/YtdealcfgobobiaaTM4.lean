/- Part of a proof of laws of the seat Ytdealcfgobobiaa: functions' weakest preconditions, each checked by the kernel, contracts out of them, plain lemmas; no conditions. -/
import Derived.Test.YtdealcfgobobiaaTM0
set_option linter.unusedVariables false
set_option linter.unusedSimpArgs false
set_option linter.unusedVariables false
set_option maxRecDepth 100000
namespace Go.Mir
open Go Go.E Go.RowKit
-- thicket/thicketref07.Model
def thicketref07_Model.an : An := (.mk none .nil (.mk none .nil (.mk none (.mk none .nil (.mk none (.mk (some [2, 4, 12, 13, 14]) .nil .nil) .nil)) .nil)))
def thicketref07_Model.g0 (R : Value → World → Prop) (e8 : (Option Addr) → (Option Addr) → (Option Addr) → Nat → Nat → Int → Int → World → Prop) (s0_0 : ByteArray) (a0_1 : Option Addr) (n0_1 : Nat) (c0_1 : Nat) (x0_2 : Int) (a0_3 : Option Addr) (n0_3 : Nat) (c0_3 : Nat) (a0_4 : Option Addr) (n0_4 : Nat) (c0_4 : Nat) (w : World) : Prop :=
 nw (w.alloc (.cells #[.string s0_0, .slice a0_1 n0_1 c0_1, .int .i64 x0_2, .slice a0_3 n0_3 c0_3, .slice a0_4 n0_4 c0_4] 46)) fun w70 =>
 nw (w70.alloc (.cells #[.string ⟨#[]⟩, .slice none 0 0, .int .i64 0, .slice none 0 0, .slice none 0 0] 46)) fun w71 =>
 ∃ ys_72 : ByteArray, w71.cell? ((na w).add 0) = some (.string ys_72) ∧
 (∃ ya_73 : Option Addr, ∃ yn_73 : Nat, ∃ yc_73 : Nat, w71.cell? ((na w).add 1) = some (.slice ya_73 yn_73 yc_73) ∧
 (∃ yx_74 : Int, w71.cell? ((na w).add 2) = some (.int .i64 yx_74) ∧
 (∃ ya_75 : Option Addr, ∃ yn_75 : Nat, ∃ yc_75 : Nat, w71.cell? ((na w).add 3) = some (.slice ya_75 yn_75 yc_75) ∧
 (∃ ya_76 : Option Addr, ∃ yn_76 : Nat, ∃ yc_76 : Nat, w71.cell? ((na w).add 4) = some (.slice ya_76 yn_76 yc_76) ∧
 (Go.E.CallsD Go.Proofs.Try.prog 20 #[.agg #[.string ys_72, .slice ya_73 yn_73 yc_73, .int .i64 yx_74, .slice ya_75 yn_75 yc_75, .slice ya_76 yn_76 yc_76]] w71 fun yv77 u78 =>
 ∃ ys_79_0 : ByteArray, ∃ ya_79_1 : Option Addr, ∃ yn_79_1 : Nat, ∃ yc_79_1 : Nat, ∃ yx_79_2 : Int, ∃ ya_79_3 : Option Addr, ∃ yn_79_3 : Nat, ∃ yc_79_3 : Nat, ∃ ya_79_4 : Option Addr, ∃ yn_79_4 : Nat, ∃ yc_79_4 : Nat, yv77 = .agg #[.string ys_79_0, .slice ya_79_1 yn_79_1 yc_79_1, .int .i64 yx_79_2, .slice ya_79_3 yn_79_3 yc_79_3, .slice ya_79_4 yn_79_4 yc_79_4] ∧
 (nw (u78.alloc (.cells #[.string ⟨#[]⟩, .slice none 0 0, .int .i64 0, .slice none 0 0, .slice none 0 0] 46)) fun w80 =>
 okSt w80 ((na u78).add 0) ∧
 (nw (w80.setCell ((na u78).add 0) (.string ys_79_0)) fun w81 =>
 okSt w81 ((na u78).add 1) ∧
 (nw (w81.setCell ((na u78).add 1) (.slice ya_79_1 yn_79_1 yc_79_1)) fun w82 =>
 okSt w82 ((na u78).add 2) ∧
 (nw (w82.setCell ((na u78).add 2) (.int .i64 yx_79_2)) fun w83 =>
 okSt w83 ((na u78).add 3) ∧
 (nw (w83.setCell ((na u78).add 3) (.slice ya_79_3 yn_79_3 yc_79_3)) fun w84 =>
 okSt w84 ((na u78).add 4) ∧
 (nw (w84.setCell ((na u78).add 4) (.slice ya_79_4 yn_79_4 yc_79_4)) fun w85 =>
 ∃ ya_86 : Option Addr, ∃ yn_86 : Nat, ∃ yc_86 : Nat, w85.cell? ((na w).add 4) = some (.slice ya_86 yn_86 yc_86) ∧
 (e8 (some (na w70)) (some (na u78)) ya_86 yn_86 yc_86 (yn_86 : Int) 0 w85))))))))))))
def thicketref07_Model.g8 (R : Value → World → Prop) (b8 : (Option Addr) → (Option Addr) → (Option Addr) → Nat → Nat → Int → Int → World → Prop) (p2 : Option Addr) (p4 : Option Addr) (a12 : Option Addr) (n12 : Nat) (c12 : Nat) (x13 : Int) (x14 : Int) (w : World) : Prop :=
 onBool (decide (x14 < x13))
 (optN a12 fun q87 =>
 chk ((0 : Int) ≤ x14 ∧ x14 < (n12 : Int))
 (∃ yx_88 : Int, w.cell? ((q87.add (x14.toNat * 2)).add 0) = some (.int .i64 yx_88) ∧
 (∃ ya_89 : Option Addr, ∃ yn_89 : Nat, ∃ yc_89 : Nat, w.cell? ((q87.add (x14.toNat * 2)).add 1) = some (.slice ya_89 yn_89 yc_89) ∧
 (nw (w.alloc (.cells #[.int .i64 0, .slice none 0 0] 33)) fun w90 =>
 okSt w90 ((na w).add 0) ∧
 (nw (w90.setCell ((na w).add 0) (.int .i64 yx_88)) fun w91 =>
 okSt w91 ((na w).add 1) ∧
 (nw (w91.setCell ((na w).add 1) (.slice ya_89 yn_89 yc_89)) fun w92 =>
 ∃ yx_93 : Int, w92.cell? ((na w).add 0) = some (.int .i64 yx_93) ∧
 (∃ ya_94 : Option Addr, ∃ yn_94 : Nat, ∃ yc_94 : Nat, w92.cell? ((na w).add 1) = some (.slice ya_94 yn_94 yc_94) ∧
 (Go.E.CallsD Go.Proofs.Try.prog 41 #[.agg #[.int .i64 yx_93, .slice ya_94 yn_94 yc_94]] w92 fun yv95 u96 =>
 ∃ yx_97_0_0 : Int, ∃ ya_97_0_1 : Option Addr, ∃ yn_97_0_1 : Nat, ∃ yc_97_0_1 : Nat, ∃ yx_97_1 : Int, yv95 = .tuple #[.agg #[.int .i64 yx_97_0_0, .slice ya_97_0_1 yn_97_0_1 yc_97_0_1], .int .i64 yx_97_1] ∧
 (nw (u96.alloc (.cells #[.int .i64 0, .slice none 0 0] 33)) fun w98 =>
 okSt w98 ((na u96).add 0) ∧
 (nw (w98.setCell ((na u96).add 0) (.int .i64 yx_97_0_0)) fun w99 =>
 okSt w99 ((na u96).add 1) ∧
 (nw (w99.setCell ((na u96).add 1) (.slice ya_97_0_1 yn_97_0_1 yc_97_0_1)) fun w100 =>
 onBool (yx_97_1 != 0)
 (optN p2 fun q101 =>
 okSt w100 (q101.add 0) ∧
 (nw (w100.setCell (q101.add 0) (.string ⟨#[]⟩)) fun w102 =>
 okSt w102 (q101.add 1) ∧
 (nw (w102.setCell (q101.add 1) (.slice none 0 0)) fun w103 =>
 okSt w103 (q101.add 2) ∧
 (nw (w103.setCell (q101.add 2) (.int .i64 0)) fun w104 =>
 okSt w104 (q101.add 3) ∧
 (nw (w104.setCell (q101.add 3) (.slice none 0 0)) fun w105 =>
 okSt w105 (q101.add 4) ∧
 (nw (w105.setCell (q101.add 4) (.slice none 0 0)) fun w106 =>
 optN p2 fun q107 =>
 ∃ ys_108 : ByteArray, w106.cell? (q107.add 0) = some (.string ys_108) ∧
 (∃ ya_109 : Option Addr, ∃ yn_109 : Nat, ∃ yc_109 : Nat, w106.cell? (q107.add 1) = some (.slice ya_109 yn_109 yc_109) ∧
 (∃ yx_110 : Int, w106.cell? (q107.add 2) = some (.int .i64 yx_110) ∧
 (∃ ya_111 : Option Addr, ∃ yn_111 : Nat, ∃ yc_111 : Nat, w106.cell? (q107.add 3) = some (.slice ya_111 yn_111 yc_111) ∧
 (∃ ya_112 : Option Addr, ∃ yn_112 : Nat, ∃ yc_112 : Nat, w106.cell? (q107.add 4) = some (.slice ya_112 yn_112 yc_112) ∧
 (R (.tuple #[.agg #[.string ys_108, .slice ya_109 yn_109 yc_109, .int .i64 yx_110, .slice ya_111 yn_111 yc_111, .slice ya_112 yn_112 yc_112], .int .i64 yx_97_1]) w106)))))))))))
 (optN p4 fun q113 =>
 ∃ ya_114 : Option Addr, ∃ yn_114 : Nat, ∃ yc_114 : Nat, w100.cell? (q113.add 4) = some (.slice ya_114 yn_114 yc_114) ∧
 (∃ yx_115 : Int, w100.cell? ((na u96).add 0) = some (.int .i64 yx_115) ∧
 (∃ ya_116 : Option Addr, ∃ yn_116 : Nat, ∃ yc_116 : Nat, w100.cell? ((na u96).add 1) = some (.slice ya_116 yn_116 yc_116) ∧
 (optN ya_114 fun q117 =>
 chk ((0 : Int) ≤ x14 ∧ x14 < (yn_114 : Int))
 (okSt w100 ((q117.add (x14.toNat * 2)).add 0) ∧
 (nw (w100.setCell ((q117.add (x14.toNat * 2)).add 0) (.int .i64 yx_115)) fun w118 =>
 okSt w118 ((q117.add (x14.toNat * 2)).add 1) ∧
 (nw (w118.setCell ((q117.add (x14.toNat * 2)).add 1) (.slice ya_116 yn_116 yc_116)) fun w119 =>
 nv (IntKind.i64.wrap (x14 + 1)) fun t120 =>
 b8 p2 p4 a12 n12 c12 x13 t120 w119))))))))))))))))))
 (optN p4 fun q121 =>
 ∃ ys_122 : ByteArray, w.cell? (q121.add 0) = some (.string ys_122) ∧
 (∃ ya_123 : Option Addr, ∃ yn_123 : Nat, ∃ yc_123 : Nat, w.cell? (q121.add 1) = some (.slice ya_123 yn_123 yc_123) ∧
 (∃ yx_124 : Int, w.cell? (q121.add 2) = some (.int .i64 yx_124) ∧
 (∃ ya_125 : Option Addr, ∃ yn_125 : Nat, ∃ yc_125 : Nat, w.cell? (q121.add 3) = some (.slice ya_125 yn_125 yc_125) ∧
 (∃ ya_126 : Option Addr, ∃ yn_126 : Nat, ∃ yc_126 : Nat, w.cell? (q121.add 4) = some (.slice ya_126 yn_126 yc_126) ∧
 (optN p2 fun q127 =>
 okSt w (q127.add 0) ∧
 (nw (w.setCell (q127.add 0) (.string ys_122)) fun w128 =>
 okSt w128 (q127.add 1) ∧
 (nw (w128.setCell (q127.add 1) (.slice ya_123 yn_123 yc_123)) fun w129 =>
 okSt w129 (q127.add 2) ∧
 (nw (w129.setCell (q127.add 2) (.int .i64 yx_124)) fun w130 =>
 okSt w130 (q127.add 3) ∧
 (nw (w130.setCell (q127.add 3) (.slice ya_125 yn_125 yc_125)) fun w131 =>
 okSt w131 (q127.add 4) ∧
 (nw (w131.setCell (q127.add 4) (.slice ya_126 yn_126 yc_126)) fun w132 =>
 optN p2 fun q133 =>
 ∃ ys_134 : ByteArray, w132.cell? (q133.add 0) = some (.string ys_134) ∧
 (∃ ya_135 : Option Addr, ∃ yn_135 : Nat, ∃ yc_135 : Nat, w132.cell? (q133.add 1) = some (.slice ya_135 yn_135 yc_135) ∧
 (∃ yx_136 : Int, w132.cell? (q133.add 2) = some (.int .i64 yx_136) ∧
 (∃ ya_137 : Option Addr, ∃ yn_137 : Nat, ∃ yc_137 : Nat, w132.cell? (q133.add 3) = some (.slice ya_137 yn_137 yc_137) ∧
 (∃ ya_138 : Option Addr, ∃ yn_138 : Nat, ∃ yc_138 : Nat, w132.cell? (q133.add 4) = some (.slice ya_138 yn_138 yc_138) ∧
 (R (.tuple #[.agg #[.string ys_134, .slice ya_135 yn_135 yc_135, .int .i64 yx_136, .slice ya_137 yn_137 yc_137, .slice ya_138 yn_138 yc_138], .int .i64 0]) w132))))))))))))))))
def thicketref07_Model.q2 (R : Value → World → Prop) : Exit → Act → World → Prop := (fin Go.Proofs.Try.prog Go.Proofs.Try.f35 R)
def thicketref07_Model.q4 (R : Value → World → Prop) : Exit → Act → World → Prop := (thicketref07_Model.q2 R)
def thicketref07_Model.q5 (R : Value → World → Prop) : Exit → Act → World → Prop := Exit.then (startN none (codeN Go.Proofs.Try.prog (sub (codeOf Go.Proofs.Try.f35) [1, 1, 1]) (nsub thicketref07_Model.an [1, 1, 1]) (thicketref07_Model.q4 R))) (thicketref07_Model.q4 R)
def thicketref07_Model.q7 (R : Value → World → Prop) : Exit → Act → World → Prop := (thicketref07_Model.q5 R)
def thicketref07_Model.q8 (R : Value → World → Prop) : Exit → Act → World → Prop := Exit.inBlock 0 (thicketref07_Model.q7 R)
def thicketref07_Model.rl8 (R : Value → World → Prop) (k : Nat) (p2 : Option Addr) (p4 : Option Addr) (a12 : Option Addr) (n12 : Nat) (c12 : Nat) (x13 : Int) (x14 : Int) (w : World) : Prop := loopN [2, 4, 12, 13, 14] (codeN Go.Proofs.Try.prog (sub (codeOf Go.Proofs.Try.f35) [1, 1, 0, 1, 0, 0]) (nsub thicketref07_Model.an [1, 1, 0, 1, 0, 0])) (thicketref07_Model.q8 R) k ⟨#[undef, undef, .pointer p2, undef, .pointer p4, undef, undef, undef, undef, undef, undef, undef, .slice a12 n12 c12, .int .i64 x13, .int .i64 x14, undef, undef, undef, undef, undef, undef, undef, undef, undef, undef, undef, undef, undef, undef, undef, undef, undef, undef, undef, undef], []⟩ w
def thicketref07_Model.re8 (R : Value → World → Prop) (p2 : Option Addr) (p4 : Option Addr) (a12 : Option Addr) (n12 : Nat) (c12 : Nat) (x13 : Int) (x14 : Int) (w : World) : Prop := ∃ k, thicketref07_Model.rl8 R k p2 p4 a12 n12 c12 x13 x14 w
def thicketref07_Model.l8 (R : Value → World → Prop) : Nat → (Option Addr) → (Option Addr) → (Option Addr) → Nat → Nat → Int → Int → World → Prop
  | 0, _, _, _, _, _, _, _, _ => False
  | k + 1, p2, p4, a12, n12, c12, x13, x14, w => thicketref07_Model.g8 R (thicketref07_Model.l8 R k) p2 p4 a12 n12 c12 x13 x14 w
def thicketref07_Model.e8 (R : Value → World → Prop) (p2 : Option Addr) (p4 : Option Addr) (a12 : Option Addr) (n12 : Nat) (c12 : Nat) (x13 : Int) (x14 : Int) (w : World) : Prop := ∃ k, thicketref07_Model.l8 R k p2 p4 a12 n12 c12 x13 x14 w
theorem thicketref07_Model.s8 (R : Value → World → Prop) (k : Nat) (p2 : Option Addr) (p4 : Option Addr) (a12 : Option Addr) (n12 : Nat) (c12 : Nat) (x13 : Int) (x14 : Int) (w : World) : thicketref07_Model.rl8 R (k + 1) p2 p4 a12 n12 c12 x13 x14 w = ∀ _ : Nat → Value, thicketref07_Model.g8 R (thicketref07_Model.rl8 R k) p2 p4 a12 n12 c12 x13 x14 w := by kernel_rfl
theorem thicketref07_Model.lq8 (R : Value → World → Prop) : ∀ k, thicketref07_Model.l8 R k = thicketref07_Model.rl8 R k
  | 0 => by funext p2 p4 a12 n12 c12 x13 x14 w; first | rfl | kernel_rfl
  | k + 1 => by
    funext p2 p4 a12 n12 c12 x13 x14 w
    rw [thicketref07_Model.s8, forall_const]
    unfold thicketref07_Model.l8
    have ih := thicketref07_Model.lq8 R k
    rw [ih]
    all_goals rfl
theorem thicketref07_Model.eq8 (R : Value → World → Prop) : thicketref07_Model.e8 R = thicketref07_Model.re8 R := by
  funext p2 p4 a12 n12 c12 x13 x14 w
  unfold thicketref07_Model.e8 thicketref07_Model.re8
  simp only [thicketref07_Model.lq8 R]
def thicketref07_Model (R : Value → World → Prop) (s0_0 : ByteArray) (a0_1 : Option Addr) (n0_1 : Nat) (c0_1 : Nat) (x0_2 : Int) (a0_3 : Option Addr) (n0_3 : Nat) (c0_3 : Nat) (a0_4 : Option Addr) (n0_4 : Nat) (c0_4 : Nat) (w : World) : Prop := thicketref07_Model.g0 R (thicketref07_Model.e8 R) s0_0 a0_1 n0_1 c0_1 x0_2 a0_3 n0_3 c0_3 a0_4 n0_4 c0_4 w
theorem thicketref07_Model.root0 (R : Value → World → Prop) (s0_0 : ByteArray) (a0_1 : Option Addr) (n0_1 : Nat) (c0_1 : Nat) (x0_2 : Int) (a0_3 : Option Addr) (n0_3 : Nat) (c0_3 : Nat) (a0_4 : Option Addr) (n0_4 : Nat) (c0_4 : Nat) (w : World) : fnN Go.Proofs.Try.prog Go.Proofs.Try.f35 thicketref07_Model.an #[.agg #[.string s0_0, .slice a0_1 n0_1 c0_1, .int .i64 x0_2, .slice a0_3 n0_3 c0_3, .slice a0_4 n0_4 c0_4]] w R = thicketref07_Model.g0 R (thicketref07_Model.re8 R) s0_0 a0_1 n0_1 c0_1 x0_2 a0_3 n0_3 c0_3 a0_4 n0_4 c0_4 w := by kernel_rfl
theorem thicketref07_Model.calls {R : Value → World → Prop} {s0_0 : ByteArray} {a0_1 : Option Addr} {n0_1 : Nat} {c0_1 : Nat} {x0_2 : Int} {a0_3 : Option Addr} {n0_3 : Nat} {c0_3 : Nat} {a0_4 : Option Addr} {n0_4 : Nat} {c0_4 : Nat} {w : World} (h : thicketref07_Model R s0_0 a0_1 n0_1 c0_1 x0_2 a0_3 n0_3 c0_3 a0_4 n0_4 c0_4 w) : Go.E.CallsD Go.Proofs.Try.prog 35 #[.agg #[.string s0_0, .slice a0_1 n0_1 c0_1, .int .i64 x0_2, .slice a0_3 n0_3 c0_3, .slice a0_4 n0_4 c0_4]] w R := by
  refine callsD_of (n := thicketref07_Model.an) M_follows M_sizes Go.Proofs.Try.func35 (by rfl) ?_
  rw [thicketref07_Model.root0]
  unfold thicketref07_Model at h
  rw [thicketref07_Model.eq8 R] at h
  exact h
-- thicket/thicketlaw07.spoil
def thicketlaw07_spoil.an : An := (.mk none .nil (.mk none (.mk none .nil (.mk none (.mk (some [1, 9, 10]) .nil .nil) .nil)) (.mk none (.mk none .nil (.mk none (.mk (some [1, 20, 21]) .nil .nil) .nil)) (.mk none (.mk none .nil (.mk none (.mk (some [1, 31, 32]) (.mk none .nil (.mk none .nil (.mk none (.mk none (.mk none .nil (.mk none (.mk none .nil (.mk none (.mk (some [1, 4, 31, 32, 41, 42]) (.mk none .nil (.mk none .nil (.mk none (.mk none (.mk none .nil (.mk none (.mk none .nil (.mk none (.mk (some [1, 4, 5, 31, 32, 41, 42, 55, 56]) .nil .nil) .nil)) .nil)) .nil) .nil))) .nil) .nil)) .nil)) .nil) .nil))) .nil) .nil)) .nil))))
def thicketlaw07_spoil.g0 (R : Value → World → Prop) (e6 : (Option Addr) → Int → Int → World → Prop) (s0_0 : ByteArray) (a0_1 : Option Addr) (n0_1 : Nat) (c0_1 : Nat) (x0_2 : Int) (a0_3 : Option Addr) (n0_3 : Nat) (c0_3 : Nat) (a0_4 : Option Addr) (n0_4 : Nat) (c0_4 : Nat) (w : World) : Prop :=
 nw (w.alloc (.cells #[.string s0_0, .slice a0_1 n0_1 c0_1, .int .i64 x0_2, .slice a0_3 n0_3 c0_3, .slice a0_4 n0_4 c0_4] 46)) fun w108 =>
 ∃ ya_109 : Option Addr, ∃ yn_109 : Nat, ∃ yc_109 : Nat, w108.cell? ((na w).add 1) = some (.slice ya_109 yn_109 yc_109) ∧
 (e6 (some (na w)) (yn_109 : Int) 0 w108)
def thicketlaw07_spoil.g6 (R : Value → World → Prop) (b6 : (Option Addr) → Int → Int → World → Prop) (e23 : (Option Addr) → Int → Int → World → Prop) (p1 : Option Addr) (x9 : Int) (x10 : Int) (w : World) : Prop :=
 onBool (decide (x10 < x9))
 (optN p1 fun q110 =>
 ∃ ya_111 : Option Addr, ∃ yn_111 : Nat, ∃ yc_111 : Nat, w.cell? (q110.add 1) = some (.slice ya_111 yn_111 yc_111) ∧
 (optN ya_111 fun q112 =>
 chk ((0 : Int) ≤ x10 ∧ x10 < (yn_111 : Int))
 (okSt w ((q112.add (x10.toNat * 1)).add 0) ∧
 (nw (w.setCell ((q112.add (x10.toNat * 1)).add 0) (.string ⟨#[103, 111, 110, 101]⟩)) fun w113 =>
 nv (IntKind.i64.wrap (x10 + 1)) fun t114 =>
 b6 p1 x9 t114 w113))))
 (optN p1 fun q115 =>
 ∃ ya_116 : Option Addr, ∃ yn_116 : Nat, ∃ yc_116 : Nat, w.cell? (q115.add 3) = some (.slice ya_116 yn_116 yc_116) ∧
 (e23 p1 (yn_116 : Int) 0 w))
def thicketlaw07_spoil.g23 (R : Value → World → Prop) (b23 : (Option Addr) → Int → Int → World → Prop) (e40 : (Option Addr) → Int → Int → World → Prop) (p1 : Option Addr) (x20 : Int) (x21 : Int) (w : World) : Prop :=
 onBool (decide (x21 < x20))
 (optN p1 fun q117 =>
 ∃ ya_118 : Option Addr, ∃ yn_118 : Nat, ∃ yc_118 : Nat, w.cell? (q117.add 3) = some (.slice ya_118 yn_118 yc_118) ∧
 (optN ya_118 fun q119 =>
 chk ((0 : Int) ≤ x21 ∧ x21 < (yn_118 : Int))
 (okSt w ((q119.add (x21.toNat * 1)).add 0) ∧
 (nw (w.setCell ((q119.add (x21.toNat * 1)).add 0) (.int .i64 (-1))) fun w120 =>
 nv (IntKind.i64.wrap (x21 + 1)) fun t121 =>
 b23 p1 x20 t121 w120))))
 (optN p1 fun q122 =>
 ∃ ya_123 : Option Addr, ∃ yn_123 : Nat, ∃ yc_123 : Nat, w.cell? (q122.add 4) = some (.slice ya_123 yn_123 yc_123) ∧
 (e40 p1 (yn_123 : Int) 0 w))
def thicketlaw07_spoil.g40 (R : Value → World → Prop) (e55 : (Option Addr) → Int → Int → Int → Int → Int → World → Prop) (p1 : Option Addr) (x31 : Int) (x32 : Int) (w : World) : Prop :=
 onBool (decide (x32 < x31))
 (optN p1 fun q124 =>
 ∃ ya_125 : Option Addr, ∃ yn_125 : Nat, ∃ yc_125 : Nat, w.cell? (q124.add 4) = some (.slice ya_125 yn_125 yc_125) ∧
 (optN ya_125 fun q126 =>
 chk ((0 : Int) ≤ x32 ∧ x32 < (yn_125 : Int))
 (∃ ya_127 : Option Addr, ∃ yn_127 : Nat, ∃ yc_127 : Nat, w.cell? ((q126.add (x32.toNat * 2)).add 1) = some (.slice ya_127 yn_127 yc_127) ∧
 (e55 p1 x32 x31 x32 (yn_127 : Int) 0 w))))
 (optN p1 fun q128 =>
 ∃ ya_129 : Option Addr, ∃ yn_129 : Nat, ∃ yc_129 : Nat, w.cell? (q128.add 4) = some (.slice ya_129 yn_129 yc_129) ∧
 (nw (w.alloc (.cells #[.int .i64 0, .slice none 0 0] 33)) fun w130 =>
 rawN Go.Proofs.Try.prog (Builtin.append_ #[44, 44] 44 #[.slice ya_129 yn_129 yc_129, .slice (some (na w)) 1 1]) w130 fun yv131 u132 =>
 ∃ ya_133 : Option Addr, ∃ yn_133 : Nat, ∃ yc_133 : Nat, yv131 = .slice ya_133 yn_133 yc_133 ∧
 (optN p1 fun q134 =>
 okSt u132 ((q134.add 4).add 0) ∧
 (nw (u132.setCell ((q134.add 4).add 0) (.slice ya_133 yn_133 yc_133)) fun w135 =>
 optN p1 fun q136 =>
 ∃ ya_137 : Option Addr, ∃ yn_137 : Nat, ∃ yc_137 : Nat, w135.cell? (q136.add 1) = some (.slice ya_137 yn_137 yc_137) ∧
 (nw (w135.alloc (.cells #[.string ⟨#[120]⟩, .string ⟨#[121]⟩] 9)) fun w138 =>
 rawN Go.Proofs.Try.prog (Builtin.append_ #[42, 42] 42 #[.slice ya_137 yn_137 yc_137, .slice (some (na w135)) 2 2]) w138 fun yv139 u140 =>
 ∃ ya_141 : Option Addr, ∃ yn_141 : Nat, ∃ yc_141 : Nat, yv139 = .slice ya_141 yn_141 yc_141 ∧
 (optN p1 fun q142 =>
 okSt u140 ((q142.add 1).add 0) ∧
 (nw (u140.setCell ((q142.add 1).add 0) (.slice ya_141 yn_141 yc_141)) fun w143 =>
 optN p1 fun q144 =>
 ∃ ya_145 : Option Addr, ∃ yn_145 : Nat, ∃ yc_145 : Nat, w143.cell? (q144.add 3) = some (.slice ya_145 yn_145 yc_145) ∧
 (nw (w143.alloc (.cells #[.int .i64 1, .int .i64 2] 2)) fun w146 =>
 rawN Go.Proofs.Try.prog (Builtin.append_ #[43, 43] 43 #[.slice ya_145 yn_145 yc_145, .slice (some (na w143)) 2 2]) w146 fun yv147 u148 =>
 ∃ ya_149 : Option Addr, ∃ yn_149 : Nat, ∃ yc_149 : Nat, yv147 = .slice ya_149 yn_149 yc_149 ∧
 (optN p1 fun q150 =>
 okSt u148 ((q150.add 3).add 0) ∧
 (nw (u148.setCell ((q150.add 3).add 0) (.slice ya_149 yn_149 yc_149)) fun w151 =>
 optN p1 fun q152 =>
 ∃ ya_153 : Option Addr, ∃ yn_153 : Nat, ∃ yc_153 : Nat, w151.cell? (q152.add 4) = some (.slice ya_153 yn_153 yc_153) ∧
 (optN p1 fun q154 =>
 ∃ ya_155 : Option Addr, ∃ yn_155 : Nat, ∃ yc_155 : Nat, w151.cell? (q154.add 1) = some (.slice ya_155 yn_155 yc_155) ∧
 (nv (IntKind.i64.wrap ((yn_153 : Int) + (yn_155 : Int))) fun t156 =>
 optN p1 fun q157 =>
 ∃ ya_158 : Option Addr, ∃ yn_158 : Nat, ∃ yc_158 : Nat, w151.cell? (q157.add 3) = some (.slice ya_158 yn_158 yc_158) ∧
 (nv (IntKind.i64.wrap (t156 + (yn_158 : Int))) fun t159 =>
 onBool (t159 == 0)
 (optN p1 fun q160 =>
 okSt w151 ((q160.add 2).add 0) ∧
 (nw (w151.setCell ((q160.add 2).add 0) (.int .i64 0)) fun w161 =>
 R (.tuple #[]) w161))
 (R (.tuple #[]) w151))))))))))))))
def thicketlaw07_spoil.g55 (R : Value → World → Prop) (b40 : (Option Addr) → Int → Int → World → Prop) (e70 : (Option Addr) → Int → Int → Int → Int → Int → Int → Int → Int → World → Prop) (p1 : Option Addr) (x4 : Int) (x31 : Int) (x32 : Int) (x41 : Int) (x42 : Int) (w : World) : Prop :=
 onBool (decide (x42 < x41))
 (optN p1 fun q162 =>
 ∃ ya_163 : Option Addr, ∃ yn_163 : Nat, ∃ yc_163 : Nat, w.cell? (q162.add 4) = some (.slice ya_163 yn_163 yc_163) ∧
 (optN ya_163 fun q164 =>
 chk ((0 : Int) ≤ x4 ∧ x4 < (yn_163 : Int))
 (∃ ya_165 : Option Addr, ∃ yn_165 : Nat, ∃ yc_165 : Nat, w.cell? ((q164.add (x4.toNat * 2)).add 1) = some (.slice ya_165 yn_165 yc_165) ∧
 (optN ya_165 fun q166 =>
 chk ((0 : Int) ≤ x42 ∧ x42 < (yn_165 : Int))
 (∃ ya_167 : Option Addr, ∃ yn_167 : Nat, ∃ yc_167 : Nat, w.cell? ((q166.add (x42.toNat * 8)).add 4) = some (.slice ya_167 yn_167 yc_167) ∧
 (e70 p1 x4 x42 x31 x32 x41 x42 (yn_167 : Int) 0 w))))))
 (∃ wm168 : World, CK wm168 w ∧
 (optN p1 fun q169 =>
 ∃ ya_170 : Option Addr, ∃ yn_170 : Nat, ∃ yc_170 : Nat, wm168.cell? (q169.add 4) = some (.slice ya_170 yn_170 yc_170) ∧
 (optN p1 fun q171 =>
 ∃ ya_172 : Option Addr, ∃ yn_172 : Nat, ∃ yc_172 : Nat, wm168.cell? (q171.add 4) = some (.slice ya_172 yn_172 yc_172) ∧
 (optN ya_172 fun q173 =>
 chk ((0 : Int) ≤ x4 ∧ x4 < (yn_172 : Int))
 (∃ ya_174 : Option Addr, ∃ yn_174 : Nat, ∃ yc_174 : Nat, wm168.cell? ((q173.add (x4.toNat * 2)).add 1) = some (.slice ya_174 yn_174 yc_174) ∧
 (nw (w.alloc (.cells #[.int .u8 0, .int .i64 0, .int .i64 0, .float .f64 0, .slice none 0 0, .int .u8 0, .int .i64 0, .int .i64 0, .int .u8 0, .int .i64 0, .int .i64 0, .float .f64 0, .slice none 0 0, .int .u8 0, .int .i64 0, .int .i64 0] 27)) fun w175 =>
 CK wm168 w175 ∧
 (rawN Go.Proofs.Try.prog (Builtin.append_ #[31, 31] 31 #[.slice ya_174 yn_174 yc_174, .slice (some (na w)) 2 2]) w175 fun yv176 u177 =>
 ∃ ya_178 : Option Addr, ∃ yn_178 : Nat, ∃ yc_178 : Nat, yv176 = .slice ya_178 yn_178 yc_178 ∧
 (CK wm168 u177 ∧
 (optN ya_170 fun q179 =>
 chk ((0 : Int) ≤ x4 ∧ x4 < (yn_170 : Int))
 (okSt u177 (((q179.add (x4.toNat * 2)).add 1).add 0) ∧
 (nw (u177.setCell (((q179.add (x4.toNat * 2)).add 1).add 0) (.slice ya_178 yn_178 yc_178)) fun w180 =>
 nv (IntKind.i64.wrap (x32 + 1)) fun t181 =>
 b40 p1 x31 t181 w180)))))))))))
def thicketlaw07_spoil.g70 (R : Value → World → Prop) (b55 : (Option Addr) → Int → Int → Int → Int → Int → World → Prop) (b70 : (Option Addr) → Int → Int → Int → Int → Int → Int → Int → Int → World → Prop) (p1 : Option Addr) (x4 : Int) (x5 : Int) (x31 : Int) (x32 : Int) (x41 : Int) (x42 : Int) (x55 : Int) (x56 : Int) (w : World) : Prop :=
 onBool (decide (x56 < x55))
 (optN p1 fun q182 =>
 ∃ ya_183 : Option Addr, ∃ yn_183 : Nat, ∃ yc_183 : Nat, w.cell? (q182.add 4) = some (.slice ya_183 yn_183 yc_183) ∧
 (optN ya_183 fun q184 =>
 chk ((0 : Int) ≤ x4 ∧ x4 < (yn_183 : Int))
 (∃ ya_185 : Option Addr, ∃ yn_185 : Nat, ∃ yc_185 : Nat, w.cell? ((q184.add (x4.toNat * 2)).add 1) = some (.slice ya_185 yn_185 yc_185) ∧
 (optN ya_185 fun q186 =>
 chk ((0 : Int) ≤ x5 ∧ x5 < (yn_185 : Int))
 (∃ ya_187 : Option Addr, ∃ yn_187 : Nat, ∃ yc_187 : Nat, w.cell? ((q186.add (x5.toNat * 8)).add 4) = some (.slice ya_187 yn_187 yc_187) ∧
 (optN ya_187 fun q188 =>
 chk ((0 : Int) ≤ x56 ∧ x56 < (yn_187 : Int))
 (okSt w ((q188.add (x56.toNat * 1)).add 0) ∧
 (nw (w.setCell ((q188.add (x56.toNat * 1)).add 0) (.int .i64 (-5))) fun w189 =>
 nv (IntKind.i64.wrap (x56 + 1)) fun t190 =>
 b70 p1 x4 x5 x31 x32 x41 x42 x55 t190 w189))))))))
 (∃ wm191 : World, CK wm191 w ∧
 (optN p1 fun q192 =>
 ∃ ya_193 : Option Addr, ∃ yn_193 : Nat, ∃ yc_193 : Nat, wm191.cell? (q192.add 4) = some (.slice ya_193 yn_193 yc_193) ∧
 (optN ya_193 fun q194 =>
 chk ((0 : Int) ≤ x4 ∧ x4 < (yn_193 : Int))
 (∃ ya_195 : Option Addr, ∃ yn_195 : Nat, ∃ yc_195 : Nat, wm191.cell? ((q194.add (x4.toNat * 2)).add 1) = some (.slice ya_195 yn_195 yc_195) ∧
 (optN p1 fun q196 =>
 ∃ ya_197 : Option Addr, ∃ yn_197 : Nat, ∃ yc_197 : Nat, wm191.cell? (q196.add 4) = some (.slice ya_197 yn_197 yc_197) ∧
 (optN ya_197 fun q198 =>
 chk ((0 : Int) ≤ x4 ∧ x4 < (yn_197 : Int))
 (∃ ya_199 : Option Addr, ∃ yn_199 : Nat, ∃ yc_199 : Nat, wm191.cell? ((q198.add (x4.toNat * 2)).add 1) = some (.slice ya_199 yn_199 yc_199) ∧
 (optN ya_199 fun q200 =>
 chk ((0 : Int) ≤ x5 ∧ x5 < (yn_199 : Int))
 (∃ ya_201 : Option Addr, ∃ yn_201 : Nat, ∃ yc_201 : Nat, wm191.cell? ((q200.add (x5.toNat * 8)).add 4) = some (.slice ya_201 yn_201 yc_201) ∧
 (nw (w.alloc (.cells #[.int .i64 7, .int .i64 7, .int .i64 7] 3)) fun w202 =>
 CK wm191 w202 ∧
 (rawN Go.Proofs.Try.prog (Builtin.append_ #[24, 24] 24 #[.slice ya_201 yn_201 yc_201, .slice (some (na w)) 3 3]) w202 fun yv203 u204 =>
 ∃ ya_205 : Option Addr, ∃ yn_205 : Nat, ∃ yc_205 : Nat, yv203 = .slice ya_205 yn_205 yc_205 ∧
 (CK wm191 u204 ∧
 (optN ya_195 fun q206 =>
 chk ((0 : Int) ≤ x5 ∧ x5 < (yn_195 : Int))
 (okSt u204 (((q206.add (x5.toNat * 8)).add 4).add 0) ∧
 (nw (u204.setCell (((q206.add (x5.toNat * 8)).add 4).add 0) (.slice ya_205 yn_205 yc_205)) fun w207 =>
 optN p1 fun q208 =>
 ∃ ya_209 : Option Addr, ∃ yn_209 : Nat, ∃ yc_209 : Nat, w207.cell? (q208.add 4) = some (.slice ya_209 yn_209 yc_209) ∧
 (optN ya_209 fun q210 =>
 chk ((0 : Int) ≤ x4 ∧ x4 < (yn_209 : Int))
 (∃ ya_211 : Option Addr, ∃ yn_211 : Nat, ∃ yc_211 : Nat, w207.cell? ((q210.add (x4.toNat * 2)).add 1) = some (.slice ya_211 yn_211 yc_211) ∧
 (optN ya_211 fun q212 =>
 chk ((0 : Int) ≤ x5 ∧ x5 < (yn_211 : Int))
 (okSt w207 (((q212.add (x5.toNat * 8)).add 0).add 0) ∧
 (nw (w207.setCell (((q212.add (x5.toNat * 8)).add 0).add 0) (.int .u8 0)) fun w213 =>
 nv (IntKind.i64.wrap (x42 + 1)) fun t214 =>
 b55 p1 x4 x31 x32 x41 t214 w213))))))))))))))))))))
def thicketlaw07_spoil.q2 (R : Value → World → Prop) : Exit → Act → World → Prop := (fin Go.Proofs.Try.prog Go.Proofs.Try.f36 R)
def thicketlaw07_spoil.q3 (R : Value → World → Prop) : Exit → Act → World → Prop := Exit.then (startN none (codeN Go.Proofs.Try.prog (sub (codeOf Go.Proofs.Try.f36) [1, 1]) (nsub thicketlaw07_spoil.an [1, 1]) (thicketlaw07_spoil.q2 R))) (thicketlaw07_spoil.q2 R)
def thicketlaw07_spoil.q5 (R : Value → World → Prop) : Exit → Act → World → Prop := (thicketlaw07_spoil.q3 R)
def thicketlaw07_spoil.q6 (R : Value → World → Prop) : Exit → Act → World → Prop := Exit.inBlock 0 (thicketlaw07_spoil.q5 R)
def thicketlaw07_spoil.rl6 (R : Value → World → Prop) (k : Nat) (p1 : Option Addr) (x9 : Int) (x10 : Int) (w : World) : Prop := loopN [1, 9, 10] (codeN Go.Proofs.Try.prog (sub (codeOf Go.Proofs.Try.f36) [1, 0, 1, 0, 0]) (nsub thicketlaw07_spoil.an [1, 0, 1, 0, 0])) (thicketlaw07_spoil.q6 R) k ⟨#[undef, .pointer p1, undef, undef, undef, undef, undef, undef, undef, .int .i64 x9, .int .i64 x10, undef, undef, undef, undef, undef, undef, undef, undef, undef, undef, undef, undef, undef, undef, undef, undef, undef, undef, undef, undef, undef, undef, undef, undef, undef, undef, undef, undef, undef, undef, undef, undef, undef, undef, undef, undef, undef, undef, undef, undef, undef, undef, undef, undef, undef, undef, undef, undef, undef, undef, undef, undef, undef, undef, undef, undef, undef, undef, undef, undef, undef, undef, undef, undef, undef, undef, undef, undef, undef, undef, undef, undef, undef, undef, undef, undef, undef, undef, undef, undef, undef, undef, undef, undef, undef, undef, undef, undef, undef, undef, undef, undef, undef, undef, undef, undef, undef, undef, undef, undef, undef, undef, undef, undef, undef, undef, undef, undef, undef, undef, undef, undef, undef, undef, undef, undef, undef, undef, undef, undef, undef, undef, undef, undef, undef, undef, undef, undef, undef, undef, undef, undef, undef, undef, undef, undef, undef], []⟩ w
def thicketlaw07_spoil.re6 (R : Value → World → Prop) (p1 : Option Addr) (x9 : Int) (x10 : Int) (w : World) : Prop := ∃ k, thicketlaw07_spoil.rl6 R k p1 x9 x10 w
def thicketlaw07_spoil.q19 (R : Value → World → Prop) : Exit → Act → World → Prop := (thicketlaw07_spoil.q2 R)
def thicketlaw07_spoil.q20 (R : Value → World → Prop) : Exit → Act → World → Prop := Exit.then (startN none (codeN Go.Proofs.Try.prog (sub (codeOf Go.Proofs.Try.f36) [1, 1, 1]) (nsub thicketlaw07_spoil.an [1, 1, 1]) (thicketlaw07_spoil.q19 R))) (thicketlaw07_spoil.q19 R)
def thicketlaw07_spoil.q22 (R : Value → World → Prop) : Exit → Act → World → Prop := (thicketlaw07_spoil.q20 R)
def thicketlaw07_spoil.q23 (R : Value → World → Prop) : Exit → Act → World → Prop := Exit.inBlock 2 (thicketlaw07_spoil.q22 R)
def thicketlaw07_spoil.rl23 (R : Value → World → Prop) (k : Nat) (p1 : Option Addr) (x20 : Int) (x21 : Int) (w : World) : Prop := loopN [1, 20, 21] (codeN Go.Proofs.Try.prog (sub (codeOf Go.Proofs.Try.f36) [1, 1, 0, 1, 0, 0]) (nsub thicketlaw07_spoil.an [1, 1, 0, 1, 0, 0])) (thicketlaw07_spoil.q23 R) k ⟨#[undef, .pointer p1, undef, undef, undef, undef, undef, undef, undef, undef, undef, undef, undef, undef, undef, undef, undef, undef, undef, undef, .int .i64 x20, .int .i64 x21, undef, undef, undef, undef, undef, undef, undef, undef, undef, undef, undef, undef, undef, undef, undef, undef, undef, undef, undef, undef, undef, undef, undef, undef, undef, undef, undef, undef, undef, undef, undef, undef, undef, undef, undef, undef, undef, undef, undef, undef, undef, undef, undef, undef, undef, undef, undef, undef, undef, undef, undef, undef, undef, undef, undef, undef, undef, undef, undef, undef, undef, undef, undef, undef, undef, undef, undef, undef, undef, undef, undef, undef, undef, undef, undef, undef, undef, undef, undef, undef, undef, undef, undef, undef, undef, undef, undef, undef, undef, undef, undef, undef, undef, undef, undef, undef, undef, undef, undef, undef, undef, undef, undef, undef, undef, undef, undef, undef, undef, undef, undef, undef, undef, undef, undef, undef, undef, undef, undef, undef, undef, undef, undef, undef, undef, undef], []⟩ w
def thicketlaw07_spoil.re23 (R : Value → World → Prop) (p1 : Option Addr) (x20 : Int) (x21 : Int) (w : World) : Prop := ∃ k, thicketlaw07_spoil.rl23 R k p1 x20 x21 w
def thicketlaw07_spoil.q36 (R : Value → World → Prop) : Exit → Act → World → Prop := (thicketlaw07_spoil.q19 R)
def thicketlaw07_spoil.q37 (R : Value → World → Prop) : Exit → Act → World → Prop := Exit.then (startN none (codeN Go.Proofs.Try.prog (sub (codeOf Go.Proofs.Try.f36) [1, 1, 1, 1]) (nsub thicketlaw07_spoil.an [1, 1, 1, 1]) (thicketlaw07_spoil.q36 R))) (thicketlaw07_spoil.q36 R)
def thicketlaw07_spoil.q39 (R : Value → World → Prop) : Exit → Act → World → Prop := (thicketlaw07_spoil.q37 R)
def thicketlaw07_spoil.q40 (R : Value → World → Prop) : Exit → Act → World → Prop := Exit.inBlock 4 (thicketlaw07_spoil.q39 R)
def thicketlaw07_spoil.rl40 (R : Value → World → Prop) (k : Nat) (p1 : Option Addr) (x31 : Int) (x32 : Int) (w : World) : Prop := loopN [1, 31, 32] (codeN Go.Proofs.Try.prog (sub (codeOf Go.Proofs.Try.f36) [1, 1, 1, 0, 1, 0, 0]) (nsub thicketlaw07_spoil.an [1, 1, 1, 0, 1, 0, 0])) (thicketlaw07_spoil.q40 R) k ⟨#[undef, .pointer p1, undef, undef, undef, undef, undef, undef, undef, undef, undef, undef, undef, undef, undef, undef, undef, undef, undef, undef, undef, undef, undef, undef, undef, undef, undef, undef, undef, undef, undef, .int .i64 x31, .int .i64 x32, undef, undef, undef, undef, undef, undef, undef, undef, undef, undef, undef, undef, undef, undef, undef, undef, undef, undef, undef, undef, undef, undef, undef, undef, undef, undef, undef, undef, undef, undef, undef, undef, undef, undef, undef, undef, undef, undef, undef, undef, undef, undef, undef, undef, undef, undef, undef, undef, undef, undef, undef, undef, undef, undef, undef, undef, undef, undef, undef, undef, undef, undef, undef, undef, undef, undef, undef, undef, undef, undef, undef, undef, undef, undef, undef, undef, undef, undef, undef, undef, undef, undef, undef, undef, undef, undef, undef, undef, undef, undef, undef, undef, undef, undef, undef, undef, undef, undef, undef, undef, undef, undef, undef, undef, undef, undef, undef, undef, undef, undef, undef, undef, undef, undef, undef], []⟩ w
def thicketlaw07_spoil.re40 (R : Value → World → Prop) (p1 : Option Addr) (x31 : Int) (x32 : Int) (w : World) : Prop := ∃ k, thicketlaw07_spoil.rl40 R k p1 x31 x32 w
def thicketlaw07_spoil.q41 (R : Value → World → Prop) (k40 : Nat) : Exit → Act → World → Prop := Exit.then (fun a w => loopN [1, 31, 32] (codeN Go.Proofs.Try.prog (sub (codeOf Go.Proofs.Try.f36) [1, 1, 1, 0, 1, 0, 0]) (nsub thicketlaw07_spoil.an [1, 1, 1, 0, 1, 0, 0])) (thicketlaw07_spoil.q40 R) k40 (clr [1, 31, 32] a) w) (thicketlaw07_spoil.q40 R)
def thicketlaw07_spoil.q43 (R : Value → World → Prop) (k40 : Nat) : Exit → Act → World → Prop := (thicketlaw07_spoil.q41 R k40)
def thicketlaw07_spoil.q47 (R : Value → World → Prop) (k40 : Nat) : Exit → Act → World → Prop := (thicketlaw07_spoil.q43 R k40)
def thicketlaw07_spoil.q48 (R : Value → World → Prop) (k40 : Nat) : Exit → Act → World → Prop := Exit.then (startN none (codeN Go.Proofs.Try.prog (sub (codeOf Go.Proofs.Try.f36) [1, 1, 1, 0, 1, 0, 0, 1, 1, 1]) (nsub thicketlaw07_spoil.an [1, 1, 1, 0, 1, 0, 0, 1, 1, 1]) (thicketlaw07_spoil.q47 R k40))) (thicketlaw07_spoil.q47 R k40)
def thicketlaw07_spoil.q49 (R : Value → World → Prop) (k40 : Nat) : Exit → Act → World → Prop := Exit.inBlock 5 (thicketlaw07_spoil.q48 R k40)
def thicketlaw07_spoil.q51 (R : Value → World → Prop) (k40 : Nat) : Exit → Act → World → Prop := (thicketlaw07_spoil.q49 R k40)
def thicketlaw07_spoil.q52 (R : Value → World → Prop) (k40 : Nat) : Exit → Act → World → Prop := Exit.then (startN none (codeN Go.Proofs.Try.prog (sub (codeOf Go.Proofs.Try.f36) [1, 1, 1, 0, 1, 0, 0, 1, 1, 0, 0, 1, 1]) (nsub thicketlaw07_spoil.an [1, 1, 1, 0, 1, 0, 0, 1, 1, 0, 0, 1, 1]) (thicketlaw07_spoil.q51 R k40))) (thicketlaw07_spoil.q51 R k40)
def thicketlaw07_spoil.q54 (R : Value → World → Prop) (k40 : Nat) : Exit → Act → World → Prop := (thicketlaw07_spoil.q52 R k40)
def thicketlaw07_spoil.q55 (R : Value → World → Prop) (k40 : Nat) : Exit → Act → World → Prop := Exit.inBlock 6 (thicketlaw07_spoil.q54 R k40)
def thicketlaw07_spoil.rl55 (R : Value → World → Prop) (k40 : Nat) (k : Nat) (p1 : Option Addr) (x4 : Int) (x31 : Int) (x32 : Int) (x41 : Int) (x42 : Int) (w : World) : Prop := loopN [1, 4, 31, 32, 41, 42] (codeN Go.Proofs.Try.prog (sub (codeOf Go.Proofs.Try.f36) [1, 1, 1, 0, 1, 0, 0, 1, 1, 0, 0, 1, 0, 1, 0, 0]) (nsub thicketlaw07_spoil.an [1, 1, 1, 0, 1, 0, 0, 1, 1, 0, 0, 1, 0, 1, 0, 0])) (thicketlaw07_spoil.q55 R k40) k ⟨#[undef, .pointer p1, undef, undef, .int .i64 x4, undef, undef, undef, undef, undef, undef, undef, undef, undef, undef, undef, undef, undef, undef, undef, undef, undef, undef, undef, undef, undef, undef, undef, undef, undef, undef, .int .i64 x31, .int .i64 x32, undef, undef, undef, undef, undef, undef, undef, undef, .int .i64 x41, .int .i64 x42, undef, undef, undef, undef, undef, undef, undef, undef, undef, undef, undef, undef, undef, undef, undef, undef, undef, undef, undef, undef, undef, undef, undef, undef, undef, undef, undef, undef, undef, undef, undef, undef, undef, undef, undef, undef, undef, undef, undef, undef, undef, undef, undef, undef, undef, undef, undef, undef, undef, undef, undef, undef, undef, undef, undef, undef, undef, undef, undef, undef, undef, undef, undef, undef, undef, undef, undef, undef, undef, undef, undef, undef, undef, undef, undef, undef, undef, undef, undef, undef, undef, undef, undef, undef, undef, undef, undef, undef, undef, undef, undef, undef, undef, undef, undef, undef, undef, undef, undef, undef, undef, undef, undef, undef, undef], []⟩ w
def thicketlaw07_spoil.re55 (R : Value → World → Prop) (k40 : Nat) (p1 : Option Addr) (x4 : Int) (x31 : Int) (x32 : Int) (x41 : Int) (x42 : Int) (w : World) : Prop := ∃ k, thicketlaw07_spoil.rl55 R k40 k p1 x4 x31 x32 x41 x42 w
def thicketlaw07_spoil.q56 (R : Value → World → Prop) (k40 : Nat) (k55 : Nat) : Exit → Act → World → Prop := Exit.then (fun a w => loopN [1, 4, 31, 32, 41, 42] (codeN Go.Proofs.Try.prog (sub (codeOf Go.Proofs.Try.f36) [1, 1, 1, 0, 1, 0, 0, 1, 1, 0, 0, 1, 0, 1, 0, 0]) (nsub thicketlaw07_spoil.an [1, 1, 1, 0, 1, 0, 0, 1, 1, 0, 0, 1, 0, 1, 0, 0])) (thicketlaw07_spoil.q55 R k40) k55 (clr [1, 4, 31, 32, 41, 42] a) w) (thicketlaw07_spoil.q55 R k40)
def thicketlaw07_spoil.q58 (R : Value → World → Prop) (k40 : Nat) (k55 : Nat) : Exit → Act → World → Prop := (thicketlaw07_spoil.q56 R k40 k55)
def thicketlaw07_spoil.q62 (R : Value → World → Prop) (k40 : Nat) (k55 : Nat) : Exit → Act → World → Prop := (thicketlaw07_spoil.q58 R k40 k55)
def thicketlaw07_spoil.q63 (R : Value → World → Prop) (k40 : Nat) (k55 : Nat) : Exit → Act → World → Prop := Exit.then (startN none (codeN Go.Proofs.Try.prog (sub (codeOf Go.Proofs.Try.f36) [1, 1, 1, 0, 1, 0, 0, 1, 1, 0, 0, 1, 0, 1, 0, 0, 1, 1, 1]) (nsub thicketlaw07_spoil.an [1, 1, 1, 0, 1, 0, 0, 1, 1, 0, 0, 1, 0, 1, 0, 0, 1, 1, 1]) (thicketlaw07_spoil.q62 R k40 k55))) (thicketlaw07_spoil.q62 R k40 k55)
def thicketlaw07_spoil.q64 (R : Value → World → Prop) (k40 : Nat) (k55 : Nat) : Exit → Act → World → Prop := Exit.inBlock 7 (thicketlaw07_spoil.q63 R k40 k55)
def thicketlaw07_spoil.q66 (R : Value → World → Prop) (k40 : Nat) (k55 : Nat) : Exit → Act → World → Prop := (thicketlaw07_spoil.q64 R k40 k55)
def thicketlaw07_spoil.q67 (R : Value → World → Prop) (k40 : Nat) (k55 : Nat) : Exit → Act → World → Prop := Exit.then (startN none (codeN Go.Proofs.Try.prog (sub (codeOf Go.Proofs.Try.f36) [1, 1, 1, 0, 1, 0, 0, 1, 1, 0, 0, 1, 0, 1, 0, 0, 1, 1, 0, 0, 1, 1]) (nsub thicketlaw07_spoil.an [1, 1, 1, 0, 1, 0, 0, 1, 1, 0, 0, 1, 0, 1, 0, 0, 1, 1, 0, 0, 1, 1]) (thicketlaw07_spoil.q66 R k40 k55))) (thicketlaw07_spoil.q66 R k40 k55)
def thicketlaw07_spoil.q69 (R : Value → World → Prop) (k40 : Nat) (k55 : Nat) : Exit → Act → World → Prop := (thicketlaw07_spoil.q67 R k40 k55)
def thicketlaw07_spoil.q70 (R : Value → World → Prop) (k40 : Nat) (k55 : Nat) : Exit → Act → World → Prop := Exit.inBlock 8 (thicketlaw07_spoil.q69 R k40 k55)
def thicketlaw07_spoil.rl70 (R : Value → World → Prop) (k40 : Nat) (k55 : Nat) (k : Nat) (p1 : Option Addr) (x4 : Int) (x5 : Int) (x31 : Int) (x32 : Int) (x41 : Int) (x42 : Int) (x55 : Int) (x56 : Int) (w : World) : Prop := loopN [1, 4, 5, 31, 32, 41, 42, 55, 56] (codeN Go.Proofs.Try.prog (sub (codeOf Go.Proofs.Try.f36) [1, 1, 1, 0, 1, 0, 0, 1, 1, 0, 0, 1, 0, 1, 0, 0, 1, 1, 0, 0, 1, 0, 1, 0, 0]) (nsub thicketlaw07_spoil.an [1, 1, 1, 0, 1, 0, 0, 1, 1, 0, 0, 1, 0, 1, 0, 0, 1, 1, 0, 0, 1, 0, 1, 0, 0])) (thicketlaw07_spoil.q70 R k40 k55) k ⟨#[undef, .pointer p1, undef, undef, .int .i64 x4, .int .i64 x5, undef, undef, undef, undef, undef, undef, undef, undef, undef, undef, undef, undef, undef, undef, undef, undef, undef, undef, undef, undef, undef, undef, undef, undef, undef, .int .i64 x31, .int .i64 x32, undef, undef, undef, undef, undef, undef, undef, undef, .int .i64 x41, .int .i64 x42, undef, undef, undef, undef, undef, undef, undef, undef, undef, undef, undef, undef, .int .i64 x55, .int .i64 x56, undef, undef, undef, undef, undef, undef, undef, undef, undef, undef, undef, undef, undef, undef, undef, undef, undef, undef, undef, undef, undef, undef, undef, undef, undef, undef, undef, undef, undef, undef, undef, undef, undef, undef, undef, undef, undef, undef, undef, undef, undef, undef, undef, undef, undef, undef, undef, undef, undef, undef, undef, undef, undef, undef, undef, undef, undef, undef, undef, undef, undef, undef, undef, undef, undef, undef, undef, undef, undef, undef, undef, undef, undef, undef, undef, undef, undef, undef, undef, undef, undef, undef, undef, undef, undef, undef, undef, undef, undef, undef, undef], []⟩ w
def thicketlaw07_spoil.re70 (R : Value → World → Prop) (k40 : Nat) (k55 : Nat) (p1 : Option Addr) (x4 : Int) (x5 : Int) (x31 : Int) (x32 : Int) (x41 : Int) (x42 : Int) (x55 : Int) (x56 : Int) (w : World) : Prop := ∃ k, thicketlaw07_spoil.rl70 R k40 k55 k p1 x4 x5 x31 x32 x41 x42 x55 x56 w
def thicketlaw07_spoil.l70 (R : Value → World → Prop) (b40 : (Option Addr) → Int → Int → World → Prop) (b55 : (Option Addr) → Int → Int → Int → Int → Int → World → Prop) : Nat → (Option Addr) → Int → Int → Int → Int → Int → Int → Int → Int → World → Prop
  | 0, _, _, _, _, _, _, _, _, _, _ => False
  | k + 1, p1, x4, x5, x31, x32, x41, x42, x55, x56, w => thicketlaw07_spoil.g70 R b55 (thicketlaw07_spoil.l70 R b40 b55 k) p1 x4 x5 x31 x32 x41 x42 x55 x56 w
def thicketlaw07_spoil.e70 (R : Value → World → Prop) (b40 : (Option Addr) → Int → Int → World → Prop) (b55 : (Option Addr) → Int → Int → Int → Int → Int → World → Prop) (p1 : Option Addr) (x4 : Int) (x5 : Int) (x31 : Int) (x32 : Int) (x41 : Int) (x42 : Int) (x55 : Int) (x56 : Int) (w : World) : Prop := ∃ k, thicketlaw07_spoil.l70 R b40 b55 k p1 x4 x5 x31 x32 x41 x42 x55 x56 w
theorem thicketlaw07_spoil.s70 (R : Value → World → Prop) (k40 : Nat) (k55 : Nat) (k : Nat) (p1 : Option Addr) (x4 : Int) (x5 : Int) (x31 : Int) (x32 : Int) (x41 : Int) (x42 : Int) (x55 : Int) (x56 : Int) (w : World) : thicketlaw07_spoil.rl70 R k40 k55 (k + 1) p1 x4 x5 x31 x32 x41 x42 x55 x56 w = ∀ _ : Nat → Value, thicketlaw07_spoil.g70 R (thicketlaw07_spoil.rl55 R k40 k55) (thicketlaw07_spoil.rl70 R k40 k55 k) p1 x4 x5 x31 x32 x41 x42 x55 x56 w := by kernel_rfl
theorem thicketlaw07_spoil.lq70 (R : Value → World → Prop) (k40 : Nat) (k55 : Nat) (b40 : (Option Addr) → Int → Int → World → Prop) (b55 : (Option Addr) → Int → Int → Int → Int → Int → World → Prop) (hb40 : b40 = thicketlaw07_spoil.rl40 R k40) (hb55 : b55 = thicketlaw07_spoil.rl55 R k40 k55) : ∀ k, thicketlaw07_spoil.l70 R b40 b55 k = thicketlaw07_spoil.rl70 R k40 k55 k
  | 0 => by funext p1 x4 x5 x31 x32 x41 x42 x55 x56 w; first | rfl | kernel_rfl
  | k + 1 => by
    funext p1 x4 x5 x31 x32 x41 x42 x55 x56 w
    rw [thicketlaw07_spoil.s70, forall_const]
    unfold thicketlaw07_spoil.l70
    have ih := thicketlaw07_spoil.lq70 R k40 k55 b40 b55 hb40 hb55 k
    subst hb40
    subst hb55
    rw [ih]
    all_goals rfl
theorem thicketlaw07_spoil.eq70 (R : Value → World → Prop) (k40 : Nat) (k55 : Nat) (b40 : (Option Addr) → Int → Int → World → Prop) (b55 : (Option Addr) → Int → Int → Int → Int → Int → World → Prop) (hb40 : b40 = thicketlaw07_spoil.rl40 R k40) (hb55 : b55 = thicketlaw07_spoil.rl55 R k40 k55) : thicketlaw07_spoil.e70 R b40 b55 = thicketlaw07_spoil.re70 R k40 k55 := by
  funext p1 x4 x5 x31 x32 x41 x42 x55 x56 w
  unfold thicketlaw07_spoil.e70 thicketlaw07_spoil.re70
  simp only [thicketlaw07_spoil.lq70 R k40 k55 b40 b55 hb40 hb55]
def thicketlaw07_spoil.l55 (R : Value → World → Prop) (b40 : (Option Addr) → Int → Int → World → Prop) : Nat → (Option Addr) → Int → Int → Int → Int → Int → World → Prop
  | 0, _, _, _, _, _, _, _ => False
  | k + 1, p1, x4, x31, x32, x41, x42, w => thicketlaw07_spoil.g55 R b40 (thicketlaw07_spoil.e70 R b40 (thicketlaw07_spoil.l55 R b40 k)) p1 x4 x31 x32 x41 x42 w
def thicketlaw07_spoil.e55 (R : Value → World → Prop) (b40 : (Option Addr) → Int → Int → World → Prop) (p1 : Option Addr) (x4 : Int) (x31 : Int) (x32 : Int) (x41 : Int) (x42 : Int) (w : World) : Prop := ∃ k, thicketlaw07_spoil.l55 R b40 k p1 x4 x31 x32 x41 x42 w
theorem thicketlaw07_spoil.s55 (R : Value → World → Prop) (k40 : Nat) (k : Nat) (p1 : Option Addr) (x4 : Int) (x31 : Int) (x32 : Int) (x41 : Int) (x42 : Int) (w : World) : thicketlaw07_spoil.rl55 R k40 (k + 1) p1 x4 x31 x32 x41 x42 w = ∀ _ : Nat → Value, thicketlaw07_spoil.g55 R (thicketlaw07_spoil.rl40 R k40) (thicketlaw07_spoil.re70 R k40 k) p1 x4 x31 x32 x41 x42 w := by kernel_rfl
theorem thicketlaw07_spoil.lq55 (R : Value → World → Prop) (k40 : Nat) (b40 : (Option Addr) → Int → Int → World → Prop) (hb40 : b40 = thicketlaw07_spoil.rl40 R k40) : ∀ k, thicketlaw07_spoil.l55 R b40 k = thicketlaw07_spoil.rl55 R k40 k
  | 0 => by funext p1 x4 x31 x32 x41 x42 w; first | rfl | kernel_rfl
  | k + 1 => by
    funext p1 x4 x31 x32 x41 x42 w
    rw [thicketlaw07_spoil.s55, forall_const]
    unfold thicketlaw07_spoil.l55
    have ih := thicketlaw07_spoil.lq55 R k40 b40 hb40 k
    subst hb40
    rw [thicketlaw07_spoil.eq70 R k40 k _ _ rfl ih]
    all_goals rfl
theorem thicketlaw07_spoil.eq55 (R : Value → World → Prop) (k40 : Nat) (b40 : (Option Addr) → Int → Int → World → Prop) (hb40 : b40 = thicketlaw07_spoil.rl40 R k40) : thicketlaw07_spoil.e55 R b40 = thicketlaw07_spoil.re55 R k40 := by
  funext p1 x4 x31 x32 x41 x42 w
  unfold thicketlaw07_spoil.e55 thicketlaw07_spoil.re55
  simp only [thicketlaw07_spoil.lq55 R k40 b40 hb40]
def thicketlaw07_spoil.l40 (R : Value → World → Prop) : Nat → (Option Addr) → Int → Int → World → Prop
  | 0, _, _, _, _ => False
  | k + 1, p1, x31, x32, w => thicketlaw07_spoil.g40 R (thicketlaw07_spoil.e55 R (thicketlaw07_spoil.l40 R k)) p1 x31 x32 w
def thicketlaw07_spoil.e40 (R : Value → World → Prop) (p1 : Option Addr) (x31 : Int) (x32 : Int) (w : World) : Prop := ∃ k, thicketlaw07_spoil.l40 R k p1 x31 x32 w
theorem thicketlaw07_spoil.s40 (R : Value → World → Prop) (k : Nat) (p1 : Option Addr) (x31 : Int) (x32 : Int) (w : World) : thicketlaw07_spoil.rl40 R (k + 1) p1 x31 x32 w = ∀ _ : Nat → Value, thicketlaw07_spoil.g40 R (thicketlaw07_spoil.re55 R k) p1 x31 x32 w := by kernel_rfl
theorem thicketlaw07_spoil.lq40 (R : Value → World → Prop) : ∀ k, thicketlaw07_spoil.l40 R k = thicketlaw07_spoil.rl40 R k
  | 0 => by funext p1 x31 x32 w; first | rfl | kernel_rfl
  | k + 1 => by
    funext p1 x31 x32 w
    rw [thicketlaw07_spoil.s40, forall_const]
    unfold thicketlaw07_spoil.l40
    have ih := thicketlaw07_spoil.lq40 R k
    rw [thicketlaw07_spoil.eq55 R k _ ih]
    all_goals rfl
theorem thicketlaw07_spoil.eq40 (R : Value → World → Prop) : thicketlaw07_spoil.e40 R = thicketlaw07_spoil.re40 R := by
  funext p1 x31 x32 w
  unfold thicketlaw07_spoil.e40 thicketlaw07_spoil.re40
  simp only [thicketlaw07_spoil.lq40 R]
def thicketlaw07_spoil.l23 (R : Value → World → Prop) : Nat → (Option Addr) → Int → Int → World → Prop
  | 0, _, _, _, _ => False
  | k + 1, p1, x20, x21, w => thicketlaw07_spoil.g23 R (thicketlaw07_spoil.l23 R k) (thicketlaw07_spoil.e40 R) p1 x20 x21 w
def thicketlaw07_spoil.e23 (R : Value → World → Prop) (p1 : Option Addr) (x20 : Int) (x21 : Int) (w : World) : Prop := ∃ k, thicketlaw07_spoil.l23 R k p1 x20 x21 w
theorem thicketlaw07_spoil.s23 (R : Value → World → Prop) (k : Nat) (p1 : Option Addr) (x20 : Int) (x21 : Int) (w : World) : thicketlaw07_spoil.rl23 R (k + 1) p1 x20 x21 w = ∀ _ : Nat → Value, thicketlaw07_spoil.g23 R (thicketlaw07_spoil.rl23 R k) (thicketlaw07_spoil.re40 R) p1 x20 x21 w := by kernel_rfl
theorem thicketlaw07_spoil.lq23 (R : Value → World → Prop) : ∀ k, thicketlaw07_spoil.l23 R k = thicketlaw07_spoil.rl23 R k
  | 0 => by funext p1 x20 x21 w; first | rfl | kernel_rfl
  | k + 1 => by
    funext p1 x20 x21 w
    rw [thicketlaw07_spoil.s23, forall_const]
    unfold thicketlaw07_spoil.l23
    have ih := thicketlaw07_spoil.lq23 R k
    rw [thicketlaw07_spoil.eq40 R]
    rw [ih]
    all_goals rfl
theorem thicketlaw07_spoil.eq23 (R : Value → World → Prop) : thicketlaw07_spoil.e23 R = thicketlaw07_spoil.re23 R := by
  funext p1 x20 x21 w
  unfold thicketlaw07_spoil.e23 thicketlaw07_spoil.re23
  simp only [thicketlaw07_spoil.lq23 R]
def thicketlaw07_spoil.l6 (R : Value → World → Prop) : Nat → (Option Addr) → Int → Int → World → Prop
  | 0, _, _, _, _ => False
  | k + 1, p1, x9, x10, w => thicketlaw07_spoil.g6 R (thicketlaw07_spoil.l6 R k) (thicketlaw07_spoil.e23 R) p1 x9 x10 w
def thicketlaw07_spoil.e6 (R : Value → World → Prop) (p1 : Option Addr) (x9 : Int) (x10 : Int) (w : World) : Prop := ∃ k, thicketlaw07_spoil.l6 R k p1 x9 x10 w
theorem thicketlaw07_spoil.s6 (R : Value → World → Prop) (k : Nat) (p1 : Option Addr) (x9 : Int) (x10 : Int) (w : World) : thicketlaw07_spoil.rl6 R (k + 1) p1 x9 x10 w = ∀ _ : Nat → Value, thicketlaw07_spoil.g6 R (thicketlaw07_spoil.rl6 R k) (thicketlaw07_spoil.re23 R) p1 x9 x10 w := by kernel_rfl
theorem thicketlaw07_spoil.lq6 (R : Value → World → Prop) : ∀ k, thicketlaw07_spoil.l6 R k = thicketlaw07_spoil.rl6 R k
  | 0 => by funext p1 x9 x10 w; first | rfl | kernel_rfl
  | k + 1 => by
    funext p1 x9 x10 w
    rw [thicketlaw07_spoil.s6, forall_const]
    unfold thicketlaw07_spoil.l6
    have ih := thicketlaw07_spoil.lq6 R k
    rw [thicketlaw07_spoil.eq23 R]
    rw [ih]
    all_goals rfl
theorem thicketlaw07_spoil.eq6 (R : Value → World → Prop) : thicketlaw07_spoil.e6 R = thicketlaw07_spoil.re6 R := by
  funext p1 x9 x10 w
  unfold thicketlaw07_spoil.e6 thicketlaw07_spoil.re6
  simp only [thicketlaw07_spoil.lq6 R]
def thicketlaw07_spoil (R : Value → World → Prop) (s0_0 : ByteArray) (a0_1 : Option Addr) (n0_1 : Nat) (c0_1 : Nat) (x0_2 : Int) (a0_3 : Option Addr) (n0_3 : Nat) (c0_3 : Nat) (a0_4 : Option Addr) (n0_4 : Nat) (c0_4 : Nat) (w : World) : Prop := thicketlaw07_spoil.g0 R (thicketlaw07_spoil.e6 R) s0_0 a0_1 n0_1 c0_1 x0_2 a0_3 n0_3 c0_3 a0_4 n0_4 c0_4 w
theorem thicketlaw07_spoil.root0 (R : Value → World → Prop) (s0_0 : ByteArray) (a0_1 : Option Addr) (n0_1 : Nat) (c0_1 : Nat) (x0_2 : Int) (a0_3 : Option Addr) (n0_3 : Nat) (c0_3 : Nat) (a0_4 : Option Addr) (n0_4 : Nat) (c0_4 : Nat) (w : World) : fnN Go.Proofs.Try.prog Go.Proofs.Try.f36 thicketlaw07_spoil.an #[.agg #[.string s0_0, .slice a0_1 n0_1 c0_1, .int .i64 x0_2, .slice a0_3 n0_3 c0_3, .slice a0_4 n0_4 c0_4]] w R = thicketlaw07_spoil.g0 R (thicketlaw07_spoil.re6 R) s0_0 a0_1 n0_1 c0_1 x0_2 a0_3 n0_3 c0_3 a0_4 n0_4 c0_4 w := by kernel_rfl
theorem thicketlaw07_spoil.calls {R : Value → World → Prop} {s0_0 : ByteArray} {a0_1 : Option Addr} {n0_1 : Nat} {c0_1 : Nat} {x0_2 : Int} {a0_3 : Option Addr} {n0_3 : Nat} {c0_3 : Nat} {a0_4 : Option Addr} {n0_4 : Nat} {c0_4 : Nat} {w : World} (h : thicketlaw07_spoil R s0_0 a0_1 n0_1 c0_1 x0_2 a0_3 n0_3 c0_3 a0_4 n0_4 c0_4 w) : Go.E.CallsD Go.Proofs.Try.prog 36 #[.agg #[.string s0_0, .slice a0_1 n0_1 c0_1, .int .i64 x0_2, .slice a0_3 n0_3 c0_3, .slice a0_4 n0_4 c0_4]] w R := by
  refine callsD_of (n := thicketlaw07_spoil.an) M_follows M_sizes Go.Proofs.Try.func36 (by rfl) ?_
  rw [thicketlaw07_spoil.root0]
  unfold thicketlaw07_spoil at h
  rw [thicketlaw07_spoil.eq6 R] at h
  exact h
-- thicket/trees.Canon
def trees_Canon.an : An := (.mk none .nil (.mk none .nil (.mk none .nil (.mk none .nil (.mk none .nil (.mk none .nil (.mk none (.mk none .nil (.mk none (.mk (some [2, 6, 9, 41, 42, 43]) (.mk none .nil (.mk none .nil (.mk none (.mk none (.mk none .nil (.mk none .nil (.mk (some [2, 6, 9, 10, 11, 41, 42, 43]) .nil .nil))) .nil) .nil))) .nil) .nil)) .nil)))))))
def trees_Canon.g0 (R : Value → World → Prop) (e32 : (Option Addr) → (Option Addr) → (Option Addr) → (Option Addr) → Nat → Nat → Int → Int → Nat → World → Prop) (x0_0 : Int) (a0_1 : Option Addr) (n0_1 : Nat) (c0_1 : Nat) (w : World) : Prop :=
 nw (w.alloc (.cells #[.int .i64 x0_0, .slice a0_1 n0_1 c0_1] 33)) fun w130 =>
 nw (w130.alloc (.cells #[.int .i64 0, .slice none 0 0] 33)) fun w131 =>
 ∃ yx_132 : Int, w131.cell? ((na w).add 0) = some (.int .i64 yx_132) ∧
 (∃ ya_133 : Option Addr, ∃ yn_133 : Nat, ∃ yc_133 : Nat, w131.cell? ((na w).add 1) = some (.slice ya_133 yn_133 yc_133) ∧
 (Go.E.CallsD Go.Proofs.Try.prog 25 #[.agg #[.int .i64 yx_132, .slice ya_133 yn_133 yc_133]] w131 fun yv134 u135 =>
 ∃ yx_136_0 : Int, ∃ yx_136_1 : Int, yv134 = .tuple #[.int .i64 yx_136_0, .int .i64 yx_136_1] ∧
 (onBool (yx_136_0 != 0)
 (okSt u135 ((na w130).add 0) ∧
 (nw (u135.setCell ((na w130).add 0) (.int .i64 0)) fun w137 =>
 okSt w137 ((na w130).add 1) ∧
 (nw (w137.setCell ((na w130).add 1) (.slice none 0 0)) fun w138 =>
 ∃ yx_139 : Int, w138.cell? ((na w130).add 0) = some (.int .i64 yx_139) ∧
 (∃ ya_140 : Option Addr, ∃ yn_140 : Nat, ∃ yc_140 : Nat, w138.cell? ((na w130).add 1) = some (.slice ya_140 yn_140 yc_140) ∧
 (R (.tuple #[.agg #[.int .i64 yx_139, .slice ya_140 yn_140 yc_140], .int .i64 yx_136_0]) w138)))))
 (∃ ya_141 : Option Addr, ∃ yn_141 : Nat, ∃ yc_141 : Nat, u135.cell? ((na w).add 1) = some (.slice ya_141 yn_141 yc_141) ∧
 (chk ((0 : Int) ≤ (yn_141 : Int) ∧ (yn_141 : Int) ≤ (yn_141 : Int) ∧ ((8 : Nat) : Int) * (yn_141 : Int) ≤ 281474976710656 ∧ (yn_141 : Int) ≤ 9223372036854775807)
 (nw (u135.alloc (.cells (madeCells #[.int .i64 0] (((yn_141 : Int)).toNat * 1)) 3)) fun w142 =>
 nw (w142.alloc (.cells #[.slice none 0 0] 24)) fun w143 =>
 okSt w143 ((na w142).add 0) ∧
 (nw (w143.setCell ((na w142).add 0) (.slice (some (na u135)) (((yn_141 : Int)).toNat) (((yn_141 : Int)).toNat))) fun w144 =>
 nw (w144.alloc (.cells #[.int .i64 0] 3)) fun w145 =>
 okSt w145 ((na w144).add 0) ∧
 (nw (w145.setCell ((na w144).add 0) (.int .i64 0)) fun w146 =>
 ∃ yx_147 : Int, w146.cell? ((na w).add 0) = some (.int .i64 yx_147) ∧
 (∃ ya_148 : Option Addr, ∃ yn_148 : Nat, ∃ yc_148 : Nat, w146.cell? ((na w).add 1) = some (.slice ya_148 yn_148 yc_148) ∧
 (Go.E.CallsD Go.Proofs.Try.prog 55 #[.agg #[.int .i64 yx_147, .slice ya_148 yn_148 yc_148]] w146 fun yv149 u150 =>
 ∃ yv_151 : Value, yv149 = yv_151 ∧
 (rangeI Go.Proofs.Try.prog yv_151 u150
 (fun x152 x153 u155 K154 =>
 ∃ ya_158 : Option Addr, ∃ yn_158 : Nat, ∃ yc_158 : Nat, u155.cell? (na w142) = some (.slice ya_158 yn_158 yc_158) ∧
 (∃ yx_159 : Int, u155.cell? (na w144) = some (.int .i64 yx_159) ∧
 (optN ya_158 fun q160 =>
 chk ((0 : Int) ≤ x152 ∧ x152 < (yn_158 : Int))
 (okSt u155 ((q160.add (x152.toNat * 1)).add 0) ∧
 (nw (u155.setCell ((q160.add (x152.toNat * 1)).add 0) (.int .i64 yx_159)) fun w161 =>
 ∃ yx_162 : Int, w161.cell? (na w144) = some (.int .i64 yx_162) ∧
 (nv (IntKind.i64.wrap (yx_162 + 1)) fun t163 =>
 okSt w161 ((na w144).add 0) ∧
 (nw (w161.setCell ((na w144).add 0) (.int .i64 t163)) fun w164 =>
 K154 w164)))))))
 (fun D156 u157 =>
 ∃ F165 : Nat → Value → World → Prop, (∀ i v u u', F165 i v u → Below u.heap.size u u' → F165 i v u') ∧
 (∃ yx_166 : Int, u157.cell? ((na w).add 0) = some (.int .i64 yx_166) ∧
 (∃ yx_167 : Int, u157.cell? (na w144) = some (.int .i64 yx_167) ∧
 (chk ((0 : Int) ≤ yx_167 ∧ yx_167 ≤ yx_167 ∧ ((80 : Nat) : Int) * yx_167 ≤ 281474976710656 ∧ yx_167 ≤ 9223372036854775807)
 ((∀ u168 : World, Below u157.heap.size u157 u168 → F165 3 (.slice (some (na u168)) ((yx_167).toNat) ((yx_167).toNat)) (u168.alloc (.cells (madeCells #[.int .u8 0, .int .i64 0, .int .i64 0, .float .f64 0, .slice none 0 0, .int .u8 0, .int .i64 0, .int .i64 0] ((yx_167).toNat * 8)) 27))) ∧
 (∀ (q169 : Addr) (n170 c171 : Nat), (∃ u, Below u157.heap.size u157 u ∧ F165 3 (.slice (some q169) n170 c171) u) →
 (∀ u172 : World, Below u157.heap.size u157 u172 → F165 5 (.pointer (some (na u172))) (u172.alloc (.cells #[.int .i64 0, .slice none 0 0] 33))) ∧
 (∀ q173 : Addr, (∃ u, Below u157.heap.size u157 u ∧ F165 5 (.pointer (some q173)) u) →
 ∀ u174 : World, Below u157.heap.size u157 u174 → F165 3 (.slice (some q169) n170 c171) u174 → F165 5 (.pointer (some q173)) u174 → 
 okSt u174 (q173.add 0) ∧
 (nw (u174.setCell (q173.add 0) (.int .i64 yx_166)) fun w175 =>
 okSt w175 (q173.add 1) ∧
 (nw (w175.setCell (q173.add 1) (.slice (some q169) n170 c171)) fun w176 =>
 ∃ ya_177 : Option Addr, ∃ yn_177 : Nat, ∃ yc_177 : Nat, w176.cell? ((na w).add 1) = some (.slice ya_177 yn_177 yc_177) ∧
 (e32 (some (na w130)) (some (na w142)) (some q173) ya_177 yn_177 yc_177 (yn_177 : Int) 0 D156 w176)))))))))))))))))))))
def trees_Canon.g32 (R : Value → World → Prop) (j51 : (Option Addr) → (Option Addr) → (Option Addr) → Int → (Option Addr) → (Option Addr) → Nat → Nat → Int → Int → Nat → World → Prop) (p2 : Option Addr) (p6 : Option Addr) (p9 : Option Addr) (a41 : Option Addr) (n41 : Nat) (c41 : Nat) (x42 : Int) (x43 : Int) (D9999 : Nat) (w : World) : Prop :=
 onBool (decide (x43 < x42))
 (optN a41 fun q178 =>
 chk ((0 : Int) ≤ x43 ∧ x43 < (n41 : Int))
 (∃ yx_179 : Int, w.cell? ((q178.add (x43.toNat * 8)).add 0) = some (.int .u8 yx_179) ∧
 (∃ yx_180 : Int, w.cell? ((q178.add (x43.toNat * 8)).add 1) = some (.int .i64 yx_180) ∧
 (∃ yx_181 : Int, w.cell? ((q178.add (x43.toNat * 8)).add 2) = some (.int .i64 yx_181) ∧
 (∃ yf_182 : Nat, w.cell? ((q178.add (x43.toNat * 8)).add 3) = some (.float .f64 yf_182) ∧
 (∃ ya_183 : Option Addr, ∃ yn_183 : Nat, ∃ yc_183 : Nat, w.cell? ((q178.add (x43.toNat * 8)).add 4) = some (.slice ya_183 yn_183 yc_183) ∧
 (∃ yx_184 : Int, w.cell? ((q178.add (x43.toNat * 8)).add 5) = some (.int .u8 yx_184) ∧
 (∃ yx_185 : Int, w.cell? ((q178.add (x43.toNat * 8)).add 6) = some (.int .i64 yx_185) ∧
 (∃ yx_186 : Int, w.cell? ((q178.add (x43.toNat * 8)).add 7) = some (.int .i64 yx_186) ∧
 (nw (w.alloc (.cells #[.int .u8 0, .int .i64 0, .int .i64 0, .float .f64 0, .slice none 0 0, .int .u8 0, .int .i64 0, .int .i64 0] 27)) fun w187 =>
 okSt w187 ((na w).add 0) ∧
 (nw (w187.setCell ((na w).add 0) (.int .u8 yx_179)) fun w188 =>
 okSt w188 ((na w).add 1) ∧
 (nw (w188.setCell ((na w).add 1) (.int .i64 yx_180)) fun w189 =>
 okSt w189 ((na w).add 2) ∧
 (nw (w189.setCell ((na w).add 2) (.int .i64 yx_181)) fun w190 =>
 okSt w190 ((na w).add 3) ∧
 (nw (w190.setCell ((na w).add 3) (.float .f64 yf_182)) fun w191 =>
 okSt w191 ((na w).add 4) ∧
 (nw (w191.setCell ((na w).add 4) (.slice ya_183 yn_183 yc_183)) fun w192 =>
 okSt w192 ((na w).add 5) ∧
 (nw (w192.setCell ((na w).add 5) (.int .u8 yx_184)) fun w193 =>
 okSt w193 ((na w).add 6) ∧
 (nw (w193.setCell ((na w).add 6) (.int .i64 yx_185)) fun w194 =>
 okSt w194 ((na w).add 7) ∧
 (nw (w194.setCell ((na w).add 7) (.int .i64 yx_186)) fun w195 =>
 ∃ ya_196 : Option Addr, ∃ yn_196 : Nat, ∃ yc_196 : Nat, w195.cell? ((na w).add 4) = some (.slice ya_196 yn_196 yc_196) ∧
 (Go.E.CallsD Go.Proofs.Try.prog 60 #[.slice ya_196 yn_196 yc_196] w195 fun yv197 u198 =>
 ∃ ya_199 : Option Addr, ∃ yn_199 : Nat, ∃ yc_199 : Nat, yv197 = .slice ya_199 yn_199 yc_199 ∧
 (okSt u198 (((na w).add 4).add 0) ∧
 (nw (u198.setCell (((na w).add 4).add 0) (.slice ya_199 yn_199 yc_199)) fun w200 =>
 ∃ yx_201 : Int, w200.cell? ((na w).add 0) = some (.int .u8 yx_201) ∧
 (∃ yx_202 : Int, w200.cell? ((na w).add 1) = some (.int .i64 yx_202) ∧
 (∃ yx_203 : Int, w200.cell? ((na w).add 2) = some (.int .i64 yx_203) ∧
 (∃ yf_204 : Nat, w200.cell? ((na w).add 3) = some (.float .f64 yf_204) ∧
 (∃ ya_205 : Option Addr, ∃ yn_205 : Nat, ∃ yc_205 : Nat, w200.cell? ((na w).add 4) = some (.slice ya_205 yn_205 yc_205) ∧
 (∃ yx_206 : Int, w200.cell? ((na w).add 5) = some (.int .u8 yx_206) ∧
 (∃ yx_207 : Int, w200.cell? ((na w).add 6) = some (.int .i64 yx_207) ∧
 (∃ yx_208 : Int, w200.cell? ((na w).add 7) = some (.int .i64 yx_208) ∧
 (Go.E.CallsD Go.Proofs.Try.prog 47 #[.agg #[.int .u8 yx_201, .int .i64 yx_202, .int .i64 yx_203, .float .f64 yf_204, .slice ya_205 yn_205 yc_205, .int .u8 yx_206, .int .i64 yx_207, .int .i64 yx_208]] w200 fun yv209 u210 =>
 ∃ yb_211 : Bool, yv209 = .bool yb_211 ∧
 (onBool yb_211
 (∃ wm212 : World, CK wm212 u210 ∧
 (optN p6 fun q213 =>
 ∃ ya_214 : Option Addr, ∃ yn_214 : Nat, ∃ yc_214 : Nat, u210.cell? q213 = some (.slice ya_214 yn_214 yc_214) ∧
 (∃ yx_215 : Int, u210.cell? ((na w).add 6) = some (.int .i64 yx_215) ∧
 (optN ya_214 fun q216 =>
 chk ((0 : Int) ≤ yx_215 ∧ yx_215 < (yn_214 : Int))
 (∃ yx_217 : Int, u210.cell? (q216.add (yx_215.toNat * 1)) = some (.int .i64 yx_217) ∧
 (optN p6 fun q218 =>
 ∃ ya_219 : Option Addr, ∃ yn_219 : Nat, ∃ yc_219 : Nat, wm212.cell? q218 = some (.slice ya_219 yn_219 yc_219) ∧
 (∃ yx_220 : Int, u210.cell? ((na w).add 7) = some (.int .i64 yx_220) ∧
 (optN ya_219 fun q221 =>
 chk ((0 : Int) ≤ yx_220 ∧ yx_220 < (yn_219 : Int))
 (∃ yx_222 : Int, wm212.cell? (q221.add (yx_220.toNat * 1)) = some (.int .i64 yx_222) ∧
 (okSt u210 (((na w).add 6).add 0) ∧
 (nw (u210.setCell (((na w).add 6).add 0) (.int .i64 yx_217)) fun w223 =>
 CK wm212 w223 ∧
 (okSt w223 (((na w).add 7).add 0) ∧
 (nw (w223.setCell (((na w).add 7).add 0) (.int .i64 yx_222)) fun w224 =>
 j51 p2 p6 p9 x43 (some (na w)) a41 n41 c41 x42 x43 D9999 w224)))))))))))))
 (j51 p2 p6 p9 x43 (some (na w)) a41 n41 c41 x42 x43 D9999 u210)))))))))))))))))))))))))))))))
 (optN p9 fun q225 =>
 ∃ yx_226 : Int, w.cell? (q225.add 0) = some (.int .i64 yx_226) ∧
 (∃ ya_227 : Option Addr, ∃ yn_227 : Nat, ∃ yc_227 : Nat, w.cell? (q225.add 1) = some (.slice ya_227 yn_227 yc_227) ∧
 (optN p2 fun q228 =>
 okSt w (q228.add 0) ∧
 (nw (w.setCell (q228.add 0) (.int .i64 yx_226)) fun w229 =>
 okSt w229 (q228.add 1) ∧
 (nw (w229.setCell (q228.add 1) (.slice ya_227 yn_227 yc_227)) fun w230 =>
 w230.heap[D9999]? = some (.deferred (some [])) ∧
 nw (w230.putObj D9999 (.deferred none)) fun w231 =>
 optN p2 fun q232 =>
 ∃ yx_233 : Int, w231.cell? (q232.add 0) = some (.int .i64 yx_233) ∧
 (∃ ya_234 : Option Addr, ∃ yn_234 : Nat, ∃ yc_234 : Nat, w231.cell? (q232.add 1) = some (.slice ya_234 yn_234 yc_234) ∧
 (R (.tuple #[.agg #[.int .i64 yx_233, .slice ya_234 yn_234 yc_234], .int .i64 0]) w231)))))))
def trees_Canon.g51 (R : Value → World → Prop) (b32 : (Option Addr) → (Option Addr) → (Option Addr) → (Option Addr) → Nat → Nat → Int → Int → Nat → World → Prop) (p2 : Option Addr) (p6 : Option Addr) (p9 : Option Addr) (x10 : Int) (p11 : Option Addr) (a41 : Option Addr) (n41 : Nat) (c41 : Nat) (x42 : Int) (x43 : Int) (D9999 : Nat) (w : World) : Prop :=
 optN p9 fun q235 =>
 ∃ ya_236 : Option Addr, ∃ yn_236 : Nat, ∃ yc_236 : Nat, w.cell? (q235.add 1) = some (.slice ya_236 yn_236 yc_236) ∧
 (optN p6 fun q237 =>
 ∃ ya_238 : Option Addr, ∃ yn_238 : Nat, ∃ yc_238 : Nat, w.cell? q237 = some (.slice ya_238 yn_238 yc_238) ∧
 (optN ya_238 fun q239 =>
 chk ((0 : Int) ≤ x10 ∧ x10 < (yn_238 : Int))
 (∃ yx_240 : Int, w.cell? (q239.add (x10.toNat * 1)) = some (.int .i64 yx_240) ∧
 (optN p11 fun q241 =>
 ∃ yx_242 : Int, w.cell? (q241.add 0) = some (.int .u8 yx_242) ∧
 (∃ yx_243 : Int, w.cell? (q241.add 1) = some (.int .i64 yx_243) ∧
 (∃ yx_244 : Int, w.cell? (q241.add 2) = some (.int .i64 yx_244) ∧
 (∃ yf_245 : Nat, w.cell? (q241.add 3) = some (.float .f64 yf_245) ∧
 (∃ ya_246 : Option Addr, ∃ yn_246 : Nat, ∃ yc_246 : Nat, w.cell? (q241.add 4) = some (.slice ya_246 yn_246 yc_246) ∧
 (∃ yx_247 : Int, w.cell? (q241.add 5) = some (.int .u8 yx_247) ∧
 (∃ yx_248 : Int, w.cell? (q241.add 6) = some (.int .i64 yx_248) ∧
 (∃ yx_249 : Int, w.cell? (q241.add 7) = some (.int .i64 yx_249) ∧
 (optN ya_236 fun q250 =>
 chk ((0 : Int) ≤ yx_240 ∧ yx_240 < (yn_236 : Int))
 (okSt w ((q250.add (yx_240.toNat * 8)).add 0) ∧
 (nw (w.setCell ((q250.add (yx_240.toNat * 8)).add 0) (.int .u8 yx_242)) fun w251 =>
 okSt w251 ((q250.add (yx_240.toNat * 8)).add 1) ∧
 (nw (w251.setCell ((q250.add (yx_240.toNat * 8)).add 1) (.int .i64 yx_243)) fun w252 =>
 okSt w252 ((q250.add (yx_240.toNat * 8)).add 2) ∧
 (nw (w252.setCell ((q250.add (yx_240.toNat * 8)).add 2) (.int .i64 yx_244)) fun w253 =>
 okSt w253 ((q250.add (yx_240.toNat * 8)).add 3) ∧
 (nw (w253.setCell ((q250.add (yx_240.toNat * 8)).add 3) (.float .f64 yf_245)) fun w254 =>
 okSt w254 ((q250.add (yx_240.toNat * 8)).add 4) ∧
 (nw (w254.setCell ((q250.add (yx_240.toNat * 8)).add 4) (.slice ya_246 yn_246 yc_246)) fun w255 =>
 okSt w255 ((q250.add (yx_240.toNat * 8)).add 5) ∧
 (nw (w255.setCell ((q250.add (yx_240.toNat * 8)).add 5) (.int .u8 yx_247)) fun w256 =>
 okSt w256 ((q250.add (yx_240.toNat * 8)).add 6) ∧
 (nw (w256.setCell ((q250.add (yx_240.toNat * 8)).add 6) (.int .i64 yx_248)) fun w257 =>
 okSt w257 ((q250.add (yx_240.toNat * 8)).add 7) ∧
 (nw (w257.setCell ((q250.add (yx_240.toNat * 8)).add 7) (.int .i64 yx_249)) fun w258 =>
 nv (IntKind.i64.wrap (x43 + 1)) fun t259 =>
 b32 p2 p6 p9 a41 n41 c41 x42 t259 D9999 w258)))))))))))))))))))))
def trees_Canon.q2 (R : Value → World → Prop) : Exit → Act → World → Prop := (fin Go.Proofs.Try.prog Go.Proofs.Try.f37 R)
def trees_Canon.q12 (R : Value → World → Prop) : Exit → Act → World → Prop := (trees_Canon.q2 R)
def trees_Canon.q14 (R : Value → World → Prop) : Exit → Act → World → Prop := (trees_Canon.q12 R)
def trees_Canon.q16 (R : Value → World → Prop) : Exit → Act → World → Prop := (trees_Canon.q14 R)
def trees_Canon.q26 (R : Value → World → Prop) : Exit → Act → World → Prop := (trees_Canon.q16 R)
def trees_Canon.q28 (R : Value → World → Prop) : Exit → Act → World → Prop := (trees_Canon.q26 R)
def trees_Canon.q29 (R : Value → World → Prop) : Exit → Act → World → Prop := Exit.then (startN none (codeN Go.Proofs.Try.prog (sub (codeOf Go.Proofs.Try.f37) [1, 1, 1, 1, 1, 1, 1]) (nsub trees_Canon.an [1, 1, 1, 1, 1, 1, 1]) (trees_Canon.q28 R))) (trees_Canon.q28 R)
def trees_Canon.q31 (R : Value → World → Prop) : Exit → Act → World → Prop := (trees_Canon.q29 R)
def trees_Canon.q32 (R : Value → World → Prop) : Exit → Act → World → Prop := Exit.inBlock 2 (trees_Canon.q31 R)
def trees_Canon.rl32 (R : Value → World → Prop) (k : Nat) (p2 : Option Addr) (p6 : Option Addr) (p9 : Option Addr) (a41 : Option Addr) (n41 : Nat) (c41 : Nat) (x42 : Int) (x43 : Int) (D9999 : Nat) (w : World) : Prop := loopN [2, 6, 9, 41, 42, 43] (codeN Go.Proofs.Try.prog (sub (codeOf Go.Proofs.Try.f37) [1, 1, 1, 1, 1, 1, 0, 1, 0, 0]) (nsub trees_Canon.an [1, 1, 1, 1, 1, 1, 0, 1, 0, 0])) (trees_Canon.q32 R) k ⟨#[undef, undef, .pointer p2, undef, undef, undef, .pointer p6, undef, undef, .pointer p9, undef, undef, undef, undef, undef, undef, undef, undef, undef, undef, undef, undef, undef, undef, undef, undef, undef, undef, undef, undef, undef, undef, undef, undef, undef, undef, undef, undef, undef, undef, undef, .slice a41 n41 c41, .int .i64 x42, .int .i64 x43, undef, undef, undef, undef, undef, undef, undef, undef, undef, undef, undef, undef, undef, undef, undef, undef, undef, undef, undef, undef, undef, undef, undef, undef, undef, undef, undef, undef, undef, undef, undef, undef], [{ target := .collected D9999, args := #[] }]⟩ w
def trees_Canon.re32 (R : Value → World → Prop) (p2 : Option Addr) (p6 : Option Addr) (p9 : Option Addr) (a41 : Option Addr) (n41 : Nat) (c41 : Nat) (x42 : Int) (x43 : Int) (D9999 : Nat) (w : World) : Prop := ∃ k, trees_Canon.rl32 R k p2 p6 p9 a41 n41 c41 x42 x43 D9999 w
def trees_Canon.q33 (R : Value → World → Prop) (k32 : Nat) : Exit → Act → World → Prop := Exit.then (fun a w => loopN [2, 6, 9, 41, 42, 43] (codeN Go.Proofs.Try.prog (sub (codeOf Go.Proofs.Try.f37) [1, 1, 1, 1, 1, 1, 0, 1, 0, 0]) (nsub trees_Canon.an [1, 1, 1, 1, 1, 1, 0, 1, 0, 0])) (trees_Canon.q32 R) k32 (clr [2, 6, 9, 41, 42, 43] a) w) (trees_Canon.q32 R)
def trees_Canon.q35 (R : Value → World → Prop) (k32 : Nat) : Exit → Act → World → Prop := (trees_Canon.q33 R k32)
def trees_Canon.q39 (R : Value → World → Prop) (k32 : Nat) : Exit → Act → World → Prop := (trees_Canon.q35 R k32)
def trees_Canon.q40 (R : Value → World → Prop) (k32 : Nat) : Exit → Act → World → Prop := Exit.then (startN none (codeN Go.Proofs.Try.prog (sub (codeOf Go.Proofs.Try.f37) [1, 1, 1, 1, 1, 1, 0, 1, 0, 0, 1, 1, 1]) (nsub trees_Canon.an [1, 1, 1, 1, 1, 1, 0, 1, 0, 0, 1, 1, 1]) (trees_Canon.q39 R k32))) (trees_Canon.q39 R k32)
def trees_Canon.q41 (R : Value → World → Prop) (k32 : Nat) : Exit → Act → World → Prop := Exit.inBlock 3 (trees_Canon.q40 R k32)
def trees_Canon.q43 (R : Value → World → Prop) (k32 : Nat) : Exit → Act → World → Prop := (trees_Canon.q41 R k32)
def trees_Canon.q45 (R : Value → World → Prop) (k32 : Nat) : Exit → Act → World → Prop := (trees_Canon.q43 R k32)
def trees_Canon.q51 (R : Value → World → Prop) (k32 : Nat) : Exit → Act → World → Prop := (trees_Canon.q45 R k32)
def trees_Canon.rj51 (R : Value → World → Prop) (k32 : Nat) (p2 : Option Addr) (p6 : Option Addr) (p9 : Option Addr) (x10 : Int) (p11 : Option Addr) (a41 : Option Addr) (n41 : Nat) (c41 : Nat) (x42 : Int) (x43 : Int) (D9999 : Nat) (w : World) : Prop := startN (some [2, 6, 9, 10, 11, 41, 42, 43]) (codeN Go.Proofs.Try.prog (sub (codeOf Go.Proofs.Try.f37) [1, 1, 1, 1, 1, 1, 0, 1, 0, 0, 1, 1, 0, 0, 1, 1, 1]) (nsub trees_Canon.an [1, 1, 1, 1, 1, 1, 0, 1, 0, 0, 1, 1, 0, 0, 1, 1, 1]) (trees_Canon.q51 R k32)) ⟨#[undef, undef, .pointer p2, undef, undef, undef, .pointer p6, undef, undef, .pointer p9, .int .i64 x10, .pointer p11, undef, undef, undef, undef, undef, undef, undef, undef, undef, undef, undef, undef, undef, undef, undef, undef, undef, undef, undef, undef, undef, undef, undef, undef, undef, undef, undef, undef, undef, .slice a41 n41 c41, .int .i64 x42, .int .i64 x43, undef, undef, undef, undef, undef, undef, undef, undef, undef, undef, undef, undef, undef, undef, undef, undef, undef, undef, undef, undef, undef, undef, undef, undef, undef, undef, undef, undef, undef, undef, undef, undef], [{ target := .collected D9999, args := #[] }]⟩ w
def trees_Canon.j51 (R : Value → World → Prop) (b32 : (Option Addr) → (Option Addr) → (Option Addr) → (Option Addr) → Nat → Nat → Int → Int → Nat → World → Prop) (p2 : Option Addr) (p6 : Option Addr) (p9 : Option Addr) (x10 : Int) (p11 : Option Addr) (a41 : Option Addr) (n41 : Nat) (c41 : Nat) (x42 : Int) (x43 : Int) (D9999 : Nat) (w : World) : Prop := trees_Canon.g51 R b32 p2 p6 p9 x10 p11 a41 n41 c41 x42 x43 D9999 w
theorem trees_Canon.s51 (R : Value → World → Prop) (k32 : Nat) (p2 : Option Addr) (p6 : Option Addr) (p9 : Option Addr) (x10 : Int) (p11 : Option Addr) (a41 : Option Addr) (n41 : Nat) (c41 : Nat) (x42 : Int) (x43 : Int) (D9999 : Nat) (w : World) : trees_Canon.rj51 R k32 p2 p6 p9 x10 p11 a41 n41 c41 x42 x43 D9999 w = ∀ _ : Nat → Value, trees_Canon.g51 R (trees_Canon.rl32 R k32) p2 p6 p9 x10 p11 a41 n41 c41 x42 x43 D9999 w := by kernel_rfl
theorem trees_Canon.jq51 (R : Value → World → Prop) (k32 : Nat) (b32 : (Option Addr) → (Option Addr) → (Option Addr) → (Option Addr) → Nat → Nat → Int → Int → Nat → World → Prop) (hb32 : b32 = trees_Canon.rl32 R k32) : trees_Canon.j51 R b32 = trees_Canon.rj51 R k32 := by
    funext p2 p6 p9 x10 p11 a41 n41 c41 x42 x43 D9999 w
    rw [trees_Canon.s51, forall_const]
    unfold trees_Canon.j51
    subst hb32
    all_goals rfl
def trees_Canon.l32 (R : Value → World → Prop) : Nat → (Option Addr) → (Option Addr) → (Option Addr) → (Option Addr) → Nat → Nat → Int → Int → Nat → World → Prop
  | 0, _, _, _, _, _, _, _, _, _, _ => False
  | k + 1, p2, p6, p9, a41, n41, c41, x42, x43, D9999, w => trees_Canon.g32 R (trees_Canon.j51 R (trees_Canon.l32 R k)) p2 p6 p9 a41 n41 c41 x42 x43 D9999 w
def trees_Canon.e32 (R : Value → World → Prop) (p2 : Option Addr) (p6 : Option Addr) (p9 : Option Addr) (a41 : Option Addr) (n41 : Nat) (c41 : Nat) (x42 : Int) (x43 : Int) (D9999 : Nat) (w : World) : Prop := ∃ k, trees_Canon.l32 R k p2 p6 p9 a41 n41 c41 x42 x43 D9999 w
theorem trees_Canon.s32 (R : Value → World → Prop) (k : Nat) (p2 : Option Addr) (p6 : Option Addr) (p9 : Option Addr) (a41 : Option Addr) (n41 : Nat) (c41 : Nat) (x42 : Int) (x43 : Int) (D9999 : Nat) (w : World) : trees_Canon.rl32 R (k + 1) p2 p6 p9 a41 n41 c41 x42 x43 D9999 w = ∀ _ : Nat → Value, trees_Canon.g32 R (trees_Canon.rj51 R k) p2 p6 p9 a41 n41 c41 x42 x43 D9999 w := by kernel_rfl
theorem trees_Canon.lq32 (R : Value → World → Prop) : ∀ k, trees_Canon.l32 R k = trees_Canon.rl32 R k
  | 0 => by funext p2 p6 p9 a41 n41 c41 x42 x43 D9999 w; first | rfl | kernel_rfl
  | k + 1 => by
    funext p2 p6 p9 a41 n41 c41 x42 x43 D9999 w
    rw [trees_Canon.s32, forall_const]
    unfold trees_Canon.l32
    have ih := trees_Canon.lq32 R k
    rw [trees_Canon.jq51 R k _ ih]
    all_goals rfl
theorem trees_Canon.eq32 (R : Value → World → Prop) : trees_Canon.e32 R = trees_Canon.re32 R := by
  funext p2 p6 p9 a41 n41 c41 x42 x43 D9999 w
  unfold trees_Canon.e32 trees_Canon.re32
  simp only [trees_Canon.lq32 R]
def trees_Canon (R : Value → World → Prop) (x0_0 : Int) (a0_1 : Option Addr) (n0_1 : Nat) (c0_1 : Nat) (w : World) : Prop := trees_Canon.g0 R (trees_Canon.e32 R) x0_0 a0_1 n0_1 c0_1 w
theorem trees_Canon.root0 (R : Value → World → Prop) (x0_0 : Int) (a0_1 : Option Addr) (n0_1 : Nat) (c0_1 : Nat) (w : World) : fnN Go.Proofs.Try.prog Go.Proofs.Try.f37 trees_Canon.an #[.agg #[.int .i64 x0_0, .slice a0_1 n0_1 c0_1]] w R = trees_Canon.g0 R (trees_Canon.re32 R) x0_0 a0_1 n0_1 c0_1 w := by kernel_rfl
theorem trees_Canon.calls {R : Value → World → Prop} {x0_0 : Int} {a0_1 : Option Addr} {n0_1 : Nat} {c0_1 : Nat} {w : World} (h : trees_Canon R x0_0 a0_1 n0_1 c0_1 w) : Go.E.CallsD Go.Proofs.Try.prog 37 #[.agg #[.int .i64 x0_0, .slice a0_1 n0_1 c0_1]] w R := by
  refine callsD_of (n := trees_Canon.an) M_follows M_sizes Go.Proofs.Try.func37 (by rfl) ?_
  rw [trees_Canon.root0]
  unfold trees_Canon at h
  rw [trees_Canon.eq32 R] at h
  exact h
-- thicket/trees.Alike
def trees_Alike.an : An := An.nil
def trees_Alike.g0 (R : Value → World → Prop) (x0_0 : Int) (a0_1 : Option Addr) (n0_1 : Nat) (c0_1 : Nat) (x1_0 : Int) (a1_1 : Option Addr) (n1_1 : Nat) (c1_1 : Nat) (w : World) : Prop :=
 nw (w.alloc (.cells #[.int .i64 x0_0, .slice a0_1 n0_1 c0_1] 33)) fun w10 =>
 nw (w10.alloc (.cells #[.int .i64 x1_0, .slice a1_1 n1_1 c1_1] 33)) fun w11 =>
 ∃ yx_12 : Int, w11.cell? ((na w).add 0) = some (.int .i64 yx_12) ∧
 (∃ yx_13 : Int, w11.cell? ((na w10).add 0) = some (.int .i64 yx_13) ∧
 (onBool (yx_12 == yx_13)
 (∃ ya_14 : Option Addr, ∃ yn_14 : Nat, ∃ yc_14 : Nat, w11.cell? ((na w).add 1) = some (.slice ya_14 yn_14 yc_14) ∧
 (∃ ya_15 : Option Addr, ∃ yn_15 : Nat, ∃ yc_15 : Nat, w11.cell? ((na w10).add 1) = some (.slice ya_15 yn_15 yc_15) ∧
 (Go.E.CallsD Go.Proofs.Try.prog 61 #[.slice ya_14 yn_14 yc_14, .slice ya_15 yn_15 yc_15, .func (.func 62) #[] #[]] w11 fun yv16 u17 =>
 ∃ yb_18 : Bool, yv16 = .bool yb_18 ∧
 (R (.bool yb_18) u17))))
 (R (.bool false) w11)))
def trees_Alike (R : Value → World → Prop) (x0_0 : Int) (a0_1 : Option Addr) (n0_1 : Nat) (c0_1 : Nat) (x1_0 : Int) (a1_1 : Option Addr) (n1_1 : Nat) (c1_1 : Nat) (w : World) : Prop := trees_Alike.g0 R x0_0 a0_1 n0_1 c0_1 x1_0 a1_1 n1_1 c1_1 w
theorem trees_Alike.root0 (R : Value → World → Prop) (x0_0 : Int) (a0_1 : Option Addr) (n0_1 : Nat) (c0_1 : Nat) (x1_0 : Int) (a1_1 : Option Addr) (n1_1 : Nat) (c1_1 : Nat) (w : World) : fnN Go.Proofs.Try.prog Go.Proofs.Try.f38 trees_Alike.an #[.agg #[.int .i64 x0_0, .slice a0_1 n0_1 c0_1], .agg #[.int .i64 x1_0, .slice a1_1 n1_1 c1_1]] w R = trees_Alike.g0 R x0_0 a0_1 n0_1 c0_1 x1_0 a1_1 n1_1 c1_1 w := by kernel_rfl
theorem trees_Alike.calls {R : Value → World → Prop} {x0_0 : Int} {a0_1 : Option Addr} {n0_1 : Nat} {c0_1 : Nat} {x1_0 : Int} {a1_1 : Option Addr} {n1_1 : Nat} {c1_1 : Nat} {w : World} (h : trees_Alike R x0_0 a0_1 n0_1 c0_1 x1_0 a1_1 n1_1 c1_1 w) : Go.E.CallsD Go.Proofs.Try.prog 38 #[.agg #[.int .i64 x0_0, .slice a0_1 n0_1 c0_1], .agg #[.int .i64 x1_0, .slice a1_1 n1_1 c1_1]] w R := by
  refine callsD_of (n := trees_Alike.an) M_follows M_sizes Go.Proofs.Try.func38 (by rfl) ?_
  rw [trees_Alike.root0]
  unfold trees_Alike at h
  exact h
-- thicket/thicketlaw07.copied
def thicketlaw07_copied.an : An := An.nil
def thicketlaw07_copied.g0 (R : Value → World → Prop) (x0_0 : Int) (a0_1 : Option Addr) (n0_1 : Nat) (c0_1 : Nat) (w : World) : Prop :=
 nw (w.alloc (.cells #[.int .i64 x0_0, .slice a0_1 n0_1 c0_1] 33)) fun w16 =>
 nw (w16.alloc (.cells #[.int .i64 0, .slice none 0 0] 33)) fun w17 =>
 ∃ F18 : Nat → Value → World → Prop, (∀ i v u u', F18 i v u → Below u.heap.size u u' → F18 i v u') ∧
 (∃ yx_19 : Int, w17.cell? ((na w).add 0) = some (.int .i64 yx_19) ∧
 (∃ ya_20 : Option Addr, ∃ yn_20 : Nat, ∃ yc_20 : Nat, w17.cell? ((na w).add 1) = some (.slice ya_20 yn_20 yc_20) ∧
 ((∀ u21 : World, Below w17.heap.size w17 u21 → Go.E.CallsD Go.Proofs.Try.prog 50 #[.slice ya_20 yn_20 yc_20] u21 fun yv23 u24 => ∃ ya_22 : Option Addr, ∃ yn_22 : Nat, ∃ yc_22 : Nat, yv23 = .slice ya_22 yn_22 yc_22 ∧ F18 4 (.slice ya_22 yn_22 yc_22) u24 ∧ Below u21.heap.size u21 u24) ∧
 (∀ ya_25 : Option Addr, ∀ yn_25 : Nat, ∀ yc_25 : Nat, (∃ u, Below w17.heap.size w17 u ∧ F18 4 (.slice ya_25 yn_25 yc_25) u) →
 ∀ u26 : World, Below w17.heap.size w17 u26 → F18 4 (.slice ya_25 yn_25 yc_25) u26 → 
 okSt u26 ((na w16).add 0) ∧
 (nw (u26.setCell ((na w16).add 0) (.int .i64 yx_19)) fun w27 =>
 okSt w27 ((na w16).add 1) ∧
 (nw (w27.setCell ((na w16).add 1) (.slice ya_25 yn_25 yc_25)) fun w28 =>
 ∃ yx_29 : Int, w28.cell? ((na w16).add 0) = some (.int .i64 yx_29) ∧
 (∃ ya_30 : Option Addr, ∃ yn_30 : Nat, ∃ yc_30 : Nat, w28.cell? ((na w16).add 1) = some (.slice ya_30 yn_30 yc_30) ∧
 (R (.agg #[.int .i64 yx_29, .slice ya_30 yn_30 yc_30]) w28))))))))
def thicketlaw07_copied (R : Value → World → Prop) (x0_0 : Int) (a0_1 : Option Addr) (n0_1 : Nat) (c0_1 : Nat) (w : World) : Prop := thicketlaw07_copied.g0 R x0_0 a0_1 n0_1 c0_1 w
theorem thicketlaw07_copied.root0 (R : Value → World → Prop) (x0_0 : Int) (a0_1 : Option Addr) (n0_1 : Nat) (c0_1 : Nat) (w : World) : fnN Go.Proofs.Try.prog Go.Proofs.Try.f39 thicketlaw07_copied.an #[.agg #[.int .i64 x0_0, .slice a0_1 n0_1 c0_1]] w R = thicketlaw07_copied.g0 R x0_0 a0_1 n0_1 c0_1 w := by kernel_rfl
theorem thicketlaw07_copied.calls {R : Value → World → Prop} {x0_0 : Int} {a0_1 : Option Addr} {n0_1 : Nat} {c0_1 : Nat} {w : World} (h : thicketlaw07_copied R x0_0 a0_1 n0_1 c0_1 w) : Go.E.CallsD Go.Proofs.Try.prog 39 #[.agg #[.int .i64 x0_0, .slice a0_1 n0_1 c0_1]] w R := by
  refine callsD_of (n := thicketlaw07_copied.an) M_follows M_sizes Go.Proofs.Try.func39 (by rfl) ?_
  rw [thicketlaw07_copied.root0]
  unfold thicketlaw07_copied at h
  exact h
-- thicket/trees.Same
def trees_Same.an : An := An.nil
def trees_Same.g0 (R : Value → World → Prop) (s0_0 : ByteArray) (a0_1 : Option Addr) (n0_1 : Nat) (c0_1 : Nat) (x0_2 : Int) (a0_3 : Option Addr) (n0_3 : Nat) (c0_3 : Nat) (a0_4 : Option Addr) (n0_4 : Nat) (c0_4 : Nat) (s1_0 : ByteArray) (a1_1 : Option Addr) (n1_1 : Nat) (c1_1 : Nat) (x1_2 : Int) (a1_3 : Option Addr) (n1_3 : Nat) (c1_3 : Nat) (a1_4 : Option Addr) (n1_4 : Nat) (c1_4 : Nat) (w : World) : Prop :=
 nw (w.alloc (.cells #[.string s0_0, .slice a0_1 n0_1 c0_1, .int .i64 x0_2, .slice a0_3 n0_3 c0_3, .slice a0_4 n0_4 c0_4] 46)) fun w22 =>
 nw (w22.alloc (.cells #[.string s1_0, .slice a1_1 n1_1 c1_1, .int .i64 x1_2, .slice a1_3 n1_3 c1_3, .slice a1_4 n1_4 c1_4] 46)) fun w23 =>
 ∃ ys_24 : ByteArray, w23.cell? ((na w).add 0) = some (.string ys_24) ∧
 (∃ ys_25 : ByteArray, w23.cell? ((na w22).add 0) = some (.string ys_25) ∧
 (onBool ((ys_24 : ByteArray).toList == (ys_25 : ByteArray).toList)
 (∃ ya_26 : Option Addr, ∃ yn_26 : Nat, ∃ yc_26 : Nat, w23.cell? ((na w).add 1) = some (.slice ya_26 yn_26 yc_26) ∧
 (∃ ya_27 : Option Addr, ∃ yn_27 : Nat, ∃ yc_27 : Nat, w23.cell? ((na w22).add 1) = some (.slice ya_27 yn_27 yc_27) ∧
 (Go.E.CallsD Go.Proofs.Try.prog 65 #[.slice ya_26 yn_26 yc_26, .slice ya_27 yn_27 yc_27] w23 fun yv28 u29 =>
 ∃ yb_30 : Bool, yv28 = .bool yb_30 ∧
 (onBool yb_30
 (∃ yx_31 : Int, u29.cell? ((na w).add 2) = some (.int .i64 yx_31) ∧
 (∃ yx_32 : Int, u29.cell? ((na w22).add 2) = some (.int .i64 yx_32) ∧
 (onBool (yx_31 == yx_32)
 (∃ ya_33 : Option Addr, ∃ yn_33 : Nat, ∃ yc_33 : Nat, u29.cell? ((na w).add 3) = some (.slice ya_33 yn_33 yc_33) ∧
 (∃ ya_34 : Option Addr, ∃ yn_34 : Nat, ∃ yc_34 : Nat, u29.cell? ((na w22).add 3) = some (.slice ya_34 yn_34 yc_34) ∧
 (Go.E.CallsD Go.Proofs.Try.prog 66 #[.slice ya_33 yn_33 yc_33, .slice ya_34 yn_34 yc_34] u29 fun yv35 u36 =>
 ∃ yb_37 : Bool, yv35 = .bool yb_37 ∧
 (onBool yb_37
 (∃ ya_38 : Option Addr, ∃ yn_38 : Nat, ∃ yc_38 : Nat, u36.cell? ((na w).add 4) = some (.slice ya_38 yn_38 yc_38) ∧
 (∃ ya_39 : Option Addr, ∃ yn_39 : Nat, ∃ yc_39 : Nat, u36.cell? ((na w22).add 4) = some (.slice ya_39 yn_39 yc_39) ∧
 (Go.E.CallsD Go.Proofs.Try.prog 67 #[.slice ya_38 yn_38 yc_38, .slice ya_39 yn_39 yc_39, .func (.func 38) #[] #[]] u36 fun yv40 u41 =>
 ∃ yb_42 : Bool, yv40 = .bool yb_42 ∧
 (R (.bool yb_42) u41))))
 (R (.bool false) u36)))))
 (R (.bool false) u29))))
 (R (.bool false) u29)))))
 (R (.bool false) w23)))
def trees_Same (R : Value → World → Prop) (s0_0 : ByteArray) (a0_1 : Option Addr) (n0_1 : Nat) (c0_1 : Nat) (x0_2 : Int) (a0_3 : Option Addr) (n0_3 : Nat) (c0_3 : Nat) (a0_4 : Option Addr) (n0_4 : Nat) (c0_4 : Nat) (s1_0 : ByteArray) (a1_1 : Option Addr) (n1_1 : Nat) (c1_1 : Nat) (x1_2 : Int) (a1_3 : Option Addr) (n1_3 : Nat) (c1_3 : Nat) (a1_4 : Option Addr) (n1_4 : Nat) (c1_4 : Nat) (w : World) : Prop := trees_Same.g0 R s0_0 a0_1 n0_1 c0_1 x0_2 a0_3 n0_3 c0_3 a0_4 n0_4 c0_4 s1_0 a1_1 n1_1 c1_1 x1_2 a1_3 n1_3 c1_3 a1_4 n1_4 c1_4 w
theorem trees_Same.root0 (R : Value → World → Prop) (s0_0 : ByteArray) (a0_1 : Option Addr) (n0_1 : Nat) (c0_1 : Nat) (x0_2 : Int) (a0_3 : Option Addr) (n0_3 : Nat) (c0_3 : Nat) (a0_4 : Option Addr) (n0_4 : Nat) (c0_4 : Nat) (s1_0 : ByteArray) (a1_1 : Option Addr) (n1_1 : Nat) (c1_1 : Nat) (x1_2 : Int) (a1_3 : Option Addr) (n1_3 : Nat) (c1_3 : Nat) (a1_4 : Option Addr) (n1_4 : Nat) (c1_4 : Nat) (w : World) : fnN Go.Proofs.Try.prog Go.Proofs.Try.f40 trees_Same.an #[.agg #[.string s0_0, .slice a0_1 n0_1 c0_1, .int .i64 x0_2, .slice a0_3 n0_3 c0_3, .slice a0_4 n0_4 c0_4], .agg #[.string s1_0, .slice a1_1 n1_1 c1_1, .int .i64 x1_2, .slice a1_3 n1_3 c1_3, .slice a1_4 n1_4 c1_4]] w R = trees_Same.g0 R s0_0 a0_1 n0_1 c0_1 x0_2 a0_3 n0_3 c0_3 a0_4 n0_4 c0_4 s1_0 a1_1 n1_1 c1_1 x1_2 a1_3 n1_3 c1_3 a1_4 n1_4 c1_4 w := by kernel_rfl
theorem trees_Same.calls {R : Value → World → Prop} {s0_0 : ByteArray} {a0_1 : Option Addr} {n0_1 : Nat} {c0_1 : Nat} {x0_2 : Int} {a0_3 : Option Addr} {n0_3 : Nat} {c0_3 : Nat} {a0_4 : Option Addr} {n0_4 : Nat} {c0_4 : Nat} {s1_0 : ByteArray} {a1_1 : Option Addr} {n1_1 : Nat} {c1_1 : Nat} {x1_2 : Int} {a1_3 : Option Addr} {n1_3 : Nat} {c1_3 : Nat} {a1_4 : Option Addr} {n1_4 : Nat} {c1_4 : Nat} {w : World} (h : trees_Same R s0_0 a0_1 n0_1 c0_1 x0_2 a0_3 n0_3 c0_3 a0_4 n0_4 c0_4 s1_0 a1_1 n1_1 c1_1 x1_2 a1_3 n1_3 c1_3 a1_4 n1_4 c1_4 w) : Go.E.CallsD Go.Proofs.Try.prog 40 #[.agg #[.string s0_0, .slice a0_1 n0_1 c0_1, .int .i64 x0_2, .slice a0_3 n0_3 c0_3, .slice a0_4 n0_4 c0_4], .agg #[.string s1_0, .slice a1_1 n1_1 c1_1, .int .i64 x1_2, .slice a1_3 n1_3 c1_3, .slice a1_4 n1_4 c1_4]] w R := by
  refine callsD_of (n := trees_Same.an) M_follows M_sizes Go.Proofs.Try.func40 (by rfl) ?_
  rw [trees_Same.root0]
  unfold trees_Same at h
  exact h
-- thicket/thicketref07.Canon
def thicketref07_Canon.an : An := (.mk none .nil (.mk none .nil (.mk none .nil (.mk none .nil (.mk none .nil (.mk none (.mk none .nil (.mk none (.mk (some [1, 2, 6, 7, 28, 29, 30]) .nil .nil) .nil)) (.mk none .nil (.mk none (.mk none .nil (.mk none (.mk (some [1, 2, 7, 10, 43, 44, 45]) .nil .nil) .nil)) .nil))))))))
def thicketref07_Canon.g0 (R : Value → World → Prop) (e20 : (Option Addr) → (Option Addr) → (Option Addr) → Nat → Nat → (Option Addr) → Nat → Nat → (Option Addr) → Nat → Nat → Int → Int → World → Prop) (x0_0 : Int) (a0_1 : Option Addr) (n0_1 : Nat) (c0_1 : Nat) (w : World) : Prop :=
 nw (w.alloc (.cells #[.int .i64 x0_0, .slice a0_1 n0_1 c0_1] 33)) fun w89 =>
 nw (w89.alloc (.cells #[.int .i64 0, .slice none 0 0] 33)) fun w90 =>
 ∃ yx_91 : Int, w90.cell? ((na w).add 0) = some (.int .i64 yx_91) ∧
 (∃ ya_92 : Option Addr, ∃ yn_92 : Nat, ∃ yc_92 : Nat, w90.cell? ((na w).add 1) = some (.slice ya_92 yn_92 yc_92) ∧
 (Go.E.CallsD Go.Proofs.Try.prog 26 #[.agg #[.int .i64 yx_91, .slice ya_92 yn_92 yc_92]] w90 fun yv93 u94 =>
 ∃ yx_95_0 : Int, ∃ yx_95_1 : Int, yv93 = .tuple #[.int .i64 yx_95_0, .int .i64 yx_95_1] ∧
 (onBool (yx_95_0 != 0)
 (okSt u94 ((na w89).add 0) ∧
 (nw (u94.setCell ((na w89).add 0) (.int .i64 0)) fun w96 =>
 okSt w96 ((na w89).add 1) ∧
 (nw (w96.setCell ((na w89).add 1) (.slice none 0 0)) fun w97 =>
 ∃ yx_98 : Int, w97.cell? ((na w89).add 0) = some (.int .i64 yx_98) ∧
 (∃ ya_99 : Option Addr, ∃ yn_99 : Nat, ∃ yc_99 : Nat, w97.cell? ((na w89).add 1) = some (.slice ya_99 yn_99 yc_99) ∧
 (R (.tuple #[.agg #[.int .i64 yx_98, .slice ya_99 yn_99 yc_99], .int .i64 yx_95_0]) w97)))))
 (∃ yx_100 : Int, u94.cell? ((na w).add 0) = some (.int .i64 yx_100) ∧
 (∃ ya_101 : Option Addr, ∃ yn_101 : Nat, ∃ yc_101 : Nat, u94.cell? ((na w).add 1) = some (.slice ya_101 yn_101 yc_101) ∧
 (Go.E.CallsD Go.Proofs.Try.prog 57 #[.agg #[.int .i64 yx_100, .slice ya_101 yn_101 yc_101]] u94 fun yv102 u103 =>
 ∃ ya_104 : Option Addr, ∃ yn_104 : Nat, ∃ yc_104 : Nat, yv102 = .slice ya_104 yn_104 yc_104 ∧
 (chk ((0 : Int) ≤ (yn_104 : Int) ∧ (yn_104 : Int) ≤ (yn_104 : Int) ∧ ((8 : Nat) : Int) * (yn_104 : Int) ≤ 281474976710656 ∧ (yn_104 : Int) ≤ 9223372036854775807)
 (nw (u103.alloc (.cells (madeCells #[.int .i64 0] (((yn_104 : Int)).toNat * 1)) 3)) fun w105 =>
 e20 (some (na w)) (some (na w89)) ya_104 yn_104 yc_104 (some (na u103)) (((yn_104 : Int)).toNat) (((yn_104 : Int)).toNat) ya_104 yn_104 yc_104 (yn_104 : Int) 0 w105))))))))
def thicketref07_Canon.g20 (R : Value → World → Prop) (b20 : (Option Addr) → (Option Addr) → (Option Addr) → Nat → Nat → (Option Addr) → Nat → Nat → (Option Addr) → Nat → Nat → Int → Int → World → Prop) (e39 : (Option Addr) → (Option Addr) → (Option Addr) → Nat → Nat → (Option Addr) → (Option Addr) → Nat → Nat → Int → Int → World → Prop) (p1 : Option Addr) (p2 : Option Addr) (a6 : Option Addr) (n6 : Nat) (c6 : Nat) (a7 : Option Addr) (n7 : Nat) (c7 : Nat) (a28 : Option Addr) (n28 : Nat) (c28 : Nat) (x29 : Int) (x30 : Int) (w : World) : Prop :=
 onBool (decide (x30 < x29))
 (optN a28 fun q106 =>
 chk ((0 : Int) ≤ x30 ∧ x30 < (n28 : Int))
 (∃ yx_107 : Int, w.cell? (q106.add (x30.toNat * 1)) = some (.int .i64 yx_107) ∧
 (optN a7 fun q108 =>
 chk ((0 : Int) ≤ yx_107 ∧ yx_107 < (n7 : Int))
 (okSt w ((q108.add (yx_107.toNat * 1)).add 0) ∧
 (nw (w.setCell ((q108.add (yx_107.toNat * 1)).add 0) (.int .i64 x30)) fun w109 =>
 nv (IntKind.i64.wrap (x30 + 1)) fun t110 =>
 b20 p1 p2 a6 n6 c6 a7 n7 c7 a28 n28 c28 x29 t110 w109)))))
 (optN p1 fun q111 =>
 ∃ yx_112 : Int, w.cell? (q111.add 0) = some (.int .i64 yx_112) ∧
 (nw (w.alloc (.cells #[.int .i64 0, .slice none 0 0] 33)) fun w113 =>
 okSt w113 ((na w).add 0) ∧
 (nw (w113.setCell ((na w).add 0) (.int .i64 yx_112)) fun w114 =>
 okSt w114 ((na w).add 1) ∧
 (nw (w114.setCell ((na w).add 1) (.slice none 0 0)) fun w115 =>
 e39 p1 p2 a7 n7 c7 (some (na w)) a6 n6 c6 (n6 : Int) 0 w115))))
def thicketref07_Canon.g39 (R : Value → World → Prop) (b39 : (Option Addr) → (Option Addr) → (Option Addr) → Nat → Nat → (Option Addr) → (Option Addr) → Nat → Nat → Int → Int → World → Prop) (p1 : Option Addr) (p2 : Option Addr) (a7 : Option Addr) (n7 : Nat) (c7 : Nat) (p10 : Option Addr) (a43 : Option Addr) (n43 : Nat) (c43 : Nat) (x44 : Int) (x45 : Int) (w : World) : Prop :=
 onBool (decide (x45 < x44))
 (optN a43 fun q116 =>
 chk ((0 : Int) ≤ x45 ∧ x45 < (n43 : Int))
 (∃ yx_117 : Int, w.cell? (q116.add (x45.toNat * 1)) = some (.int .i64 yx_117) ∧
 (optN p1 fun q118 =>
 ∃ ya_119 : Option Addr, ∃ yn_119 : Nat, ∃ yc_119 : Nat, w.cell? (q118.add 1) = some (.slice ya_119 yn_119 yc_119) ∧
 (nv (IntKind.i64.wrap (yx_117 + 1)) fun t120 =>
 chk ((0 : Int) ≤ t120 ∧ t120 ≤ (yc_119 : Int))
 (chk ((0 : Int) ≤ yx_117 ∧ yx_117 ≤ (t120.toNat : Int))
 (Go.E.CallsD Go.Proofs.Try.prog 50 #[.slice (slA ya_119 yc_119 yx_117.toNat 8) (t120.toNat - yx_117.toNat) (yc_119 - yx_117.toNat)] w fun yv121 u122 =>
 ∃ ya_123 : Option Addr, ∃ yn_123 : Nat, ∃ yc_123 : Nat, yv121 = .slice ya_123 yn_123 yc_123 ∧
 (optN ya_123 fun q124 =>
 chk ((0 : Int) ≤ 0 ∧ 0 < (yn_123 : Int))
 (∃ yx_125 : Int, u122.cell? ((q124.add 0).add 0) = some (.int .u8 yx_125) ∧
 (∃ yx_126 : Int, u122.cell? ((q124.add 0).add 1) = some (.int .i64 yx_126) ∧
 (∃ yx_127 : Int, u122.cell? ((q124.add 0).add 2) = some (.int .i64 yx_127) ∧
 (∃ yf_128 : Nat, u122.cell? ((q124.add 0).add 3) = some (.float .f64 yf_128) ∧
 (∃ ya_129 : Option Addr, ∃ yn_129 : Nat, ∃ yc_129 : Nat, u122.cell? ((q124.add 0).add 4) = some (.slice ya_129 yn_129 yc_129) ∧
 (∃ yx_130 : Int, u122.cell? ((q124.add 0).add 5) = some (.int .u8 yx_130) ∧
 (∃ yx_131 : Int, u122.cell? ((q124.add 0).add 6) = some (.int .i64 yx_131) ∧
 (∃ yx_132 : Int, u122.cell? ((q124.add 0).add 7) = some (.int .i64 yx_132) ∧
 (nw (u122.alloc (.cells #[.int .u8 0, .int .i64 0, .int .i64 0, .float .f64 0, .slice none 0 0, .int .u8 0, .int .i64 0, .int .i64 0] 27)) fun w133 =>
 okSt w133 ((na u122).add 0) ∧
 (nw (w133.setCell ((na u122).add 0) (.int .u8 yx_125)) fun w134 =>
 okSt w134 ((na u122).add 1) ∧
 (nw (w134.setCell ((na u122).add 1) (.int .i64 yx_126)) fun w135 =>
 okSt w135 ((na u122).add 2) ∧
 (nw (w135.setCell ((na u122).add 2) (.int .i64 yx_127)) fun w136 =>
 okSt w136 ((na u122).add 3) ∧
 (nw (w136.setCell ((na u122).add 3) (.float .f64 yf_128)) fun w137 =>
 okSt w137 ((na u122).add 4) ∧
 (nw (w137.setCell ((na u122).add 4) (.slice ya_129 yn_129 yc_129)) fun w138 =>
 okSt w138 ((na u122).add 5) ∧
 (nw (w138.setCell ((na u122).add 5) (.int .u8 yx_130)) fun w139 =>
 okSt w139 ((na u122).add 6) ∧
 (nw (w139.setCell ((na u122).add 6) (.int .i64 yx_131)) fun w140 =>
 okSt w140 ((na u122).add 7) ∧
 (nw (w140.setCell ((na u122).add 7) (.int .i64 yx_132)) fun w141 =>
 ∃ yx_142 : Int, w141.cell? ((na u122).add 0) = some (.int .u8 yx_142) ∧
 (onBool (yx_142 != 1)
 (∃ yx_143 : Int, w141.cell? ((na u122).add 6) = some (.int .i64 yx_143) ∧
 (optN a7 fun q144 =>
 chk ((0 : Int) ≤ yx_143 ∧ yx_143 < (n7 : Int))
 (∃ yx_145 : Int, w141.cell? (q144.add (yx_143.toNat * 1)) = some (.int .i64 yx_145) ∧
 (okSt w141 (((na u122).add 6).add 0) ∧
 (nw (w141.setCell (((na u122).add 6).add 0) (.int .i64 yx_145)) fun w146 =>
 ∃ yx_147 : Int, w146.cell? ((na u122).add 7) = some (.int .i64 yx_147) ∧
 (optN a7 fun q148 =>
 chk ((0 : Int) ≤ yx_147 ∧ yx_147 < (n7 : Int))
 (∃ yx_149 : Int, w146.cell? (q148.add (yx_147.toNat * 1)) = some (.int .i64 yx_149) ∧
 (okSt w146 (((na u122).add 7).add 0) ∧
 (nw (w146.setCell (((na u122).add 7).add 0) (.int .i64 yx_149)) fun w150 =>
 optN p10 fun q151 =>
 ∃ ya_152 : Option Addr, ∃ yn_152 : Nat, ∃ yc_152 : Nat, w150.cell? (q151.add 1) = some (.slice ya_152 yn_152 yc_152) ∧
 (∃ yx_153 : Int, w150.cell? ((na u122).add 0) = some (.int .u8 yx_153) ∧
 (∃ yx_154 : Int, w150.cell? ((na u122).add 1) = some (.int .i64 yx_154) ∧
 (∃ yx_155 : Int, w150.cell? ((na u122).add 2) = some (.int .i64 yx_155) ∧
 (∃ yf_156 : Nat, w150.cell? ((na u122).add 3) = some (.float .f64 yf_156) ∧
 (∃ ya_157 : Option Addr, ∃ yn_157 : Nat, ∃ yc_157 : Nat, w150.cell? ((na u122).add 4) = some (.slice ya_157 yn_157 yc_157) ∧
 (∃ yx_158 : Int, w150.cell? ((na u122).add 5) = some (.int .u8 yx_158) ∧
 (∃ yx_159 : Int, w150.cell? ((na u122).add 6) = some (.int .i64 yx_159) ∧
 (∃ yx_160 : Int, w150.cell? ((na u122).add 7) = some (.int .i64 yx_160) ∧
 (nw (w150.alloc (.cells #[.int .u8 yx_153, .int .i64 yx_154, .int .i64 yx_155, .float .f64 yf_156, .slice ya_157 yn_157 yc_157, .int .u8 yx_158, .int .i64 yx_159, .int .i64 yx_160] 27)) fun w161 =>
 rawN Go.Proofs.Try.prog (Builtin.append_ #[31, 31] 31 #[.slice ya_152 yn_152 yc_152, .slice (some (na w150)) 1 1]) w161 fun yv162 u163 =>
 ∃ ya_164 : Option Addr, ∃ yn_164 : Nat, ∃ yc_164 : Nat, yv162 = .slice ya_164 yn_164 yc_164 ∧
 (optN p10 fun q165 =>
 okSt u163 ((q165.add 1).add 0) ∧
 (nw (u163.setCell ((q165.add 1).add 0) (.slice ya_164 yn_164 yc_164)) fun w166 =>
 nv (IntKind.i64.wrap (x45 + 1)) fun t167 =>
 b39 p1 p2 a7 n7 c7 p10 a43 n43 c43 x44 t167 w166))))))))))))))))))))
 (optN p10 fun q168 =>
 ∃ ya_169 : Option Addr, ∃ yn_169 : Nat, ∃ yc_169 : Nat, w141.cell? (q168.add 1) = some (.slice ya_169 yn_169 yc_169) ∧
 (∃ yx_170 : Int, w141.cell? ((na u122).add 0) = some (.int .u8 yx_170) ∧
 (∃ yx_171 : Int, w141.cell? ((na u122).add 1) = some (.int .i64 yx_171) ∧
 (∃ yx_172 : Int, w141.cell? ((na u122).add 2) = some (.int .i64 yx_172) ∧
 (∃ yf_173 : Nat, w141.cell? ((na u122).add 3) = some (.float .f64 yf_173) ∧
 (∃ ya_174 : Option Addr, ∃ yn_174 : Nat, ∃ yc_174 : Nat, w141.cell? ((na u122).add 4) = some (.slice ya_174 yn_174 yc_174) ∧
 (∃ yx_175 : Int, w141.cell? ((na u122).add 5) = some (.int .u8 yx_175) ∧
 (∃ yx_176 : Int, w141.cell? ((na u122).add 6) = some (.int .i64 yx_176) ∧
 (∃ yx_177 : Int, w141.cell? ((na u122).add 7) = some (.int .i64 yx_177) ∧
 (nw (w141.alloc (.cells #[.int .u8 yx_170, .int .i64 yx_171, .int .i64 yx_172, .float .f64 yf_173, .slice ya_174 yn_174 yc_174, .int .u8 yx_175, .int .i64 yx_176, .int .i64 yx_177] 27)) fun w178 =>
 rawN Go.Proofs.Try.prog (Builtin.append_ #[31, 31] 31 #[.slice ya_169 yn_169 yc_169, .slice (some (na w141)) 1 1]) w178 fun yv179 u180 =>
 ∃ ya_181 : Option Addr, ∃ yn_181 : Nat, ∃ yc_181 : Nat, yv179 = .slice ya_181 yn_181 yc_181 ∧
 (optN p10 fun q182 =>
 okSt u180 ((q182.add 1).add 0) ∧
 (nw (u180.setCell ((q182.add 1).add 0) (.slice ya_181 yn_181 yc_181)) fun w183 =>
 nv (IntKind.i64.wrap (x45 + 1)) fun t184 =>
 b39 p1 p2 a7 n7 c7 p10 a43 n43 c43 x44 t184 w183)))))))))))))))))))))))))))))))))))))
 (optN p10 fun q185 =>
 ∃ yx_186 : Int, w.cell? (q185.add 0) = some (.int .i64 yx_186) ∧
 (∃ ya_187 : Option Addr, ∃ yn_187 : Nat, ∃ yc_187 : Nat, w.cell? (q185.add 1) = some (.slice ya_187 yn_187 yc_187) ∧
 (optN p2 fun q188 =>
 okSt w (q188.add 0) ∧
 (nw (w.setCell (q188.add 0) (.int .i64 yx_186)) fun w189 =>
 okSt w189 (q188.add 1) ∧
 (nw (w189.setCell (q188.add 1) (.slice ya_187 yn_187 yc_187)) fun w190 =>
 optN p2 fun q191 =>
 ∃ yx_192 : Int, w190.cell? (q191.add 0) = some (.int .i64 yx_192) ∧
 (∃ ya_193 : Option Addr, ∃ yn_193 : Nat, ∃ yc_193 : Nat, w190.cell? (q191.add 1) = some (.slice ya_193 yn_193 yc_193) ∧
 (R (.tuple #[.agg #[.int .i64 yx_192, .slice ya_193 yn_193 yc_193], .int .i64 0]) w190)))))))
def thicketref07_Canon.q2 (R : Value → World → Prop) : Exit → Act → World → Prop := (fin Go.Proofs.Try.prog Go.Proofs.Try.f41 R)
def thicketref07_Canon.q4 (R : Value → World → Prop) : Exit → Act → World → Prop := (thicketref07_Canon.q2 R)
def thicketref07_Canon.q12 (R : Value → World → Prop) : Exit → Act → World → Prop := (thicketref07_Canon.q4 R)
def thicketref07_Canon.q14 (R : Value → World → Prop) : Exit → Act → World → Prop := (thicketref07_Canon.q12 R)
def thicketref07_Canon.q16 (R : Value → World → Prop) : Exit → Act → World → Prop := (thicketref07_Canon.q14 R)
def thicketref07_Canon.q17 (R : Value → World → Prop) : Exit → Act → World → Prop := Exit.then (startN none (codeN Go.Proofs.Try.prog (sub (codeOf Go.Proofs.Try.f41) [1, 1, 1, 1, 1, 1]) (nsub thicketref07_Canon.an [1, 1, 1, 1, 1, 1]) (thicketref07_Canon.q16 R))) (thicketref07_Canon.q16 R)
def thicketref07_Canon.q19 (R : Value → World → Prop) : Exit → Act → World → Prop := (thicketref07_Canon.q17 R)
def thicketref07_Canon.q20 (R : Value → World → Prop) : Exit → Act → World → Prop := Exit.inBlock 0 (thicketref07_Canon.q19 R)
def thicketref07_Canon.rl20 (R : Value → World → Prop) (k : Nat) (p1 : Option Addr) (p2 : Option Addr) (a6 : Option Addr) (n6 : Nat) (c6 : Nat) (a7 : Option Addr) (n7 : Nat) (c7 : Nat) (a28 : Option Addr) (n28 : Nat) (c28 : Nat) (x29 : Int) (x30 : Int) (w : World) : Prop := loopN [1, 2, 6, 7, 28, 29, 30] (codeN Go.Proofs.Try.prog (sub (codeOf Go.Proofs.Try.f41) [1, 1, 1, 1, 1, 0, 1, 0, 0]) (nsub thicketref07_Canon.an [1, 1, 1, 1, 1, 0, 1, 0, 0])) (thicketref07_Canon.q20 R) k ⟨#[undef, .pointer p1, .pointer p2, undef, undef, undef, .slice a6 n6 c6, .slice a7 n7 c7, undef, undef, undef, undef, undef, undef, undef, undef, undef, undef, undef, undef, undef, undef, undef, undef, undef, undef, undef, undef, .slice a28 n28 c28, .int .i64 x29, .int .i64 x30, undef, undef, undef, undef, undef, undef, undef, undef, undef, undef, undef, undef, undef, undef, undef, undef, undef, undef, undef, undef, undef, undef, undef, undef, undef, undef, undef, undef, undef, undef, undef, undef, undef, undef, undef, undef, undef, undef, undef, undef, undef, undef, undef, undef, undef, undef, undef, undef, undef, undef], []⟩ w
def thicketref07_Canon.re20 (R : Value → World → Prop) (p1 : Option Addr) (p2 : Option Addr) (a6 : Option Addr) (n6 : Nat) (c6 : Nat) (a7 : Option Addr) (n7 : Nat) (c7 : Nat) (a28 : Option Addr) (n28 : Nat) (c28 : Nat) (x29 : Int) (x30 : Int) (w : World) : Prop := ∃ k, thicketref07_Canon.rl20 R k p1 p2 a6 n6 c6 a7 n7 c7 a28 n28 c28 x29 x30 w
def thicketref07_Canon.q33 (R : Value → World → Prop) : Exit → Act → World → Prop := (thicketref07_Canon.q16 R)
def thicketref07_Canon.q35 (R : Value → World → Prop) : Exit → Act → World → Prop := (thicketref07_Canon.q33 R)
def thicketref07_Canon.q36 (R : Value → World → Prop) : Exit → Act → World → Prop := Exit.then (startN none (codeN Go.Proofs.Try.prog (sub (codeOf Go.Proofs.Try.f41) [1, 1, 1, 1, 1, 1, 1, 1]) (nsub thicketref07_Canon.an [1, 1, 1, 1, 1, 1, 1, 1]) (thicketref07_Canon.q35 R))) (thicketref07_Canon.q35 R)
def thicketref07_Canon.q38 (R : Value → World → Prop) : Exit → Act → World → Prop := (thicketref07_Canon.q36 R)
def thicketref07_Canon.q39 (R : Value → World → Prop) : Exit → Act → World → Prop := Exit.inBlock 2 (thicketref07_Canon.q38 R)
def thicketref07_Canon.rl39 (R : Value → World → Prop) (k : Nat) (p1 : Option Addr) (p2 : Option Addr) (a7 : Option Addr) (n7 : Nat) (c7 : Nat) (p10 : Option Addr) (a43 : Option Addr) (n43 : Nat) (c43 : Nat) (x44 : Int) (x45 : Int) (w : World) : Prop := loopN [1, 2, 7, 10, 43, 44, 45] (codeN Go.Proofs.Try.prog (sub (codeOf Go.Proofs.Try.f41) [1, 1, 1, 1, 1, 1, 1, 0, 1, 0, 0]) (nsub thicketref07_Canon.an [1, 1, 1, 1, 1, 1, 1, 0, 1, 0, 0])) (thicketref07_Canon.q39 R) k ⟨#[undef, .pointer p1, .pointer p2, undef, undef, undef, undef, .slice a7 n7 c7, undef, undef, .pointer p10, undef, undef, undef, undef, undef, undef, undef, undef, undef, undef, undef, undef, undef, undef, undef, undef, undef, undef, undef, undef, undef, undef, undef, undef, undef, undef, undef, undef, undef, undef, undef, undef, .slice a43 n43 c43, .int .i64 x44, .int .i64 x45, undef, undef, undef, undef, undef, undef, undef, undef, undef, undef, undef, undef, undef, undef, undef, undef, undef, undef, undef, undef, undef, undef, undef, undef, undef, undef, undef, undef, undef, undef, undef, undef, undef, undef, undef], []⟩ w
def thicketref07_Canon.re39 (R : Value → World → Prop) (p1 : Option Addr) (p2 : Option Addr) (a7 : Option Addr) (n7 : Nat) (c7 : Nat) (p10 : Option Addr) (a43 : Option Addr) (n43 : Nat) (c43 : Nat) (x44 : Int) (x45 : Int) (w : World) : Prop := ∃ k, thicketref07_Canon.rl39 R k p1 p2 a7 n7 c7 p10 a43 n43 c43 x44 x45 w
def thicketref07_Canon.l39 (R : Value → World → Prop) : Nat → (Option Addr) → (Option Addr) → (Option Addr) → Nat → Nat → (Option Addr) → (Option Addr) → Nat → Nat → Int → Int → World → Prop
  | 0, _, _, _, _, _, _, _, _, _, _, _, _ => False
  | k + 1, p1, p2, a7, n7, c7, p10, a43, n43, c43, x44, x45, w => thicketref07_Canon.g39 R (thicketref07_Canon.l39 R k) p1 p2 a7 n7 c7 p10 a43 n43 c43 x44 x45 w
def thicketref07_Canon.e39 (R : Value → World → Prop) (p1 : Option Addr) (p2 : Option Addr) (a7 : Option Addr) (n7 : Nat) (c7 : Nat) (p10 : Option Addr) (a43 : Option Addr) (n43 : Nat) (c43 : Nat) (x44 : Int) (x45 : Int) (w : World) : Prop := ∃ k, thicketref07_Canon.l39 R k p1 p2 a7 n7 c7 p10 a43 n43 c43 x44 x45 w
theorem thicketref07_Canon.s39 (R : Value → World → Prop) (k : Nat) (p1 : Option Addr) (p2 : Option Addr) (a7 : Option Addr) (n7 : Nat) (c7 : Nat) (p10 : Option Addr) (a43 : Option Addr) (n43 : Nat) (c43 : Nat) (x44 : Int) (x45 : Int) (w : World) : thicketref07_Canon.rl39 R (k + 1) p1 p2 a7 n7 c7 p10 a43 n43 c43 x44 x45 w = ∀ _ : Nat → Value, thicketref07_Canon.g39 R (thicketref07_Canon.rl39 R k) p1 p2 a7 n7 c7 p10 a43 n43 c43 x44 x45 w := by kernel_rfl
theorem thicketref07_Canon.lq39 (R : Value → World → Prop) : ∀ k, thicketref07_Canon.l39 R k = thicketref07_Canon.rl39 R k
  | 0 => by funext p1 p2 a7 n7 c7 p10 a43 n43 c43 x44 x45 w; first | rfl | kernel_rfl
  | k + 1 => by
    funext p1 p2 a7 n7 c7 p10 a43 n43 c43 x44 x45 w
    rw [thicketref07_Canon.s39, forall_const]
    unfold thicketref07_Canon.l39
    have ih := thicketref07_Canon.lq39 R k
    rw [ih]
    all_goals rfl
theorem thicketref07_Canon.eq39 (R : Value → World → Prop) : thicketref07_Canon.e39 R = thicketref07_Canon.re39 R := by
  funext p1 p2 a7 n7 c7 p10 a43 n43 c43 x44 x45 w
  unfold thicketref07_Canon.e39 thicketref07_Canon.re39
  simp only [thicketref07_Canon.lq39 R]
def thicketref07_Canon.l20 (R : Value → World → Prop) : Nat → (Option Addr) → (Option Addr) → (Option Addr) → Nat → Nat → (Option Addr) → Nat → Nat → (Option Addr) → Nat → Nat → Int → Int → World → Prop
  | 0, _, _, _, _, _, _, _, _, _, _, _, _, _, _ => False
  | k + 1, p1, p2, a6, n6, c6, a7, n7, c7, a28, n28, c28, x29, x30, w => thicketref07_Canon.g20 R (thicketref07_Canon.l20 R k) (thicketref07_Canon.e39 R) p1 p2 a6 n6 c6 a7 n7 c7 a28 n28 c28 x29 x30 w
def thicketref07_Canon.e20 (R : Value → World → Prop) (p1 : Option Addr) (p2 : Option Addr) (a6 : Option Addr) (n6 : Nat) (c6 : Nat) (a7 : Option Addr) (n7 : Nat) (c7 : Nat) (a28 : Option Addr) (n28 : Nat) (c28 : Nat) (x29 : Int) (x30 : Int) (w : World) : Prop := ∃ k, thicketref07_Canon.l20 R k p1 p2 a6 n6 c6 a7 n7 c7 a28 n28 c28 x29 x30 w
theorem thicketref07_Canon.s20 (R : Value → World → Prop) (k : Nat) (p1 : Option Addr) (p2 : Option Addr) (a6 : Option Addr) (n6 : Nat) (c6 : Nat) (a7 : Option Addr) (n7 : Nat) (c7 : Nat) (a28 : Option Addr) (n28 : Nat) (c28 : Nat) (x29 : Int) (x30 : Int) (w : World) : thicketref07_Canon.rl20 R (k + 1) p1 p2 a6 n6 c6 a7 n7 c7 a28 n28 c28 x29 x30 w = ∀ _ : Nat → Value, thicketref07_Canon.g20 R (thicketref07_Canon.rl20 R k) (thicketref07_Canon.re39 R) p1 p2 a6 n6 c6 a7 n7 c7 a28 n28 c28 x29 x30 w := by kernel_rfl
theorem thicketref07_Canon.lq20 (R : Value → World → Prop) : ∀ k, thicketref07_Canon.l20 R k = thicketref07_Canon.rl20 R k
  | 0 => by funext p1 p2 a6 n6 c6 a7 n7 c7 a28 n28 c28 x29 x30 w; first | rfl | kernel_rfl
  | k + 1 => by
    funext p1 p2 a6 n6 c6 a7 n7 c7 a28 n28 c28 x29 x30 w
    rw [thicketref07_Canon.s20, forall_const]
    unfold thicketref07_Canon.l20
    have ih := thicketref07_Canon.lq20 R k
    rw [thicketref07_Canon.eq39 R]
    rw [ih]
    all_goals rfl
theorem thicketref07_Canon.eq20 (R : Value → World → Prop) : thicketref07_Canon.e20 R = thicketref07_Canon.re20 R := by
  funext p1 p2 a6 n6 c6 a7 n7 c7 a28 n28 c28 x29 x30 w
  unfold thicketref07_Canon.e20 thicketref07_Canon.re20
  simp only [thicketref07_Canon.lq20 R]
def thicketref07_Canon (R : Value → World → Prop) (x0_0 : Int) (a0_1 : Option Addr) (n0_1 : Nat) (c0_1 : Nat) (w : World) : Prop := thicketref07_Canon.g0 R (thicketref07_Canon.e20 R) x0_0 a0_1 n0_1 c0_1 w
theorem thicketref07_Canon.root0 (R : Value → World → Prop) (x0_0 : Int) (a0_1 : Option Addr) (n0_1 : Nat) (c0_1 : Nat) (w : World) : fnN Go.Proofs.Try.prog Go.Proofs.Try.f41 thicketref07_Canon.an #[.agg #[.int .i64 x0_0, .slice a0_1 n0_1 c0_1]] w R = thicketref07_Canon.g0 R (thicketref07_Canon.re20 R) x0_0 a0_1 n0_1 c0_1 w := by kernel_rfl
theorem thicketref07_Canon.calls {R : Value → World → Prop} {x0_0 : Int} {a0_1 : Option Addr} {n0_1 : Nat} {c0_1 : Nat} {w : World} (h : thicketref07_Canon R x0_0 a0_1 n0_1 c0_1 w) : Go.E.CallsD Go.Proofs.Try.prog 41 #[.agg #[.int .i64 x0_0, .slice a0_1 n0_1 c0_1]] w R := by
  refine callsD_of (n := thicketref07_Canon.an) M_follows M_sizes Go.Proofs.Try.func41 (by rfl) ?_
  rw [thicketref07_Canon.root0]
  unfold thicketref07_Canon at h
  rw [thicketref07_Canon.eq20 R] at h
  exact h
-- thicket/thicketref07.Alike
def thicketref07_Alike.an : An := (.mk none .nil (.mk none .nil (.mk none (.mk none .nil (.mk none (.mk (some [3, 23, 24, 25]) .nil .nil) .nil)) .nil)))
def thicketref07_Alike.g0 (R : Value → World → Prop) (e14 : (Option Addr) → (Option Addr) → Nat → Nat → Int → Int → World → Prop) (x0_0 : Int) (a0_1 : Option Addr) (n0_1 : Nat) (c0_1 : Nat) (x1_0 : Int) (a1_1 : Option Addr) (n1_1 : Nat) (c1_1 : Nat) (w : World) : Prop :=
 nw (w.alloc (.cells #[.int .i64 x0_0, .slice a0_1 n0_1 c0_1] 33)) fun w75 =>
 nw (w75.alloc (.cells #[.int .i64 x1_0, .slice a1_1 n1_1 c1_1] 33)) fun w76 =>
 ∃ yx_77 : Int, w76.cell? ((na w).add 0) = some (.int .i64 yx_77) ∧
 (∃ yx_78 : Int, w76.cell? ((na w75).add 0) = some (.int .i64 yx_78) ∧
 (onBool (yx_77 != yx_78)
 (R (.bool false) w76)
 (∃ ya_79 : Option Addr, ∃ yn_79 : Nat, ∃ yc_79 : Nat, w76.cell? ((na w).add 1) = some (.slice ya_79 yn_79 yc_79) ∧
 (∃ ya_80 : Option Addr, ∃ yn_80 : Nat, ∃ yc_80 : Nat, w76.cell? ((na w75).add 1) = some (.slice ya_80 yn_80 yc_80) ∧
 (onBool ((yn_79 : Int) != (yn_80 : Int))
 (R (.bool false) w76)
 (∃ ya_81 : Option Addr, ∃ yn_81 : Nat, ∃ yc_81 : Nat, w76.cell? ((na w).add 1) = some (.slice ya_81 yn_81 yc_81) ∧
 (e14 (some (na w75)) ya_81 yn_81 yc_81 (yn_81 : Int) 0 w76)))))))
def thicketref07_Alike.g14 (R : Value → World → Prop) (b14 : (Option Addr) → (Option Addr) → Nat → Nat → Int → Int → World → Prop) (p3 : Option Addr) (a23 : Option Addr) (n23 : Nat) (c23 : Nat) (x24 : Int) (x25 : Int) (w : World) : Prop :=
 onBool (decide (x25 < x24))
 (optN a23 fun q82 =>
 chk ((0 : Int) ≤ x25 ∧ x25 < (n23 : Int))
 (∃ yx_83 : Int, w.cell? ((q82.add (x25.toNat * 8)).add 0) = some (.int .u8 yx_83) ∧
 (∃ yx_84 : Int, w.cell? ((q82.add (x25.toNat * 8)).add 1) = some (.int .i64 yx_84) ∧
 (∃ yx_85 : Int, w.cell? ((q82.add (x25.toNat * 8)).add 2) = some (.int .i64 yx_85) ∧
 (∃ yf_86 : Nat, w.cell? ((q82.add (x25.toNat * 8)).add 3) = some (.float .f64 yf_86) ∧
 (∃ ya_87 : Option Addr, ∃ yn_87 : Nat, ∃ yc_87 : Nat, w.cell? ((q82.add (x25.toNat * 8)).add 4) = some (.slice ya_87 yn_87 yc_87) ∧
 (∃ yx_88 : Int, w.cell? ((q82.add (x25.toNat * 8)).add 5) = some (.int .u8 yx_88) ∧
 (∃ yx_89 : Int, w.cell? ((q82.add (x25.toNat * 8)).add 6) = some (.int .i64 yx_89) ∧
 (∃ yx_90 : Int, w.cell? ((q82.add (x25.toNat * 8)).add 7) = some (.int .i64 yx_90) ∧
 (nw (w.alloc (.cells #[.int .u8 0, .int .i64 0, .int .i64 0, .float .f64 0, .slice none 0 0, .int .u8 0, .int .i64 0, .int .i64 0] 27)) fun w91 =>
 okSt w91 ((na w).add 0) ∧
 (nw (w91.setCell ((na w).add 0) (.int .u8 yx_83)) fun w92 =>
 okSt w92 ((na w).add 1) ∧
 (nw (w92.setCell ((na w).add 1) (.int .i64 yx_84)) fun w93 =>
 okSt w93 ((na w).add 2) ∧
 (nw (w93.setCell ((na w).add 2) (.int .i64 yx_85)) fun w94 =>
 okSt w94 ((na w).add 3) ∧
 (nw (w94.setCell ((na w).add 3) (.float .f64 yf_86)) fun w95 =>
 okSt w95 ((na w).add 4) ∧
 (nw (w95.setCell ((na w).add 4) (.slice ya_87 yn_87 yc_87)) fun w96 =>
 okSt w96 ((na w).add 5) ∧
 (nw (w96.setCell ((na w).add 5) (.int .u8 yx_88)) fun w97 =>
 okSt w97 ((na w).add 6) ∧
 (nw (w97.setCell ((na w).add 6) (.int .i64 yx_89)) fun w98 =>
 okSt w98 ((na w).add 7) ∧
 (nw (w98.setCell ((na w).add 7) (.int .i64 yx_90)) fun w99 =>
 optN p3 fun q100 =>
 ∃ ya_101 : Option Addr, ∃ yn_101 : Nat, ∃ yc_101 : Nat, w99.cell? (q100.add 1) = some (.slice ya_101 yn_101 yc_101) ∧
 (optN ya_101 fun q102 =>
 chk ((0 : Int) ≤ x25 ∧ x25 < (yn_101 : Int))
 (∃ yx_103 : Int, w99.cell? ((q102.add (x25.toNat * 8)).add 0) = some (.int .u8 yx_103) ∧
 (∃ yx_104 : Int, w99.cell? ((q102.add (x25.toNat * 8)).add 1) = some (.int .i64 yx_104) ∧
 (∃ yx_105 : Int, w99.cell? ((q102.add (x25.toNat * 8)).add 2) = some (.int .i64 yx_105) ∧
 (∃ yf_106 : Nat, w99.cell? ((q102.add (x25.toNat * 8)).add 3) = some (.float .f64 yf_106) ∧
 (∃ ya_107 : Option Addr, ∃ yn_107 : Nat, ∃ yc_107 : Nat, w99.cell? ((q102.add (x25.toNat * 8)).add 4) = some (.slice ya_107 yn_107 yc_107) ∧
 (∃ yx_108 : Int, w99.cell? ((q102.add (x25.toNat * 8)).add 5) = some (.int .u8 yx_108) ∧
 (∃ yx_109 : Int, w99.cell? ((q102.add (x25.toNat * 8)).add 6) = some (.int .i64 yx_109) ∧
 (∃ yx_110 : Int, w99.cell? ((q102.add (x25.toNat * 8)).add 7) = some (.int .i64 yx_110) ∧
 (nw (w99.alloc (.cells #[.int .u8 0, .int .i64 0, .int .i64 0, .float .f64 0, .slice none 0 0, .int .u8 0, .int .i64 0, .int .i64 0] 27)) fun w111 =>
 okSt w111 ((na w99).add 0) ∧
 (nw (w111.setCell ((na w99).add 0) (.int .u8 yx_103)) fun w112 =>
 okSt w112 ((na w99).add 1) ∧
 (nw (w112.setCell ((na w99).add 1) (.int .i64 yx_104)) fun w113 =>
 okSt w113 ((na w99).add 2) ∧
 (nw (w113.setCell ((na w99).add 2) (.int .i64 yx_105)) fun w114 =>
 okSt w114 ((na w99).add 3) ∧
 (nw (w114.setCell ((na w99).add 3) (.float .f64 yf_106)) fun w115 =>
 okSt w115 ((na w99).add 4) ∧
 (nw (w115.setCell ((na w99).add 4) (.slice ya_107 yn_107 yc_107)) fun w116 =>
 okSt w116 ((na w99).add 5) ∧
 (nw (w116.setCell ((na w99).add 5) (.int .u8 yx_108)) fun w117 =>
 okSt w117 ((na w99).add 6) ∧
 (nw (w117.setCell ((na w99).add 6) (.int .i64 yx_109)) fun w118 =>
 okSt w118 ((na w99).add 7) ∧
 (nw (w118.setCell ((na w99).add 7) (.int .i64 yx_110)) fun w119 =>
 ∃ yx_120 : Int, w119.cell? ((na w).add 0) = some (.int .u8 yx_120) ∧
 (∃ yx_121 : Int, w119.cell? ((na w99).add 0) = some (.int .u8 yx_121) ∧
 (onBool (yx_120 != yx_121)
 (∀ u122 : World, Below w119.heap.size w119 u122 →
 R (.bool false) u122)
 (∃ yx_123 : Int, w119.cell? ((na w).add 1) = some (.int .i64 yx_123) ∧
 (∃ yx_124 : Int, w119.cell? ((na w99).add 1) = some (.int .i64 yx_124) ∧
 (onBool (yx_123 != yx_124)
 (∀ u125 : World, Below w119.heap.size w119 u125 →
 R (.bool false) u125)
 (∃ yx_126 : Int, w119.cell? ((na w).add 2) = some (.int .i64 yx_126) ∧
 (∃ yx_127 : Int, w119.cell? ((na w99).add 2) = some (.int .i64 yx_127) ∧
 (onBool (yx_126 != yx_127)
 (∀ u128 : World, Below w119.heap.size w119 u128 →
 R (.bool false) u128)
 (∃ yf_129 : Nat, w119.cell? ((na w).add 3) = some (.float .f64 yf_129) ∧
 (∃ yx_130 : Int, RunV Go.Proofs.Try.prog (callFunc 63 #[.float .f64 yf_129]) w119 (.int .u64 yx_130) ∧
 (∃ yf_131 : Nat, w119.cell? ((na w99).add 3) = some (.float .f64 yf_131) ∧
 (∃ yx_132 : Int, RunV Go.Proofs.Try.prog (callFunc 63 #[.float .f64 yf_131]) w119 (.int .u64 yx_132) ∧
 (onBool (yx_130 != yx_132)
 (∀ u133 : World, Below w119.heap.size w119 u133 →
 R (.bool false) u133)
 (∃ ya_134 : Option Addr, ∃ yn_134 : Nat, ∃ yc_134 : Nat, w119.cell? ((na w).add 4) = some (.slice ya_134 yn_134 yc_134) ∧
 (∃ ya_135 : Option Addr, ∃ yn_135 : Nat, ∃ yc_135 : Nat, w119.cell? ((na w99).add 4) = some (.slice ya_135 yn_135 yc_135) ∧
 (∃ yb_136 : Bool, (∀ u137 : World, Below w119.heap.size w119 u137 → Go.E.CallsD Go.Proofs.Try.prog 19 #[.slice ya_134 yn_134 yc_134, .slice ya_135 yn_135 yc_135] u137 fun yv138 u139 => yv138 = .bool yb_136 ∧ Below w119.heap.size w119 u139) ∧
 (onBool (!yb_136)
 (∀ u140 : World, Below w119.heap.size w119 u140 →
 R (.bool false) u140)
 (∃ yx_141 : Int, w119.cell? ((na w).add 5) = some (.int .u8 yx_141) ∧
 (∃ yx_142 : Int, w119.cell? ((na w99).add 5) = some (.int .u8 yx_142) ∧
 (onBool (yx_141 != yx_142)
 (∀ u143 : World, Below w119.heap.size w119 u143 →
 R (.bool false) u143)
 (∃ yx_144 : Int, w119.cell? ((na w).add 6) = some (.int .i64 yx_144) ∧
 (∃ yx_145 : Int, w119.cell? ((na w99).add 6) = some (.int .i64 yx_145) ∧
 (onBool (yx_144 != yx_145)
 (∀ u146 : World, Below w119.heap.size w119 u146 →
 R (.bool false) u146)
 (∃ yx_147 : Int, w119.cell? ((na w).add 7) = some (.int .i64 yx_147) ∧
 (∃ yx_148 : Int, w119.cell? ((na w99).add 7) = some (.int .i64 yx_148) ∧
 (∀ u149 : World, Below w119.heap.size w119 u149 →
 onBool (yx_147 != yx_148)
 (R (.bool false) u149)
 (nv (IntKind.i64.wrap (x25 + 1)) fun t150 =>
 b14 p3 a23 n23 c23 x24 t150 u149)))))))))))))))))))))))))))))))))))))))))))))))))))))))))))))))
 (R (.bool true) w)
def thicketref07_Alike.q2 (R : Value → World → Prop) : Exit → Act → World → Prop := (fin Go.Proofs.Try.prog Go.Proofs.Try.f42 R)
def thicketref07_Alike.q10 (R : Value → World → Prop) : Exit → Act → World → Prop := (thicketref07_Alike.q2 R)
def thicketref07_Alike.q11 (R : Value → World → Prop) : Exit → Act → World → Prop := Exit.then (startN none (codeN Go.Proofs.Try.prog (sub (codeOf Go.Proofs.Try.f42) [1, 1, 1]) (nsub thicketref07_Alike.an [1, 1, 1]) (thicketref07_Alike.q10 R))) (thicketref07_Alike.q10 R)
def thicketref07_Alike.q13 (R : Value → World → Prop) : Exit → Act → World → Prop := (thicketref07_Alike.q11 R)
def thicketref07_Alike.q14 (R : Value → World → Prop) : Exit → Act → World → Prop := Exit.inBlock 0 (thicketref07_Alike.q13 R)
def thicketref07_Alike.rl14 (R : Value → World → Prop) (k : Nat) (p3 : Option Addr) (a23 : Option Addr) (n23 : Nat) (c23 : Nat) (x24 : Int) (x25 : Int) (w : World) : Prop := loopN [3, 23, 24, 25] (codeN Go.Proofs.Try.prog (sub (codeOf Go.Proofs.Try.f42) [1, 1, 0, 1, 0, 0]) (nsub thicketref07_Alike.an [1, 1, 0, 1, 0, 0])) (thicketref07_Alike.q14 R) k ⟨#[undef, undef, undef, .pointer p3, undef, undef, undef, undef, undef, undef, undef, undef, undef, undef, undef, undef, undef, undef, undef, undef, undef, undef, undef, .slice a23 n23 c23, .int .i64 x24, .int .i64 x25, undef, undef, undef, undef, undef, undef, undef, undef, undef, undef, undef, undef, undef, undef, undef, undef, undef, undef, undef, undef, undef, undef, undef, undef, undef, undef, undef, undef, undef, undef, undef, undef, undef, undef, undef, undef, undef, undef, undef, undef, undef, undef, undef, undef, undef, undef, undef, undef, undef, undef, undef, undef, undef, undef, undef, undef, undef, undef, undef, undef, undef, undef, undef, undef, undef, undef, undef], []⟩ w
def thicketref07_Alike.re14 (R : Value → World → Prop) (p3 : Option Addr) (a23 : Option Addr) (n23 : Nat) (c23 : Nat) (x24 : Int) (x25 : Int) (w : World) : Prop := ∃ k, thicketref07_Alike.rl14 R k p3 a23 n23 c23 x24 x25 w
def thicketref07_Alike.l14 (R : Value → World → Prop) : Nat → (Option Addr) → (Option Addr) → Nat → Nat → Int → Int → World → Prop
  | 0, _, _, _, _, _, _, _ => False
  | k + 1, p3, a23, n23, c23, x24, x25, w => thicketref07_Alike.g14 R (thicketref07_Alike.l14 R k) p3 a23 n23 c23 x24 x25 w
def thicketref07_Alike.e14 (R : Value → World → Prop) (p3 : Option Addr) (a23 : Option Addr) (n23 : Nat) (c23 : Nat) (x24 : Int) (x25 : Int) (w : World) : Prop := ∃ k, thicketref07_Alike.l14 R k p3 a23 n23 c23 x24 x25 w
theorem thicketref07_Alike.s14 (R : Value → World → Prop) (k : Nat) (p3 : Option Addr) (a23 : Option Addr) (n23 : Nat) (c23 : Nat) (x24 : Int) (x25 : Int) (w : World) : thicketref07_Alike.rl14 R (k + 1) p3 a23 n23 c23 x24 x25 w = ∀ _ : Nat → Value, thicketref07_Alike.g14 R (thicketref07_Alike.rl14 R k) p3 a23 n23 c23 x24 x25 w := by kernel_rfl
theorem thicketref07_Alike.lq14 (R : Value → World → Prop) : ∀ k, thicketref07_Alike.l14 R k = thicketref07_Alike.rl14 R k
  | 0 => by funext p3 a23 n23 c23 x24 x25 w; first | rfl | kernel_rfl
  | k + 1 => by
    funext p3 a23 n23 c23 x24 x25 w
    rw [thicketref07_Alike.s14, forall_const]
    unfold thicketref07_Alike.l14
    have ih := thicketref07_Alike.lq14 R k
    rw [ih]
    all_goals rfl
theorem thicketref07_Alike.eq14 (R : Value → World → Prop) : thicketref07_Alike.e14 R = thicketref07_Alike.re14 R := by
  funext p3 a23 n23 c23 x24 x25 w
  unfold thicketref07_Alike.e14 thicketref07_Alike.re14
  simp only [thicketref07_Alike.lq14 R]
def thicketref07_Alike (R : Value → World → Prop) (x0_0 : Int) (a0_1 : Option Addr) (n0_1 : Nat) (c0_1 : Nat) (x1_0 : Int) (a1_1 : Option Addr) (n1_1 : Nat) (c1_1 : Nat) (w : World) : Prop := thicketref07_Alike.g0 R (thicketref07_Alike.e14 R) x0_0 a0_1 n0_1 c0_1 x1_0 a1_1 n1_1 c1_1 w
theorem thicketref07_Alike.root0 (R : Value → World → Prop) (x0_0 : Int) (a0_1 : Option Addr) (n0_1 : Nat) (c0_1 : Nat) (x1_0 : Int) (a1_1 : Option Addr) (n1_1 : Nat) (c1_1 : Nat) (w : World) : fnN Go.Proofs.Try.prog Go.Proofs.Try.f42 thicketref07_Alike.an #[.agg #[.int .i64 x0_0, .slice a0_1 n0_1 c0_1], .agg #[.int .i64 x1_0, .slice a1_1 n1_1 c1_1]] w R = thicketref07_Alike.g0 R (thicketref07_Alike.re14 R) x0_0 a0_1 n0_1 c0_1 x1_0 a1_1 n1_1 c1_1 w := by kernel_rfl
theorem thicketref07_Alike.calls {R : Value → World → Prop} {x0_0 : Int} {a0_1 : Option Addr} {n0_1 : Nat} {c0_1 : Nat} {x1_0 : Int} {a1_1 : Option Addr} {n1_1 : Nat} {c1_1 : Nat} {w : World} (h : thicketref07_Alike R x0_0 a0_1 n0_1 c0_1 x1_0 a1_1 n1_1 c1_1 w) : Go.E.CallsD Go.Proofs.Try.prog 42 #[.agg #[.int .i64 x0_0, .slice a0_1 n0_1 c0_1], .agg #[.int .i64 x1_0, .slice a1_1 n1_1 c1_1]] w R := by
  refine callsD_of (n := thicketref07_Alike.an) M_follows M_sizes Go.Proofs.Try.func42 (by rfl) ?_
  rw [thicketref07_Alike.root0]
  unfold thicketref07_Alike at h
  rw [thicketref07_Alike.eq14 R] at h
  exact h
end Go.Mir
