/- Part of a proof of laws of the seat YtpllehijaidinaaDoor: functions' weakest preconditions, each checked by the kernel, contracts out of them, plain lemmas; no conditions. -/
import Derived.Test.YtpllehijaidinaaDoorKM0
set_option linter.unusedVariables false
set_option linter.unusedSimpArgs false
set_option linter.unusedVariables false
set_option maxRecDepth 100000
namespace Go.Mir
open Go Go.E Go.RowKit
-- thicket/thicketref13.Sets
def thicketref13_Sets.an : An := (.mk none .nil (.mk none .nil (.mk none (.mk none .nil (.mk none (.mk (some [0, 1, 12, 13]) .nil .nil) .nil)) .nil)))
def thicketref13_Sets.g0 (R : Value → World → Prop) (e14 : (Option Addr) → Nat → Nat → (Option Addr) → Nat → Nat → Int → Int → World → Prop) (a0 : Option Addr) (n0 : Nat) (c0 : Nat) (a1 : Option Addr) (n1 : Nat) (c1 : Nat) (w : World) : Prop :=
 onBool ((n0 : Int) != (n1 : Int))
 (R (.bool false) w)
 (e14 a0 n0 c0 a1 n1 c1 (n0 : Int) 0 w)
def thicketref13_Sets.g14 (R : Value → World → Prop) (b14 : (Option Addr) → Nat → Nat → (Option Addr) → Nat → Nat → Int → Int → World → Prop) (a0 : Option Addr) (n0 : Nat) (c0 : Nat) (a1 : Option Addr) (n1 : Nat) (c1 : Nat) (x12 : Int) (x13 : Int) (w : World) : Prop :=
 onBool (decide (x13 < x12))
 (optN a0 fun q9 =>
 chk ((0 : Int) ≤ x13 ∧ x13 < (n0 : Int))
 (∃ ya_10 : Option Addr, ∃ yn_10 : Nat, ∃ yc_10 : Nat, w.cell? (q9.add (x13.toNat * 1)) = some (.slice ya_10 yn_10 yc_10) ∧
 (optN a1 fun q11 =>
 chk ((0 : Int) ≤ x13 ∧ x13 < (n1 : Int))
 (∃ ya_12 : Option Addr, ∃ yn_12 : Nat, ∃ yc_12 : Nat, w.cell? (q11.add (x13.toNat * 1)) = some (.slice ya_12 yn_12 yc_12) ∧
 (Go.E.CallsD Go.Proofs.Tryd.prog 17 #[.slice ya_10 yn_10 yc_10, .slice ya_12 yn_12 yc_12] w fun yv13 u14 =>
 ∃ yb_15 : Bool, yv13 = .bool yb_15 ∧
 (onBool (!yb_15)
 (R (.bool false) u14)
 (nv (IntKind.i64.wrap (x13 + 1)) fun t16 =>
 b14 a0 n0 c0 a1 n1 c1 x12 t16 u14)))))))
 (R (.bool true) w)
def thicketref13_Sets.q2 (R : Value → World → Prop) : Exit → Act → World → Prop := (fin Go.Proofs.Tryd.prog Go.Proofs.Tryd.f26 R)
def thicketref13_Sets.q10 (R : Value → World → Prop) : Exit → Act → World → Prop := (thicketref13_Sets.q2 R)
def thicketref13_Sets.q11 (R : Value → World → Prop) : Exit → Act → World → Prop := Exit.then (startN none (codeN Go.Proofs.Tryd.prog (sub (codeOf Go.Proofs.Tryd.f26) [1, 1, 1]) (nsub thicketref13_Sets.an [1, 1, 1]) (thicketref13_Sets.q10 R))) (thicketref13_Sets.q10 R)
def thicketref13_Sets.q13 (R : Value → World → Prop) : Exit → Act → World → Prop := (thicketref13_Sets.q11 R)
def thicketref13_Sets.q14 (R : Value → World → Prop) : Exit → Act → World → Prop := Exit.inBlock 0 (thicketref13_Sets.q13 R)
def thicketref13_Sets.rl14 (R : Value → World → Prop) (k : Nat) (a0 : Option Addr) (n0 : Nat) (c0 : Nat) (a1 : Option Addr) (n1 : Nat) (c1 : Nat) (x12 : Int) (x13 : Int) (w : World) : Prop := loopN [0, 1, 12, 13] (codeN Go.Proofs.Tryd.prog (sub (codeOf Go.Proofs.Tryd.f26) [1, 1, 0, 1, 0, 0]) (nsub thicketref13_Sets.an [1, 1, 0, 1, 0, 0])) (thicketref13_Sets.q14 R) k ⟨#[.slice a0 n0 c0, .slice a1 n1 c1, undef, undef, undef, undef, undef, undef, undef, undef, undef, undef, .int .i64 x12, .int .i64 x13, undef, undef, undef, undef, undef, undef, undef, undef, undef, undef, undef, undef, undef], []⟩ w
def thicketref13_Sets.re14 (R : Value → World → Prop) (a0 : Option Addr) (n0 : Nat) (c0 : Nat) (a1 : Option Addr) (n1 : Nat) (c1 : Nat) (x12 : Int) (x13 : Int) (w : World) : Prop := ∃ k, thicketref13_Sets.rl14 R k a0 n0 c0 a1 n1 c1 x12 x13 w
def thicketref13_Sets.l14 (R : Value → World → Prop) : Nat → (Option Addr) → Nat → Nat → (Option Addr) → Nat → Nat → Int → Int → World → Prop
  | 0, _, _, _, _, _, _, _, _, _ => False
  | k + 1, a0, n0, c0, a1, n1, c1, x12, x13, w => thicketref13_Sets.g14 R (thicketref13_Sets.l14 R k) a0 n0 c0 a1 n1 c1 x12 x13 w
def thicketref13_Sets.e14 (R : Value → World → Prop) (a0 : Option Addr) (n0 : Nat) (c0 : Nat) (a1 : Option Addr) (n1 : Nat) (c1 : Nat) (x12 : Int) (x13 : Int) (w : World) : Prop := ∃ k, thicketref13_Sets.l14 R k a0 n0 c0 a1 n1 c1 x12 x13 w
theorem thicketref13_Sets.s14 (R : Value → World → Prop) (k : Nat) (a0 : Option Addr) (n0 : Nat) (c0 : Nat) (a1 : Option Addr) (n1 : Nat) (c1 : Nat) (x12 : Int) (x13 : Int) (w : World) : thicketref13_Sets.rl14 R (k + 1) a0 n0 c0 a1 n1 c1 x12 x13 w = ∀ _ : Nat → Value, thicketref13_Sets.g14 R (thicketref13_Sets.rl14 R k) a0 n0 c0 a1 n1 c1 x12 x13 w := by kernel_rfl
theorem thicketref13_Sets.lq14 (R : Value → World → Prop) : ∀ k, thicketref13_Sets.l14 R k = thicketref13_Sets.rl14 R k
  | 0 => by funext a0 n0 c0 a1 n1 c1 x12 x13 w; first | rfl | kernel_rfl
  | k + 1 => by
    funext a0 n0 c0 a1 n1 c1 x12 x13 w
    rw [thicketref13_Sets.s14, forall_const]
    unfold thicketref13_Sets.l14
    have ih := thicketref13_Sets.lq14 R k
    rw [ih]
    all_goals rfl
theorem thicketref13_Sets.eq14 (R : Value → World → Prop) : thicketref13_Sets.e14 R = thicketref13_Sets.re14 R := by
  funext a0 n0 c0 a1 n1 c1 x12 x13 w
  unfold thicketref13_Sets.e14 thicketref13_Sets.re14
  simp only [thicketref13_Sets.lq14 R]
def thicketref13_Sets (R : Value → World → Prop) (a0 : Option Addr) (n0 : Nat) (c0 : Nat) (a1 : Option Addr) (n1 : Nat) (c1 : Nat) (w : World) : Prop := thicketref13_Sets.g0 R (thicketref13_Sets.e14 R) a0 n0 c0 a1 n1 c1 w
theorem thicketref13_Sets.root0 (R : Value → World → Prop) (a0 : Option Addr) (n0 : Nat) (c0 : Nat) (a1 : Option Addr) (n1 : Nat) (c1 : Nat) (w : World) : fnN Go.Proofs.Tryd.prog Go.Proofs.Tryd.f26 thicketref13_Sets.an #[.slice a0 n0 c0, .slice a1 n1 c1] w R = thicketref13_Sets.g0 R (thicketref13_Sets.re14 R) a0 n0 c0 a1 n1 c1 w := by kernel_rfl
theorem thicketref13_Sets.calls {R : Value → World → Prop} {a0 : Option Addr} {n0 : Nat} {c0 : Nat} {a1 : Option Addr} {n1 : Nat} {c1 : Nat} {w : World} (h : thicketref13_Sets R a0 n0 c0 a1 n1 c1 w) : Go.E.CallsD Go.Proofs.Tryd.prog 26 #[.slice a0 n0 c0, .slice a1 n1 c1] w R := by
  refine callsD_of (n := thicketref13_Sets.an) M_follows M_sizes Go.Proofs.Tryd.func26 (by rfl) ?_
  rw [thicketref13_Sets.root0]
  unfold thicketref13_Sets at h
  rw [thicketref13_Sets.eq14 R] at h
  exact h
-- thicket/thicketref07.Alike
def thicketref07_Alike.an : An := (.mk none .nil (.mk none .nil (.mk none (.mk none .nil (.mk none (.mk (some [3, 23, 24, 25]) .nil .nil) .nil)) .nil)))
def thicketref07_Alike.g0 (R : Value → World → Prop) (e14 : (Option Addr) → (Option Addr) → Nat → Nat → Int → Int → World → Prop) (x0_0 : Int) (a0_1 : Option Addr) (n0_1 : Nat) (c0_1 : Nat) (x1_0 : Int) (a1_1 : Option Addr) (n1_1 : Nat) (c1_1 : Nat) (w : World) : Prop :=
 nw (w.alloc (.cells #[.int .i64 x0_0, .slice a0_1 n0_1 c0_1] 24)) fun w75 =>
 nw (w75.alloc (.cells #[.int .i64 x1_0, .slice a1_1 n1_1 c1_1] 24)) fun w76 =>
 ∃ yx_77 : Int, w76.cell? ((na w).add 0) = some (.int .i64 yx_77) ∧
 (∃ yx_78 : Int, w76.cell? ((na w75).add 0) = some (.int .i64 yx_78) ∧
 (onBool (yx_77 != yx_78)
 (R (.bool false) w76)
 (∃ ya_79 : Option Addr, ∃ yn_79 : Nat, ∃ yc_79 : Nat, w76.cell? ((na w).add 1) = some (.slice ya_79 yn_79 yc_79) ∧
 (∃ ya_80 : Option Addr, ∃ yn_80 : Nat, ∃ yc_80 : Nat, w76.cell? ((na w75).add 1) = some (.slice ya_80 yn_80 yc_80) ∧
 (onBool ((yn_79 : Int) != (yn_80 : Int))
 (R (.bool false) w76)
 (∃ ya_81 : Option Addr, ∃ yn_81 : Nat, ∃ yc_81 : Nat, w76.cell? ((na w).add 1) = some (.slice ya_81 yn_81 yc_81) ∧
 (e14 (some (na w75)) ya_81 yn_81 yc_81 (yn_81 : Int) 0 w76)))))))
def thicketref07_Alike.g14 (R : Value → World → Prop) (b14 : (Option Addr) → (Option Addr) → Nat → Nat → Int → Int → World → Prop) (p3 : Option Addr) (a23 : Option Addr) (n23 : Nat) (c23 : Nat) (x24 : Int) (x25 : Int) (w : World) : Prop :=
 onBool (decide (x25 < x24))
 (optN a23 fun q82 =>
 chk ((0 : Int) ≤ x25 ∧ x25 < (n23 : Int))
 (∃ yx_83 : Int, w.cell? ((q82.add (x25.toNat * 8)).add 0) = some (.int .u8 yx_83) ∧
 (∃ yx_84 : Int, w.cell? ((q82.add (x25.toNat * 8)).add 1) = some (.int .i64 yx_84) ∧
 (∃ yx_85 : Int, w.cell? ((q82.add (x25.toNat * 8)).add 2) = some (.int .i64 yx_85) ∧
 (∃ yf_86 : Nat, w.cell? ((q82.add (x25.toNat * 8)).add 3) = some (.float .f64 yf_86) ∧
 (∃ ya_87 : Option Addr, ∃ yn_87 : Nat, ∃ yc_87 : Nat, w.cell? ((q82.add (x25.toNat * 8)).add 4) = some (.slice ya_87 yn_87 yc_87) ∧
 (∃ yx_88 : Int, w.cell? ((q82.add (x25.toNat * 8)).add 5) = some (.int .u8 yx_88) ∧
 (∃ yx_89 : Int, w.cell? ((q82.add (x25.toNat * 8)).add 6) = some (.int .i64 yx_89) ∧
 (∃ yx_90 : Int, w.cell? ((q82.add (x25.toNat * 8)).add 7) = some (.int .i64 yx_90) ∧
 (nw (w.alloc (.cells #[.int .u8 0, .int .i64 0, .int .i64 0, .float .f64 0, .slice none 0 0, .int .u8 0, .int .i64 0, .int .i64 0] 49)) fun w91 =>
 okSt w91 ((na w).add 0) ∧
 (nw (w91.setCell ((na w).add 0) (.int .u8 yx_83)) fun w92 =>
 okSt w92 ((na w).add 1) ∧
 (nw (w92.setCell ((na w).add 1) (.int .i64 yx_84)) fun w93 =>
 okSt w93 ((na w).add 2) ∧
 (nw (w93.setCell ((na w).add 2) (.int .i64 yx_85)) fun w94 =>
 okSt w94 ((na w).add 3) ∧
 (nw (w94.setCell ((na w).add 3) (.float .f64 yf_86)) fun w95 =>
 okSt w95 ((na w).add 4) ∧
 (nw (w95.setCell ((na w).add 4) (.slice ya_87 yn_87 yc_87)) fun w96 =>
 okSt w96 ((na w).add 5) ∧
 (nw (w96.setCell ((na w).add 5) (.int .u8 yx_88)) fun w97 =>
 okSt w97 ((na w).add 6) ∧
 (nw (w97.setCell ((na w).add 6) (.int .i64 yx_89)) fun w98 =>
 okSt w98 ((na w).add 7) ∧
 (nw (w98.setCell ((na w).add 7) (.int .i64 yx_90)) fun w99 =>
 optN p3 fun q100 =>
 ∃ ya_101 : Option Addr, ∃ yn_101 : Nat, ∃ yc_101 : Nat, w99.cell? (q100.add 1) = some (.slice ya_101 yn_101 yc_101) ∧
 (optN ya_101 fun q102 =>
 chk ((0 : Int) ≤ x25 ∧ x25 < (yn_101 : Int))
 (∃ yx_103 : Int, w99.cell? ((q102.add (x25.toNat * 8)).add 0) = some (.int .u8 yx_103) ∧
 (∃ yx_104 : Int, w99.cell? ((q102.add (x25.toNat * 8)).add 1) = some (.int .i64 yx_104) ∧
 (∃ yx_105 : Int, w99.cell? ((q102.add (x25.toNat * 8)).add 2) = some (.int .i64 yx_105) ∧
 (∃ yf_106 : Nat, w99.cell? ((q102.add (x25.toNat * 8)).add 3) = some (.float .f64 yf_106) ∧
 (∃ ya_107 : Option Addr, ∃ yn_107 : Nat, ∃ yc_107 : Nat, w99.cell? ((q102.add (x25.toNat * 8)).add 4) = some (.slice ya_107 yn_107 yc_107) ∧
 (∃ yx_108 : Int, w99.cell? ((q102.add (x25.toNat * 8)).add 5) = some (.int .u8 yx_108) ∧
 (∃ yx_109 : Int, w99.cell? ((q102.add (x25.toNat * 8)).add 6) = some (.int .i64 yx_109) ∧
 (∃ yx_110 : Int, w99.cell? ((q102.add (x25.toNat * 8)).add 7) = some (.int .i64 yx_110) ∧
 (nw (w99.alloc (.cells #[.int .u8 0, .int .i64 0, .int .i64 0, .float .f64 0, .slice none 0 0, .int .u8 0, .int .i64 0, .int .i64 0] 49)) fun w111 =>
 okSt w111 ((na w99).add 0) ∧
 (nw (w111.setCell ((na w99).add 0) (.int .u8 yx_103)) fun w112 =>
 okSt w112 ((na w99).add 1) ∧
 (nw (w112.setCell ((na w99).add 1) (.int .i64 yx_104)) fun w113 =>
 okSt w113 ((na w99).add 2) ∧
 (nw (w113.setCell ((na w99).add 2) (.int .i64 yx_105)) fun w114 =>
 okSt w114 ((na w99).add 3) ∧
 (nw (w114.setCell ((na w99).add 3) (.float .f64 yf_106)) fun w115 =>
 okSt w115 ((na w99).add 4) ∧
 (nw (w115.setCell ((na w99).add 4) (.slice ya_107 yn_107 yc_107)) fun w116 =>
 okSt w116 ((na w99).add 5) ∧
 (nw (w116.setCell ((na w99).add 5) (.int .u8 yx_108)) fun w117 =>
 okSt w117 ((na w99).add 6) ∧
 (nw (w117.setCell ((na w99).add 6) (.int .i64 yx_109)) fun w118 =>
 okSt w118 ((na w99).add 7) ∧
 (nw (w118.setCell ((na w99).add 7) (.int .i64 yx_110)) fun w119 =>
 ∃ yx_120 : Int, w119.cell? ((na w).add 0) = some (.int .u8 yx_120) ∧
 (∃ yx_121 : Int, w119.cell? ((na w99).add 0) = some (.int .u8 yx_121) ∧
 (onBool (yx_120 != yx_121)
 (∀ u122 : World, Below w119.heap.size w119 u122 →
 R (.bool false) u122)
 (∃ yx_123 : Int, w119.cell? ((na w).add 1) = some (.int .i64 yx_123) ∧
 (∃ yx_124 : Int, w119.cell? ((na w99).add 1) = some (.int .i64 yx_124) ∧
 (onBool (yx_123 != yx_124)
 (∀ u125 : World, Below w119.heap.size w119 u125 →
 R (.bool false) u125)
 (∃ yx_126 : Int, w119.cell? ((na w).add 2) = some (.int .i64 yx_126) ∧
 (∃ yx_127 : Int, w119.cell? ((na w99).add 2) = some (.int .i64 yx_127) ∧
 (onBool (yx_126 != yx_127)
 (∀ u128 : World, Below w119.heap.size w119 u128 →
 R (.bool false) u128)
 (∃ yf_129 : Nat, w119.cell? ((na w).add 3) = some (.float .f64 yf_129) ∧
 (∃ yx_130 : Int, RunV Go.Proofs.Tryd.prog (callFunc 49 #[.float .f64 yf_129]) w119 (.int .u64 yx_130) ∧
 (∃ yf_131 : Nat, w119.cell? ((na w99).add 3) = some (.float .f64 yf_131) ∧
 (∃ yx_132 : Int, RunV Go.Proofs.Tryd.prog (callFunc 49 #[.float .f64 yf_131]) w119 (.int .u64 yx_132) ∧
 (onBool (yx_130 != yx_132)
 (∀ u133 : World, Below w119.heap.size w119 u133 →
 R (.bool false) u133)
 (∃ ya_134 : Option Addr, ∃ yn_134 : Nat, ∃ yc_134 : Nat, w119.cell? ((na w).add 4) = some (.slice ya_134 yn_134 yc_134) ∧
 (∃ ya_135 : Option Addr, ∃ yn_135 : Nat, ∃ yc_135 : Nat, w119.cell? ((na w99).add 4) = some (.slice ya_135 yn_135 yc_135) ∧
 (∃ yb_136 : Bool, (∀ u137 : World, Below w119.heap.size w119 u137 → Go.E.CallsD Go.Proofs.Tryd.prog 50 #[.slice ya_134 yn_134 yc_134, .slice ya_135 yn_135 yc_135] u137 fun yv138 u139 => yv138 = .bool yb_136 ∧ Below w119.heap.size w119 u139) ∧
 (onBool (!yb_136)
 (∀ u140 : World, Below w119.heap.size w119 u140 →
 R (.bool false) u140)
 (∃ yx_141 : Int, w119.cell? ((na w).add 5) = some (.int .u8 yx_141) ∧
 (∃ yx_142 : Int, w119.cell? ((na w99).add 5) = some (.int .u8 yx_142) ∧
 (onBool (yx_141 != yx_142)
 (∀ u143 : World, Below w119.heap.size w119 u143 →
 R (.bool false) u143)
 (∃ yx_144 : Int, w119.cell? ((na w).add 6) = some (.int .i64 yx_144) ∧
 (∃ yx_145 : Int, w119.cell? ((na w99).add 6) = some (.int .i64 yx_145) ∧
 (onBool (yx_144 != yx_145)
 (∀ u146 : World, Below w119.heap.size w119 u146 →
 R (.bool false) u146)
 (∃ yx_147 : Int, w119.cell? ((na w).add 7) = some (.int .i64 yx_147) ∧
 (∃ yx_148 : Int, w119.cell? ((na w99).add 7) = some (.int .i64 yx_148) ∧
 (∀ u149 : World, Below w119.heap.size w119 u149 →
 onBool (yx_147 != yx_148)
 (R (.bool false) u149)
 (nv (IntKind.i64.wrap (x25 + 1)) fun t150 =>
 b14 p3 a23 n23 c23 x24 t150 u149)))))))))))))))))))))))))))))))))))))))))))))))))))))))))))))))
 (R (.bool true) w)
def thicketref07_Alike.q2 (R : Value → World → Prop) : Exit → Act → World → Prop := (fin Go.Proofs.Tryd.prog Go.Proofs.Tryd.f27 R)
def thicketref07_Alike.q10 (R : Value → World → Prop) : Exit → Act → World → Prop := (thicketref07_Alike.q2 R)
def thicketref07_Alike.q11 (R : Value → World → Prop) : Exit → Act → World → Prop := Exit.then (startN none (codeN Go.Proofs.Tryd.prog (sub (codeOf Go.Proofs.Tryd.f27) [1, 1, 1]) (nsub thicketref07_Alike.an [1, 1, 1]) (thicketref07_Alike.q10 R))) (thicketref07_Alike.q10 R)
def thicketref07_Alike.q13 (R : Value → World → Prop) : Exit → Act → World → Prop := (thicketref07_Alike.q11 R)
def thicketref07_Alike.q14 (R : Value → World → Prop) : Exit → Act → World → Prop := Exit.inBlock 0 (thicketref07_Alike.q13 R)
def thicketref07_Alike.rl14 (R : Value → World → Prop) (k : Nat) (p3 : Option Addr) (a23 : Option Addr) (n23 : Nat) (c23 : Nat) (x24 : Int) (x25 : Int) (w : World) : Prop := loopN [3, 23, 24, 25] (codeN Go.Proofs.Tryd.prog (sub (codeOf Go.Proofs.Tryd.f27) [1, 1, 0, 1, 0, 0]) (nsub thicketref07_Alike.an [1, 1, 0, 1, 0, 0])) (thicketref07_Alike.q14 R) k ⟨#[undef, undef, undef, .pointer p3, undef, undef, undef, undef, undef, undef, undef, undef, undef, undef, undef, undef, undef, undef, undef, undef, undef, undef, undef, .slice a23 n23 c23, .int .i64 x24, .int .i64 x25, undef, undef, undef, undef, undef, undef, undef, undef, undef, undef, undef, undef, undef, undef, undef, undef, undef, undef, undef, undef, undef, undef, undef, undef, undef, undef, undef, undef, undef, undef, undef, undef, undef, undef, undef, undef, undef, undef, undef, undef, undef, undef, undef, undef, undef, undef, undef, undef, undef, undef, undef, undef, undef, undef, undef, undef, undef, undef, undef, undef, undef, undef, undef, undef, undef, undef, undef], []⟩ w
def thicketref07_Alike.re14 (R : Value → World → Prop) (p3 : Option Addr) (a23 : Option Addr) (n23 : Nat) (c23 : Nat) (x24 : Int) (x25 : Int) (w : World) : Prop := ∃ k, thicketref07_Alike.rl14 R k p3 a23 n23 c23 x24 x25 w
def thicketref07_Alike.l14 (R : Value → World → Prop) : Nat → (Option Addr) → (Option Addr) → Nat → Nat → Int → Int → World → Prop
  | 0, _, _, _, _, _, _, _ => False
  | k + 1, p3, a23, n23, c23, x24, x25, w => thicketref07_Alike.g14 R (thicketref07_Alike.l14 R k) p3 a23 n23 c23 x24 x25 w
def thicketref07_Alike.e14 (R : Value → World → Prop) (p3 : Option Addr) (a23 : Option Addr) (n23 : Nat) (c23 : Nat) (x24 : Int) (x25 : Int) (w : World) : Prop := ∃ k, thicketref07_Alike.l14 R k p3 a23 n23 c23 x24 x25 w
theorem thicketref07_Alike.s14 (R : Value → World → Prop) (k : Nat) (p3 : Option Addr) (a23 : Option Addr) (n23 : Nat) (c23 : Nat) (x24 : Int) (x25 : Int) (w : World) : thicketref07_Alike.rl14 R (k + 1) p3 a23 n23 c23 x24 x25 w = ∀ _ : Nat → Value, thicketref07_Alike.g14 R (thicketref07_Alike.rl14 R k) p3 a23 n23 c23 x24 x25 w := by kernel_rfl
theorem thicketref07_Alike.lq14 (R : Value → World → Prop) : ∀ k, thicketref07_Alike.l14 R k = thicketref07_Alike.rl14 R k
  | 0 => by funext p3 a23 n23 c23 x24 x25 w; first | rfl | kernel_rfl
  | k + 1 => by
    funext p3 a23 n23 c23 x24 x25 w
    rw [thicketref07_Alike.s14, forall_const]
    unfold thicketref07_Alike.l14
    have ih := thicketref07_Alike.lq14 R k
    rw [ih]
    all_goals rfl
theorem thicketref07_Alike.eq14 (R : Value → World → Prop) : thicketref07_Alike.e14 R = thicketref07_Alike.re14 R := by
  funext p3 a23 n23 c23 x24 x25 w
  unfold thicketref07_Alike.e14 thicketref07_Alike.re14
  simp only [thicketref07_Alike.lq14 R]
def thicketref07_Alike (R : Value → World → Prop) (x0_0 : Int) (a0_1 : Option Addr) (n0_1 : Nat) (c0_1 : Nat) (x1_0 : Int) (a1_1 : Option Addr) (n1_1 : Nat) (c1_1 : Nat) (w : World) : Prop := thicketref07_Alike.g0 R (thicketref07_Alike.e14 R) x0_0 a0_1 n0_1 c0_1 x1_0 a1_1 n1_1 c1_1 w
theorem thicketref07_Alike.root0 (R : Value → World → Prop) (x0_0 : Int) (a0_1 : Option Addr) (n0_1 : Nat) (c0_1 : Nat) (x1_0 : Int) (a1_1 : Option Addr) (n1_1 : Nat) (c1_1 : Nat) (w : World) : fnN Go.Proofs.Tryd.prog Go.Proofs.Tryd.f27 thicketref07_Alike.an #[.agg #[.int .i64 x0_0, .slice a0_1 n0_1 c0_1], .agg #[.int .i64 x1_0, .slice a1_1 n1_1 c1_1]] w R = thicketref07_Alike.g0 R (thicketref07_Alike.re14 R) x0_0 a0_1 n0_1 c0_1 x1_0 a1_1 n1_1 c1_1 w := by kernel_rfl
theorem thicketref07_Alike.calls {R : Value → World → Prop} {x0_0 : Int} {a0_1 : Option Addr} {n0_1 : Nat} {c0_1 : Nat} {x1_0 : Int} {a1_1 : Option Addr} {n1_1 : Nat} {c1_1 : Nat} {w : World} (h : thicketref07_Alike R x0_0 a0_1 n0_1 c0_1 x1_0 a1_1 n1_1 c1_1 w) : Go.E.CallsD Go.Proofs.Tryd.prog 27 #[.agg #[.int .i64 x0_0, .slice a0_1 n0_1 c0_1], .agg #[.int .i64 x1_0, .slice a1_1 n1_1 c1_1]] w R := by
  refine callsD_of (n := thicketref07_Alike.an) M_follows M_sizes Go.Proofs.Tryd.func27 (by rfl) ?_
  rw [thicketref07_Alike.root0]
  unfold thicketref07_Alike at h
  rw [thicketref07_Alike.eq14 R] at h
  exact h
-- thicket/trees.Leaf
def trees_Leaf.an : An := An.nil
def trees_Leaf.g0 (R : Value → World → Prop) (x0_0 : Int) (a0_1 : Option Addr) (n0_1 : Nat) (c0_1 : Nat) (a1 : Option Addr) (n1 : Nat) (c1 : Nat) (w : World) : Prop :=
 nw (w.alloc (.cells #[.int .i64 x0_0, .slice a0_1 n0_1 c0_1] 24)) fun w23 =>
 ∃ yx_24 : Int, w23.cell? ((na w).add 0) = some (.int .i64 yx_24) ∧
 (∃ ya_25 : Option Addr, ∃ yn_25 : Nat, ∃ yc_25 : Nat, w23.cell? ((na w).add 1) = some (.slice ya_25 yn_25 yc_25) ∧
 (Go.E.CallsD Go.Proofs.Tryd.prog 51 #[.agg #[.int .i64 yx_24, .slice ya_25 yn_25 yc_25], .slice a1 n1 c1] w23 fun yv26 u27 =>
 ∃ ya_28_0 : Option Addr, ∃ yn_28_0 : Nat, ∃ yc_28_0 : Nat, ∃ yx_28_1 : Int, yv26 = .tuple #[.slice ya_28_0 yn_28_0 yc_28_0, .int .i64 yx_28_1] ∧
 (onBool (yx_28_1 != 0)
 (R (.tuple #[.int .i64 0, .int .i64 0, .int .i64 yx_28_1]) u27)
 (∃ yx_29 : Int, u27.cell? ((na w).add 0) = some (.int .i64 yx_29) ∧
 (∃ ya_30 : Option Addr, ∃ yn_30 : Nat, ∃ yc_30 : Nat, u27.cell? ((na w).add 1) = some (.slice ya_30 yn_30 yc_30) ∧
 (Go.E.CallsD Go.Proofs.Tryd.prog 19 #[.agg #[.int .i64 yx_29, .slice ya_30 yn_30 yc_30]] u27 fun yv31 u32 =>
 ∃ ya_33_0 : Option Addr, ∃ yn_33_0 : Nat, ∃ yc_33_0 : Nat, ∃ yx_33_1 : Int, yv31 = .tuple #[.slice ya_33_0 yn_33_0 yc_33_0, .int .i64 yx_33_1] ∧
 (nv (IntKind.i64.wrap ((yn_28_0 : Int) - 1)) fun t34 =>
 optN ya_28_0 fun q35 =>
 chk ((0 : Int) ≤ t34 ∧ t34 < (yn_28_0 : Int))
 (∃ yx_36 : Int, u32.cell? (q35.add (t34.toNat * 1)) = some (.int .i64 yx_36) ∧
 (∃ yx_37 : Int, (∀ u38 : World, Below u32.heap.size u32 u38 → Go.E.CallsD Go.Proofs.Tryd.prog 52 #[.slice ya_33_0 yn_33_0 yc_33_0, .int .i64 yx_36] u38 fun yv39 u40 => yv39 = .int .i64 yx_37 ∧ Below u32.heap.size u32 u40) ∧
 (∃ ya_41 : Option Addr, ∃ yn_41 : Nat, ∃ yc_41 : Nat, u32.cell? ((na w).add 1) = some (.slice ya_41 yn_41 yc_41) ∧
 (optN ya_41 fun q42 =>
 chk ((0 : Int) ≤ yx_36 ∧ yx_36 < (yn_41 : Int))
 (∃ yx_43 : Int, u32.cell? ((q42.add (yx_36.toNat * 8)).add 1) = some (.int .i64 yx_43) ∧
 (∀ u44 : World, Below u32.heap.size u32 u44 →
 R (.tuple #[.int .i64 yx_37, .int .i64 yx_43, .int .i64 0]) u44)))))))))))))
def trees_Leaf (R : Value → World → Prop) (x0_0 : Int) (a0_1 : Option Addr) (n0_1 : Nat) (c0_1 : Nat) (a1 : Option Addr) (n1 : Nat) (c1 : Nat) (w : World) : Prop := trees_Leaf.g0 R x0_0 a0_1 n0_1 c0_1 a1 n1 c1 w
theorem trees_Leaf.root0 (R : Value → World → Prop) (x0_0 : Int) (a0_1 : Option Addr) (n0_1 : Nat) (c0_1 : Nat) (a1 : Option Addr) (n1 : Nat) (c1 : Nat) (w : World) : fnN Go.Proofs.Tryd.prog Go.Proofs.Tryd.f28 trees_Leaf.an #[.agg #[.int .i64 x0_0, .slice a0_1 n0_1 c0_1], .slice a1 n1 c1] w R = trees_Leaf.g0 R x0_0 a0_1 n0_1 c0_1 a1 n1 c1 w := by kernel_rfl
theorem trees_Leaf.calls {R : Value → World → Prop} {x0_0 : Int} {a0_1 : Option Addr} {n0_1 : Nat} {c0_1 : Nat} {a1 : Option Addr} {n1 : Nat} {c1 : Nat} {w : World} (h : trees_Leaf R x0_0 a0_1 n0_1 c0_1 a1 n1 c1 w) : Go.E.CallsD Go.Proofs.Tryd.prog 28 #[.agg #[.int .i64 x0_0, .slice a0_1 n0_1 c0_1], .slice a1 n1 c1] w R := by
  refine callsD_of (n := trees_Leaf.an) M_follows M_sizes Go.Proofs.Tryd.func28 (by rfl) ?_
  rw [trees_Leaf.root0]
  unfold trees_Leaf at h
  exact h
-- thicket/bits.Full
def bits_Full.an : An := An.nil
def bits_Full.g0 (R : Value → World → Prop) (x0 : Int) (w : World) : Prop :=
 Go.E.CallsD Go.Proofs.Tryd.prog 53 #[.int .i64 x0] w fun yv7 u8 =>
 ∃ ya_9_0 : Option Addr, ∃ yn_9_0 : Nat, ∃ yc_9_0 : Nat, ∃ yx_9_1 : Int, yv7 = .tuple #[.slice ya_9_0 yn_9_0 yc_9_0, .int .i64 yx_9_1] ∧
 (Go.E.CallsD Go.Proofs.Tryd.prog 54 #[.slice ya_9_0 yn_9_0 yc_9_0, .int .i64 0, .int .i64 x0] u8 fun yv10 u11 =>
 yv10 = .tuple #[] ∧
 (R (.tuple #[.slice ya_9_0 yn_9_0 yc_9_0, .int .i64 yx_9_1]) u11))
def bits_Full (R : Value → World → Prop) (x0 : Int) (w : World) : Prop := bits_Full.g0 R x0 w
theorem bits_Full.root0 (R : Value → World → Prop) (x0 : Int) (w : World) : fnN Go.Proofs.Tryd.prog Go.Proofs.Tryd.f29 bits_Full.an #[.int .i64 x0] w R = bits_Full.g0 R x0 w := by kernel_rfl
theorem bits_Full.calls {R : Value → World → Prop} {x0 : Int} {w : World} (h : bits_Full R x0 w) : Go.E.CallsD Go.Proofs.Tryd.prog 29 #[.int .i64 x0] w R := by
  refine callsD_of (n := bits_Full.an) M_follows M_sizes Go.Proofs.Tryd.func29 (by rfl) ?_
  rw [bits_Full.root0]
  unfold bits_Full at h
  exact h
-- thicket/bits.Mask
def bits_Mask.an : An := (.mk none .nil (.mk none .nil (.mk none .nil (.mk none .nil (.mk none .nil (.mk none .nil (.mk none (.mk none .nil (.mk none (.mk (some [8, 10, 40, 41]) .nil .nil) .nil)) .nil)))))))
def bits_Mask.g0 (R : Value → World → Prop) (e28 : (Option Addr) → Nat → Nat → (Option Addr) → Nat → Nat → Int → Int → World → Prop) (x0 : Int) (x1 : Int) (x2 : Int) (w : World) : Prop :=
 Go.E.CallsD Go.Proofs.Tryd.prog 29 #[.int .i64 x0] w fun yv12 u13 =>
 ∃ ya_14_0 : Option Addr, ∃ yn_14_0 : Nat, ∃ yc_14_0 : Nat, ∃ yx_14_1 : Int, yv12 = .tuple #[.slice ya_14_0 yn_14_0 yc_14_0, .int .i64 yx_14_1] ∧
 (onBool (yx_14_1 != 0)
 (R (.tuple #[.slice none 0 0, .int .i64 yx_14_1]) u13)
 (onBool (decide (x1 < 0))
 (R (.tuple #[.slice none 0 0, .int .i64 2]) u13)
 (onBool (decide (x1 > x2))
 (R (.tuple #[.slice none 0 0, .int .i64 2]) u13)
 (onBool (decide (x2 > x0))
 (R (.tuple #[.slice none 0 0, .int .i64 2]) u13)
 (chk ((0 : Int) ≤ (yn_14_0 : Int) ∧ (yn_14_0 : Int) ≤ (yn_14_0 : Int) ∧ ((8 : Nat) : Int) * (yn_14_0 : Int) ≤ 281474976710656 ∧ (yn_14_0 : Int) ≤ 9223372036854775807)
 (nw (u13.alloc (.cells (madeCells #[.int .u64 0] (((yn_14_0 : Int)).toNat * 1)) 58)) fun w15 =>
 Go.E.CallsD Go.Proofs.Tryd.prog 54 #[.slice (some (na u13)) (((yn_14_0 : Int)).toNat) (((yn_14_0 : Int)).toNat), .int .i64 x1, .int .i64 x2] w15 fun yv16 u17 =>
 yv16 = .tuple #[] ∧
 (e28 ya_14_0 yn_14_0 yc_14_0 (some (na u13)) (((yn_14_0 : Int)).toNat) (((yn_14_0 : Int)).toNat) (yn_14_0 : Int) 0 u17)))))))
def bits_Mask.g28 (R : Value → World → Prop) (b28 : (Option Addr) → Nat → Nat → (Option Addr) → Nat → Nat → Int → Int → World → Prop) (a8 : Option Addr) (n8 : Nat) (c8 : Nat) (a10 : Option Addr) (n10 : Nat) (c10 : Nat) (x40 : Int) (x41 : Int) (w : World) : Prop :=
 onBool (decide (x41 < x40))
 (optN a8 fun q19 =>
 chk ((0 : Int) ≤ x41 ∧ x41 < (n8 : Int))
 (∃ yx_20 : Int, w.cell? (q19.add (x41.toNat * 1)) = some (.int .u64 yx_20) ∧
 (optN a10 fun q21 =>
 chk ((0 : Int) ≤ x41 ∧ x41 < (n10 : Int))
 (∃ yx_22 : Int, w.cell? (q21.add (x41.toNat * 1)) = some (.int .u64 yx_22) ∧
 (nv (bitsI .andNot .u64 yx_20 yx_22) fun t23 =>
 optN a8 fun q24 =>
 chk ((0 : Int) ≤ x41 ∧ x41 < (n8 : Int))
 (okSt w ((q24.add (x41.toNat * 1)).add 0) ∧
 (nw (w.setCell ((q24.add (x41.toNat * 1)).add 0) (.int .u64 t23)) fun w25 =>
 nv (IntKind.i64.wrap (x41 + 1)) fun t26 =>
 b28 a8 n8 c8 a10 n10 c10 x40 t26 w25)))))))
 (R (.tuple #[.slice a8 n8 c8, .int .i64 0]) w)
def bits_Mask.q2 (R : Value → World → Prop) : Exit → Act → World → Prop := (fin Go.Proofs.Tryd.prog Go.Proofs.Tryd.f30 R)
def bits_Mask.q4 (R : Value → World → Prop) : Exit → Act → World → Prop := (bits_Mask.q2 R)
def bits_Mask.q12 (R : Value → World → Prop) : Exit → Act → World → Prop := (bits_Mask.q4 R)
def bits_Mask.q20 (R : Value → World → Prop) : Exit → Act → World → Prop := (bits_Mask.q12 R)
def bits_Mask.q22 (R : Value → World → Prop) : Exit → Act → World → Prop := (bits_Mask.q20 R)
def bits_Mask.q24 (R : Value → World → Prop) : Exit → Act → World → Prop := (bits_Mask.q22 R)
def bits_Mask.q25 (R : Value → World → Prop) : Exit → Act → World → Prop := Exit.then (startN none (codeN Go.Proofs.Tryd.prog (sub (codeOf Go.Proofs.Tryd.f30) [1, 1, 1, 1, 1, 1, 1]) (nsub bits_Mask.an [1, 1, 1, 1, 1, 1, 1]) (bits_Mask.q24 R))) (bits_Mask.q24 R)
def bits_Mask.q27 (R : Value → World → Prop) : Exit → Act → World → Prop := (bits_Mask.q25 R)
def bits_Mask.q28 (R : Value → World → Prop) : Exit → Act → World → Prop := Exit.inBlock 0 (bits_Mask.q27 R)
def bits_Mask.rl28 (R : Value → World → Prop) (k : Nat) (a8 : Option Addr) (n8 : Nat) (c8 : Nat) (a10 : Option Addr) (n10 : Nat) (c10 : Nat) (x40 : Int) (x41 : Int) (w : World) : Prop := loopN [8, 10, 40, 41] (codeN Go.Proofs.Tryd.prog (sub (codeOf Go.Proofs.Tryd.f30) [1, 1, 1, 1, 1, 1, 0, 1, 0, 0]) (nsub bits_Mask.an [1, 1, 1, 1, 1, 1, 0, 1, 0, 0])) (bits_Mask.q28 R) k ⟨#[undef, undef, undef, undef, undef, undef, undef, undef, .slice a8 n8 c8, undef, .slice a10 n10 c10, undef, undef, undef, undef, undef, undef, undef, undef, undef, undef, undef, undef, undef, undef, undef, undef, undef, undef, undef, undef, undef, undef, undef, undef, undef, undef, undef, undef, undef, .int .i64 x40, .int .i64 x41, undef, undef, undef, undef, undef, undef, undef, undef, undef, undef, undef, undef, undef, undef], []⟩ w
def bits_Mask.re28 (R : Value → World → Prop) (a8 : Option Addr) (n8 : Nat) (c8 : Nat) (a10 : Option Addr) (n10 : Nat) (c10 : Nat) (x40 : Int) (x41 : Int) (w : World) : Prop := ∃ k, bits_Mask.rl28 R k a8 n8 c8 a10 n10 c10 x40 x41 w
def bits_Mask.l28 (R : Value → World → Prop) : Nat → (Option Addr) → Nat → Nat → (Option Addr) → Nat → Nat → Int → Int → World → Prop
  | 0, _, _, _, _, _, _, _, _, _ => False
  | k + 1, a8, n8, c8, a10, n10, c10, x40, x41, w => bits_Mask.g28 R (bits_Mask.l28 R k) a8 n8 c8 a10 n10 c10 x40 x41 w
def bits_Mask.e28 (R : Value → World → Prop) (a8 : Option Addr) (n8 : Nat) (c8 : Nat) (a10 : Option Addr) (n10 : Nat) (c10 : Nat) (x40 : Int) (x41 : Int) (w : World) : Prop := ∃ k, bits_Mask.l28 R k a8 n8 c8 a10 n10 c10 x40 x41 w
theorem bits_Mask.s28 (R : Value → World → Prop) (k : Nat) (a8 : Option Addr) (n8 : Nat) (c8 : Nat) (a10 : Option Addr) (n10 : Nat) (c10 : Nat) (x40 : Int) (x41 : Int) (w : World) : bits_Mask.rl28 R (k + 1) a8 n8 c8 a10 n10 c10 x40 x41 w = ∀ _ : Nat → Value, bits_Mask.g28 R (bits_Mask.rl28 R k) a8 n8 c8 a10 n10 c10 x40 x41 w := by kernel_rfl
theorem bits_Mask.lq28 (R : Value → World → Prop) : ∀ k, bits_Mask.l28 R k = bits_Mask.rl28 R k
  | 0 => by funext a8 n8 c8 a10 n10 c10 x40 x41 w; first | rfl | kernel_rfl
  | k + 1 => by
    funext a8 n8 c8 a10 n10 c10 x40 x41 w
    rw [bits_Mask.s28, forall_const]
    unfold bits_Mask.l28
    have ih := bits_Mask.lq28 R k
    rw [ih]
    all_goals rfl
theorem bits_Mask.eq28 (R : Value → World → Prop) : bits_Mask.e28 R = bits_Mask.re28 R := by
  funext a8 n8 c8 a10 n10 c10 x40 x41 w
  unfold bits_Mask.e28 bits_Mask.re28
  simp only [bits_Mask.lq28 R]
def bits_Mask (R : Value → World → Prop) (x0 : Int) (x1 : Int) (x2 : Int) (w : World) : Prop := bits_Mask.g0 R (bits_Mask.e28 R) x0 x1 x2 w
theorem bits_Mask.root0 (R : Value → World → Prop) (x0 : Int) (x1 : Int) (x2 : Int) (w : World) : fnN Go.Proofs.Tryd.prog Go.Proofs.Tryd.f30 bits_Mask.an #[.int .i64 x0, .int .i64 x1, .int .i64 x2] w R = bits_Mask.g0 R (bits_Mask.re28 R) x0 x1 x2 w := by kernel_rfl
theorem bits_Mask.calls {R : Value → World → Prop} {x0 : Int} {x1 : Int} {x2 : Int} {w : World} (h : bits_Mask R x0 x1 x2 w) : Go.E.CallsD Go.Proofs.Tryd.prog 30 #[.int .i64 x0, .int .i64 x1, .int .i64 x2] w R := by
  refine callsD_of (n := bits_Mask.an) M_follows M_sizes Go.Proofs.Tryd.func30 (by rfl) ?_
  rw [bits_Mask.root0]
  unfold bits_Mask at h
  rw [bits_Mask.eq28 R] at h
  exact h
-- thicket/bits.Meet
def bits_Meet.an : An := (.mk none .nil (.mk none .nil (.mk none (.mk none .nil (.mk none (.mk (some [0, 1, 12, 13]) .nil .nil) .nil)) .nil)))
def bits_Meet.g0 (R : Value → World → Prop) (e14 : (Option Addr) → Nat → Nat → (Option Addr) → Nat → Nat → Int → Int → World → Prop) (a0 : Option Addr) (n0 : Nat) (c0 : Nat) (a1 : Option Addr) (n1 : Nat) (c1 : Nat) (w : World) : Prop :=
 onBool ((n0 : Int) != (n1 : Int))
 (R (.int .i64 6) w)
 (e14 a0 n0 c0 a1 n1 c1 (n0 : Int) 0 w)
def bits_Meet.g14 (R : Value → World → Prop) (b14 : (Option Addr) → Nat → Nat → (Option Addr) → Nat → Nat → Int → Int → World → Prop) (a0 : Option Addr) (n0 : Nat) (c0 : Nat) (a1 : Option Addr) (n1 : Nat) (c1 : Nat) (x12 : Int) (x13 : Int) (w : World) : Prop :=
 onBool (decide (x13 < x12))
 (optN a0 fun q9 =>
 chk ((0 : Int) ≤ x13 ∧ x13 < (n0 : Int))
 (∃ yx_10 : Int, w.cell? (q9.add (x13.toNat * 1)) = some (.int .u64 yx_10) ∧
 (optN a1 fun q11 =>
 chk ((0 : Int) ≤ x13 ∧ x13 < (n1 : Int))
 (∃ yx_12 : Int, w.cell? (q11.add (x13.toNat * 1)) = some (.int .u64 yx_12) ∧
 (nv (bitsI .and .u64 yx_10 yx_12) fun t13 =>
 optN a0 fun q14 =>
 chk ((0 : Int) ≤ x13 ∧ x13 < (n0 : Int))
 (okSt w ((q14.add (x13.toNat * 1)).add 0) ∧
 (nw (w.setCell ((q14.add (x13.toNat * 1)).add 0) (.int .u64 t13)) fun w15 =>
 nv (IntKind.i64.wrap (x13 + 1)) fun t16 =>
 b14 a0 n0 c0 a1 n1 c1 x12 t16 w15)))))))
 (R (.int .i64 0) w)
def bits_Meet.q2 (R : Value → World → Prop) : Exit → Act → World → Prop := (fin Go.Proofs.Tryd.prog Go.Proofs.Tryd.f31 R)
def bits_Meet.q10 (R : Value → World → Prop) : Exit → Act → World → Prop := (bits_Meet.q2 R)
def bits_Meet.q11 (R : Value → World → Prop) : Exit → Act → World → Prop := Exit.then (startN none (codeN Go.Proofs.Tryd.prog (sub (codeOf Go.Proofs.Tryd.f31) [1, 1, 1]) (nsub bits_Meet.an [1, 1, 1]) (bits_Meet.q10 R))) (bits_Meet.q10 R)
def bits_Meet.q13 (R : Value → World → Prop) : Exit → Act → World → Prop := (bits_Meet.q11 R)
def bits_Meet.q14 (R : Value → World → Prop) : Exit → Act → World → Prop := Exit.inBlock 0 (bits_Meet.q13 R)
def bits_Meet.rl14 (R : Value → World → Prop) (k : Nat) (a0 : Option Addr) (n0 : Nat) (c0 : Nat) (a1 : Option Addr) (n1 : Nat) (c1 : Nat) (x12 : Int) (x13 : Int) (w : World) : Prop := loopN [0, 1, 12, 13] (codeN Go.Proofs.Tryd.prog (sub (codeOf Go.Proofs.Tryd.f31) [1, 1, 0, 1, 0, 0]) (nsub bits_Meet.an [1, 1, 0, 1, 0, 0])) (bits_Meet.q14 R) k ⟨#[.slice a0 n0 c0, .slice a1 n1 c1, undef, undef, undef, undef, undef, undef, undef, undef, undef, undef, .int .i64 x12, .int .i64 x13, undef, undef, undef, undef, undef, undef, undef, undef, undef, undef, undef, undef, undef], []⟩ w
def bits_Meet.re14 (R : Value → World → Prop) (a0 : Option Addr) (n0 : Nat) (c0 : Nat) (a1 : Option Addr) (n1 : Nat) (c1 : Nat) (x12 : Int) (x13 : Int) (w : World) : Prop := ∃ k, bits_Meet.rl14 R k a0 n0 c0 a1 n1 c1 x12 x13 w
def bits_Meet.l14 (R : Value → World → Prop) : Nat → (Option Addr) → Nat → Nat → (Option Addr) → Nat → Nat → Int → Int → World → Prop
  | 0, _, _, _, _, _, _, _, _, _ => False
  | k + 1, a0, n0, c0, a1, n1, c1, x12, x13, w => bits_Meet.g14 R (bits_Meet.l14 R k) a0 n0 c0 a1 n1 c1 x12 x13 w
def bits_Meet.e14 (R : Value → World → Prop) (a0 : Option Addr) (n0 : Nat) (c0 : Nat) (a1 : Option Addr) (n1 : Nat) (c1 : Nat) (x12 : Int) (x13 : Int) (w : World) : Prop := ∃ k, bits_Meet.l14 R k a0 n0 c0 a1 n1 c1 x12 x13 w
theorem bits_Meet.s14 (R : Value → World → Prop) (k : Nat) (a0 : Option Addr) (n0 : Nat) (c0 : Nat) (a1 : Option Addr) (n1 : Nat) (c1 : Nat) (x12 : Int) (x13 : Int) (w : World) : bits_Meet.rl14 R (k + 1) a0 n0 c0 a1 n1 c1 x12 x13 w = ∀ _ : Nat → Value, bits_Meet.g14 R (bits_Meet.rl14 R k) a0 n0 c0 a1 n1 c1 x12 x13 w := by kernel_rfl
theorem bits_Meet.lq14 (R : Value → World → Prop) : ∀ k, bits_Meet.l14 R k = bits_Meet.rl14 R k
  | 0 => by funext a0 n0 c0 a1 n1 c1 x12 x13 w; first | rfl | kernel_rfl
  | k + 1 => by
    funext a0 n0 c0 a1 n1 c1 x12 x13 w
    rw [bits_Meet.s14, forall_const]
    unfold bits_Meet.l14
    have ih := bits_Meet.lq14 R k
    rw [ih]
    all_goals rfl
theorem bits_Meet.eq14 (R : Value → World → Prop) : bits_Meet.e14 R = bits_Meet.re14 R := by
  funext a0 n0 c0 a1 n1 c1 x12 x13 w
  unfold bits_Meet.e14 bits_Meet.re14
  simp only [bits_Meet.lq14 R]
def bits_Meet (R : Value → World → Prop) (a0 : Option Addr) (n0 : Nat) (c0 : Nat) (a1 : Option Addr) (n1 : Nat) (c1 : Nat) (w : World) : Prop := bits_Meet.g0 R (bits_Meet.e14 R) a0 n0 c0 a1 n1 c1 w
theorem bits_Meet.root0 (R : Value → World → Prop) (a0 : Option Addr) (n0 : Nat) (c0 : Nat) (a1 : Option Addr) (n1 : Nat) (c1 : Nat) (w : World) : fnN Go.Proofs.Tryd.prog Go.Proofs.Tryd.f31 bits_Meet.an #[.slice a0 n0 c0, .slice a1 n1 c1] w R = bits_Meet.g0 R (bits_Meet.re14 R) a0 n0 c0 a1 n1 c1 w := by kernel_rfl
theorem bits_Meet.calls {R : Value → World → Prop} {a0 : Option Addr} {n0 : Nat} {c0 : Nat} {a1 : Option Addr} {n1 : Nat} {c1 : Nat} {w : World} (h : bits_Meet R a0 n0 c0 a1 n1 c1 w) : Go.E.CallsD Go.Proofs.Tryd.prog 31 #[.slice a0 n0 c0, .slice a1 n1 c1] w R := by
  refine callsD_of (n := bits_Meet.an) M_follows M_sizes Go.Proofs.Tryd.func31 (by rfl) ?_
  rw [bits_Meet.root0]
  unfold bits_Meet at h
  rw [bits_Meet.eq14 R] at h
  exact h
-- thicket/bits.Has
def bits_Has.an : An := An.nil
def bits_Has.g0 (R : Value → World → Prop) (a0 : Option Addr) (n0 : Nat) (c0 : Nat) (x1 : Int) (w : World) : Prop :=
 Go.E.CallsD Go.Proofs.Tryd.prog 55 #[.slice a0 n0 c0, .int .i64 x1] w fun yv10 u11 =>
 ∃ yb_12 : Bool, yv10 = .bool yb_12 ∧
 (onBool yb_12
 (nv (IntKind.i64.wrap (Int.tdiv x1 64)) fun t13 =>
 optN a0 fun q14 =>
 chk ((0 : Int) ≤ t13 ∧ t13 < (n0 : Int))
 (∃ yx_15 : Int, u11.cell? (q14.add (t13.toNat * 1)) = some (.int .u64 yx_15) ∧
 (nv (Int.tmod x1 64) fun t16 =>
 nchk (t16 < 0)
 (nv (Int.fdiv yx_15 (2 ^ (min t16.toNat 64))) fun t17 =>
 nv (bitsI .and .u64 t17 1) fun t18 =>
 R (.bool (t18 == 1)) u11))))
 (R (.bool false) u11))
def bits_Has (R : Value → World → Prop) (a0 : Option Addr) (n0 : Nat) (c0 : Nat) (x1 : Int) (w : World) : Prop := bits_Has.g0 R a0 n0 c0 x1 w
theorem bits_Has.root0 (R : Value → World → Prop) (a0 : Option Addr) (n0 : Nat) (c0 : Nat) (x1 : Int) (w : World) : fnN Go.Proofs.Tryd.prog Go.Proofs.Tryd.f32 bits_Has.an #[.slice a0 n0 c0, .int .i64 x1] w R = bits_Has.g0 R a0 n0 c0 x1 w := by kernel_rfl
theorem bits_Has.calls {R : Value → World → Prop} {a0 : Option Addr} {n0 : Nat} {c0 : Nat} {x1 : Int} {w : World} (h : bits_Has R a0 n0 c0 x1 w) : Go.E.CallsD Go.Proofs.Tryd.prog 32 #[.slice a0 n0 c0, .int .i64 x1] w R := by
  refine callsD_of (n := bits_Has.an) M_follows M_sizes Go.Proofs.Tryd.func32 (by rfl) ?_
  rw [bits_Has.root0]
  unfold bits_Has at h
  exact h
-- thicket/bits.Rank
def bits_Rank.an : An := An.nil
def bits_Rank.g0 (R : Value → World → Prop) (a0 : Option Addr) (n0 : Nat) (c0 : Nat) (x1 : Int) (w : World) : Prop :=
 onBool (decide (x1 < 0))
 (R (.int .i64 0) w)
 (nv (IntKind.i64.wrap (Int.tdiv x1 64)) fun t23 =>
 onBool (decide (t23 ≥ (n0 : Int)))
 (Go.E.CallsD Go.Proofs.Tryd.prog 56 #[.slice a0 n0 c0] w fun yv24 u25 =>
 ∃ yx_26 : Int, yv24 = .int .i64 yx_26 ∧
 (R (.int .i64 yx_26) u25))
 (nv (IntKind.i64.wrap (Int.tdiv x1 64)) fun t27 =>
 chk ((0 : Int) ≤ t27 ∧ t27 ≤ (c0 : Int))
 (∃ yx_28 : Int, (∀ u29 : World, Below w.heap.size w u29 → Go.E.CallsD Go.Proofs.Tryd.prog 56 #[.slice (slA a0 c0 0 1) t27.toNat c0] u29 fun yv30 u31 => yv30 = .int .i64 yx_28 ∧ Below w.heap.size w u31) ∧
 (nv (IntKind.i64.wrap (Int.tdiv x1 64)) fun t32 =>
 optN a0 fun q33 =>
 chk ((0 : Int) ≤ t32 ∧ t32 < (n0 : Int))
 (∃ yx_34 : Int, w.cell? (q33.add (t32.toNat * 1)) = some (.int .u64 yx_34) ∧
 (nv (Int.tmod x1 64) fun t35 =>
 nchk (t35 < 0)
 (nv (IntKind.u64.wrap (1 * 2 ^ (min t35.toNat 64))) fun t36 =>
 nv (IntKind.u64.wrap (t36 - 1)) fun t37 =>
 nv (bitsI .and .u64 yx_34 t37) fun t38 =>
 ∃ yx_39 : Int, (∀ u40 : World, Below w.heap.size w u40 → Go.E.CallsD Go.Proofs.Tryd.prog 57 #[.int .u64 t38] u40 fun yv41 u42 => yv41 = .int .i64 yx_39 ∧ Below w.heap.size w u42) ∧
 (nv (IntKind.i64.wrap (yx_28 + yx_39)) fun t43 =>
 ∀ u44 : World, Below w.heap.size w u44 →
 R (.int .i64 t43) u44))))))))
def bits_Rank (R : Value → World → Prop) (a0 : Option Addr) (n0 : Nat) (c0 : Nat) (x1 : Int) (w : World) : Prop := bits_Rank.g0 R a0 n0 c0 x1 w
theorem bits_Rank.root0 (R : Value → World → Prop) (a0 : Option Addr) (n0 : Nat) (c0 : Nat) (x1 : Int) (w : World) : fnN Go.Proofs.Tryd.prog Go.Proofs.Tryd.f33 bits_Rank.an #[.slice a0 n0 c0, .int .i64 x1] w R = bits_Rank.g0 R a0 n0 c0 x1 w := by kernel_rfl
theorem bits_Rank.calls {R : Value → World → Prop} {a0 : Option Addr} {n0 : Nat} {c0 : Nat} {x1 : Int} {w : World} (h : bits_Rank R a0 n0 c0 x1 w) : Go.E.CallsD Go.Proofs.Tryd.prog 33 #[.slice a0 n0 c0, .int .i64 x1] w R := by
  refine callsD_of (n := bits_Rank.an) M_follows M_sizes Go.Proofs.Tryd.func33 (by rfl) ?_
  rw [bits_Rank.root0]
  unfold bits_Rank at h
  exact h
end Go.Mir
