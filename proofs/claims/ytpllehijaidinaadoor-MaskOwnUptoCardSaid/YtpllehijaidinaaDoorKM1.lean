/- Part of a proof of laws of the seat YtpllehijaidinaaDoor: functions' weakest preconditions, each checked by the kernel, contracts out of them, plain lemmas; no conditions. -/
import Derived.Test.YtpllehijaidinaaDoorKM0
set_option linter.unusedVariables false
set_option linter.unusedSimpArgs false
set_option linter.unusedVariables false
set_option maxRecDepth 100000
namespace Go.Mir
open Go Go.E Go.RowKit
-- thicket/masks.False
def masks_False.an : An := (.mk none .nil (.mk none .nil (.mk none .nil (.mk none (.mk none .nil (.mk none (.mk (some [1, 2, 6, 22, 23, 24]) .nil .nil) .nil)) (.mk none .nil (.mk none (.mk none .nil (.mk none (.mk (some [1, 2, 10, 39, 40, 41]) .nil .nil) .nil)) .nil))))))
def masks_False.g0 (R : Value → World → Prop) (e16 : (Option Addr) → Nat → Nat → (Option Addr) → (Option Addr) → Nat → Nat → (Option Addr) → Nat → Nat → Int → Int → World → Prop) (x0_0 : Int) (a0_1 : Option Addr) (n0_1 : Nat) (c0_1 : Nat) (a1 : Option Addr) (n1 : Nat) (c1 : Nat) (w : World) : Prop :=
 nw (w.alloc (.cells #[.int .i64 x0_0, .slice a0_1 n0_1 c0_1] 24)) fun w72 =>
 ∃ yx_73 : Int, w72.cell? ((na w).add 0) = some (.int .i64 yx_73) ∧
 (∃ ya_74 : Option Addr, ∃ yn_74 : Nat, ∃ yc_74 : Nat, w72.cell? ((na w).add 1) = some (.slice ya_74 yn_74 yc_74) ∧
 (Go.E.CallsD Go.Proofs.Tryd.prog 18 #[.agg #[.int .i64 yx_73, .slice ya_74 yn_74 yc_74]] w72 fun yv75 u76 =>
 ∃ ya_77_0 : Option Addr, ∃ yn_77_0 : Nat, ∃ yc_77_0 : Nat, ∃ yx_77_1 : Int, yv75 = .tuple #[.slice ya_77_0 yn_77_0 yc_77_0, .int .i64 yx_77_1] ∧
 (onBool (yx_77_1 != 0)
 (R (.tuple #[.slice none 0 0, .int .i64 yx_77_1]) u76)
 (e16 a1 n1 c1 (some (na w)) ya_77_0 yn_77_0 yc_77_0 ya_77_0 yn_77_0 yc_77_0 (yn_77_0 : Int) 0 u76))))
def masks_False.g16 (R : Value → World → Prop) (b16 : (Option Addr) → Nat → Nat → (Option Addr) → (Option Addr) → Nat → Nat → (Option Addr) → Nat → Nat → Int → Int → World → Prop) (e41 : (Option Addr) → Nat → Nat → (Option Addr) → (Option Addr) → Nat → Nat → (Option Addr) → Nat → Nat → Int → Int → World → Prop) (a1 : Option Addr) (n1 : Nat) (c1 : Nat) (p2 : Option Addr) (a6 : Option Addr) (n6 : Nat) (c6 : Nat) (a22 : Option Addr) (n22 : Nat) (c22 : Nat) (x23 : Int) (x24 : Int) (w : World) : Prop :=
 onBool (decide (x24 < x23))
 (optN a22 fun q78 =>
 chk ((0 : Int) ≤ x24 ∧ x24 < (n22 : Int))
 (∃ yx_79 : Int, w.cell? ((q78.add (x24.toNat * 3)).add 0) = some (.int .i64 yx_79) ∧
 (∃ yx_80 : Int, w.cell? ((q78.add (x24.toNat * 3)).add 1) = some (.int .i64 yx_80) ∧
 (∃ yx_81 : Int, w.cell? ((q78.add (x24.toNat * 3)).add 2) = some (.int .i64 yx_81) ∧
 (nw (w.alloc (.cells #[.int .i64 0, .int .i64 0, .int .i64 0] 44)) fun w82 =>
 okSt w82 ((na w).add 0) ∧
 (nw (w82.setCell ((na w).add 0) (.int .i64 yx_79)) fun w83 =>
 okSt w83 ((na w).add 1) ∧
 (nw (w83.setCell ((na w).add 1) (.int .i64 yx_80)) fun w84 =>
 okSt w84 ((na w).add 2) ∧
 (nw (w84.setCell ((na w).add 2) (.int .i64 yx_81)) fun w85 =>
 optN p2 fun q86 =>
 ∃ ya_87 : Option Addr, ∃ yn_87 : Nat, ∃ yc_87 : Nat, w85.cell? (q86.add 1) = some (.slice ya_87 yn_87 yc_87) ∧
 (∃ yx_88 : Int, w85.cell? ((na w).add 0) = some (.int .i64 yx_88) ∧
 (optN ya_87 fun q89 =>
 chk ((0 : Int) ≤ yx_88 ∧ yx_88 < (yn_87 : Int))
 (∃ yx_90 : Int, w85.cell? ((q89.add (yx_88.toNat * 8)).add 2) = some (.int .i64 yx_90) ∧
 (onBool (decide (yx_90 ≥ (n1 : Int)))
 (R (.tuple #[.slice none 0 0, .int .i64 72]) w85)
 (nv (IntKind.i64.wrap (x24 + 1)) fun t91 =>
 b16 a1 n1 c1 p2 a6 n6 c6 a22 n22 c22 x23 t91 w85)))))))))))))
 (e41 a1 n1 c1 p2 none 0 0 a6 n6 c6 (n6 : Int) 0 w)
def masks_False.g41 (R : Value → World → Prop) (b41 : (Option Addr) → Nat → Nat → (Option Addr) → (Option Addr) → Nat → Nat → (Option Addr) → Nat → Nat → Int → Int → World → Prop) (a1 : Option Addr) (n1 : Nat) (c1 : Nat) (p2 : Option Addr) (a10 : Option Addr) (n10 : Nat) (c10 : Nat) (a39 : Option Addr) (n39 : Nat) (c39 : Nat) (x40 : Int) (x41 : Int) (w : World) : Prop :=
 onBool (decide (x41 < x40))
 (optN a39 fun q92 =>
 chk ((0 : Int) ≤ x41 ∧ x41 < (n39 : Int))
 (∃ yx_93 : Int, w.cell? ((q92.add (x41.toNat * 3)).add 0) = some (.int .i64 yx_93) ∧
 (∃ yx_94 : Int, w.cell? ((q92.add (x41.toNat * 3)).add 1) = some (.int .i64 yx_94) ∧
 (∃ yx_95 : Int, w.cell? ((q92.add (x41.toNat * 3)).add 2) = some (.int .i64 yx_95) ∧
 (nw (w.alloc (.cells #[.int .i64 0, .int .i64 0, .int .i64 0] 44)) fun w96 =>
 okSt w96 ((na w).add 0) ∧
 (nw (w96.setCell ((na w).add 0) (.int .i64 yx_93)) fun w97 =>
 okSt w97 ((na w).add 1) ∧
 (nw (w97.setCell ((na w).add 1) (.int .i64 yx_94)) fun w98 =>
 okSt w98 ((na w).add 2) ∧
 (nw (w98.setCell ((na w).add 2) (.int .i64 yx_95)) fun w99 =>
 optN p2 fun q100 =>
 ∃ ya_101 : Option Addr, ∃ yn_101 : Nat, ∃ yc_101 : Nat, w99.cell? (q100.add 1) = some (.slice ya_101 yn_101 yc_101) ∧
 (∃ yx_102 : Int, w99.cell? ((na w).add 0) = some (.int .i64 yx_102) ∧
 (optN ya_101 fun q103 =>
 chk ((0 : Int) ≤ yx_102 ∧ yx_102 < (yn_101 : Int))
 (∃ yx_104 : Int, w99.cell? ((q103.add (yx_102.toNat * 8)).add 0) = some (.int .u8 yx_104) ∧
 (∃ yx_105 : Int, w99.cell? ((q103.add (yx_102.toNat * 8)).add 1) = some (.int .i64 yx_105) ∧
 (∃ yx_106 : Int, w99.cell? ((q103.add (yx_102.toNat * 8)).add 2) = some (.int .i64 yx_106) ∧
 (∃ yf_107 : Nat, w99.cell? ((q103.add (yx_102.toNat * 8)).add 3) = some (.float .f64 yf_107) ∧
 (∃ ya_108 : Option Addr, ∃ yn_108 : Nat, ∃ yc_108 : Nat, w99.cell? ((q103.add (yx_102.toNat * 8)).add 4) = some (.slice ya_108 yn_108 yc_108) ∧
 (∃ yx_109 : Int, w99.cell? ((q103.add (yx_102.toNat * 8)).add 5) = some (.int .u8 yx_109) ∧
 (∃ yx_110 : Int, w99.cell? ((q103.add (yx_102.toNat * 8)).add 6) = some (.int .i64 yx_110) ∧
 (∃ yx_111 : Int, w99.cell? ((q103.add (yx_102.toNat * 8)).add 7) = some (.int .i64 yx_111) ∧
 (nw (w99.alloc (.cells #[.int .u8 0, .int .i64 0, .int .i64 0, .float .f64 0, .slice none 0 0, .int .u8 0, .int .i64 0, .int .i64 0] 49)) fun w112 =>
 okSt w112 ((na w99).add 0) ∧
 (nw (w112.setCell ((na w99).add 0) (.int .u8 yx_104)) fun w113 =>
 okSt w113 ((na w99).add 1) ∧
 (nw (w113.setCell ((na w99).add 1) (.int .i64 yx_105)) fun w114 =>
 okSt w114 ((na w99).add 2) ∧
 (nw (w114.setCell ((na w99).add 2) (.int .i64 yx_106)) fun w115 =>
 okSt w115 ((na w99).add 3) ∧
 (nw (w115.setCell ((na w99).add 3) (.float .f64 yf_107)) fun w116 =>
 okSt w116 ((na w99).add 4) ∧
 (nw (w116.setCell ((na w99).add 4) (.slice ya_108 yn_108 yc_108)) fun w117 =>
 okSt w117 ((na w99).add 5) ∧
 (nw (w117.setCell ((na w99).add 5) (.int .u8 yx_109)) fun w118 =>
 okSt w118 ((na w99).add 6) ∧
 (nw (w118.setCell ((na w99).add 6) (.int .i64 yx_110)) fun w119 =>
 okSt w119 ((na w99).add 7) ∧
 (nw (w119.setCell ((na w99).add 7) (.int .i64 yx_111)) fun w120 =>
 ∃ yx_121 : Int, w120.cell? ((na w99).add 0) = some (.int .u8 yx_121) ∧
 (∃ yx_122 : Int, w120.cell? ((na w99).add 1) = some (.int .i64 yx_122) ∧
 (∃ yx_123 : Int, w120.cell? ((na w99).add 2) = some (.int .i64 yx_123) ∧
 (∃ yf_124 : Nat, w120.cell? ((na w99).add 3) = some (.float .f64 yf_124) ∧
 (∃ ya_125 : Option Addr, ∃ yn_125 : Nat, ∃ yc_125 : Nat, w120.cell? ((na w99).add 4) = some (.slice ya_125 yn_125 yc_125) ∧
 (∃ yx_126 : Int, w120.cell? ((na w99).add 5) = some (.int .u8 yx_126) ∧
 (∃ yx_127 : Int, w120.cell? ((na w99).add 6) = some (.int .i64 yx_127) ∧
 (∃ yx_128 : Int, w120.cell? ((na w99).add 7) = some (.int .i64 yx_128) ∧
 (∃ yx_129 : Int, w120.cell? ((na w99).add 2) = some (.int .i64 yx_129) ∧
 (optN a1 fun q130 =>
 chk ((0 : Int) ≤ yx_129 ∧ yx_129 < (n1 : Int))
 (∃ yf_131 : Nat, w120.cell? (q130.add (yx_129.toNat * 1)) = some (.float .f64 yf_131) ∧
 (Go.E.CallsD Go.Proofs.Tryd.prog 34 #[.agg #[.int .u8 yx_121, .int .i64 yx_122, .int .i64 yx_123, .float .f64 yf_124, .slice ya_125 yn_125 yc_125, .int .u8 yx_126, .int .i64 yx_127, .int .i64 yx_128], .float .f64 yf_131] w120 fun yv132 u133 =>
 ∃ yx_134 : Int, yv132 = .int .u8 yx_134 ∧
 (onBool (yx_134 == 2)
 (∃ yx_135 : Int, u133.cell? ((na w).add 0) = some (.int .i64 yx_135) ∧
 (∃ yx_136 : Int, u133.cell? ((na w).add 1) = some (.int .i64 yx_136) ∧
 (∃ yx_137 : Int, u133.cell? ((na w).add 2) = some (.int .i64 yx_137) ∧
 (nw (u133.alloc (.cells #[.int .i64 yx_135, .int .i64 yx_136, .int .i64 yx_137] 44)) fun w138 =>
 rawN Go.Proofs.Tryd.prog (Builtin.append_ #[26, 26] 26 #[.slice a10 n10 c10, .slice (some (na u133)) 1 1]) w138 fun yv139 u140 =>
 ∃ ya_141 : Option Addr, ∃ yn_141 : Nat, ∃ yc_141 : Nat, yv139 = .slice ya_141 yn_141 yc_141 ∧
 (nv (IntKind.i64.wrap (x41 + 1)) fun t142 =>
 b41 a1 n1 c1 p2 ya_141 yn_141 yc_141 a39 n39 c39 x40 t142 u140)))))
 (nv (IntKind.i64.wrap (x41 + 1)) fun t143 =>
 b41 a1 n1 c1 p2 a10 n10 c10 a39 n39 c39 x40 t143 u133))))))))))))))))))))))))))))))))))))))))
 (R (.tuple #[.slice a10 n10 c10, .int .i64 0]) w)
def masks_False.q2 (R : Value → World → Prop) : Exit → Act → World → Prop := (fin Go.Proofs.Tryd.prog Go.Proofs.Tryd.f9 R)
def masks_False.q4 (R : Value → World → Prop) : Exit → Act → World → Prop := (masks_False.q2 R)
def masks_False.q12 (R : Value → World → Prop) : Exit → Act → World → Prop := (masks_False.q4 R)
def masks_False.q13 (R : Value → World → Prop) : Exit → Act → World → Prop := Exit.then (startN none (codeN Go.Proofs.Tryd.prog (sub (codeOf Go.Proofs.Tryd.f9) [1, 1, 1, 1]) (nsub masks_False.an [1, 1, 1, 1]) (masks_False.q12 R))) (masks_False.q12 R)
def masks_False.q15 (R : Value → World → Prop) : Exit → Act → World → Prop := (masks_False.q13 R)
def masks_False.q16 (R : Value → World → Prop) : Exit → Act → World → Prop := Exit.inBlock 0 (masks_False.q15 R)
def masks_False.rl16 (R : Value → World → Prop) (k : Nat) (a1 : Option Addr) (n1 : Nat) (c1 : Nat) (p2 : Option Addr) (a6 : Option Addr) (n6 : Nat) (c6 : Nat) (a22 : Option Addr) (n22 : Nat) (c22 : Nat) (x23 : Int) (x24 : Int) (w : World) : Prop := loopN [1, 2, 6, 22, 23, 24] (codeN Go.Proofs.Tryd.prog (sub (codeOf Go.Proofs.Tryd.f9) [1, 1, 1, 0, 1, 0, 0]) (nsub masks_False.an [1, 1, 1, 0, 1, 0, 0])) (masks_False.q16 R) k ⟨#[undef, .slice a1 n1 c1, .pointer p2, undef, undef, undef, .slice a6 n6 c6, undef, undef, undef, undef, undef, undef, undef, undef, undef, undef, undef, undef, undef, undef, undef, .slice a22 n22 c22, .int .i64 x23, .int .i64 x24, undef, undef, undef, undef, undef, undef, undef, undef, undef, undef, undef, undef, undef, undef, undef, undef, undef, undef, undef, undef, undef, undef, undef, undef, undef, undef, undef, undef, undef, undef, undef, undef, undef, undef, undef, undef, undef, undef, undef, undef], []⟩ w
def masks_False.re16 (R : Value → World → Prop) (a1 : Option Addr) (n1 : Nat) (c1 : Nat) (p2 : Option Addr) (a6 : Option Addr) (n6 : Nat) (c6 : Nat) (a22 : Option Addr) (n22 : Nat) (c22 : Nat) (x23 : Int) (x24 : Int) (w : World) : Prop := ∃ k, masks_False.rl16 R k a1 n1 c1 p2 a6 n6 c6 a22 n22 c22 x23 x24 w
def masks_False.q35 (R : Value → World → Prop) : Exit → Act → World → Prop := (masks_False.q12 R)
def masks_False.q37 (R : Value → World → Prop) : Exit → Act → World → Prop := (masks_False.q35 R)
def masks_False.q38 (R : Value → World → Prop) : Exit → Act → World → Prop := Exit.then (startN none (codeN Go.Proofs.Tryd.prog (sub (codeOf Go.Proofs.Tryd.f9) [1, 1, 1, 1, 1, 1]) (nsub masks_False.an [1, 1, 1, 1, 1, 1]) (masks_False.q37 R))) (masks_False.q37 R)
def masks_False.q40 (R : Value → World → Prop) : Exit → Act → World → Prop := (masks_False.q38 R)
def masks_False.q41 (R : Value → World → Prop) : Exit → Act → World → Prop := Exit.inBlock 2 (masks_False.q40 R)
def masks_False.rl41 (R : Value → World → Prop) (k : Nat) (a1 : Option Addr) (n1 : Nat) (c1 : Nat) (p2 : Option Addr) (a10 : Option Addr) (n10 : Nat) (c10 : Nat) (a39 : Option Addr) (n39 : Nat) (c39 : Nat) (x40 : Int) (x41 : Int) (w : World) : Prop := loopN [1, 2, 10, 39, 40, 41] (codeN Go.Proofs.Tryd.prog (sub (codeOf Go.Proofs.Tryd.f9) [1, 1, 1, 1, 1, 0, 1, 0, 0]) (nsub masks_False.an [1, 1, 1, 1, 1, 0, 1, 0, 0])) (masks_False.q41 R) k ⟨#[undef, .slice a1 n1 c1, .pointer p2, undef, undef, undef, undef, undef, undef, undef, .slice a10 n10 c10, undef, undef, undef, undef, undef, undef, undef, undef, undef, undef, undef, undef, undef, undef, undef, undef, undef, undef, undef, undef, undef, undef, undef, undef, undef, undef, undef, undef, .slice a39 n39 c39, .int .i64 x40, .int .i64 x41, undef, undef, undef, undef, undef, undef, undef, undef, undef, undef, undef, undef, undef, undef, undef, undef, undef, undef, undef, undef, undef, undef, undef], []⟩ w
def masks_False.re41 (R : Value → World → Prop) (a1 : Option Addr) (n1 : Nat) (c1 : Nat) (p2 : Option Addr) (a10 : Option Addr) (n10 : Nat) (c10 : Nat) (a39 : Option Addr) (n39 : Nat) (c39 : Nat) (x40 : Int) (x41 : Int) (w : World) : Prop := ∃ k, masks_False.rl41 R k a1 n1 c1 p2 a10 n10 c10 a39 n39 c39 x40 x41 w
def masks_False.l41 (R : Value → World → Prop) : Nat → (Option Addr) → Nat → Nat → (Option Addr) → (Option Addr) → Nat → Nat → (Option Addr) → Nat → Nat → Int → Int → World → Prop
  | 0, _, _, _, _, _, _, _, _, _, _, _, _, _ => False
  | k + 1, a1, n1, c1, p2, a10, n10, c10, a39, n39, c39, x40, x41, w => masks_False.g41 R (masks_False.l41 R k) a1 n1 c1 p2 a10 n10 c10 a39 n39 c39 x40 x41 w
def masks_False.e41 (R : Value → World → Prop) (a1 : Option Addr) (n1 : Nat) (c1 : Nat) (p2 : Option Addr) (a10 : Option Addr) (n10 : Nat) (c10 : Nat) (a39 : Option Addr) (n39 : Nat) (c39 : Nat) (x40 : Int) (x41 : Int) (w : World) : Prop := ∃ k, masks_False.l41 R k a1 n1 c1 p2 a10 n10 c10 a39 n39 c39 x40 x41 w
theorem masks_False.s41 (R : Value → World → Prop) (k : Nat) (a1 : Option Addr) (n1 : Nat) (c1 : Nat) (p2 : Option Addr) (a10 : Option Addr) (n10 : Nat) (c10 : Nat) (a39 : Option Addr) (n39 : Nat) (c39 : Nat) (x40 : Int) (x41 : Int) (w : World) : masks_False.rl41 R (k + 1) a1 n1 c1 p2 a10 n10 c10 a39 n39 c39 x40 x41 w = ∀ _ : Nat → Value, masks_False.g41 R (masks_False.rl41 R k) a1 n1 c1 p2 a10 n10 c10 a39 n39 c39 x40 x41 w := by kernel_rfl
theorem masks_False.lq41 (R : Value → World → Prop) : ∀ k, masks_False.l41 R k = masks_False.rl41 R k
  | 0 => by funext a1 n1 c1 p2 a10 n10 c10 a39 n39 c39 x40 x41 w; first | rfl | kernel_rfl
  | k + 1 => by
    funext a1 n1 c1 p2 a10 n10 c10 a39 n39 c39 x40 x41 w
    rw [masks_False.s41, forall_const]
    unfold masks_False.l41
    have ih := masks_False.lq41 R k
    rw [ih]
    all_goals rfl
theorem masks_False.eq41 (R : Value → World → Prop) : masks_False.e41 R = masks_False.re41 R := by
  funext a1 n1 c1 p2 a10 n10 c10 a39 n39 c39 x40 x41 w
  unfold masks_False.e41 masks_False.re41
  simp only [masks_False.lq41 R]
def masks_False.l16 (R : Value → World → Prop) : Nat → (Option Addr) → Nat → Nat → (Option Addr) → (Option Addr) → Nat → Nat → (Option Addr) → Nat → Nat → Int → Int → World → Prop
  | 0, _, _, _, _, _, _, _, _, _, _, _, _, _ => False
  | k + 1, a1, n1, c1, p2, a6, n6, c6, a22, n22, c22, x23, x24, w => masks_False.g16 R (masks_False.l16 R k) (masks_False.e41 R) a1 n1 c1 p2 a6 n6 c6 a22 n22 c22 x23 x24 w
def masks_False.e16 (R : Value → World → Prop) (a1 : Option Addr) (n1 : Nat) (c1 : Nat) (p2 : Option Addr) (a6 : Option Addr) (n6 : Nat) (c6 : Nat) (a22 : Option Addr) (n22 : Nat) (c22 : Nat) (x23 : Int) (x24 : Int) (w : World) : Prop := ∃ k, masks_False.l16 R k a1 n1 c1 p2 a6 n6 c6 a22 n22 c22 x23 x24 w
theorem masks_False.s16 (R : Value → World → Prop) (k : Nat) (a1 : Option Addr) (n1 : Nat) (c1 : Nat) (p2 : Option Addr) (a6 : Option Addr) (n6 : Nat) (c6 : Nat) (a22 : Option Addr) (n22 : Nat) (c22 : Nat) (x23 : Int) (x24 : Int) (w : World) : masks_False.rl16 R (k + 1) a1 n1 c1 p2 a6 n6 c6 a22 n22 c22 x23 x24 w = ∀ _ : Nat → Value, masks_False.g16 R (masks_False.rl16 R k) (masks_False.re41 R) a1 n1 c1 p2 a6 n6 c6 a22 n22 c22 x23 x24 w := by kernel_rfl
theorem masks_False.lq16 (R : Value → World → Prop) : ∀ k, masks_False.l16 R k = masks_False.rl16 R k
  | 0 => by funext a1 n1 c1 p2 a6 n6 c6 a22 n22 c22 x23 x24 w; first | rfl | kernel_rfl
  | k + 1 => by
    funext a1 n1 c1 p2 a6 n6 c6 a22 n22 c22 x23 x24 w
    rw [masks_False.s16, forall_const]
    unfold masks_False.l16
    have ih := masks_False.lq16 R k
    rw [masks_False.eq41 R]
    rw [ih]
    all_goals rfl
theorem masks_False.eq16 (R : Value → World → Prop) : masks_False.e16 R = masks_False.re16 R := by
  funext a1 n1 c1 p2 a6 n6 c6 a22 n22 c22 x23 x24 w
  unfold masks_False.e16 masks_False.re16
  simp only [masks_False.lq16 R]
def masks_False (R : Value → World → Prop) (x0_0 : Int) (a0_1 : Option Addr) (n0_1 : Nat) (c0_1 : Nat) (a1 : Option Addr) (n1 : Nat) (c1 : Nat) (w : World) : Prop := masks_False.g0 R (masks_False.e16 R) x0_0 a0_1 n0_1 c0_1 a1 n1 c1 w
theorem masks_False.root0 (R : Value → World → Prop) (x0_0 : Int) (a0_1 : Option Addr) (n0_1 : Nat) (c0_1 : Nat) (a1 : Option Addr) (n1 : Nat) (c1 : Nat) (w : World) : fnN Go.Proofs.Tryd.prog Go.Proofs.Tryd.f9 masks_False.an #[.agg #[.int .i64 x0_0, .slice a0_1 n0_1 c0_1], .slice a1 n1 c1] w R = masks_False.g0 R (masks_False.re16 R) x0_0 a0_1 n0_1 c0_1 a1 n1 c1 w := by kernel_rfl
theorem masks_False.calls {R : Value → World → Prop} {x0_0 : Int} {a0_1 : Option Addr} {n0_1 : Nat} {c0_1 : Nat} {a1 : Option Addr} {n1 : Nat} {c1 : Nat} {w : World} (h : masks_False R x0_0 a0_1 n0_1 c0_1 a1 n1 c1 w) : Go.E.CallsD Go.Proofs.Tryd.prog 9 #[.agg #[.int .i64 x0_0, .slice a0_1 n0_1 c0_1], .slice a1 n1 c1] w R := by
  refine callsD_of (n := masks_False.an) M_follows M_sizes Go.Proofs.Tryd.func9 (by rfl) ?_
  rw [masks_False.root0]
  unfold masks_False at h
  rw [masks_False.eq16 R] at h
  exact h
-- thicket/thicketref13.False
def thicketref13_False.an : An := (.mk none .nil (.mk none .nil (.mk none .nil (.mk none .nil (.mk none .nil (.mk none (.mk none .nil (.mk none (.mk (some [1, 2, 8, 25, 26, 27]) .nil .nil) .nil)) .nil))))))
def thicketref13_False.g0 (R : Value → World → Prop) (e26 : (Option Addr) → Nat → Nat → (Option Addr) → (Option Addr) → Nat → Nat → (Option Addr) → Nat → Nat → Int → Int → World → Prop) (x0_0 : Int) (a0_1 : Option Addr) (n0_1 : Nat) (c0_1 : Nat) (a1 : Option Addr) (n1 : Nat) (c1 : Nat) (w : World) : Prop :=
 nw (w.alloc (.cells #[.int .i64 x0_0, .slice a0_1 n0_1 c0_1] 24)) fun w63 =>
 ∃ yx_64 : Int, w63.cell? ((na w).add 0) = some (.int .i64 yx_64) ∧
 (∃ ya_65 : Option Addr, ∃ yn_65 : Nat, ∃ yc_65 : Nat, w63.cell? ((na w).add 1) = some (.slice ya_65 yn_65 yc_65) ∧
 (Go.E.CallsD Go.Proofs.Tryd.prog 23 #[.agg #[.int .i64 yx_64, .slice ya_65 yn_65 yc_65]] w63 fun yv66 u67 =>
 ∃ ya_68_0 : Option Addr, ∃ yn_68_0 : Nat, ∃ yc_68_0 : Nat, ∃ yx_68_1 : Int, yv66 = .tuple #[.slice ya_68_0 yn_68_0 yc_68_0, .int .i64 yx_68_1] ∧
 (onBool (yx_68_1 != 0)
 (R (.tuple #[.slice none 0 0, .int .i64 yx_68_1]) u67)
 (∃ yx_69 : Int, u67.cell? ((na w).add 0) = some (.int .i64 yx_69) ∧
 (∃ ya_70 : Option Addr, ∃ yn_70 : Nat, ∃ yc_70 : Nat, u67.cell? ((na w).add 1) = some (.slice ya_70 yn_70 yc_70) ∧
 (Go.E.CallsD Go.Proofs.Tryd.prog 35 #[.agg #[.int .i64 yx_69, .slice ya_70 yn_70 yc_70], .int .i64 (n1 : Int)] u67 fun yv71 u72 =>
 ∃ yb_73 : Bool, yv71 = .bool yb_73 ∧
 (onBool (!yb_73)
 (R (.tuple #[.slice none 0 0, .int .i64 72]) u72)
 (e26 a1 n1 c1 (some (na w)) none 0 0 ya_68_0 yn_68_0 yc_68_0 (yn_68_0 : Int) 0 u72))))))))
def thicketref13_False.g26 (R : Value → World → Prop) (b26 : (Option Addr) → Nat → Nat → (Option Addr) → (Option Addr) → Nat → Nat → (Option Addr) → Nat → Nat → Int → Int → World → Prop) (a1 : Option Addr) (n1 : Nat) (c1 : Nat) (p2 : Option Addr) (a8 : Option Addr) (n8 : Nat) (c8 : Nat) (a25 : Option Addr) (n25 : Nat) (c25 : Nat) (x26 : Int) (x27 : Int) (w : World) : Prop :=
 onBool (decide (x27 < x26))
 (optN a25 fun q74 =>
 chk ((0 : Int) ≤ x27 ∧ x27 < (n25 : Int))
 (∃ yx_75 : Int, w.cell? ((q74.add (x27.toNat * 3)).add 0) = some (.int .i64 yx_75) ∧
 (∃ yx_76 : Int, w.cell? ((q74.add (x27.toNat * 3)).add 1) = some (.int .i64 yx_76) ∧
 (∃ yx_77 : Int, w.cell? ((q74.add (x27.toNat * 3)).add 2) = some (.int .i64 yx_77) ∧
 (nw (w.alloc (.cells #[.int .i64 0, .int .i64 0, .int .i64 0] 44)) fun w78 =>
 okSt w78 ((na w).add 0) ∧
 (nw (w78.setCell ((na w).add 0) (.int .i64 yx_75)) fun w79 =>
 okSt w79 ((na w).add 1) ∧
 (nw (w79.setCell ((na w).add 1) (.int .i64 yx_76)) fun w80 =>
 okSt w80 ((na w).add 2) ∧
 (nw (w80.setCell ((na w).add 2) (.int .i64 yx_77)) fun w81 =>
 optN p2 fun q82 =>
 ∃ ya_83 : Option Addr, ∃ yn_83 : Nat, ∃ yc_83 : Nat, w81.cell? (q82.add 1) = some (.slice ya_83 yn_83 yc_83) ∧
 (∃ yx_84 : Int, w81.cell? ((na w).add 0) = some (.int .i64 yx_84) ∧
 (optN ya_83 fun q85 =>
 chk ((0 : Int) ≤ yx_84 ∧ yx_84 < (yn_83 : Int))
 (∃ yx_86 : Int, w81.cell? ((q85.add (yx_84.toNat * 8)).add 0) = some (.int .u8 yx_86) ∧
 (∃ yx_87 : Int, w81.cell? ((q85.add (yx_84.toNat * 8)).add 1) = some (.int .i64 yx_87) ∧
 (∃ yx_88 : Int, w81.cell? ((q85.add (yx_84.toNat * 8)).add 2) = some (.int .i64 yx_88) ∧
 (∃ yf_89 : Nat, w81.cell? ((q85.add (yx_84.toNat * 8)).add 3) = some (.float .f64 yf_89) ∧
 (∃ ya_90 : Option Addr, ∃ yn_90 : Nat, ∃ yc_90 : Nat, w81.cell? ((q85.add (yx_84.toNat * 8)).add 4) = some (.slice ya_90 yn_90 yc_90) ∧
 (∃ yx_91 : Int, w81.cell? ((q85.add (yx_84.toNat * 8)).add 5) = some (.int .u8 yx_91) ∧
 (∃ yx_92 : Int, w81.cell? ((q85.add (yx_84.toNat * 8)).add 6) = some (.int .i64 yx_92) ∧
 (∃ yx_93 : Int, w81.cell? ((q85.add (yx_84.toNat * 8)).add 7) = some (.int .i64 yx_93) ∧
 (nw (w81.alloc (.cells #[.int .u8 0, .int .i64 0, .int .i64 0, .float .f64 0, .slice none 0 0, .int .u8 0, .int .i64 0, .int .i64 0] 49)) fun w94 =>
 okSt w94 ((na w81).add 0) ∧
 (nw (w94.setCell ((na w81).add 0) (.int .u8 yx_86)) fun w95 =>
 okSt w95 ((na w81).add 1) ∧
 (nw (w95.setCell ((na w81).add 1) (.int .i64 yx_87)) fun w96 =>
 okSt w96 ((na w81).add 2) ∧
 (nw (w96.setCell ((na w81).add 2) (.int .i64 yx_88)) fun w97 =>
 okSt w97 ((na w81).add 3) ∧
 (nw (w97.setCell ((na w81).add 3) (.float .f64 yf_89)) fun w98 =>
 okSt w98 ((na w81).add 4) ∧
 (nw (w98.setCell ((na w81).add 4) (.slice ya_90 yn_90 yc_90)) fun w99 =>
 okSt w99 ((na w81).add 5) ∧
 (nw (w99.setCell ((na w81).add 5) (.int .u8 yx_91)) fun w100 =>
 okSt w100 ((na w81).add 6) ∧
 (nw (w100.setCell ((na w81).add 6) (.int .i64 yx_92)) fun w101 =>
 okSt w101 ((na w81).add 7) ∧
 (nw (w101.setCell ((na w81).add 7) (.int .i64 yx_93)) fun w102 =>
 ∃ yx_103 : Int, w102.cell? ((na w81).add 0) = some (.int .u8 yx_103) ∧
 (∃ yx_104 : Int, w102.cell? ((na w81).add 1) = some (.int .i64 yx_104) ∧
 (∃ yx_105 : Int, w102.cell? ((na w81).add 2) = some (.int .i64 yx_105) ∧
 (∃ yf_106 : Nat, w102.cell? ((na w81).add 3) = some (.float .f64 yf_106) ∧
 (∃ ya_107 : Option Addr, ∃ yn_107 : Nat, ∃ yc_107 : Nat, w102.cell? ((na w81).add 4) = some (.slice ya_107 yn_107 yc_107) ∧
 (∃ yx_108 : Int, w102.cell? ((na w81).add 5) = some (.int .u8 yx_108) ∧
 (∃ yx_109 : Int, w102.cell? ((na w81).add 6) = some (.int .i64 yx_109) ∧
 (∃ yx_110 : Int, w102.cell? ((na w81).add 7) = some (.int .i64 yx_110) ∧
 (∃ yx_111 : Int, w102.cell? ((na w81).add 2) = some (.int .i64 yx_111) ∧
 (optN a1 fun q112 =>
 chk ((0 : Int) ≤ yx_111 ∧ yx_111 < (n1 : Int))
 (∃ yf_113 : Nat, w102.cell? (q112.add (yx_111.toNat * 1)) = some (.float .f64 yf_113) ∧
 (Go.E.CallsD Go.Proofs.Tryd.prog 36 #[.agg #[.int .u8 yx_103, .int .i64 yx_104, .int .i64 yx_105, .float .f64 yf_106, .slice ya_107 yn_107 yc_107, .int .u8 yx_108, .int .i64 yx_109, .int .i64 yx_110], .float .f64 yf_113] w102 fun yv114 u115 =>
 ∃ yx_116 : Int, yv114 = .int .u8 yx_116 ∧
 (onBool (yx_116 == 2)
 (∃ yx_117 : Int, u115.cell? ((na w).add 0) = some (.int .i64 yx_117) ∧
 (∃ yx_118 : Int, u115.cell? ((na w).add 1) = some (.int .i64 yx_118) ∧
 (∃ yx_119 : Int, u115.cell? ((na w).add 2) = some (.int .i64 yx_119) ∧
 (nw (u115.alloc (.cells #[.int .i64 yx_117, .int .i64 yx_118, .int .i64 yx_119] 44)) fun w120 =>
 rawN Go.Proofs.Tryd.prog (Builtin.append_ #[26, 26] 26 #[.slice a8 n8 c8, .slice (some (na u115)) 1 1]) w120 fun yv121 u122 =>
 ∃ ya_123 : Option Addr, ∃ yn_123 : Nat, ∃ yc_123 : Nat, yv121 = .slice ya_123 yn_123 yc_123 ∧
 (nv (IntKind.i64.wrap (x27 + 1)) fun t124 =>
 b26 a1 n1 c1 p2 ya_123 yn_123 yc_123 a25 n25 c25 x26 t124 u122)))))
 (nv (IntKind.i64.wrap (x27 + 1)) fun t125 =>
 b26 a1 n1 c1 p2 a8 n8 c8 a25 n25 c25 x26 t125 u115))))))))))))))))))))))))))))))))))))))))
 (R (.tuple #[.slice a8 n8 c8, .int .i64 0]) w)
def thicketref13_False.q2 (R : Value → World → Prop) : Exit → Act → World → Prop := (fin Go.Proofs.Tryd.prog Go.Proofs.Tryd.f10 R)
def thicketref13_False.q4 (R : Value → World → Prop) : Exit → Act → World → Prop := (thicketref13_False.q2 R)
def thicketref13_False.q12 (R : Value → World → Prop) : Exit → Act → World → Prop := (thicketref13_False.q4 R)
def thicketref13_False.q20 (R : Value → World → Prop) : Exit → Act → World → Prop := (thicketref13_False.q12 R)
def thicketref13_False.q22 (R : Value → World → Prop) : Exit → Act → World → Prop := (thicketref13_False.q20 R)
def thicketref13_False.q23 (R : Value → World → Prop) : Exit → Act → World → Prop := Exit.then (startN none (codeN Go.Proofs.Tryd.prog (sub (codeOf Go.Proofs.Tryd.f10) [1, 1, 1, 1, 1, 1]) (nsub thicketref13_False.an [1, 1, 1, 1, 1, 1]) (thicketref13_False.q22 R))) (thicketref13_False.q22 R)
def thicketref13_False.q25 (R : Value → World → Prop) : Exit → Act → World → Prop := (thicketref13_False.q23 R)
def thicketref13_False.q26 (R : Value → World → Prop) : Exit → Act → World → Prop := Exit.inBlock 0 (thicketref13_False.q25 R)
def thicketref13_False.rl26 (R : Value → World → Prop) (k : Nat) (a1 : Option Addr) (n1 : Nat) (c1 : Nat) (p2 : Option Addr) (a8 : Option Addr) (n8 : Nat) (c8 : Nat) (a25 : Option Addr) (n25 : Nat) (c25 : Nat) (x26 : Int) (x27 : Int) (w : World) : Prop := loopN [1, 2, 8, 25, 26, 27] (codeN Go.Proofs.Tryd.prog (sub (codeOf Go.Proofs.Tryd.f10) [1, 1, 1, 1, 1, 0, 1, 0, 0]) (nsub thicketref13_False.an [1, 1, 1, 1, 1, 0, 1, 0, 0])) (thicketref13_False.q26 R) k ⟨#[undef, .slice a1 n1 c1, .pointer p2, undef, undef, undef, undef, undef, .slice a8 n8 c8, undef, undef, undef, undef, undef, undef, undef, undef, undef, undef, undef, undef, undef, undef, undef, undef, .slice a25 n25 c25, .int .i64 x26, .int .i64 x27, undef, undef, undef, undef, undef, undef, undef, undef, undef, undef, undef, undef, undef, undef, undef, undef, undef, undef, undef, undef, undef, undef, undef], []⟩ w
def thicketref13_False.re26 (R : Value → World → Prop) (a1 : Option Addr) (n1 : Nat) (c1 : Nat) (p2 : Option Addr) (a8 : Option Addr) (n8 : Nat) (c8 : Nat) (a25 : Option Addr) (n25 : Nat) (c25 : Nat) (x26 : Int) (x27 : Int) (w : World) : Prop := ∃ k, thicketref13_False.rl26 R k a1 n1 c1 p2 a8 n8 c8 a25 n25 c25 x26 x27 w
def thicketref13_False.l26 (R : Value → World → Prop) : Nat → (Option Addr) → Nat → Nat → (Option Addr) → (Option Addr) → Nat → Nat → (Option Addr) → Nat → Nat → Int → Int → World → Prop
  | 0, _, _, _, _, _, _, _, _, _, _, _, _, _ => False
  | k + 1, a1, n1, c1, p2, a8, n8, c8, a25, n25, c25, x26, x27, w => thicketref13_False.g26 R (thicketref13_False.l26 R k) a1 n1 c1 p2 a8 n8 c8 a25 n25 c25 x26 x27 w
def thicketref13_False.e26 (R : Value → World → Prop) (a1 : Option Addr) (n1 : Nat) (c1 : Nat) (p2 : Option Addr) (a8 : Option Addr) (n8 : Nat) (c8 : Nat) (a25 : Option Addr) (n25 : Nat) (c25 : Nat) (x26 : Int) (x27 : Int) (w : World) : Prop := ∃ k, thicketref13_False.l26 R k a1 n1 c1 p2 a8 n8 c8 a25 n25 c25 x26 x27 w
theorem thicketref13_False.s26 (R : Value → World → Prop) (k : Nat) (a1 : Option Addr) (n1 : Nat) (c1 : Nat) (p2 : Option Addr) (a8 : Option Addr) (n8 : Nat) (c8 : Nat) (a25 : Option Addr) (n25 : Nat) (c25 : Nat) (x26 : Int) (x27 : Int) (w : World) : thicketref13_False.rl26 R (k + 1) a1 n1 c1 p2 a8 n8 c8 a25 n25 c25 x26 x27 w = ∀ _ : Nat → Value, thicketref13_False.g26 R (thicketref13_False.rl26 R k) a1 n1 c1 p2 a8 n8 c8 a25 n25 c25 x26 x27 w := by kernel_rfl
theorem thicketref13_False.lq26 (R : Value → World → Prop) : ∀ k, thicketref13_False.l26 R k = thicketref13_False.rl26 R k
  | 0 => by funext a1 n1 c1 p2 a8 n8 c8 a25 n25 c25 x26 x27 w; first | rfl | kernel_rfl
  | k + 1 => by
    funext a1 n1 c1 p2 a8 n8 c8 a25 n25 c25 x26 x27 w
    rw [thicketref13_False.s26, forall_const]
    unfold thicketref13_False.l26
    have ih := thicketref13_False.lq26 R k
    rw [ih]
    all_goals rfl
theorem thicketref13_False.eq26 (R : Value → World → Prop) : thicketref13_False.e26 R = thicketref13_False.re26 R := by
  funext a1 n1 c1 p2 a8 n8 c8 a25 n25 c25 x26 x27 w
  unfold thicketref13_False.e26 thicketref13_False.re26
  simp only [thicketref13_False.lq26 R]
def thicketref13_False (R : Value → World → Prop) (x0_0 : Int) (a0_1 : Option Addr) (n0_1 : Nat) (c0_1 : Nat) (a1 : Option Addr) (n1 : Nat) (c1 : Nat) (w : World) : Prop := thicketref13_False.g0 R (thicketref13_False.e26 R) x0_0 a0_1 n0_1 c0_1 a1 n1 c1 w
theorem thicketref13_False.root0 (R : Value → World → Prop) (x0_0 : Int) (a0_1 : Option Addr) (n0_1 : Nat) (c0_1 : Nat) (a1 : Option Addr) (n1 : Nat) (c1 : Nat) (w : World) : fnN Go.Proofs.Tryd.prog Go.Proofs.Tryd.f10 thicketref13_False.an #[.agg #[.int .i64 x0_0, .slice a0_1 n0_1 c0_1], .slice a1 n1 c1] w R = thicketref13_False.g0 R (thicketref13_False.re26 R) x0_0 a0_1 n0_1 c0_1 a1 n1 c1 w := by kernel_rfl
theorem thicketref13_False.calls {R : Value → World → Prop} {x0_0 : Int} {a0_1 : Option Addr} {n0_1 : Nat} {c0_1 : Nat} {a1 : Option Addr} {n1 : Nat} {c1 : Nat} {w : World} (h : thicketref13_False R x0_0 a0_1 n0_1 c0_1 a1 n1 c1 w) : Go.E.CallsD Go.Proofs.Tryd.prog 10 #[.agg #[.int .i64 x0_0, .slice a0_1 n0_1 c0_1], .slice a1 n1 c1] w R := by
  refine callsD_of (n := thicketref13_False.an) M_follows M_sizes Go.Proofs.Tryd.func10 (by rfl) ?_
  rw [thicketref13_False.root0]
  unfold thicketref13_False at h
  rw [thicketref13_False.eq26 R] at h
  exact h
-- thicket/masks.Reach
def masks_Reach.an : An := (.mk none .nil (.mk none .nil (.mk none .nil (.mk none .nil (.mk none .nil (.mk none (.mk none .nil (.mk none (.mk (some [8, 10, 35, 36, 37]) .nil .nil) .nil)) .nil))))))
def masks_Reach.g0 (R : Value → World → Prop) (e20 : Int → (Option Addr) → Nat → Nat → (Option Addr) → Nat → Nat → Int → Int → World → Prop) (x0_0 : Int) (a0_1 : Option Addr) (n0_1 : Nat) (c0_1 : Nat) (a1 : Option Addr) (n1 : Nat) (c1 : Nat) (w : World) : Prop :=
 nw (w.alloc (.cells #[.int .i64 x0_0, .slice a0_1 n0_1 c0_1] 24)) fun w32 =>
 ∃ yx_33 : Int, w32.cell? ((na w).add 0) = some (.int .i64 yx_33) ∧
 (∃ ya_34 : Option Addr, ∃ yn_34 : Nat, ∃ yc_34 : Nat, w32.cell? ((na w).add 1) = some (.slice ya_34 yn_34 yc_34) ∧
 (Go.E.CallsD Go.Proofs.Tryd.prog 9 #[.agg #[.int .i64 yx_33, .slice ya_34 yn_34 yc_34], .slice a1 n1 c1] w32 fun yv35 u36 =>
 ∃ ya_37_0 : Option Addr, ∃ yn_37_0 : Nat, ∃ yc_37_0 : Nat, ∃ yx_37_1 : Int, yv35 = .tuple #[.slice ya_37_0 yn_37_0 yc_37_0, .int .i64 yx_37_1] ∧
 (onBool (yx_37_1 != 0)
 (R (.tuple #[.slice none 0 0, .int .i64 yx_37_1]) u36)
 (∃ yx_38 : Int, u36.cell? ((na w).add 0) = some (.int .i64 yx_38) ∧
 (∃ ya_39 : Option Addr, ∃ yn_39 : Nat, ∃ yc_39 : Nat, u36.cell? ((na w).add 1) = some (.slice ya_39 yn_39 yc_39) ∧
 (Go.E.CallsD Go.Proofs.Tryd.prog 37 #[.agg #[.int .i64 yx_38, .slice ya_39 yn_39 yc_39]] u36 fun yv40 u41 =>
 ∃ yx_42_0 : Int, ∃ yx_42_1 : Int, yv40 = .tuple #[.int .i64 yx_42_0, .int .i64 yx_42_1] ∧
 (Go.E.CallsD Go.Proofs.Tryd.prog 29 #[.int .i64 yx_42_0] u41 fun yv43 u44 =>
 ∃ ya_45_0 : Option Addr, ∃ yn_45_0 : Nat, ∃ yc_45_0 : Nat, ∃ yx_45_1 : Int, yv43 = .tuple #[.slice ya_45_0 yn_45_0 yc_45_0, .int .i64 yx_45_1] ∧
 (e20 yx_42_0 ya_45_0 yn_45_0 yc_45_0 ya_37_0 yn_37_0 yc_37_0 (yn_37_0 : Int) 0 u44))))))))
def masks_Reach.g20 (R : Value → World → Prop) (b20 : Int → (Option Addr) → Nat → Nat → (Option Addr) → Nat → Nat → Int → Int → World → Prop) (x8 : Int) (a10 : Option Addr) (n10 : Nat) (c10 : Nat) (a35 : Option Addr) (n35 : Nat) (c35 : Nat) (x36 : Int) (x37 : Int) (w : World) : Prop :=
 onBool (decide (x37 < x36))
 (optN a35 fun q46 =>
 chk ((0 : Int) ≤ x37 ∧ x37 < (n35 : Int))
 (∃ yx_47 : Int, w.cell? ((q46.add (x37.toNat * 3)).add 0) = some (.int .i64 yx_47) ∧
 (∃ yx_48 : Int, w.cell? ((q46.add (x37.toNat * 3)).add 1) = some (.int .i64 yx_48) ∧
 (∃ yx_49 : Int, w.cell? ((q46.add (x37.toNat * 3)).add 2) = some (.int .i64 yx_49) ∧
 (nw (w.alloc (.cells #[.int .i64 0, .int .i64 0, .int .i64 0] 44)) fun w50 =>
 okSt w50 ((na w).add 0) ∧
 (nw (w50.setCell ((na w).add 0) (.int .i64 yx_47)) fun w51 =>
 okSt w51 ((na w).add 1) ∧
 (nw (w51.setCell ((na w).add 1) (.int .i64 yx_48)) fun w52 =>
 okSt w52 ((na w).add 2) ∧
 (nw (w52.setCell ((na w).add 2) (.int .i64 yx_49)) fun w53 =>
 ∃ yx_54 : Int, w53.cell? ((na w).add 1) = some (.int .i64 yx_54) ∧
 (∃ yx_55 : Int, w53.cell? ((na w).add 2) = some (.int .i64 yx_55) ∧
 (Go.E.CallsD Go.Proofs.Tryd.prog 30 #[.int .i64 x8, .int .i64 yx_54, .int .i64 yx_55] w53 fun yv56 u57 =>
 ∃ ya_58_0 : Option Addr, ∃ yn_58_0 : Nat, ∃ yc_58_0 : Nat, ∃ yx_58_1 : Int, yv56 = .tuple #[.slice ya_58_0 yn_58_0 yc_58_0, .int .i64 yx_58_1] ∧
 (Go.E.CallsD Go.Proofs.Tryd.prog 31 #[.slice a10 n10 c10, .slice ya_58_0 yn_58_0 yc_58_0] u57 fun yv59 u60 =>
 ∃ yx_61 : Int, yv59 = .int .i64 yx_61 ∧
 (nv (IntKind.i64.wrap (x37 + 1)) fun t62 =>
 b20 x8 a10 n10 c10 a35 n35 c35 x36 t62 u60))))))))))))
 (R (.tuple #[.slice a10 n10 c10, .int .i64 0]) w)
def masks_Reach.q2 (R : Value → World → Prop) : Exit → Act → World → Prop := (fin Go.Proofs.Tryd.prog Go.Proofs.Tryd.f11 R)
def masks_Reach.q4 (R : Value → World → Prop) : Exit → Act → World → Prop := (masks_Reach.q2 R)
def masks_Reach.q12 (R : Value → World → Prop) : Exit → Act → World → Prop := (masks_Reach.q4 R)
def masks_Reach.q14 (R : Value → World → Prop) : Exit → Act → World → Prop := (masks_Reach.q12 R)
def masks_Reach.q16 (R : Value → World → Prop) : Exit → Act → World → Prop := (masks_Reach.q14 R)
def masks_Reach.q17 (R : Value → World → Prop) : Exit → Act → World → Prop := Exit.then (startN none (codeN Go.Proofs.Tryd.prog (sub (codeOf Go.Proofs.Tryd.f11) [1, 1, 1, 1, 1, 1]) (nsub masks_Reach.an [1, 1, 1, 1, 1, 1]) (masks_Reach.q16 R))) (masks_Reach.q16 R)
def masks_Reach.q19 (R : Value → World → Prop) : Exit → Act → World → Prop := (masks_Reach.q17 R)
def masks_Reach.q20 (R : Value → World → Prop) : Exit → Act → World → Prop := Exit.inBlock 0 (masks_Reach.q19 R)
def masks_Reach.rl20 (R : Value → World → Prop) (k : Nat) (x8 : Int) (a10 : Option Addr) (n10 : Nat) (c10 : Nat) (a35 : Option Addr) (n35 : Nat) (c35 : Nat) (x36 : Int) (x37 : Int) (w : World) : Prop := loopN [8, 10, 35, 36, 37] (codeN Go.Proofs.Tryd.prog (sub (codeOf Go.Proofs.Tryd.f11) [1, 1, 1, 1, 1, 0, 1, 0, 0]) (nsub masks_Reach.an [1, 1, 1, 1, 1, 0, 1, 0, 0])) (masks_Reach.q20 R) k ⟨#[undef, undef, undef, undef, undef, undef, undef, undef, .int .i64 x8, undef, .slice a10 n10 c10, undef, undef, undef, undef, undef, undef, undef, undef, undef, undef, undef, undef, undef, undef, undef, undef, undef, undef, undef, undef, undef, undef, undef, undef, .slice a35 n35 c35, .int .i64 x36, .int .i64 x37, undef, undef, undef, undef, undef, undef, undef, undef, undef, undef, undef, undef, undef, undef, undef, undef, undef], []⟩ w
def masks_Reach.re20 (R : Value → World → Prop) (x8 : Int) (a10 : Option Addr) (n10 : Nat) (c10 : Nat) (a35 : Option Addr) (n35 : Nat) (c35 : Nat) (x36 : Int) (x37 : Int) (w : World) : Prop := ∃ k, masks_Reach.rl20 R k x8 a10 n10 c10 a35 n35 c35 x36 x37 w
def masks_Reach.l20 (R : Value → World → Prop) : Nat → Int → (Option Addr) → Nat → Nat → (Option Addr) → Nat → Nat → Int → Int → World → Prop
  | 0, _, _, _, _, _, _, _, _, _, _ => False
  | k + 1, x8, a10, n10, c10, a35, n35, c35, x36, x37, w => masks_Reach.g20 R (masks_Reach.l20 R k) x8 a10 n10 c10 a35 n35 c35 x36 x37 w
def masks_Reach.e20 (R : Value → World → Prop) (x8 : Int) (a10 : Option Addr) (n10 : Nat) (c10 : Nat) (a35 : Option Addr) (n35 : Nat) (c35 : Nat) (x36 : Int) (x37 : Int) (w : World) : Prop := ∃ k, masks_Reach.l20 R k x8 a10 n10 c10 a35 n35 c35 x36 x37 w
theorem masks_Reach.s20 (R : Value → World → Prop) (k : Nat) (x8 : Int) (a10 : Option Addr) (n10 : Nat) (c10 : Nat) (a35 : Option Addr) (n35 : Nat) (c35 : Nat) (x36 : Int) (x37 : Int) (w : World) : masks_Reach.rl20 R (k + 1) x8 a10 n10 c10 a35 n35 c35 x36 x37 w = ∀ _ : Nat → Value, masks_Reach.g20 R (masks_Reach.rl20 R k) x8 a10 n10 c10 a35 n35 c35 x36 x37 w := by kernel_rfl
theorem masks_Reach.lq20 (R : Value → World → Prop) : ∀ k, masks_Reach.l20 R k = masks_Reach.rl20 R k
  | 0 => by funext x8 a10 n10 c10 a35 n35 c35 x36 x37 w; first | rfl | kernel_rfl
  | k + 1 => by
    funext x8 a10 n10 c10 a35 n35 c35 x36 x37 w
    rw [masks_Reach.s20, forall_const]
    unfold masks_Reach.l20
    have ih := masks_Reach.lq20 R k
    rw [ih]
    all_goals rfl
theorem masks_Reach.eq20 (R : Value → World → Prop) : masks_Reach.e20 R = masks_Reach.re20 R := by
  funext x8 a10 n10 c10 a35 n35 c35 x36 x37 w
  unfold masks_Reach.e20 masks_Reach.re20
  simp only [masks_Reach.lq20 R]
def masks_Reach (R : Value → World → Prop) (x0_0 : Int) (a0_1 : Option Addr) (n0_1 : Nat) (c0_1 : Nat) (a1 : Option Addr) (n1 : Nat) (c1 : Nat) (w : World) : Prop := masks_Reach.g0 R (masks_Reach.e20 R) x0_0 a0_1 n0_1 c0_1 a1 n1 c1 w
theorem masks_Reach.root0 (R : Value → World → Prop) (x0_0 : Int) (a0_1 : Option Addr) (n0_1 : Nat) (c0_1 : Nat) (a1 : Option Addr) (n1 : Nat) (c1 : Nat) (w : World) : fnN Go.Proofs.Tryd.prog Go.Proofs.Tryd.f11 masks_Reach.an #[.agg #[.int .i64 x0_0, .slice a0_1 n0_1 c0_1], .slice a1 n1 c1] w R = masks_Reach.g0 R (masks_Reach.re20 R) x0_0 a0_1 n0_1 c0_1 a1 n1 c1 w := by kernel_rfl
theorem masks_Reach.calls {R : Value → World → Prop} {x0_0 : Int} {a0_1 : Option Addr} {n0_1 : Nat} {c0_1 : Nat} {a1 : Option Addr} {n1 : Nat} {c1 : Nat} {w : World} (h : masks_Reach R x0_0 a0_1 n0_1 c0_1 a1 n1 c1 w) : Go.E.CallsD Go.Proofs.Tryd.prog 11 #[.agg #[.int .i64 x0_0, .slice a0_1 n0_1 c0_1], .slice a1 n1 c1] w R := by
  refine callsD_of (n := masks_Reach.an) M_follows M_sizes Go.Proofs.Tryd.func11 (by rfl) ?_
  rw [masks_Reach.root0]
  unfold masks_Reach at h
  rw [masks_Reach.eq20 R] at h
  exact h
-- thicket/thicketref13.Reach
def thicketref13_Reach.an : An := (.mk none .nil (.mk none .nil (.mk none .nil (.mk none .nil (.mk none .nil (.mk none (.mk none .nil (.mk none (.mk (some [10, 34, 35, 36]) (.mk none .nil (.mk none .nil (.mk none (.mk none (.mk none .nil (.mk none .nil (.mk none (.mk (some [10, 13, 14, 34, 35, 36]) .nil .nil) .nil))) .nil) .nil))) .nil) .nil)) .nil))))))
def thicketref13_Reach.g0 (R : Value → World → Prop) (e20 : (Option Addr) → Nat → Nat → (Option Addr) → Nat → Nat → Int → Int → World → Prop) (x0_0 : Int) (a0_1 : Option Addr) (n0_1 : Nat) (c0_1 : Nat) (a1 : Option Addr) (n1 : Nat) (c1 : Nat) (w : World) : Prop :=
 nw (w.alloc (.cells #[.int .i64 x0_0, .slice a0_1 n0_1 c0_1] 24)) fun w31 =>
 ∃ yx_32 : Int, w31.cell? ((na w).add 0) = some (.int .i64 yx_32) ∧
 (∃ ya_33 : Option Addr, ∃ yn_33 : Nat, ∃ yc_33 : Nat, w31.cell? ((na w).add 1) = some (.slice ya_33 yn_33 yc_33) ∧
 (Go.E.CallsD Go.Proofs.Tryd.prog 10 #[.agg #[.int .i64 yx_32, .slice ya_33 yn_33 yc_33], .slice a1 n1 c1] w31 fun yv34 u35 =>
 ∃ ya_36_0 : Option Addr, ∃ yn_36_0 : Nat, ∃ yc_36_0 : Nat, ∃ yx_36_1 : Int, yv34 = .tuple #[.slice ya_36_0 yn_36_0 yc_36_0, .int .i64 yx_36_1] ∧
 (onBool (yx_36_1 != 0)
 (R (.tuple #[.slice none 0 0, .int .i64 yx_36_1]) u35)
 (∃ yx_37 : Int, u35.cell? ((na w).add 0) = some (.int .i64 yx_37) ∧
 (∃ ya_38 : Option Addr, ∃ yn_38 : Nat, ∃ yc_38 : Nat, u35.cell? ((na w).add 1) = some (.slice ya_38 yn_38 yc_38) ∧
 (Go.E.CallsD Go.Proofs.Tryd.prog 38 #[.agg #[.int .i64 yx_37, .slice ya_38 yn_38 yc_38]] u35 fun yv39 u40 =>
 ∃ yx_41_0 : Int, ∃ yx_41_1 : Int, yv39 = .tuple #[.int .i64 yx_41_0, .int .i64 yx_41_1] ∧
 (Go.E.CallsD Go.Proofs.Tryd.prog 39 #[.int .i64 yx_41_0] u40 fun yv42 u43 =>
 ∃ ya_44_0 : Option Addr, ∃ yn_44_0 : Nat, ∃ yc_44_0 : Nat, ∃ yx_44_1 : Int, yv42 = .tuple #[.slice ya_44_0 yn_44_0 yc_44_0, .int .i64 yx_44_1] ∧
 (e20 ya_44_0 yn_44_0 yc_44_0 ya_36_0 yn_36_0 yc_36_0 (yn_36_0 : Int) 0 u43))))))))
def thicketref13_Reach.g20 (R : Value → World → Prop) (e34 : (Option Addr) → Nat → Nat → (Option Addr) → Int → (Option Addr) → Nat → Nat → Int → Int → World → Prop) (a10 : Option Addr) (n10 : Nat) (c10 : Nat) (a34 : Option Addr) (n34 : Nat) (c34 : Nat) (x35 : Int) (x36 : Int) (w : World) : Prop :=
 onBool (decide (x36 < x35))
 (optN a34 fun q45 =>
 chk ((0 : Int) ≤ x36 ∧ x36 < (n34 : Int))
 (∃ yx_46 : Int, w.cell? ((q45.add (x36.toNat * 3)).add 0) = some (.int .i64 yx_46) ∧
 (∃ yx_47 : Int, w.cell? ((q45.add (x36.toNat * 3)).add 1) = some (.int .i64 yx_47) ∧
 (∃ yx_48 : Int, w.cell? ((q45.add (x36.toNat * 3)).add 2) = some (.int .i64 yx_48) ∧
 (nw (w.alloc (.cells #[.int .i64 0, .int .i64 0, .int .i64 0] 44)) fun w49 =>
 okSt w49 ((na w).add 0) ∧
 (nw (w49.setCell ((na w).add 0) (.int .i64 yx_46)) fun w50 =>
 okSt w50 ((na w).add 1) ∧
 (nw (w50.setCell ((na w).add 1) (.int .i64 yx_47)) fun w51 =>
 okSt w51 ((na w).add 2) ∧
 (nw (w51.setCell ((na w).add 2) (.int .i64 yx_48)) fun w52 =>
 ∃ yx_53 : Int, w52.cell? ((na w).add 1) = some (.int .i64 yx_53) ∧
 (e34 a10 n10 c10 (some (na w)) yx_53 a34 n34 c34 x35 x36 w52)))))))))
 (R (.tuple #[.slice a10 n10 c10, .int .i64 0]) w)
def thicketref13_Reach.g34 (R : Value → World → Prop) (b20 : (Option Addr) → Nat → Nat → (Option Addr) → Nat → Nat → Int → Int → World → Prop) (b34 : (Option Addr) → Nat → Nat → (Option Addr) → Int → (Option Addr) → Nat → Nat → Int → Int → World → Prop) (a10 : Option Addr) (n10 : Nat) (c10 : Nat) (p13 : Option Addr) (x14 : Int) (a34 : Option Addr) (n34 : Nat) (c34 : Nat) (x35 : Int) (x36 : Int) (w : World) : Prop :=
 optN p13 fun q54 =>
 ∃ yx_55 : Int, w.cell? (q54.add 2) = some (.int .i64 yx_55) ∧
 (onBool (decide (x14 < yx_55))
 (Go.E.CallsD Go.Proofs.Tryd.prog 40 #[.slice a10 n10 c10, .int .i64 x14, .bool false] w fun yv56 u57 =>
 ∃ ya_58_0 : Option Addr, ∃ yn_58_0 : Nat, ∃ yc_58_0 : Nat, ∃ yx_58_1 : Int, yv56 = .tuple #[.slice ya_58_0 yn_58_0 yc_58_0, .int .i64 yx_58_1] ∧
 (nv (IntKind.i64.wrap (x14 + 1)) fun t59 =>
 b34 ya_58_0 yn_58_0 yc_58_0 p13 t59 a34 n34 c34 x35 x36 u57))
 (nv (IntKind.i64.wrap (x36 + 1)) fun t60 =>
 b20 a10 n10 c10 a34 n34 c34 x35 t60 w))
def thicketref13_Reach.q2 (R : Value → World → Prop) : Exit → Act → World → Prop := (fin Go.Proofs.Tryd.prog Go.Proofs.Tryd.f12 R)
def thicketref13_Reach.q4 (R : Value → World → Prop) : Exit → Act → World → Prop := (thicketref13_Reach.q2 R)
def thicketref13_Reach.q12 (R : Value → World → Prop) : Exit → Act → World → Prop := (thicketref13_Reach.q4 R)
def thicketref13_Reach.q14 (R : Value → World → Prop) : Exit → Act → World → Prop := (thicketref13_Reach.q12 R)
def thicketref13_Reach.q16 (R : Value → World → Prop) : Exit → Act → World → Prop := (thicketref13_Reach.q14 R)
def thicketref13_Reach.q17 (R : Value → World → Prop) : Exit → Act → World → Prop := Exit.then (startN none (codeN Go.Proofs.Tryd.prog (sub (codeOf Go.Proofs.Tryd.f12) [1, 1, 1, 1, 1, 1]) (nsub thicketref13_Reach.an [1, 1, 1, 1, 1, 1]) (thicketref13_Reach.q16 R))) (thicketref13_Reach.q16 R)
def thicketref13_Reach.q19 (R : Value → World → Prop) : Exit → Act → World → Prop := (thicketref13_Reach.q17 R)
def thicketref13_Reach.q20 (R : Value → World → Prop) : Exit → Act → World → Prop := Exit.inBlock 0 (thicketref13_Reach.q19 R)
def thicketref13_Reach.rl20 (R : Value → World → Prop) (k : Nat) (a10 : Option Addr) (n10 : Nat) (c10 : Nat) (a34 : Option Addr) (n34 : Nat) (c34 : Nat) (x35 : Int) (x36 : Int) (w : World) : Prop := loopN [10, 34, 35, 36] (codeN Go.Proofs.Tryd.prog (sub (codeOf Go.Proofs.Tryd.f12) [1, 1, 1, 1, 1, 0, 1, 0, 0]) (nsub thicketref13_Reach.an [1, 1, 1, 1, 1, 0, 1, 0, 0])) (thicketref13_Reach.q20 R) k ⟨#[undef, undef, undef, undef, undef, undef, undef, undef, undef, undef, .slice a10 n10 c10, undef, undef, undef, undef, undef, undef, undef, undef, undef, undef, undef, undef, undef, undef, undef, undef, undef, undef, undef, undef, undef, undef, undef, .slice a34 n34 c34, .int .i64 x35, .int .i64 x36, undef, undef, undef, undef, undef, undef, undef, undef, undef, undef, undef, undef, undef, undef, undef, undef, undef, undef, undef], []⟩ w
def thicketref13_Reach.re20 (R : Value → World → Prop) (a10 : Option Addr) (n10 : Nat) (c10 : Nat) (a34 : Option Addr) (n34 : Nat) (c34 : Nat) (x35 : Int) (x36 : Int) (w : World) : Prop := ∃ k, thicketref13_Reach.rl20 R k a10 n10 c10 a34 n34 c34 x35 x36 w
def thicketref13_Reach.q21 (R : Value → World → Prop) (k20 : Nat) : Exit → Act → World → Prop := Exit.then (fun a w => loopN [10, 34, 35, 36] (codeN Go.Proofs.Tryd.prog (sub (codeOf Go.Proofs.Tryd.f12) [1, 1, 1, 1, 1, 0, 1, 0, 0]) (nsub thicketref13_Reach.an [1, 1, 1, 1, 1, 0, 1, 0, 0])) (thicketref13_Reach.q20 R) k20 (clr [10, 34, 35, 36] a) w) (thicketref13_Reach.q20 R)
def thicketref13_Reach.q23 (R : Value → World → Prop) (k20 : Nat) : Exit → Act → World → Prop := (thicketref13_Reach.q21 R k20)
def thicketref13_Reach.q27 (R : Value → World → Prop) (k20 : Nat) : Exit → Act → World → Prop := (thicketref13_Reach.q23 R k20)
def thicketref13_Reach.q28 (R : Value → World → Prop) (k20 : Nat) : Exit → Act → World → Prop := Exit.then (startN none (codeN Go.Proofs.Tryd.prog (sub (codeOf Go.Proofs.Tryd.f12) [1, 1, 1, 1, 1, 0, 1, 0, 0, 1, 1, 1]) (nsub thicketref13_Reach.an [1, 1, 1, 1, 1, 0, 1, 0, 0, 1, 1, 1]) (thicketref13_Reach.q27 R k20))) (thicketref13_Reach.q27 R k20)
def thicketref13_Reach.q29 (R : Value → World → Prop) (k20 : Nat) : Exit → Act → World → Prop := Exit.inBlock 1 (thicketref13_Reach.q28 R k20)
def thicketref13_Reach.q31 (R : Value → World → Prop) (k20 : Nat) : Exit → Act → World → Prop := (thicketref13_Reach.q29 R k20)
def thicketref13_Reach.q33 (R : Value → World → Prop) (k20 : Nat) : Exit → Act → World → Prop := (thicketref13_Reach.q31 R k20)
def thicketref13_Reach.q34 (R : Value → World → Prop) (k20 : Nat) : Exit → Act → World → Prop := Exit.inBlock 2 (thicketref13_Reach.q33 R k20)
def thicketref13_Reach.rl34 (R : Value → World → Prop) (k20 : Nat) (k : Nat) (a10 : Option Addr) (n10 : Nat) (c10 : Nat) (p13 : Option Addr) (x14 : Int) (a34 : Option Addr) (n34 : Nat) (c34 : Nat) (x35 : Int) (x36 : Int) (w : World) : Prop := loopN [10, 13, 14, 34, 35, 36] (codeN Go.Proofs.Tryd.prog (sub (codeOf Go.Proofs.Tryd.f12) [1, 1, 1, 1, 1, 0, 1, 0, 0, 1, 1, 0, 0, 1, 1, 0, 0]) (nsub thicketref13_Reach.an [1, 1, 1, 1, 1, 0, 1, 0, 0, 1, 1, 0, 0, 1, 1, 0, 0])) (thicketref13_Reach.q34 R k20) k ⟨#[undef, undef, undef, undef, undef, undef, undef, undef, undef, undef, .slice a10 n10 c10, undef, undef, .pointer p13, .int .i64 x14, undef, undef, undef, undef, undef, undef, undef, undef, undef, undef, undef, undef, undef, undef, undef, undef, undef, undef, undef, .slice a34 n34 c34, .int .i64 x35, .int .i64 x36, undef, undef, undef, undef, undef, undef, undef, undef, undef, undef, undef, undef, undef, undef, undef, undef, undef, undef, undef], []⟩ w
def thicketref13_Reach.re34 (R : Value → World → Prop) (k20 : Nat) (a10 : Option Addr) (n10 : Nat) (c10 : Nat) (p13 : Option Addr) (x14 : Int) (a34 : Option Addr) (n34 : Nat) (c34 : Nat) (x35 : Int) (x36 : Int) (w : World) : Prop := ∃ k, thicketref13_Reach.rl34 R k20 k a10 n10 c10 p13 x14 a34 n34 c34 x35 x36 w
def thicketref13_Reach.l34 (R : Value → World → Prop) (b20 : (Option Addr) → Nat → Nat → (Option Addr) → Nat → Nat → Int → Int → World → Prop) : Nat → (Option Addr) → Nat → Nat → (Option Addr) → Int → (Option Addr) → Nat → Nat → Int → Int → World → Prop
  | 0, _, _, _, _, _, _, _, _, _, _, _ => False
  | k + 1, a10, n10, c10, p13, x14, a34, n34, c34, x35, x36, w => thicketref13_Reach.g34 R b20 (thicketref13_Reach.l34 R b20 k) a10 n10 c10 p13 x14 a34 n34 c34 x35 x36 w
def thicketref13_Reach.e34 (R : Value → World → Prop) (b20 : (Option Addr) → Nat → Nat → (Option Addr) → Nat → Nat → Int → Int → World → Prop) (a10 : Option Addr) (n10 : Nat) (c10 : Nat) (p13 : Option Addr) (x14 : Int) (a34 : Option Addr) (n34 : Nat) (c34 : Nat) (x35 : Int) (x36 : Int) (w : World) : Prop := ∃ k, thicketref13_Reach.l34 R b20 k a10 n10 c10 p13 x14 a34 n34 c34 x35 x36 w
theorem thicketref13_Reach.s34 (R : Value → World → Prop) (k20 : Nat) (k : Nat) (a10 : Option Addr) (n10 : Nat) (c10 : Nat) (p13 : Option Addr) (x14 : Int) (a34 : Option Addr) (n34 : Nat) (c34 : Nat) (x35 : Int) (x36 : Int) (w : World) : thicketref13_Reach.rl34 R k20 (k + 1) a10 n10 c10 p13 x14 a34 n34 c34 x35 x36 w = ∀ _ : Nat → Value, thicketref13_Reach.g34 R (thicketref13_Reach.rl20 R k20) (thicketref13_Reach.rl34 R k20 k) a10 n10 c10 p13 x14 a34 n34 c34 x35 x36 w := by kernel_rfl
theorem thicketref13_Reach.lq34 (R : Value → World → Prop) (k20 : Nat) (b20 : (Option Addr) → Nat → Nat → (Option Addr) → Nat → Nat → Int → Int → World → Prop) (hb20 : b20 = thicketref13_Reach.rl20 R k20) : ∀ k, thicketref13_Reach.l34 R b20 k = thicketref13_Reach.rl34 R k20 k
  | 0 => by funext a10 n10 c10 p13 x14 a34 n34 c34 x35 x36 w; first | rfl | kernel_rfl
  | k + 1 => by
    funext a10 n10 c10 p13 x14 a34 n34 c34 x35 x36 w
    rw [thicketref13_Reach.s34, forall_const]
    unfold thicketref13_Reach.l34
    have ih := thicketref13_Reach.lq34 R k20 b20 hb20 k
    subst hb20
    rw [ih]
    all_goals rfl
theorem thicketref13_Reach.eq34 (R : Value → World → Prop) (k20 : Nat) (b20 : (Option Addr) → Nat → Nat → (Option Addr) → Nat → Nat → Int → Int → World → Prop) (hb20 : b20 = thicketref13_Reach.rl20 R k20) : thicketref13_Reach.e34 R b20 = thicketref13_Reach.re34 R k20 := by
  funext a10 n10 c10 p13 x14 a34 n34 c34 x35 x36 w
  unfold thicketref13_Reach.e34 thicketref13_Reach.re34
  simp only [thicketref13_Reach.lq34 R k20 b20 hb20]
def thicketref13_Reach.l20 (R : Value → World → Prop) : Nat → (Option Addr) → Nat → Nat → (Option Addr) → Nat → Nat → Int → Int → World → Prop
  | 0, _, _, _, _, _, _, _, _, _ => False
  | k + 1, a10, n10, c10, a34, n34, c34, x35, x36, w => thicketref13_Reach.g20 R (thicketref13_Reach.e34 R (thicketref13_Reach.l20 R k)) a10 n10 c10 a34 n34 c34 x35 x36 w
def thicketref13_Reach.e20 (R : Value → World → Prop) (a10 : Option Addr) (n10 : Nat) (c10 : Nat) (a34 : Option Addr) (n34 : Nat) (c34 : Nat) (x35 : Int) (x36 : Int) (w : World) : Prop := ∃ k, thicketref13_Reach.l20 R k a10 n10 c10 a34 n34 c34 x35 x36 w
theorem thicketref13_Reach.s20 (R : Value → World → Prop) (k : Nat) (a10 : Option Addr) (n10 : Nat) (c10 : Nat) (a34 : Option Addr) (n34 : Nat) (c34 : Nat) (x35 : Int) (x36 : Int) (w : World) : thicketref13_Reach.rl20 R (k + 1) a10 n10 c10 a34 n34 c34 x35 x36 w = ∀ _ : Nat → Value, thicketref13_Reach.g20 R (thicketref13_Reach.re34 R k) a10 n10 c10 a34 n34 c34 x35 x36 w := by kernel_rfl
theorem thicketref13_Reach.lq20 (R : Value → World → Prop) : ∀ k, thicketref13_Reach.l20 R k = thicketref13_Reach.rl20 R k
  | 0 => by funext a10 n10 c10 a34 n34 c34 x35 x36 w; first | rfl | kernel_rfl
  | k + 1 => by
    funext a10 n10 c10 a34 n34 c34 x35 x36 w
    rw [thicketref13_Reach.s20, forall_const]
    unfold thicketref13_Reach.l20
    have ih := thicketref13_Reach.lq20 R k
    rw [thicketref13_Reach.eq34 R k _ ih]
    all_goals rfl
theorem thicketref13_Reach.eq20 (R : Value → World → Prop) : thicketref13_Reach.e20 R = thicketref13_Reach.re20 R := by
  funext a10 n10 c10 a34 n34 c34 x35 x36 w
  unfold thicketref13_Reach.e20 thicketref13_Reach.re20
  simp only [thicketref13_Reach.lq20 R]
def thicketref13_Reach (R : Value → World → Prop) (x0_0 : Int) (a0_1 : Option Addr) (n0_1 : Nat) (c0_1 : Nat) (a1 : Option Addr) (n1 : Nat) (c1 : Nat) (w : World) : Prop := thicketref13_Reach.g0 R (thicketref13_Reach.e20 R) x0_0 a0_1 n0_1 c0_1 a1 n1 c1 w
theorem thicketref13_Reach.root0 (R : Value → World → Prop) (x0_0 : Int) (a0_1 : Option Addr) (n0_1 : Nat) (c0_1 : Nat) (a1 : Option Addr) (n1 : Nat) (c1 : Nat) (w : World) : fnN Go.Proofs.Tryd.prog Go.Proofs.Tryd.f12 thicketref13_Reach.an #[.agg #[.int .i64 x0_0, .slice a0_1 n0_1 c0_1], .slice a1 n1 c1] w R = thicketref13_Reach.g0 R (thicketref13_Reach.re20 R) x0_0 a0_1 n0_1 c0_1 a1 n1 c1 w := by kernel_rfl
theorem thicketref13_Reach.calls {R : Value → World → Prop} {x0_0 : Int} {a0_1 : Option Addr} {n0_1 : Nat} {c0_1 : Nat} {a1 : Option Addr} {n1 : Nat} {c1 : Nat} {w : World} (h : thicketref13_Reach R x0_0 a0_1 n0_1 c0_1 a1 n1 c1 w) : Go.E.CallsD Go.Proofs.Tryd.prog 12 #[.agg #[.int .i64 x0_0, .slice a0_1 n0_1 c0_1], .slice a1 n1 c1] w R := by
  refine callsD_of (n := thicketref13_Reach.an) M_follows M_sizes Go.Proofs.Tryd.func12 (by rfl) ?_
  rw [thicketref13_Reach.root0]
  unfold thicketref13_Reach at h
  rw [thicketref13_Reach.eq20 R] at h
  exact h
-- thicket/masks.Exit
def masks_Exit.an : An := An.nil
def masks_Exit.g0 (R : Value → World → Prop) (x0_0 : Int) (a0_1 : Option Addr) (n0_1 : Nat) (c0_1 : Nat) (a1 : Option Addr) (n1 : Nat) (c1 : Nat) (w : World) : Prop :=
 nw (w.alloc (.cells #[.int .i64 x0_0, .slice a0_1 n0_1 c0_1] 24)) fun w20 =>
 ∃ yx_21 : Int, w20.cell? ((na w).add 0) = some (.int .i64 yx_21) ∧
 (∃ ya_22 : Option Addr, ∃ yn_22 : Nat, ∃ yc_22 : Nat, w20.cell? ((na w).add 1) = some (.slice ya_22 yn_22 yc_22) ∧
 (Go.E.CallsD Go.Proofs.Tryd.prog 11 #[.agg #[.int .i64 yx_21, .slice ya_22 yn_22 yc_22], .slice a1 n1 c1] w20 fun yv23 u24 =>
 ∃ ya_25_0 : Option Addr, ∃ yn_25_0 : Nat, ∃ yc_25_0 : Nat, ∃ yx_25_1 : Int, yv23 = .tuple #[.slice ya_25_0 yn_25_0 yc_25_0, .int .i64 yx_25_1] ∧
 (onBool (yx_25_1 != 0)
 (R (.tuple #[.int .i64 0, .int .i64 0, .int .i64 yx_25_1]) u24)
 (∃ yx_26 : Int, u24.cell? ((na w).add 0) = some (.int .i64 yx_26) ∧
 (∃ ya_27 : Option Addr, ∃ yn_27 : Nat, ∃ yc_27 : Nat, u24.cell? ((na w).add 1) = some (.slice ya_27 yn_27 yc_27) ∧
 (Go.E.CallsD Go.Proofs.Tryd.prog 19 #[.agg #[.int .i64 yx_26, .slice ya_27 yn_27 yc_27]] u24 fun yv28 u29 =>
 ∃ ya_30_0 : Option Addr, ∃ yn_30_0 : Nat, ∃ yc_30_0 : Nat, ∃ yx_30_1 : Int, yv28 = .tuple #[.slice ya_30_0 yn_30_0 yc_30_0, .int .i64 yx_30_1] ∧
 (Go.E.CallsD Go.Proofs.Tryd.prog 41 #[.slice ya_25_0 yn_25_0 yc_25_0] u29 fun yv31 u32 =>
 ∃ yx_33 : Int, yv31 = .int .i64 yx_33 ∧
 (∃ ya_34 : Option Addr, ∃ yn_34 : Nat, ∃ yc_34 : Nat, u32.cell? ((na w).add 1) = some (.slice ya_34 yn_34 yc_34) ∧
 (optN ya_30_0 fun q35 =>
 chk ((0 : Int) ≤ yx_33 ∧ yx_33 < (yn_30_0 : Int))
 (∃ yx_36 : Int, u32.cell? (q35.add (yx_33.toNat * 1)) = some (.int .i64 yx_36) ∧
 (optN ya_34 fun q37 =>
 chk ((0 : Int) ≤ yx_36 ∧ yx_36 < (yn_34 : Int))
 (∃ yx_38 : Int, u32.cell? ((q37.add (yx_36.toNat * 8)).add 1) = some (.int .i64 yx_38) ∧
 (R (.tuple #[.int .i64 yx_33, .int .i64 yx_38, .int .i64 0]) u32)))))))))))))
def masks_Exit (R : Value → World → Prop) (x0_0 : Int) (a0_1 : Option Addr) (n0_1 : Nat) (c0_1 : Nat) (a1 : Option Addr) (n1 : Nat) (c1 : Nat) (w : World) : Prop := masks_Exit.g0 R x0_0 a0_1 n0_1 c0_1 a1 n1 c1 w
theorem masks_Exit.root0 (R : Value → World → Prop) (x0_0 : Int) (a0_1 : Option Addr) (n0_1 : Nat) (c0_1 : Nat) (a1 : Option Addr) (n1 : Nat) (c1 : Nat) (w : World) : fnN Go.Proofs.Tryd.prog Go.Proofs.Tryd.f13 masks_Exit.an #[.agg #[.int .i64 x0_0, .slice a0_1 n0_1 c0_1], .slice a1 n1 c1] w R = masks_Exit.g0 R x0_0 a0_1 n0_1 c0_1 a1 n1 c1 w := by kernel_rfl
theorem masks_Exit.calls {R : Value → World → Prop} {x0_0 : Int} {a0_1 : Option Addr} {n0_1 : Nat} {c0_1 : Nat} {a1 : Option Addr} {n1 : Nat} {c1 : Nat} {w : World} (h : masks_Exit R x0_0 a0_1 n0_1 c0_1 a1 n1 c1 w) : Go.E.CallsD Go.Proofs.Tryd.prog 13 #[.agg #[.int .i64 x0_0, .slice a0_1 n0_1 c0_1], .slice a1 n1 c1] w R := by
  refine callsD_of (n := masks_Exit.an) M_follows M_sizes Go.Proofs.Tryd.func13 (by rfl) ?_
  rw [masks_Exit.root0]
  unfold masks_Exit at h
  exact h
-- thicket/thicketref13.Exit
def thicketref13_Exit.an : An := An.nil
def thicketref13_Exit.g0 (R : Value → World → Prop) (x0_0 : Int) (a0_1 : Option Addr) (n0_1 : Nat) (c0_1 : Nat) (a1 : Option Addr) (n1 : Nat) (c1 : Nat) (w : World) : Prop :=
 nw (w.alloc (.cells #[.int .i64 x0_0, .slice a0_1 n0_1 c0_1] 24)) fun w20 =>
 ∃ yx_21 : Int, w20.cell? ((na w).add 0) = some (.int .i64 yx_21) ∧
 (∃ ya_22 : Option Addr, ∃ yn_22 : Nat, ∃ yc_22 : Nat, w20.cell? ((na w).add 1) = some (.slice ya_22 yn_22 yc_22) ∧
 (Go.E.CallsD Go.Proofs.Tryd.prog 12 #[.agg #[.int .i64 yx_21, .slice ya_22 yn_22 yc_22], .slice a1 n1 c1] w20 fun yv23 u24 =>
 ∃ ya_25_0 : Option Addr, ∃ yn_25_0 : Nat, ∃ yc_25_0 : Nat, ∃ yx_25_1 : Int, yv23 = .tuple #[.slice ya_25_0 yn_25_0 yc_25_0, .int .i64 yx_25_1] ∧
 (onBool (yx_25_1 != 0)
 (R (.tuple #[.int .i64 0, .int .i64 0, .int .i64 yx_25_1]) u24)
 (∃ yx_26 : Int, u24.cell? ((na w).add 0) = some (.int .i64 yx_26) ∧
 (∃ ya_27 : Option Addr, ∃ yn_27 : Nat, ∃ yc_27 : Nat, u24.cell? ((na w).add 1) = some (.slice ya_27 yn_27 yc_27) ∧
 (Go.E.CallsD Go.Proofs.Tryd.prog 42 #[.agg #[.int .i64 yx_26, .slice ya_27 yn_27 yc_27]] u24 fun yv28 u29 =>
 ∃ ya_30_0 : Option Addr, ∃ yn_30_0 : Nat, ∃ yc_30_0 : Nat, ∃ yx_30_1 : Int, yv28 = .tuple #[.slice ya_30_0 yn_30_0 yc_30_0, .int .i64 yx_30_1] ∧
 (Go.E.CallsD Go.Proofs.Tryd.prog 43 #[.slice ya_25_0 yn_25_0 yc_25_0] u29 fun yv31 u32 =>
 ∃ yx_33 : Int, yv31 = .int .i64 yx_33 ∧
 (∃ ya_34 : Option Addr, ∃ yn_34 : Nat, ∃ yc_34 : Nat, u32.cell? ((na w).add 1) = some (.slice ya_34 yn_34 yc_34) ∧
 (optN ya_30_0 fun q35 =>
 chk ((0 : Int) ≤ yx_33 ∧ yx_33 < (yn_30_0 : Int))
 (∃ yx_36 : Int, u32.cell? (q35.add (yx_33.toNat * 1)) = some (.int .i64 yx_36) ∧
 (optN ya_34 fun q37 =>
 chk ((0 : Int) ≤ yx_36 ∧ yx_36 < (yn_34 : Int))
 (∃ yx_38 : Int, u32.cell? ((q37.add (yx_36.toNat * 8)).add 1) = some (.int .i64 yx_38) ∧
 (R (.tuple #[.int .i64 yx_33, .int .i64 yx_38, .int .i64 0]) u32)))))))))))))
def thicketref13_Exit (R : Value → World → Prop) (x0_0 : Int) (a0_1 : Option Addr) (n0_1 : Nat) (c0_1 : Nat) (a1 : Option Addr) (n1 : Nat) (c1 : Nat) (w : World) : Prop := thicketref13_Exit.g0 R x0_0 a0_1 n0_1 c0_1 a1 n1 c1 w
theorem thicketref13_Exit.root0 (R : Value → World → Prop) (x0_0 : Int) (a0_1 : Option Addr) (n0_1 : Nat) (c0_1 : Nat) (a1 : Option Addr) (n1 : Nat) (c1 : Nat) (w : World) : fnN Go.Proofs.Tryd.prog Go.Proofs.Tryd.f14 thicketref13_Exit.an #[.agg #[.int .i64 x0_0, .slice a0_1 n0_1 c0_1], .slice a1 n1 c1] w R = thicketref13_Exit.g0 R x0_0 a0_1 n0_1 c0_1 a1 n1 c1 w := by kernel_rfl
theorem thicketref13_Exit.calls {R : Value → World → Prop} {x0_0 : Int} {a0_1 : Option Addr} {n0_1 : Nat} {c0_1 : Nat} {a1 : Option Addr} {n1 : Nat} {c1 : Nat} {w : World} (h : thicketref13_Exit R x0_0 a0_1 n0_1 c0_1 a1 n1 c1 w) : Go.E.CallsD Go.Proofs.Tryd.prog 14 #[.agg #[.int .i64 x0_0, .slice a0_1 n0_1 c0_1], .slice a1 n1 c1] w R := by
  refine callsD_of (n := thicketref13_Exit.an) M_follows M_sizes Go.Proofs.Tryd.func14 (by rfl) ?_
  rw [thicketref13_Exit.root0]
  unfold thicketref13_Exit at h
  exact h
-- thicket/thicketlaw13.lives
def thicketlaw13_lives.an : An := An.nil
def thicketlaw13_lives.g0 (R : Value → World → Prop) (w : World) : Prop :=
 nw (w.alloc (.cells #[.int .i64 1, .int .i64 3] 3)) fun w29 =>
 nw (w29.alloc (.cells #[.int .u8 2, .int .i64 0, .int .i64 1, .float .f64 4602678819172646912, .slice none 0 0, .int .u8 2, .int .i64 2, .int .i64 1, .int .u8 1, .int .i64 30, .int .i64 0, .float .f64 0, .slice none 0 0, .int .u8 0, .int .i64 0, .int .i64 0, .int .u8 3, .int .i64 0, .int .i64 0, .float .f64 0, .slice (some (na w)) 2 2, .int .u8 1, .int .i64 3, .int .i64 4, .int .u8 1, .int .i64 10, .int .i64 0, .float .f64 0, .slice none 0 0, .int .u8 0, .int .i64 0, .int .i64 0, .int .u8 1, .int .i64 20, .int .i64 0, .float .f64 0, .slice none 0 0, .int .u8 0, .int .i64 0, .int .i64 0] 49)) fun w30 =>
 nw (w30.alloc (.cells #[.int .i64 0, .slice none 0 0] 24)) fun w31 =>
 okSt w31 ((na w30).add 0) ∧
 (nw (w31.setCell ((na w30).add 0) (.int .i64 0)) fun w32 =>
 okSt w32 ((na w30).add 1) ∧
 (nw (w32.setCell ((na w30).add 1) (.slice (some (na w29)) 5 5)) fun w33 =>
 ∃ yx_34 : Int, w33.cell? ((na w30).add 0) = some (.int .i64 yx_34) ∧
 (∃ ya_35 : Option Addr, ∃ yn_35 : Nat, ∃ yc_35 : Nat, w33.cell? ((na w30).add 1) = some (.slice ya_35 yn_35 yc_35) ∧
 (Go.E.CallsD Go.Proofs.Tryd.prog 18 #[.agg #[.int .i64 yx_34, .slice ya_35 yn_35 yc_35]] w33 fun yv36 u37 =>
 ∃ ya_38_0 : Option Addr, ∃ yn_38_0 : Nat, ∃ yc_38_0 : Nat, ∃ yx_38_1 : Int, yv36 = .tuple #[.slice ya_38_0 yn_38_0 yc_38_0, .int .i64 yx_38_1] ∧
 (∃ yx_39 : Int, u37.cell? ((na w30).add 0) = some (.int .i64 yx_39) ∧
 (∃ ya_40 : Option Addr, ∃ yn_40 : Nat, ∃ yc_40 : Nat, u37.cell? ((na w30).add 1) = some (.slice ya_40 yn_40 yc_40) ∧
 (nw (u37.alloc (.cells #[.float .f64 4611686018427387904, .float .f64 4603579539098121011] 46)) fun w41 =>
 Go.E.CallsD Go.Proofs.Tryd.prog 13 #[.agg #[.int .i64 yx_39, .slice ya_40 yn_40 yc_40], .slice (some (na u37)) 2 2] w41 fun yv42 u43 =>
 ∃ yx_44_0 : Int, ∃ yx_44_1 : Int, ∃ yx_44_2 : Int, yv42 = .tuple #[.int .i64 yx_44_0, .int .i64 yx_44_1, .int .i64 yx_44_2] ∧
 (∃ yx_45 : Int, u43.cell? ((na w30).add 0) = some (.int .i64 yx_45) ∧
 (∃ ya_46 : Option Addr, ∃ yn_46 : Nat, ∃ yc_46 : Nat, u43.cell? ((na w30).add 1) = some (.slice ya_46 yn_46 yc_46) ∧
 (nw (u43.alloc (.cells #[.float .f64 4611686018427387904, .float .f64 0] 46)) fun w47 =>
 Go.E.CallsD Go.Proofs.Tryd.prog 11 #[.agg #[.int .i64 yx_45, .slice ya_46 yn_46 yc_46], .slice (some (na u43)) 2 2] w47 fun yv48 u49 =>
 ∃ ya_50_0 : Option Addr, ∃ yn_50_0 : Nat, ∃ yc_50_0 : Nat, ∃ yx_50_1 : Int, yv48 = .tuple #[.slice ya_50_0 yn_50_0 yc_50_0, .int .i64 yx_50_1] ∧
 (onBool (yx_38_1 == 0)
 (nw (u49.alloc (.cells #[.int .i64 0, .int .i64 0, .int .i64 2, .int .i64 2, .int .i64 0, .int .i64 1] 44)) fun w51 =>
 Go.E.CallsD Go.Proofs.Tryd.prog 16 #[.slice ya_38_0 yn_38_0 yc_38_0, .slice (some (na u49)) 2 2] w51 fun yv52 u53 =>
 ∃ yb_54 : Bool, yv52 = .bool yb_54 ∧
 (onBool yb_54
 (onBool (yx_44_2 == 0)
 (onBool (yx_44_0 == 2)
 (onBool (yx_44_1 == 30)
 (onBool (yx_50_1 == 0)
 (onBool ((yn_50_0 : Int) == 1)
 (optN ya_50_0 fun q55 =>
 chk ((0 : Int) ≤ 0 ∧ 0 < (yn_50_0 : Int))
 (∃ yx_56 : Int, u53.cell? (q55.add 0) = some (.int .u64 yx_56) ∧
 (R (.bool (yx_56 == 6)) u53)))
 (R (.bool false) u53))
 (R (.bool false) u53))
 (R (.bool false) u53))
 (R (.bool false) u53))
 (R (.bool false) u53))
 (R (.bool false) u53)))
 (R (.bool false) u49))))))))))))
def thicketlaw13_lives (R : Value → World → Prop) (w : World) : Prop := thicketlaw13_lives.g0 R  w
theorem thicketlaw13_lives.root0 (R : Value → World → Prop) (w : World) : fnN Go.Proofs.Tryd.prog Go.Proofs.Tryd.f15 thicketlaw13_lives.an #[] w R = thicketlaw13_lives.g0 R  w := by kernel_rfl
theorem thicketlaw13_lives.calls {R : Value → World → Prop} {w : World} (h : thicketlaw13_lives R  w) : Go.E.CallsD Go.Proofs.Tryd.prog 15 #[] w R := by
  refine callsD_of (n := thicketlaw13_lives.an) M_follows M_sizes Go.Proofs.Tryd.func15 (by rfl) ?_
  rw [thicketlaw13_lives.root0]
  unfold thicketlaw13_lives at h
  exact h
-- thicket/thicketref13.Same
def thicketref13_Same.an : An := (.mk none .nil (.mk none .nil (.mk none (.mk none .nil (.mk none (.mk (some [0, 1, 12, 13]) .nil .nil) .nil)) .nil)))
def thicketref13_Same.g0 (R : Value → World → Prop) (e14 : (Option Addr) → Nat → Nat → (Option Addr) → Nat → Nat → Int → Int → World → Prop) (a0 : Option Addr) (n0 : Nat) (c0 : Nat) (a1 : Option Addr) (n1 : Nat) (c1 : Nat) (w : World) : Prop :=
 onBool ((n0 : Int) != (n1 : Int))
 (R (.bool false) w)
 (e14 a0 n0 c0 a1 n1 c1 (n0 : Int) 0 w)
def thicketref13_Same.g14 (R : Value → World → Prop) (b14 : (Option Addr) → Nat → Nat → (Option Addr) → Nat → Nat → Int → Int → World → Prop) (a0 : Option Addr) (n0 : Nat) (c0 : Nat) (a1 : Option Addr) (n1 : Nat) (c1 : Nat) (x12 : Int) (x13 : Int) (w : World) : Prop :=
 onBool (decide (x13 < x12))
 (optN a0 fun q11 =>
 chk ((0 : Int) ≤ x13 ∧ x13 < (n0 : Int))
 (∃ yx_12 : Int, w.cell? ((q11.add (x13.toNat * 3)).add 0) = some (.int .i64 yx_12) ∧
 (∃ yx_13 : Int, w.cell? ((q11.add (x13.toNat * 3)).add 1) = some (.int .i64 yx_13) ∧
 (∃ yx_14 : Int, w.cell? ((q11.add (x13.toNat * 3)).add 2) = some (.int .i64 yx_14) ∧
 (optN a1 fun q15 =>
 chk ((0 : Int) ≤ x13 ∧ x13 < (n1 : Int))
 (∃ yx_16 : Int, w.cell? ((q15.add (x13.toNat * 3)).add 0) = some (.int .i64 yx_16) ∧
 (∃ yx_17 : Int, w.cell? ((q15.add (x13.toNat * 3)).add 1) = some (.int .i64 yx_17) ∧
 (∃ yx_18 : Int, w.cell? ((q15.add (x13.toNat * 3)).add 2) = some (.int .i64 yx_18) ∧
 (∃ eb19 : Bool, (∀ w, (Op.equal 44 (.agg #[.int .i64 yx_12, .int .i64 yx_13, .int .i64 yx_14]) (.agg #[.int .i64 yx_16, .int .i64 yx_17, .int .i64 yx_18])).run Go.Proofs.Tryd.prog w = .ok eb19 w) ∧
 (onBool (!eb19)
 (R (.bool false) w)
 (nv (IntKind.i64.wrap (x13 + 1)) fun t20 =>
 b14 a0 n0 c0 a1 n1 c1 x12 t20 w)))))))))))
 (R (.bool true) w)
def thicketref13_Same.q2 (R : Value → World → Prop) : Exit → Act → World → Prop := (fin Go.Proofs.Tryd.prog Go.Proofs.Tryd.f16 R)
def thicketref13_Same.q10 (R : Value → World → Prop) : Exit → Act → World → Prop := (thicketref13_Same.q2 R)
def thicketref13_Same.q11 (R : Value → World → Prop) : Exit → Act → World → Prop := Exit.then (startN none (codeN Go.Proofs.Tryd.prog (sub (codeOf Go.Proofs.Tryd.f16) [1, 1, 1]) (nsub thicketref13_Same.an [1, 1, 1]) (thicketref13_Same.q10 R))) (thicketref13_Same.q10 R)
def thicketref13_Same.q13 (R : Value → World → Prop) : Exit → Act → World → Prop := (thicketref13_Same.q11 R)
def thicketref13_Same.q14 (R : Value → World → Prop) : Exit → Act → World → Prop := Exit.inBlock 0 (thicketref13_Same.q13 R)
def thicketref13_Same.rl14 (R : Value → World → Prop) (k : Nat) (a0 : Option Addr) (n0 : Nat) (c0 : Nat) (a1 : Option Addr) (n1 : Nat) (c1 : Nat) (x12 : Int) (x13 : Int) (w : World) : Prop := loopN [0, 1, 12, 13] (codeN Go.Proofs.Tryd.prog (sub (codeOf Go.Proofs.Tryd.f16) [1, 1, 0, 1, 0, 0]) (nsub thicketref13_Same.an [1, 1, 0, 1, 0, 0])) (thicketref13_Same.q14 R) k ⟨#[.slice a0 n0 c0, .slice a1 n1 c1, undef, undef, undef, undef, undef, undef, undef, undef, undef, undef, .int .i64 x12, .int .i64 x13, undef, undef, undef, undef, undef, undef, undef, undef, undef, undef, undef, undef], []⟩ w
def thicketref13_Same.re14 (R : Value → World → Prop) (a0 : Option Addr) (n0 : Nat) (c0 : Nat) (a1 : Option Addr) (n1 : Nat) (c1 : Nat) (x12 : Int) (x13 : Int) (w : World) : Prop := ∃ k, thicketref13_Same.rl14 R k a0 n0 c0 a1 n1 c1 x12 x13 w
def thicketref13_Same.l14 (R : Value → World → Prop) : Nat → (Option Addr) → Nat → Nat → (Option Addr) → Nat → Nat → Int → Int → World → Prop
  | 0, _, _, _, _, _, _, _, _, _ => False
  | k + 1, a0, n0, c0, a1, n1, c1, x12, x13, w => thicketref13_Same.g14 R (thicketref13_Same.l14 R k) a0 n0 c0 a1 n1 c1 x12 x13 w
def thicketref13_Same.e14 (R : Value → World → Prop) (a0 : Option Addr) (n0 : Nat) (c0 : Nat) (a1 : Option Addr) (n1 : Nat) (c1 : Nat) (x12 : Int) (x13 : Int) (w : World) : Prop := ∃ k, thicketref13_Same.l14 R k a0 n0 c0 a1 n1 c1 x12 x13 w
theorem thicketref13_Same.s14 (R : Value → World → Prop) (k : Nat) (a0 : Option Addr) (n0 : Nat) (c0 : Nat) (a1 : Option Addr) (n1 : Nat) (c1 : Nat) (x12 : Int) (x13 : Int) (w : World) : thicketref13_Same.rl14 R (k + 1) a0 n0 c0 a1 n1 c1 x12 x13 w = ∀ _ : Nat → Value, thicketref13_Same.g14 R (thicketref13_Same.rl14 R k) a0 n0 c0 a1 n1 c1 x12 x13 w := by kernel_rfl
theorem thicketref13_Same.lq14 (R : Value → World → Prop) : ∀ k, thicketref13_Same.l14 R k = thicketref13_Same.rl14 R k
  | 0 => by funext a0 n0 c0 a1 n1 c1 x12 x13 w; first | rfl | kernel_rfl
  | k + 1 => by
    funext a0 n0 c0 a1 n1 c1 x12 x13 w
    rw [thicketref13_Same.s14, forall_const]
    unfold thicketref13_Same.l14
    have ih := thicketref13_Same.lq14 R k
    rw [ih]
    all_goals rfl
theorem thicketref13_Same.eq14 (R : Value → World → Prop) : thicketref13_Same.e14 R = thicketref13_Same.re14 R := by
  funext a0 n0 c0 a1 n1 c1 x12 x13 w
  unfold thicketref13_Same.e14 thicketref13_Same.re14
  simp only [thicketref13_Same.lq14 R]
def thicketref13_Same (R : Value → World → Prop) (a0 : Option Addr) (n0 : Nat) (c0 : Nat) (a1 : Option Addr) (n1 : Nat) (c1 : Nat) (w : World) : Prop := thicketref13_Same.g0 R (thicketref13_Same.e14 R) a0 n0 c0 a1 n1 c1 w
theorem thicketref13_Same.root0 (R : Value → World → Prop) (a0 : Option Addr) (n0 : Nat) (c0 : Nat) (a1 : Option Addr) (n1 : Nat) (c1 : Nat) (w : World) : fnN Go.Proofs.Tryd.prog Go.Proofs.Tryd.f16 thicketref13_Same.an #[.slice a0 n0 c0, .slice a1 n1 c1] w R = thicketref13_Same.g0 R (thicketref13_Same.re14 R) a0 n0 c0 a1 n1 c1 w := by kernel_rfl
theorem thicketref13_Same.calls {R : Value → World → Prop} {a0 : Option Addr} {n0 : Nat} {c0 : Nat} {a1 : Option Addr} {n1 : Nat} {c1 : Nat} {w : World} (h : thicketref13_Same R a0 n0 c0 a1 n1 c1 w) : Go.E.CallsD Go.Proofs.Tryd.prog 16 #[.slice a0 n0 c0, .slice a1 n1 c1] w R := by
  refine callsD_of (n := thicketref13_Same.an) M_follows M_sizes Go.Proofs.Tryd.func16 (by rfl) ?_
  rw [thicketref13_Same.root0]
  unfold thicketref13_Same at h
  rw [thicketref13_Same.eq14 R] at h
  exact h
end Go.Mir
