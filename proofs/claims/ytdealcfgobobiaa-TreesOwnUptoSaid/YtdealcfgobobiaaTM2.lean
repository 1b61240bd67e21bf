/- Part of a proof of laws of the seat Ytdealcfgobobiaa: functions' weakest preconditions, each checked by the kernel, contracts out of them, plain lemmas; no conditions. -/
import Derived.Test.YtdealcfgobobiaaTM0
set_option linter.unusedVariables false
set_option linter.unusedSimpArgs false
set_option linter.unusedVariables false
set_option maxRecDepth 100000
namespace Go.Mir
open Go Go.E Go.RowKit
-- thicket/thicketref07.Ints
def thicketref07_Ints.an : An := (.mk none .nil (.mk none .nil (.mk none (.mk none .nil (.mk none (.mk (some [0, 1, 12, 13]) .nil .nil) .nil)) .nil)))
def thicketref07_Ints.g0 (R : Value → World → Prop) (e14 : (Option Addr) → Nat → Nat → (Option Addr) → Nat → Nat → Int → Int → World → Prop) (a0 : Option Addr) (n0 : Nat) (c0 : Nat) (a1 : Option Addr) (n1 : Nat) (c1 : Nat) (w : World) : Prop :=
 onBool ((n0 : Int) != (n1 : Int))
 (R (.bool false) w)
 (e14 a0 n0 c0 a1 n1 c1 (n0 : Int) 0 w)
def thicketref07_Ints.g14 (R : Value → World → Prop) (b14 : (Option Addr) → Nat → Nat → (Option Addr) → Nat → Nat → Int → Int → World → Prop) (a0 : Option Addr) (n0 : Nat) (c0 : Nat) (a1 : Option Addr) (n1 : Nat) (c1 : Nat) (x12 : Int) (x13 : Int) (w : World) : Prop :=
 onBool (decide (x13 < x12))
 (optN a0 fun q6 =>
 chk ((0 : Int) ≤ x13 ∧ x13 < (n0 : Int))
 (∃ yx_7 : Int, w.cell? (q6.add (x13.toNat * 1)) = some (.int .i64 yx_7) ∧
 (optN a1 fun q8 =>
 chk ((0 : Int) ≤ x13 ∧ x13 < (n1 : Int))
 (∃ yx_9 : Int, w.cell? (q8.add (x13.toNat * 1)) = some (.int .i64 yx_9) ∧
 (onBool (yx_7 != yx_9)
 (R (.bool false) w)
 (nv (IntKind.i64.wrap (x13 + 1)) fun t10 =>
 b14 a0 n0 c0 a1 n1 c1 x12 t10 w))))))
 (R (.bool true) w)
def thicketref07_Ints.q2 (R : Value → World → Prop) : Exit → Act → World → Prop := (fin Go.Proofs.Try.prog Go.Proofs.Try.f19 R)
def thicketref07_Ints.q10 (R : Value → World → Prop) : Exit → Act → World → Prop := (thicketref07_Ints.q2 R)
def thicketref07_Ints.q11 (R : Value → World → Prop) : Exit → Act → World → Prop := Exit.then (startN none (codeN Go.Proofs.Try.prog (sub (codeOf Go.Proofs.Try.f19) [1, 1, 1]) (nsub thicketref07_Ints.an [1, 1, 1]) (thicketref07_Ints.q10 R))) (thicketref07_Ints.q10 R)
def thicketref07_Ints.q13 (R : Value → World → Prop) : Exit → Act → World → Prop := (thicketref07_Ints.q11 R)
def thicketref07_Ints.q14 (R : Value → World → Prop) : Exit → Act → World → Prop := Exit.inBlock 0 (thicketref07_Ints.q13 R)
def thicketref07_Ints.rl14 (R : Value → World → Prop) (k : Nat) (a0 : Option Addr) (n0 : Nat) (c0 : Nat) (a1 : Option Addr) (n1 : Nat) (c1 : Nat) (x12 : Int) (x13 : Int) (w : World) : Prop := loopN [0, 1, 12, 13] (codeN Go.Proofs.Try.prog (sub (codeOf Go.Proofs.Try.f19) [1, 1, 0, 1, 0, 0]) (nsub thicketref07_Ints.an [1, 1, 0, 1, 0, 0])) (thicketref07_Ints.q14 R) k ⟨#[.slice a0 n0 c0, .slice a1 n1 c1, undef, undef, undef, undef, undef, undef, undef, undef, undef, undef, .int .i64 x12, .int .i64 x13, undef, undef, undef, undef, undef, undef, undef, undef, undef, undef, undef, undef], []⟩ w
def thicketref07_Ints.re14 (R : Value → World → Prop) (a0 : Option Addr) (n0 : Nat) (c0 : Nat) (a1 : Option Addr) (n1 : Nat) (c1 : Nat) (x12 : Int) (x13 : Int) (w : World) : Prop := ∃ k, thicketref07_Ints.rl14 R k a0 n0 c0 a1 n1 c1 x12 x13 w
def thicketref07_Ints.l14 (R : Value → World → Prop) : Nat → (Option Addr) → Nat → Nat → (Option Addr) → Nat → Nat → Int → Int → World → Prop
  | 0, _, _, _, _, _, _, _, _, _ => False
  | k + 1, a0, n0, c0, a1, n1, c1, x12, x13, w => thicketref07_Ints.g14 R (thicketref07_Ints.l14 R k) a0 n0 c0 a1 n1 c1 x12 x13 w
def thicketref07_Ints.e14 (R : Value → World → Prop) (a0 : Option Addr) (n0 : Nat) (c0 : Nat) (a1 : Option Addr) (n1 : Nat) (c1 : Nat) (x12 : Int) (x13 : Int) (w : World) : Prop := ∃ k, thicketref07_Ints.l14 R k a0 n0 c0 a1 n1 c1 x12 x13 w
theorem thicketref07_Ints.s14 (R : Value → World → Prop) (k : Nat) (a0 : Option Addr) (n0 : Nat) (c0 : Nat) (a1 : Option Addr) (n1 : Nat) (c1 : Nat) (x12 : Int) (x13 : Int) (w : World) : thicketref07_Ints.rl14 R (k + 1) a0 n0 c0 a1 n1 c1 x12 x13 w = ∀ _ : Nat → Value, thicketref07_Ints.g14 R (thicketref07_Ints.rl14 R k) a0 n0 c0 a1 n1 c1 x12 x13 w := by kernel_rfl
theorem thicketref07_Ints.lq14 (R : Value → World → Prop) : ∀ k, thicketref07_Ints.l14 R k = thicketref07_Ints.rl14 R k
  | 0 => by funext a0 n0 c0 a1 n1 c1 x12 x13 w; first | rfl | kernel_rfl
  | k + 1 => by
    funext a0 n0 c0 a1 n1 c1 x12 x13 w
    rw [thicketref07_Ints.s14, forall_const]
    unfold thicketref07_Ints.l14
    have ih := thicketref07_Ints.lq14 R k
    rw [ih]
    all_goals rfl
theorem thicketref07_Ints.eq14 (R : Value → World → Prop) : thicketref07_Ints.e14 R = thicketref07_Ints.re14 R := by
  funext a0 n0 c0 a1 n1 c1 x12 x13 w
  unfold thicketref07_Ints.e14 thicketref07_Ints.re14
  simp only [thicketref07_Ints.lq14 R]
def thicketref07_Ints (R : Value → World → Prop) (a0 : Option Addr) (n0 : Nat) (c0 : Nat) (a1 : Option Addr) (n1 : Nat) (c1 : Nat) (w : World) : Prop := thicketref07_Ints.g0 R (thicketref07_Ints.e14 R) a0 n0 c0 a1 n1 c1 w
theorem thicketref07_Ints.root0 (R : Value → World → Prop) (a0 : Option Addr) (n0 : Nat) (c0 : Nat) (a1 : Option Addr) (n1 : Nat) (c1 : Nat) (w : World) : fnN Go.Proofs.Try.prog Go.Proofs.Try.f19 thicketref07_Ints.an #[.slice a0 n0 c0, .slice a1 n1 c1] w R = thicketref07_Ints.g0 R (thicketref07_Ints.re14 R) a0 n0 c0 a1 n1 c1 w := by kernel_rfl
theorem thicketref07_Ints.calls {R : Value → World → Prop} {a0 : Option Addr} {n0 : Nat} {c0 : Nat} {a1 : Option Addr} {n1 : Nat} {c1 : Nat} {w : World} (h : thicketref07_Ints R a0 n0 c0 a1 n1 c1 w) : Go.E.CallsD Go.Proofs.Try.prog 19 #[.slice a0 n0 c0, .slice a1 n1 c1] w R := by
  refine callsD_of (n := thicketref07_Ints.an) M_follows M_sizes Go.Proofs.Try.func19 (by rfl) ?_
  rw [thicketref07_Ints.root0]
  unfold thicketref07_Ints at h
  rw [thicketref07_Ints.eq14 R] at h
  exact h
-- thicket/thicketref07.Copy
def thicketref07_Copy.an : An := (.mk none .nil (.mk none .nil (.mk none .nil (.mk none .nil (.mk none .nil (.mk none .nil (.mk none .nil (.mk none (.mk none .nil (.mk none (.mk (some [2, 5, 6, 21, 22, 23]) .nil .nil) .nil)) .nil))))))))
def thicketref07_Copy.g0 (R : Value → World → Prop) (e18 : (Option Addr) → (Option Addr) → Nat → Nat → (Option Addr) → (Option Addr) → Nat → Nat → Int → Int → World → Prop) (s0_0 : ByteArray) (a0_1 : Option Addr) (n0_1 : Nat) (c0_1 : Nat) (x0_2 : Int) (a0_3 : Option Addr) (n0_3 : Nat) (c0_3 : Nat) (a0_4 : Option Addr) (n0_4 : Nat) (c0_4 : Nat) (w : World) : Prop :=
 nw (w.alloc (.cells #[.string s0_0, .slice a0_1 n0_1 c0_1, .int .i64 x0_2, .slice a0_3 n0_3 c0_3, .slice a0_4 n0_4 c0_4] 46)) fun w66 =>
 nw (w66.alloc (.cells #[.string ⟨#[]⟩, .slice none 0 0, .int .i64 0, .slice none 0 0, .slice none 0 0] 46)) fun w67 =>
 ∃ ys_68 : ByteArray, w67.cell? ((na w).add 0) = some (.string ys_68) ∧
 (∃ ya_69 : Option Addr, ∃ yn_69 : Nat, ∃ yc_69 : Nat, w67.cell? ((na w).add 1) = some (.slice ya_69 yn_69 yc_69) ∧
 (∃ yx_70 : Int, w67.cell? ((na w).add 2) = some (.int .i64 yx_70) ∧
 (∃ ya_71 : Option Addr, ∃ yn_71 : Nat, ∃ yc_71 : Nat, w67.cell? ((na w).add 3) = some (.slice ya_71 yn_71 yc_71) ∧
 (∃ ya_72 : Option Addr, ∃ yn_72 : Nat, ∃ yc_72 : Nat, w67.cell? ((na w).add 4) = some (.slice ya_72 yn_72 yc_72) ∧
 (nw (w67.alloc (.cells #[.string ⟨#[]⟩, .slice none 0 0, .int .i64 0, .slice none 0 0, .slice none 0 0] 46)) fun w73 =>
 okSt w73 ((na w67).add 0) ∧
 (nw (w73.setCell ((na w67).add 0) (.string ys_68)) fun w74 =>
 okSt w74 ((na w67).add 1) ∧
 (nw (w74.setCell ((na w67).add 1) (.slice ya_69 yn_69 yc_69)) fun w75 =>
 okSt w75 ((na w67).add 2) ∧
 (nw (w75.setCell ((na w67).add 2) (.int .i64 yx_70)) fun w76 =>
 okSt w76 ((na w67).add 3) ∧
 (nw (w76.setCell ((na w67).add 3) (.slice ya_71 yn_71 yc_71)) fun w77 =>
 okSt w77 ((na w67).add 4) ∧
 (nw (w77.setCell ((na w67).add 4) (.slice ya_72 yn_72 yc_72)) fun w78 =>
 ∃ ya_79 : Option Addr, ∃ yn_79 : Nat, ∃ yc_79 : Nat, w78.cell? ((na w).add 1) = some (.slice ya_79 yn_79 yc_79) ∧
 (rawN Go.Proofs.Try.prog (Builtin.append_ #[42, 42] 42 #[.slice none 0 0, .slice ya_79 yn_79 yc_79]) w78 fun yv80 u81 =>
 ∃ ya_82 : Option Addr, ∃ yn_82 : Nat, ∃ yc_82 : Nat, yv80 = .slice ya_82 yn_82 yc_82 ∧
 (okSt u81 (((na w67).add 1).add 0) ∧
 (nw (u81.setCell (((na w67).add 1).add 0) (.slice ya_82 yn_82 yc_82)) fun w83 =>
 ∃ ya_84 : Option Addr, ∃ yn_84 : Nat, ∃ yc_84 : Nat, w83.cell? ((na w).add 3) = some (.slice ya_84 yn_84 yc_84) ∧
 (rawN Go.Proofs.Try.prog (Builtin.append_ #[43, 43] 43 #[.slice none 0 0, .slice ya_84 yn_84 yc_84]) w83 fun yv85 u86 =>
 ∃ ya_87 : Option Addr, ∃ yn_87 : Nat, ∃ yc_87 : Nat, yv85 = .slice ya_87 yn_87 yc_87 ∧
 (okSt u86 (((na w67).add 3).add 0) ∧
 (nw (u86.setCell (((na w67).add 3).add 0) (.slice ya_87 yn_87 yc_87)) fun w88 =>
 ∃ ya_89 : Option Addr, ∃ yn_89 : Nat, ∃ yc_89 : Nat, w88.cell? ((na w).add 4) = some (.slice ya_89 yn_89 yc_89) ∧
 (e18 (some (na w66)) none 0 0 (some (na w67)) ya_89 yn_89 yc_89 (yn_89 : Int) 0 w88)))))))))))))))))
def thicketref07_Copy.g18 (R : Value → World → Prop) (b18 : (Option Addr) → (Option Addr) → Nat → Nat → (Option Addr) → (Option Addr) → Nat → Nat → Int → Int → World → Prop) (p2 : Option Addr) (a5 : Option Addr) (n5 : Nat) (c5 : Nat) (p6 : Option Addr) (a21 : Option Addr) (n21 : Nat) (c21 : Nat) (x22 : Int) (x23 : Int) (w : World) : Prop :=
 onBool (decide (x23 < x22))
 (optN a21 fun q90 =>
 chk ((0 : Int) ≤ x23 ∧ x23 < (n21 : Int))
 (∃ yx_91 : Int, w.cell? ((q90.add (x23.toNat * 2)).add 0) = some (.int .i64 yx_91) ∧
 (∃ ya_92 : Option Addr, ∃ yn_92 : Nat, ∃ yc_92 : Nat, w.cell? ((q90.add (x23.toNat * 2)).add 1) = some (.slice ya_92 yn_92 yc_92) ∧
 (nw (w.alloc (.cells #[.int .i64 0, .slice none 0 0] 33)) fun w93 =>
 okSt w93 ((na w).add 0) ∧
 (nw (w93.setCell ((na w).add 0) (.int .i64 yx_91)) fun w94 =>
 okSt w94 ((na w).add 1) ∧
 (nw (w94.setCell ((na w).add 1) (.slice ya_92 yn_92 yc_92)) fun w95 =>
 ∃ F96 : Nat → Value → World → Prop, (∀ i v u u', F96 i v u → Below u.heap.size u u' → F96 i v u') ∧
 (∃ yx_97 : Int, w95.cell? ((na w).add 0) = some (.int .i64 yx_97) ∧
 (∃ ya_98 : Option Addr, ∃ yn_98 : Nat, ∃ yc_98 : Nat, w95.cell? ((na w).add 1) = some (.slice ya_98 yn_98 yc_98) ∧
 ((∀ u99 : World, Below w95.heap.size w95 u99 → Go.E.CallsD Go.Proofs.Try.prog 50 #[.slice ya_98 yn_98 yc_98] u99 fun yv101 u102 => ∃ ya_100 : Option Addr, ∃ yn_100 : Nat, ∃ yc_100 : Nat, yv101 = .slice ya_100 yn_100 yc_100 ∧ F96 5 (.slice ya_100 yn_100 yc_100) u102 ∧ Below u99.heap.size u99 u102) ∧
 (∀ ya_103 : Option Addr, ∀ yn_103 : Nat, ∀ yc_103 : Nat, (∃ u, Below w95.heap.size w95 u ∧ F96 5 (.slice ya_103 yn_103 yc_103) u) →
 (∀ u104 : World, Below w95.heap.size w95 u104 → F96 5 (.slice ya_103 yn_103 yc_103) u104 → F96 7 (.slice (some (na u104)) 1 1) (u104.alloc (.cells #[.int .i64 yx_97, .slice ya_103 yn_103 yc_103] 33))) ∧
 (∀ q105 : Addr, (∃ u, Below w95.heap.size w95 u ∧ F96 7 (.slice (some q105) 1 1) u) →
 ∀ u106 : World, Below w95.heap.size w95 u106 → F96 5 (.slice ya_103 yn_103 yc_103) u106 → F96 7 (.slice (some q105) 1 1) u106 → 
 rawN Go.Proofs.Try.prog (Builtin.append_ #[44, 44] 44 #[.slice a5 n5 c5, .slice (some q105) 1 1]) u106 fun yv107 u108 =>
 ∃ ya_109 : Option Addr, ∃ yn_109 : Nat, ∃ yc_109 : Nat, yv107 = .slice ya_109 yn_109 yc_109 ∧
 (nv (IntKind.i64.wrap (x23 + 1)) fun t110 =>
 b18 p2 ya_109 yn_109 yc_109 p6 a21 n21 c21 x22 t110 u108))))))))))))
 (optN p6 fun q111 =>
 okSt w ((q111.add 4).add 0) ∧
 (nw (w.setCell ((q111.add 4).add 0) (.slice a5 n5 c5)) fun w112 =>
 optN p6 fun q113 =>
 ∃ ys_114 : ByteArray, w112.cell? (q113.add 0) = some (.string ys_114) ∧
 (∃ ya_115 : Option Addr, ∃ yn_115 : Nat, ∃ yc_115 : Nat, w112.cell? (q113.add 1) = some (.slice ya_115 yn_115 yc_115) ∧
 (∃ yx_116 : Int, w112.cell? (q113.add 2) = some (.int .i64 yx_116) ∧
 (∃ ya_117 : Option Addr, ∃ yn_117 : Nat, ∃ yc_117 : Nat, w112.cell? (q113.add 3) = some (.slice ya_117 yn_117 yc_117) ∧
 (∃ ya_118 : Option Addr, ∃ yn_118 : Nat, ∃ yc_118 : Nat, w112.cell? (q113.add 4) = some (.slice ya_118 yn_118 yc_118) ∧
 (optN p2 fun q119 =>
 okSt w112 (q119.add 0) ∧
 (nw (w112.setCell (q119.add 0) (.string ys_114)) fun w120 =>
 okSt w120 (q119.add 1) ∧
 (nw (w120.setCell (q119.add 1) (.slice ya_115 yn_115 yc_115)) fun w121 =>
 okSt w121 (q119.add 2) ∧
 (nw (w121.setCell (q119.add 2) (.int .i64 yx_116)) fun w122 =>
 okSt w122 (q119.add 3) ∧
 (nw (w122.setCell (q119.add 3) (.slice ya_117 yn_117 yc_117)) fun w123 =>
 okSt w123 (q119.add 4) ∧
 (nw (w123.setCell (q119.add 4) (.slice ya_118 yn_118 yc_118)) fun w124 =>
 optN p2 fun q125 =>
 ∃ ys_126 : ByteArray, w124.cell? (q125.add 0) = some (.string ys_126) ∧
 (∃ ya_127 : Option Addr, ∃ yn_127 : Nat, ∃ yc_127 : Nat, w124.cell? (q125.add 1) = some (.slice ya_127 yn_127 yc_127) ∧
 (∃ yx_128 : Int, w124.cell? (q125.add 2) = some (.int .i64 yx_128) ∧
 (∃ ya_129 : Option Addr, ∃ yn_129 : Nat, ∃ yc_129 : Nat, w124.cell? (q125.add 3) = some (.slice ya_129 yn_129 yc_129) ∧
 (∃ ya_130 : Option Addr, ∃ yn_130 : Nat, ∃ yc_130 : Nat, w124.cell? (q125.add 4) = some (.slice ya_130 yn_130 yc_130) ∧
 (R (.agg #[.string ys_126, .slice ya_127 yn_127 yc_127, .int .i64 yx_128, .slice ya_129 yn_129 yc_129, .slice ya_130 yn_130 yc_130]) w124)))))))))))))))))
def thicketref07_Copy.q2 (R : Value → World → Prop) : Exit → Act → World → Prop := (fin Go.Proofs.Try.prog Go.Proofs.Try.f20 R)
def thicketref07_Copy.q4 (R : Value → World → Prop) : Exit → Act → World → Prop := (thicketref07_Copy.q2 R)
def thicketref07_Copy.q6 (R : Value → World → Prop) : Exit → Act → World → Prop := (thicketref07_Copy.q4 R)
def thicketref07_Copy.q8 (R : Value → World → Prop) : Exit → Act → World → Prop := (thicketref07_Copy.q6 R)
def thicketref07_Copy.q10 (R : Value → World → Prop) : Exit → Act → World → Prop := (thicketref07_Copy.q8 R)
def thicketref07_Copy.q12 (R : Value → World → Prop) : Exit → Act → World → Prop := (thicketref07_Copy.q10 R)
def thicketref07_Copy.q14 (R : Value → World → Prop) : Exit → Act → World → Prop := (thicketref07_Copy.q12 R)
def thicketref07_Copy.q15 (R : Value → World → Prop) : Exit → Act → World → Prop := Exit.then (startN none (codeN Go.Proofs.Try.prog (sub (codeOf Go.Proofs.Try.f20) [1, 1, 1, 1, 1, 1, 1, 1]) (nsub thicketref07_Copy.an [1, 1, 1, 1, 1, 1, 1, 1]) (thicketref07_Copy.q14 R))) (thicketref07_Copy.q14 R)
def thicketref07_Copy.q17 (R : Value → World → Prop) : Exit → Act → World → Prop := (thicketref07_Copy.q15 R)
def thicketref07_Copy.q18 (R : Value → World → Prop) : Exit → Act → World → Prop := Exit.inBlock 0 (thicketref07_Copy.q17 R)
def thicketref07_Copy.rl18 (R : Value → World → Prop) (k : Nat) (p2 : Option Addr) (a5 : Option Addr) (n5 : Nat) (c5 : Nat) (p6 : Option Addr) (a21 : Option Addr) (n21 : Nat) (c21 : Nat) (x22 : Int) (x23 : Int) (w : World) : Prop := loopN [2, 5, 6, 21, 22, 23] (codeN Go.Proofs.Try.prog (sub (codeOf Go.Proofs.Try.f20) [1, 1, 1, 1, 1, 1, 1, 0, 1, 0, 0]) (nsub thicketref07_Copy.an [1, 1, 1, 1, 1, 1, 1, 0, 1, 0, 0])) (thicketref07_Copy.q18 R) k ⟨#[undef, undef, .pointer p2, undef, undef, .slice a5 n5 c5, .pointer p6, undef, undef, undef, undef, undef, undef, undef, undef, undef, undef, undef, undef, undef, undef, .slice a21 n21 c21, .int .i64 x22, .int .i64 x23, undef, undef, undef, undef, undef, undef, undef, undef, undef, undef, undef, undef, undef, undef, undef, undef], []⟩ w
def thicketref07_Copy.re18 (R : Value → World → Prop) (p2 : Option Addr) (a5 : Option Addr) (n5 : Nat) (c5 : Nat) (p6 : Option Addr) (a21 : Option Addr) (n21 : Nat) (c21 : Nat) (x22 : Int) (x23 : Int) (w : World) : Prop := ∃ k, thicketref07_Copy.rl18 R k p2 a5 n5 c5 p6 a21 n21 c21 x22 x23 w
def thicketref07_Copy.l18 (R : Value → World → Prop) : Nat → (Option Addr) → (Option Addr) → Nat → Nat → (Option Addr) → (Option Addr) → Nat → Nat → Int → Int → World → Prop
  | 0, _, _, _, _, _, _, _, _, _, _, _ => False
  | k + 1, p2, a5, n5, c5, p6, a21, n21, c21, x22, x23, w => thicketref07_Copy.g18 R (thicketref07_Copy.l18 R k) p2 a5 n5 c5 p6 a21 n21 c21 x22 x23 w
def thicketref07_Copy.e18 (R : Value → World → Prop) (p2 : Option Addr) (a5 : Option Addr) (n5 : Nat) (c5 : Nat) (p6 : Option Addr) (a21 : Option Addr) (n21 : Nat) (c21 : Nat) (x22 : Int) (x23 : Int) (w : World) : Prop := ∃ k, thicketref07_Copy.l18 R k p2 a5 n5 c5 p6 a21 n21 c21 x22 x23 w
theorem thicketref07_Copy.s18 (R : Value → World → Prop) (k : Nat) (p2 : Option Addr) (a5 : Option Addr) (n5 : Nat) (c5 : Nat) (p6 : Option Addr) (a21 : Option Addr) (n21 : Nat) (c21 : Nat) (x22 : Int) (x23 : Int) (w : World) : thicketref07_Copy.rl18 R (k + 1) p2 a5 n5 c5 p6 a21 n21 c21 x22 x23 w = ∀ _ : Nat → Value, thicketref07_Copy.g18 R (thicketref07_Copy.rl18 R k) p2 a5 n5 c5 p6 a21 n21 c21 x22 x23 w := by kernel_rfl
theorem thicketref07_Copy.lq18 (R : Value → World → Prop) : ∀ k, thicketref07_Copy.l18 R k = thicketref07_Copy.rl18 R k
  | 0 => by funext p2 a5 n5 c5 p6 a21 n21 c21 x22 x23 w; first | rfl | kernel_rfl
  | k + 1 => by
    funext p2 a5 n5 c5 p6 a21 n21 c21 x22 x23 w
    rw [thicketref07_Copy.s18, forall_const]
    unfold thicketref07_Copy.l18
    have ih := thicketref07_Copy.lq18 R k
    rw [ih]
    all_goals rfl
theorem thicketref07_Copy.eq18 (R : Value → World → Prop) : thicketref07_Copy.e18 R = thicketref07_Copy.re18 R := by
  funext p2 a5 n5 c5 p6 a21 n21 c21 x22 x23 w
  unfold thicketref07_Copy.e18 thicketref07_Copy.re18
  simp only [thicketref07_Copy.lq18 R]
def thicketref07_Copy (R : Value → World → Prop) (s0_0 : ByteArray) (a0_1 : Option Addr) (n0_1 : Nat) (c0_1 : Nat) (x0_2 : Int) (a0_3 : Option Addr) (n0_3 : Nat) (c0_3 : Nat) (a0_4 : Option Addr) (n0_4 : Nat) (c0_4 : Nat) (w : World) : Prop := thicketref07_Copy.g0 R (thicketref07_Copy.e18 R) s0_0 a0_1 n0_1 c0_1 x0_2 a0_3 n0_3 c0_3 a0_4 n0_4 c0_4 w
theorem thicketref07_Copy.root0 (R : Value → World → Prop) (s0_0 : ByteArray) (a0_1 : Option Addr) (n0_1 : Nat) (c0_1 : Nat) (x0_2 : Int) (a0_3 : Option Addr) (n0_3 : Nat) (c0_3 : Nat) (a0_4 : Option Addr) (n0_4 : Nat) (c0_4 : Nat) (w : World) : fnN Go.Proofs.Try.prog Go.Proofs.Try.f20 thicketref07_Copy.an #[.agg #[.string s0_0, .slice a0_1 n0_1 c0_1, .int .i64 x0_2, .slice a0_3 n0_3 c0_3, .slice a0_4 n0_4 c0_4]] w R = thicketref07_Copy.g0 R (thicketref07_Copy.re18 R) s0_0 a0_1 n0_1 c0_1 x0_2 a0_3 n0_3 c0_3 a0_4 n0_4 c0_4 w := by kernel_rfl
theorem thicketref07_Copy.calls {R : Value → World → Prop} {s0_0 : ByteArray} {a0_1 : Option Addr} {n0_1 : Nat} {c0_1 : Nat} {x0_2 : Int} {a0_3 : Option Addr} {n0_3 : Nat} {c0_3 : Nat} {a0_4 : Option Addr} {n0_4 : Nat} {c0_4 : Nat} {w : World} (h : thicketref07_Copy R s0_0 a0_1 n0_1 c0_1 x0_2 a0_3 n0_3 c0_3 a0_4 n0_4 c0_4 w) : Go.E.CallsD Go.Proofs.Try.prog 20 #[.agg #[.string s0_0, .slice a0_1 n0_1 c0_1, .int .i64 x0_2, .slice a0_3 n0_3 c0_3, .slice a0_4 n0_4 c0_4]] w R := by
  refine callsD_of (n := thicketref07_Copy.an) M_follows M_sizes Go.Proofs.Try.func20 (by rfl) ?_
  rw [thicketref07_Copy.root0]
  unfold thicketref07_Copy at h
  rw [thicketref07_Copy.eq18 R] at h
  exact h
-- thicket/trees.Score
def trees_Score.an : An := (.mk none .nil (.mk none .nil (.mk none .nil (.mk none .nil (.mk none (.mk none .nil (.mk none (.mk (some [1, 2, 6, 34, 35, 36]) .nil .nil) .nil)) .nil)))))
def trees_Score.g0 (R : Value → World → Prop) (e24 : (Option Addr) → Nat → Nat → (Option Addr) → (Option Addr) → Nat → Nat → (Option Addr) → Nat → Nat → Int → Int → World → Prop) (s0_0 : ByteArray) (a0_1 : Option Addr) (n0_1 : Nat) (c0_1 : Nat) (x0_2 : Int) (a0_3 : Option Addr) (n0_3 : Nat) (c0_3 : Nat) (a0_4 : Option Addr) (n0_4 : Nat) (c0_4 : Nat) (a1 : Option Addr) (n1 : Nat) (c1 : Nat) (w : World) : Prop :=
 nw (w.alloc (.cells #[.string s0_0, .slice a0_1 n0_1 c0_1, .int .i64 x0_2, .slice a0_3 n0_3 c0_3, .slice a0_4 n0_4 c0_4] 46)) fun w20 =>
 ∃ yx_21 : Int, w20.cell? ((na w).add 2) = some (.int .i64 yx_21) ∧
 (onBool (decide (yx_21 < 1))
 (R (.tuple #[.slice none 0 0, .int .i64 6]) w20)
 (∃ ya_22 : Option Addr, ∃ yn_22 : Nat, ∃ yc_22 : Nat, w20.cell? ((na w).add 3) = some (.slice ya_22 yn_22 yc_22) ∧
 (∃ yx_23 : Int, w20.cell? ((na w).add 2) = some (.int .i64 yx_23) ∧
 (onBool ((yn_22 : Int) != yx_23)
 (R (.tuple #[.slice none 0 0, .int .i64 6]) w20)
 (∃ ya_24 : Option Addr, ∃ yn_24 : Nat, ∃ yc_24 : Nat, w20.cell? ((na w).add 1) = some (.slice ya_24 yn_24 yc_24) ∧
 (onBool ((n1 : Int) != (yn_24 : Int))
 (R (.tuple #[.slice none 0 0, .int .i64 72]) w20)
 (∃ ya_25 : Option Addr, ∃ yn_25 : Nat, ∃ yc_25 : Nat, w20.cell? ((na w).add 3) = some (.slice ya_25 yn_25 yc_25) ∧
 (Go.E.CallsD Go.Proofs.Try.prog 51 #[.slice ya_25 yn_25 yc_25] w20 fun yv26 u27 =>
 ∃ ya_28 : Option Addr, ∃ yn_28 : Nat, ∃ yc_28 : Nat, yv26 = .slice ya_28 yn_28 yc_28 ∧
 (∃ ya_29 : Option Addr, ∃ yn_29 : Nat, ∃ yc_29 : Nat, u27.cell? ((na w).add 4) = some (.slice ya_29 yn_29 yc_29) ∧
 (e24 a1 n1 c1 (some (na w)) ya_28 yn_28 yc_28 ya_29 yn_29 yc_29 (yn_29 : Int) 0 u27))))))))))
def trees_Score.g24 (R : Value → World → Prop) (b24 : (Option Addr) → Nat → Nat → (Option Addr) → (Option Addr) → Nat → Nat → (Option Addr) → Nat → Nat → Int → Int → World → Prop) (a1 : Option Addr) (n1 : Nat) (c1 : Nat) (p2 : Option Addr) (a6 : Option Addr) (n6 : Nat) (c6 : Nat) (a34 : Option Addr) (n34 : Nat) (c34 : Nat) (x35 : Int) (x36 : Int) (w : World) : Prop :=
 onBool (decide (x36 < x35))
 (optN a34 fun q30 =>
 chk ((0 : Int) ≤ x36 ∧ x36 < (n34 : Int))
 (∃ yx_31 : Int, w.cell? ((q30.add (x36.toNat * 2)).add 0) = some (.int .i64 yx_31) ∧
 (∃ ya_32 : Option Addr, ∃ yn_32 : Nat, ∃ yc_32 : Nat, w.cell? ((q30.add (x36.toNat * 2)).add 1) = some (.slice ya_32 yn_32 yc_32) ∧
 (nw (w.alloc (.cells #[.int .i64 0, .slice none 0 0] 33)) fun w33 =>
 okSt w33 ((na w).add 0) ∧
 (nw (w33.setCell ((na w).add 0) (.int .i64 yx_31)) fun w34 =>
 okSt w34 ((na w).add 1) ∧
 (nw (w34.setCell ((na w).add 1) (.slice ya_32 yn_32 yc_32)) fun w35 =>
 ∃ yx_36 : Int, w35.cell? ((na w).add 0) = some (.int .i64 yx_36) ∧
 (∃ ya_37 : Option Addr, ∃ yn_37 : Nat, ∃ yc_37 : Nat, w35.cell? ((na w).add 1) = some (.slice ya_37 yn_37 yc_37) ∧
 (Go.E.CallsD Go.Proofs.Try.prog 25 #[.agg #[.int .i64 yx_36, .slice ya_37 yn_37 yc_37]] w35 fun yv38 u39 =>
 ∃ yx_40_0 : Int, ∃ yx_40_1 : Int, yv38 = .tuple #[.int .i64 yx_40_0, .int .i64 yx_40_1] ∧
 (onBool (yx_40_0 != 0)
 (R (.tuple #[.slice none 0 0, .int .i64 yx_40_0]) u39)
 (∃ yx_41 : Int, u39.cell? ((na w).add 0) = some (.int .i64 yx_41) ∧
 (onBool (decide (yx_41 < 0))
 (R (.tuple #[.slice none 0 0, .int .i64 6]) u39)
 (∃ yx_42 : Int, u39.cell? ((na w).add 0) = some (.int .i64 yx_42) ∧
 (optN p2 fun q43 =>
 ∃ yx_44 : Int, u39.cell? (q43.add 2) = some (.int .i64 yx_44) ∧
 (onBool (decide (yx_42 ≥ yx_44))
 (R (.tuple #[.slice none 0 0, .int .i64 6]) u39)
 (∃ yx_45 : Int, u39.cell? ((na w).add 0) = some (.int .i64 yx_45) ∧
 (∃ ya_46 : Option Addr, ∃ yn_46 : Nat, ∃ yc_46 : Nat, u39.cell? ((na w).add 1) = some (.slice ya_46 yn_46 yc_46) ∧
 (Go.E.CallsD Go.Proofs.Try.prog 15 #[.agg #[.int .i64 yx_45, .slice ya_46 yn_46 yc_46], .slice a1 n1 c1] u39 fun yv47 u48 =>
 ∃ ya_49_0 : Option Addr, ∃ yn_49_0 : Nat, ∃ yc_49_0 : Nat, ∃ yx_49_1 : Int, yv47 = .tuple #[.slice ya_49_0 yn_49_0 yc_49_0, .int .i64 yx_49_1] ∧
 (onBool (yx_49_1 != 0)
 (R (.tuple #[.slice none 0 0, .int .i64 yx_49_1]) u48)
 (∃ yx_50 : Int, u48.cell? ((na w).add 0) = some (.int .i64 yx_50) ∧
 (optN a6 fun q51 =>
 chk ((0 : Int) ≤ yx_50 ∧ yx_50 < (n6 : Int))
 (∃ yx_52 : Int, u48.cell? (q51.add (yx_50.toNat * 1)) = some (.int .i64 yx_52) ∧
 (∃ ya_53 : Option Addr, ∃ yn_53 : Nat, ∃ yc_53 : Nat, u48.cell? ((na w).add 1) = some (.slice ya_53 yn_53 yc_53) ∧
 (nv (IntKind.i64.wrap ((yn_49_0 : Int) - 1)) fun t54 =>
 optN ya_49_0 fun q55 =>
 chk ((0 : Int) ≤ t54 ∧ t54 < (yn_49_0 : Int))
 (∃ yx_56 : Int, u48.cell? (q55.add (t54.toNat * 1)) = some (.int .i64 yx_56) ∧
 (optN ya_53 fun q57 =>
 chk ((0 : Int) ≤ yx_56 ∧ yx_56 < (yn_53 : Int))
 (∃ yx_58 : Int, u48.cell? ((q57.add (yx_56.toNat * 8)).add 1) = some (.int .i64 yx_58) ∧
 (nv (IntKind.i64.wrap (yx_52 + yx_58)) fun t59 =>
 optN a6 fun q60 =>
 chk ((0 : Int) ≤ yx_50 ∧ yx_50 < (n6 : Int))
 (okSt u48 ((q60.add (yx_50.toNat * 1)).add 0) ∧
 (nw (u48.setCell ((q60.add (yx_50.toNat * 1)).add 0) (.int .i64 t59)) fun w61 =>
 nv (IntKind.i64.wrap (x36 + 1)) fun t62 =>
 b24 a1 n1 c1 p2 a6 n6 c6 a34 n34 c34 x35 t62 w61)))))))))))))))))))))))))))))
 (R (.tuple #[.slice a6 n6 c6, .int .i64 0]) w)
def trees_Score.q2 (R : Value → World → Prop) : Exit → Act → World → Prop := (fin Go.Proofs.Try.prog Go.Proofs.Try.f21 R)
def trees_Score.q10 (R : Value → World → Prop) : Exit → Act → World → Prop := (trees_Score.q2 R)
def trees_Score.q18 (R : Value → World → Prop) : Exit → Act → World → Prop := (trees_Score.q10 R)
def trees_Score.q20 (R : Value → World → Prop) : Exit → Act → World → Prop := (trees_Score.q18 R)
def trees_Score.q21 (R : Value → World → Prop) : Exit → Act → World → Prop := Exit.then (startN none (codeN Go.Proofs.Try.prog (sub (codeOf Go.Proofs.Try.f21) [1, 1, 1, 1, 1]) (nsub trees_Score.an [1, 1, 1, 1, 1]) (trees_Score.q20 R))) (trees_Score.q20 R)
def trees_Score.q23 (R : Value → World → Prop) : Exit → Act → World → Prop := (trees_Score.q21 R)
def trees_Score.q24 (R : Value → World → Prop) : Exit → Act → World → Prop := Exit.inBlock 0 (trees_Score.q23 R)
def trees_Score.rl24 (R : Value → World → Prop) (k : Nat) (a1 : Option Addr) (n1 : Nat) (c1 : Nat) (p2 : Option Addr) (a6 : Option Addr) (n6 : Nat) (c6 : Nat) (a34 : Option Addr) (n34 : Nat) (c34 : Nat) (x35 : Int) (x36 : Int) (w : World) : Prop := loopN [1, 2, 6, 34, 35, 36] (codeN Go.Proofs.Try.prog (sub (codeOf Go.Proofs.Try.f21) [1, 1, 1, 1, 0, 1, 0, 0]) (nsub trees_Score.an [1, 1, 1, 1, 0, 1, 0, 0])) (trees_Score.q24 R) k ⟨#[undef, .slice a1 n1 c1, .pointer p2, undef, undef, undef, .slice a6 n6 c6, undef, undef, undef, undef, undef, undef, undef, undef, undef, undef, undef, undef, undef, undef, undef, undef, undef, undef, undef, undef, undef, undef, undef, undef, undef, undef, undef, .slice a34 n34 c34, .int .i64 x35, .int .i64 x36, undef, undef, undef, undef, undef, undef, undef, undef, undef, undef, undef, undef, undef, undef, undef, undef, undef, undef, undef, undef, undef, undef, undef, undef, undef, undef, undef, undef, undef, undef, undef, undef, undef, undef, undef, undef, undef, undef, undef, undef, undef, undef, undef, undef, undef, undef, undef, undef, undef, undef], []⟩ w
def trees_Score.re24 (R : Value → World → Prop) (a1 : Option Addr) (n1 : Nat) (c1 : Nat) (p2 : Option Addr) (a6 : Option Addr) (n6 : Nat) (c6 : Nat) (a34 : Option Addr) (n34 : Nat) (c34 : Nat) (x35 : Int) (x36 : Int) (w : World) : Prop := ∃ k, trees_Score.rl24 R k a1 n1 c1 p2 a6 n6 c6 a34 n34 c34 x35 x36 w
def trees_Score.l24 (R : Value → World → Prop) : Nat → (Option Addr) → Nat → Nat → (Option Addr) → (Option Addr) → Nat → Nat → (Option Addr) → Nat → Nat → Int → Int → World → Prop
  | 0, _, _, _, _, _, _, _, _, _, _, _, _, _ => False
  | k + 1, a1, n1, c1, p2, a6, n6, c6, a34, n34, c34, x35, x36, w => trees_Score.g24 R (trees_Score.l24 R k) a1 n1 c1 p2 a6 n6 c6 a34 n34 c34 x35 x36 w
def trees_Score.e24 (R : Value → World → Prop) (a1 : Option Addr) (n1 : Nat) (c1 : Nat) (p2 : Option Addr) (a6 : Option Addr) (n6 : Nat) (c6 : Nat) (a34 : Option Addr) (n34 : Nat) (c34 : Nat) (x35 : Int) (x36 : Int) (w : World) : Prop := ∃ k, trees_Score.l24 R k a1 n1 c1 p2 a6 n6 c6 a34 n34 c34 x35 x36 w
theorem trees_Score.s24 (R : Value → World → Prop) (k : Nat) (a1 : Option Addr) (n1 : Nat) (c1 : Nat) (p2 : Option Addr) (a6 : Option Addr) (n6 : Nat) (c6 : Nat) (a34 : Option Addr) (n34 : Nat) (c34 : Nat) (x35 : Int) (x36 : Int) (w : World) : trees_Score.rl24 R (k + 1) a1 n1 c1 p2 a6 n6 c6 a34 n34 c34 x35 x36 w = ∀ _ : Nat → Value, trees_Score.g24 R (trees_Score.rl24 R k) a1 n1 c1 p2 a6 n6 c6 a34 n34 c34 x35 x36 w := by kernel_rfl
theorem trees_Score.lq24 (R : Value → World → Prop) : ∀ k, trees_Score.l24 R k = trees_Score.rl24 R k
  | 0 => by funext a1 n1 c1 p2 a6 n6 c6 a34 n34 c34 x35 x36 w; first | rfl | kernel_rfl
  | k + 1 => by
    funext a1 n1 c1 p2 a6 n6 c6 a34 n34 c34 x35 x36 w
    rw [trees_Score.s24, forall_const]
    unfold trees_Score.l24
    have ih := trees_Score.lq24 R k
    rw [ih]
    all_goals rfl
theorem trees_Score.eq24 (R : Value → World → Prop) : trees_Score.e24 R = trees_Score.re24 R := by
  funext a1 n1 c1 p2 a6 n6 c6 a34 n34 c34 x35 x36 w
  unfold trees_Score.e24 trees_Score.re24
  simp only [trees_Score.lq24 R]
def trees_Score (R : Value → World → Prop) (s0_0 : ByteArray) (a0_1 : Option Addr) (n0_1 : Nat) (c0_1 : Nat) (x0_2 : Int) (a0_3 : Option Addr) (n0_3 : Nat) (c0_3 : Nat) (a0_4 : Option Addr) (n0_4 : Nat) (c0_4 : Nat) (a1 : Option Addr) (n1 : Nat) (c1 : Nat) (w : World) : Prop := trees_Score.g0 R (trees_Score.e24 R) s0_0 a0_1 n0_1 c0_1 x0_2 a0_3 n0_3 c0_3 a0_4 n0_4 c0_4 a1 n1 c1 w
theorem trees_Score.root0 (R : Value → World → Prop) (s0_0 : ByteArray) (a0_1 : Option Addr) (n0_1 : Nat) (c0_1 : Nat) (x0_2 : Int) (a0_3 : Option Addr) (n0_3 : Nat) (c0_3 : Nat) (a0_4 : Option Addr) (n0_4 : Nat) (c0_4 : Nat) (a1 : Option Addr) (n1 : Nat) (c1 : Nat) (w : World) : fnN Go.Proofs.Try.prog Go.Proofs.Try.f21 trees_Score.an #[.agg #[.string s0_0, .slice a0_1 n0_1 c0_1, .int .i64 x0_2, .slice a0_3 n0_3 c0_3, .slice a0_4 n0_4 c0_4], .slice a1 n1 c1] w R = trees_Score.g0 R (trees_Score.re24 R) s0_0 a0_1 n0_1 c0_1 x0_2 a0_3 n0_3 c0_3 a0_4 n0_4 c0_4 a1 n1 c1 w := by kernel_rfl
theorem trees_Score.calls {R : Value → World → Prop} {s0_0 : ByteArray} {a0_1 : Option Addr} {n0_1 : Nat} {c0_1 : Nat} {x0_2 : Int} {a0_3 : Option Addr} {n0_3 : Nat} {c0_3 : Nat} {a0_4 : Option Addr} {n0_4 : Nat} {c0_4 : Nat} {a1 : Option Addr} {n1 : Nat} {c1 : Nat} {w : World} (h : trees_Score R s0_0 a0_1 n0_1 c0_1 x0_2 a0_3 n0_3 c0_3 a0_4 n0_4 c0_4 a1 n1 c1 w) : Go.E.CallsD Go.Proofs.Try.prog 21 #[.agg #[.string s0_0, .slice a0_1 n0_1 c0_1, .int .i64 x0_2, .slice a0_3 n0_3 c0_3, .slice a0_4 n0_4 c0_4], .slice a1 n1 c1] w R := by
  refine callsD_of (n := trees_Score.an) M_follows M_sizes Go.Proofs.Try.func21 (by rfl) ?_
  rw [trees_Score.root0]
  unfold trees_Score at h
  rw [trees_Score.eq24 R] at h
  exact h
-- thicket/thicketref07.Score
def thicketref07_Score.an : An := (.mk none .nil (.mk none .nil (.mk none .nil (.mk none .nil (.mk none .nil (.mk none (.mk none .nil (.mk none (.mk (some [1, 2, 6, 35, 36, 37]) .nil .nil) .nil)) .nil))))))
def thicketref07_Score.g0 (R : Value → World → Prop) (e26 : (Option Addr) → Nat → Nat → (Option Addr) → (Option Addr) → Nat → Nat → (Option Addr) → Nat → Nat → Int → Int → World → Prop) (s0_0 : ByteArray) (a0_1 : Option Addr) (n0_1 : Nat) (c0_1 : Nat) (x0_2 : Int) (a0_3 : Option Addr) (n0_3 : Nat) (c0_3 : Nat) (a0_4 : Option Addr) (n0_4 : Nat) (c0_4 : Nat) (a1 : Option Addr) (n1 : Nat) (c1 : Nat) (w : World) : Prop :=
 nw (w.alloc (.cells #[.string s0_0, .slice a0_1 n0_1 c0_1, .int .i64 x0_2, .slice a0_3 n0_3 c0_3, .slice a0_4 n0_4 c0_4] 46)) fun w20 =>
 ∃ yx_21 : Int, w20.cell? ((na w).add 2) = some (.int .i64 yx_21) ∧
 (onBool (decide (yx_21 < 1))
 (R (.tuple #[.slice none 0 0, .int .i64 6]) w20)
 (∃ ya_22 : Option Addr, ∃ yn_22 : Nat, ∃ yc_22 : Nat, w20.cell? ((na w).add 3) = some (.slice ya_22 yn_22 yc_22) ∧
 (∃ yx_23 : Int, w20.cell? ((na w).add 2) = some (.int .i64 yx_23) ∧
 (onBool ((yn_22 : Int) != yx_23)
 (R (.tuple #[.slice none 0 0, .int .i64 6]) w20)
 (∃ ya_24 : Option Addr, ∃ yn_24 : Nat, ∃ yc_24 : Nat, w20.cell? ((na w).add 1) = some (.slice ya_24 yn_24 yc_24) ∧
 (onBool ((n1 : Int) != (yn_24 : Int))
 (R (.tuple #[.slice none 0 0, .int .i64 72]) w20)
 (∃ ya_25 : Option Addr, ∃ yn_25 : Nat, ∃ yc_25 : Nat, w20.cell? ((na w).add 3) = some (.slice ya_25 yn_25 yc_25) ∧
 (rawN Go.Proofs.Try.prog (Builtin.append_ #[43, 43] 43 #[.slice none 0 0, .slice ya_25 yn_25 yc_25]) w20 fun yv26 u27 =>
 ∃ ya_28 : Option Addr, ∃ yn_28 : Nat, ∃ yc_28 : Nat, yv26 = .slice ya_28 yn_28 yc_28 ∧
 (∃ ya_29 : Option Addr, ∃ yn_29 : Nat, ∃ yc_29 : Nat, u27.cell? ((na w).add 4) = some (.slice ya_29 yn_29 yc_29) ∧
 (e26 a1 n1 c1 (some (na w)) ya_28 yn_28 yc_28 ya_29 yn_29 yc_29 (yn_29 : Int) 0 u27))))))))))
def thicketref07_Score.g26 (R : Value → World → Prop) (b26 : (Option Addr) → Nat → Nat → (Option Addr) → (Option Addr) → Nat → Nat → (Option Addr) → Nat → Nat → Int → Int → World → Prop) (a1 : Option Addr) (n1 : Nat) (c1 : Nat) (p2 : Option Addr) (a6 : Option Addr) (n6 : Nat) (c6 : Nat) (a35 : Option Addr) (n35 : Nat) (c35 : Nat) (x36 : Int) (x37 : Int) (w : World) : Prop :=
 onBool (decide (x37 < x36))
 (optN a35 fun q30 =>
 chk ((0 : Int) ≤ x37 ∧ x37 < (n35 : Int))
 (∃ yx_31 : Int, w.cell? ((q30.add (x37.toNat * 2)).add 0) = some (.int .i64 yx_31) ∧
 (∃ ya_32 : Option Addr, ∃ yn_32 : Nat, ∃ yc_32 : Nat, w.cell? ((q30.add (x37.toNat * 2)).add 1) = some (.slice ya_32 yn_32 yc_32) ∧
 (nw (w.alloc (.cells #[.int .i64 0, .slice none 0 0] 33)) fun w33 =>
 okSt w33 ((na w).add 0) ∧
 (nw (w33.setCell ((na w).add 0) (.int .i64 yx_31)) fun w34 =>
 okSt w34 ((na w).add 1) ∧
 (nw (w34.setCell ((na w).add 1) (.slice ya_32 yn_32 yc_32)) fun w35 =>
 ∃ yx_36 : Int, w35.cell? ((na w).add 0) = some (.int .i64 yx_36) ∧
 (∃ ya_37 : Option Addr, ∃ yn_37 : Nat, ∃ yc_37 : Nat, w35.cell? ((na w).add 1) = some (.slice ya_37 yn_37 yc_37) ∧
 (Go.E.CallsD Go.Proofs.Try.prog 26 #[.agg #[.int .i64 yx_36, .slice ya_37 yn_37 yc_37]] w35 fun yv38 u39 =>
 ∃ yx_40_0 : Int, ∃ yx_40_1 : Int, yv38 = .tuple #[.int .i64 yx_40_0, .int .i64 yx_40_1] ∧
 (onBool (yx_40_0 != 0)
 (R (.tuple #[.slice none 0 0, .int .i64 yx_40_0]) u39)
 (∃ yx_41 : Int, u39.cell? ((na w).add 0) = some (.int .i64 yx_41) ∧
 (onBool (decide (yx_41 < 0))
 (R (.tuple #[.slice none 0 0, .int .i64 6]) u39)
 (∃ yx_42 : Int, u39.cell? ((na w).add 0) = some (.int .i64 yx_42) ∧
 (optN p2 fun q43 =>
 ∃ yx_44 : Int, u39.cell? (q43.add 2) = some (.int .i64 yx_44) ∧
 (onBool (decide (yx_42 ≥ yx_44))
 (R (.tuple #[.slice none 0 0, .int .i64 6]) u39)
 (∃ yx_45 : Int, u39.cell? ((na w).add 0) = some (.int .i64 yx_45) ∧
 (∃ ya_46 : Option Addr, ∃ yn_46 : Nat, ∃ yc_46 : Nat, u39.cell? ((na w).add 1) = some (.slice ya_46 yn_46 yc_46) ∧
 (Go.E.CallsD Go.Proofs.Try.prog 16 #[.agg #[.int .i64 yx_45, .slice ya_46 yn_46 yc_46], .slice a1 n1 c1] u39 fun yv47 u48 =>
 ∃ ya_49_0 : Option Addr, ∃ yn_49_0 : Nat, ∃ yc_49_0 : Nat, ∃ yx_49_1 : Int, yv47 = .tuple #[.slice ya_49_0 yn_49_0 yc_49_0, .int .i64 yx_49_1] ∧
 (onBool (yx_49_1 != 0)
 (R (.tuple #[.slice none 0 0, .int .i64 yx_49_1]) u48)
 (∃ yx_50 : Int, u48.cell? ((na w).add 0) = some (.int .i64 yx_50) ∧
 (optN a6 fun q51 =>
 chk ((0 : Int) ≤ yx_50 ∧ yx_50 < (n6 : Int))
 (∃ yx_52 : Int, u48.cell? (q51.add (yx_50.toNat * 1)) = some (.int .i64 yx_52) ∧
 (∃ ya_53 : Option Addr, ∃ yn_53 : Nat, ∃ yc_53 : Nat, u48.cell? ((na w).add 1) = some (.slice ya_53 yn_53 yc_53) ∧
 (nv (IntKind.i64.wrap ((yn_49_0 : Int) - 1)) fun t54 =>
 optN ya_49_0 fun q55 =>
 chk ((0 : Int) ≤ t54 ∧ t54 < (yn_49_0 : Int))
 (∃ yx_56 : Int, u48.cell? (q55.add (t54.toNat * 1)) = some (.int .i64 yx_56) ∧
 (optN ya_53 fun q57 =>
 chk ((0 : Int) ≤ yx_56 ∧ yx_56 < (yn_53 : Int))
 (∃ yx_58 : Int, u48.cell? ((q57.add (yx_56.toNat * 8)).add 1) = some (.int .i64 yx_58) ∧
 (nv (IntKind.i64.wrap (yx_52 + yx_58)) fun t59 =>
 optN a6 fun q60 =>
 chk ((0 : Int) ≤ yx_50 ∧ yx_50 < (n6 : Int))
 (okSt u48 ((q60.add (yx_50.toNat * 1)).add 0) ∧
 (nw (u48.setCell ((q60.add (yx_50.toNat * 1)).add 0) (.int .i64 t59)) fun w61 =>
 nv (IntKind.i64.wrap (x37 + 1)) fun t62 =>
 b26 a1 n1 c1 p2 a6 n6 c6 a35 n35 c35 x36 t62 w61)))))))))))))))))))))))))))))
 (R (.tuple #[.slice a6 n6 c6, .int .i64 0]) w)
def thicketref07_Score.q2 (R : Value → World → Prop) : Exit → Act → World → Prop := (fin Go.Proofs.Try.prog Go.Proofs.Try.f22 R)
def thicketref07_Score.q10 (R : Value → World → Prop) : Exit → Act → World → Prop := (thicketref07_Score.q2 R)
def thicketref07_Score.q18 (R : Value → World → Prop) : Exit → Act → World → Prop := (thicketref07_Score.q10 R)
def thicketref07_Score.q20 (R : Value → World → Prop) : Exit → Act → World → Prop := (thicketref07_Score.q18 R)
def thicketref07_Score.q22 (R : Value → World → Prop) : Exit → Act → World → Prop := (thicketref07_Score.q20 R)
def thicketref07_Score.q23 (R : Value → World → Prop) : Exit → Act → World → Prop := Exit.then (startN none (codeN Go.Proofs.Try.prog (sub (codeOf Go.Proofs.Try.f22) [1, 1, 1, 1, 1, 1]) (nsub thicketref07_Score.an [1, 1, 1, 1, 1, 1]) (thicketref07_Score.q22 R))) (thicketref07_Score.q22 R)
def thicketref07_Score.q25 (R : Value → World → Prop) : Exit → Act → World → Prop := (thicketref07_Score.q23 R)
def thicketref07_Score.q26 (R : Value → World → Prop) : Exit → Act → World → Prop := Exit.inBlock 0 (thicketref07_Score.q25 R)
def thicketref07_Score.rl26 (R : Value → World → Prop) (k : Nat) (a1 : Option Addr) (n1 : Nat) (c1 : Nat) (p2 : Option Addr) (a6 : Option Addr) (n6 : Nat) (c6 : Nat) (a35 : Option Addr) (n35 : Nat) (c35 : Nat) (x36 : Int) (x37 : Int) (w : World) : Prop := loopN [1, 2, 6, 35, 36, 37] (codeN Go.Proofs.Try.prog (sub (codeOf Go.Proofs.Try.f22) [1, 1, 1, 1, 1, 0, 1, 0, 0]) (nsub thicketref07_Score.an [1, 1, 1, 1, 1, 0, 1, 0, 0])) (thicketref07_Score.q26 R) k ⟨#[undef, .slice a1 n1 c1, .pointer p2, undef, undef, undef, .slice a6 n6 c6, undef, undef, undef, undef, undef, undef, undef, undef, undef, undef, undef, undef, undef, undef, undef, undef, undef, undef, undef, undef, undef, undef, undef, undef, undef, undef, undef, undef, .slice a35 n35 c35, .int .i64 x36, .int .i64 x37, undef, undef, undef, undef, undef, undef, undef, undef, undef, undef, undef, undef, undef, undef, undef, undef, undef, undef, undef, undef, undef, undef, undef, undef, undef, undef, undef, undef, undef, undef, undef, undef, undef, undef, undef, undef, undef, undef, undef, undef, undef, undef, undef, undef, undef, undef, undef, undef, undef, undef], []⟩ w
def thicketref07_Score.re26 (R : Value → World → Prop) (a1 : Option Addr) (n1 : Nat) (c1 : Nat) (p2 : Option Addr) (a6 : Option Addr) (n6 : Nat) (c6 : Nat) (a35 : Option Addr) (n35 : Nat) (c35 : Nat) (x36 : Int) (x37 : Int) (w : World) : Prop := ∃ k, thicketref07_Score.rl26 R k a1 n1 c1 p2 a6 n6 c6 a35 n35 c35 x36 x37 w
def thicketref07_Score.l26 (R : Value → World → Prop) : Nat → (Option Addr) → Nat → Nat → (Option Addr) → (Option Addr) → Nat → Nat → (Option Addr) → Nat → Nat → Int → Int → World → Prop
  | 0, _, _, _, _, _, _, _, _, _, _, _, _, _ => False
  | k + 1, a1, n1, c1, p2, a6, n6, c6, a35, n35, c35, x36, x37, w => thicketref07_Score.g26 R (thicketref07_Score.l26 R k) a1 n1 c1 p2 a6 n6 c6 a35 n35 c35 x36 x37 w
def thicketref07_Score.e26 (R : Value → World → Prop) (a1 : Option Addr) (n1 : Nat) (c1 : Nat) (p2 : Option Addr) (a6 : Option Addr) (n6 : Nat) (c6 : Nat) (a35 : Option Addr) (n35 : Nat) (c35 : Nat) (x36 : Int) (x37 : Int) (w : World) : Prop := ∃ k, thicketref07_Score.l26 R k a1 n1 c1 p2 a6 n6 c6 a35 n35 c35 x36 x37 w
theorem thicketref07_Score.s26 (R : Value → World → Prop) (k : Nat) (a1 : Option Addr) (n1 : Nat) (c1 : Nat) (p2 : Option Addr) (a6 : Option Addr) (n6 : Nat) (c6 : Nat) (a35 : Option Addr) (n35 : Nat) (c35 : Nat) (x36 : Int) (x37 : Int) (w : World) : thicketref07_Score.rl26 R (k + 1) a1 n1 c1 p2 a6 n6 c6 a35 n35 c35 x36 x37 w = ∀ _ : Nat → Value, thicketref07_Score.g26 R (thicketref07_Score.rl26 R k) a1 n1 c1 p2 a6 n6 c6 a35 n35 c35 x36 x37 w := by kernel_rfl
theorem thicketref07_Score.lq26 (R : Value → World → Prop) : ∀ k, thicketref07_Score.l26 R k = thicketref07_Score.rl26 R k
  | 0 => by funext a1 n1 c1 p2 a6 n6 c6 a35 n35 c35 x36 x37 w; first | rfl | kernel_rfl
  | k + 1 => by
    funext a1 n1 c1 p2 a6 n6 c6 a35 n35 c35 x36 x37 w
    rw [thicketref07_Score.s26, forall_const]
    unfold thicketref07_Score.l26
    have ih := thicketref07_Score.lq26 R k
    rw [ih]
    all_goals rfl
theorem thicketref07_Score.eq26 (R : Value → World → Prop) : thicketref07_Score.e26 R = thicketref07_Score.re26 R := by
  funext a1 n1 c1 p2 a6 n6 c6 a35 n35 c35 x36 x37 w
  unfold thicketref07_Score.e26 thicketref07_Score.re26
  simp only [thicketref07_Score.lq26 R]
def thicketref07_Score (R : Value → World → Prop) (s0_0 : ByteArray) (a0_1 : Option Addr) (n0_1 : Nat) (c0_1 : Nat) (x0_2 : Int) (a0_3 : Option Addr) (n0_3 : Nat) (c0_3 : Nat) (a0_4 : Option Addr) (n0_4 : Nat) (c0_4 : Nat) (a1 : Option Addr) (n1 : Nat) (c1 : Nat) (w : World) : Prop := thicketref07_Score.g0 R (thicketref07_Score.e26 R) s0_0 a0_1 n0_1 c0_1 x0_2 a0_3 n0_3 c0_3 a0_4 n0_4 c0_4 a1 n1 c1 w
theorem thicketref07_Score.root0 (R : Value → World → Prop) (s0_0 : ByteArray) (a0_1 : Option Addr) (n0_1 : Nat) (c0_1 : Nat) (x0_2 : Int) (a0_3 : Option Addr) (n0_3 : Nat) (c0_3 : Nat) (a0_4 : Option Addr) (n0_4 : Nat) (c0_4 : Nat) (a1 : Option Addr) (n1 : Nat) (c1 : Nat) (w : World) : fnN Go.Proofs.Try.prog Go.Proofs.Try.f22 thicketref07_Score.an #[.agg #[.string s0_0, .slice a0_1 n0_1 c0_1, .int .i64 x0_2, .slice a0_3 n0_3 c0_3, .slice a0_4 n0_4 c0_4], .slice a1 n1 c1] w R = thicketref07_Score.g0 R (thicketref07_Score.re26 R) s0_0 a0_1 n0_1 c0_1 x0_2 a0_3 n0_3 c0_3 a0_4 n0_4 c0_4 a1 n1 c1 w := by kernel_rfl
theorem thicketref07_Score.calls {R : Value → World → Prop} {s0_0 : ByteArray} {a0_1 : Option Addr} {n0_1 : Nat} {c0_1 : Nat} {x0_2 : Int} {a0_3 : Option Addr} {n0_3 : Nat} {c0_3 : Nat} {a0_4 : Option Addr} {n0_4 : Nat} {c0_4 : Nat} {a1 : Option Addr} {n1 : Nat} {c1 : Nat} {w : World} (h : thicketref07_Score R s0_0 a0_1 n0_1 c0_1 x0_2 a0_3 n0_3 c0_3 a0_4 n0_4 c0_4 a1 n1 c1 w) : Go.E.CallsD Go.Proofs.Try.prog 22 #[.agg #[.string s0_0, .slice a0_1 n0_1 c0_1, .int .i64 x0_2, .slice a0_3 n0_3 c0_3, .slice a0_4 n0_4 c0_4], .slice a1 n1 c1] w R := by
  refine callsD_of (n := thicketref07_Score.an) M_follows M_sizes Go.Proofs.Try.func22 (by rfl) ?_
  rw [thicketref07_Score.root0]
  unfold thicketref07_Score at h
  rw [thicketref07_Score.eq26 R] at h
  exact h
-- thicket/thicketlaw07.sums
def thicketlaw07_sums.an : An := (.mk none .nil (.mk none .nil (.mk none (.mk none .nil (.mk none (.mk (some [0, 1, 12, 13]) .nil .nil) .nil)) .nil)))
def thicketlaw07_sums.g0 (R : Value → World → Prop) (e14 : (Option Addr) → Nat → Nat → (Option Addr) → Nat → Nat → Int → Int → World → Prop) (a0 : Option Addr) (n0 : Nat) (c0 : Nat) (a1 : Option Addr) (n1 : Nat) (c1 : Nat) (w : World) : Prop :=
 onBool ((n0 : Int) != (n1 : Int))
 (R (.bool false) w)
 (e14 a0 n0 c0 a1 n1 c1 (n0 : Int) 0 w)
def thicketlaw07_sums.g14 (R : Value → World → Prop) (b14 : (Option Addr) → Nat → Nat → (Option Addr) → Nat → Nat → Int → Int → World → Prop) (a0 : Option Addr) (n0 : Nat) (c0 : Nat) (a1 : Option Addr) (n1 : Nat) (c1 : Nat) (x12 : Int) (x13 : Int) (w : World) : Prop :=
 onBool (decide (x13 < x12))
 (optN a0 fun q6 =>
 chk ((0 : Int) ≤ x13 ∧ x13 < (n0 : Int))
 (∃ yx_7 : Int, w.cell? (q6.add (x13.toNat * 1)) = some (.int .i64 yx_7) ∧
 (optN a1 fun q8 =>
 chk ((0 : Int) ≤ x13 ∧ x13 < (n1 : Int))
 (∃ yx_9 : Int, w.cell? (q8.add (x13.toNat * 1)) = some (.int .i64 yx_9) ∧
 (onBool (yx_7 != yx_9)
 (R (.bool false) w)
 (nv (IntKind.i64.wrap (x13 + 1)) fun t10 =>
 b14 a0 n0 c0 a1 n1 c1 x12 t10 w))))))
 (R (.bool true) w)
def thicketlaw07_sums.q2 (R : Value → World → Prop) : Exit → Act → World → Prop := (fin Go.Proofs.Try.prog Go.Proofs.Try.f23 R)
def thicketlaw07_sums.q10 (R : Value → World → Prop) : Exit → Act → World → Prop := (thicketlaw07_sums.q2 R)
def thicketlaw07_sums.q11 (R : Value → World → Prop) : Exit → Act → World → Prop := Exit.then (startN none (codeN Go.Proofs.Try.prog (sub (codeOf Go.Proofs.Try.f23) [1, 1, 1]) (nsub thicketlaw07_sums.an [1, 1, 1]) (thicketlaw07_sums.q10 R))) (thicketlaw07_sums.q10 R)
def thicketlaw07_sums.q13 (R : Value → World → Prop) : Exit → Act → World → Prop := (thicketlaw07_sums.q11 R)
def thicketlaw07_sums.q14 (R : Value → World → Prop) : Exit → Act → World → Prop := Exit.inBlock 0 (thicketlaw07_sums.q13 R)
def thicketlaw07_sums.rl14 (R : Value → World → Prop) (k : Nat) (a0 : Option Addr) (n0 : Nat) (c0 : Nat) (a1 : Option Addr) (n1 : Nat) (c1 : Nat) (x12 : Int) (x13 : Int) (w : World) : Prop := loopN [0, 1, 12, 13] (codeN Go.Proofs.Try.prog (sub (codeOf Go.Proofs.Try.f23) [1, 1, 0, 1, 0, 0]) (nsub thicketlaw07_sums.an [1, 1, 0, 1, 0, 0])) (thicketlaw07_sums.q14 R) k ⟨#[.slice a0 n0 c0, .slice a1 n1 c1, undef, undef, undef, undef, undef, undef, undef, undef, undef, undef, .int .i64 x12, .int .i64 x13, undef, undef, undef, undef, undef, undef, undef, undef, undef, undef, undef, undef], []⟩ w
def thicketlaw07_sums.re14 (R : Value → World → Prop) (a0 : Option Addr) (n0 : Nat) (c0 : Nat) (a1 : Option Addr) (n1 : Nat) (c1 : Nat) (x12 : Int) (x13 : Int) (w : World) : Prop := ∃ k, thicketlaw07_sums.rl14 R k a0 n0 c0 a1 n1 c1 x12 x13 w
def thicketlaw07_sums.l14 (R : Value → World → Prop) : Nat → (Option Addr) → Nat → Nat → (Option Addr) → Nat → Nat → Int → Int → World → Prop
  | 0, _, _, _, _, _, _, _, _, _ => False
  | k + 1, a0, n0, c0, a1, n1, c1, x12, x13, w => thicketlaw07_sums.g14 R (thicketlaw07_sums.l14 R k) a0 n0 c0 a1 n1 c1 x12 x13 w
def thicketlaw07_sums.e14 (R : Value → World → Prop) (a0 : Option Addr) (n0 : Nat) (c0 : Nat) (a1 : Option Addr) (n1 : Nat) (c1 : Nat) (x12 : Int) (x13 : Int) (w : World) : Prop := ∃ k, thicketlaw07_sums.l14 R k a0 n0 c0 a1 n1 c1 x12 x13 w
theorem thicketlaw07_sums.s14 (R : Value → World → Prop) (k : Nat) (a0 : Option Addr) (n0 : Nat) (c0 : Nat) (a1 : Option Addr) (n1 : Nat) (c1 : Nat) (x12 : Int) (x13 : Int) (w : World) : thicketlaw07_sums.rl14 R (k + 1) a0 n0 c0 a1 n1 c1 x12 x13 w = ∀ _ : Nat → Value, thicketlaw07_sums.g14 R (thicketlaw07_sums.rl14 R k) a0 n0 c0 a1 n1 c1 x12 x13 w := by kernel_rfl
theorem thicketlaw07_sums.lq14 (R : Value → World → Prop) : ∀ k, thicketlaw07_sums.l14 R k = thicketlaw07_sums.rl14 R k
  | 0 => by funext a0 n0 c0 a1 n1 c1 x12 x13 w; first | rfl | kernel_rfl
  | k + 1 => by
    funext a0 n0 c0 a1 n1 c1 x12 x13 w
    rw [thicketlaw07_sums.s14, forall_const]
    unfold thicketlaw07_sums.l14
    have ih := thicketlaw07_sums.lq14 R k
    rw [ih]
    all_goals rfl
theorem thicketlaw07_sums.eq14 (R : Value → World → Prop) : thicketlaw07_sums.e14 R = thicketlaw07_sums.re14 R := by
  funext a0 n0 c0 a1 n1 c1 x12 x13 w
  unfold thicketlaw07_sums.e14 thicketlaw07_sums.re14
  simp only [thicketlaw07_sums.lq14 R]
def thicketlaw07_sums (R : Value → World → Prop) (a0 : Option Addr) (n0 : Nat) (c0 : Nat) (a1 : Option Addr) (n1 : Nat) (c1 : Nat) (w : World) : Prop := thicketlaw07_sums.g0 R (thicketlaw07_sums.e14 R) a0 n0 c0 a1 n1 c1 w
theorem thicketlaw07_sums.root0 (R : Value → World → Prop) (a0 : Option Addr) (n0 : Nat) (c0 : Nat) (a1 : Option Addr) (n1 : Nat) (c1 : Nat) (w : World) : fnN Go.Proofs.Try.prog Go.Proofs.Try.f23 thicketlaw07_sums.an #[.slice a0 n0 c0, .slice a1 n1 c1] w R = thicketlaw07_sums.g0 R (thicketlaw07_sums.re14 R) a0 n0 c0 a1 n1 c1 w := by kernel_rfl
theorem thicketlaw07_sums.calls {R : Value → World → Prop} {a0 : Option Addr} {n0 : Nat} {c0 : Nat} {a1 : Option Addr} {n1 : Nat} {c1 : Nat} {w : World} (h : thicketlaw07_sums R a0 n0 c0 a1 n1 c1 w) : Go.E.CallsD Go.Proofs.Try.prog 23 #[.slice a0 n0 c0, .slice a1 n1 c1] w R := by
  refine callsD_of (n := thicketlaw07_sums.an) M_follows M_sizes Go.Proofs.Try.func23 (by rfl) ?_
  rw [thicketlaw07_sums.root0]
  unfold thicketlaw07_sums at h
  rw [thicketlaw07_sums.eq14 R] at h
  exact h
-- thicket/thicketref07.Same
def thicketref07_Same.an : An := (.mk none .nil (.mk none .nil (.mk none (.mk none .nil (.mk none (.mk (some [2, 3, 49, 50]) .nil .nil) .nil)) (.mk none (.mk none .nil (.mk none (.mk (some [2, 3, 67, 68]) .nil .nil) .nil)) (.mk none (.mk none .nil (.mk none (.mk (some [2, 3, 85, 86]) .nil .nil) .nil)) .nil)))))
def thicketref07_Same.g0 (R : Value → World → Prop) (e14 : (Option Addr) → (Option Addr) → Int → Int → World → Prop) (s0_0 : ByteArray) (a0_1 : Option Addr) (n0_1 : Nat) (c0_1 : Nat) (x0_2 : Int) (a0_3 : Option Addr) (n0_3 : Nat) (c0_3 : Nat) (a0_4 : Option Addr) (n0_4 : Nat) (c0_4 : Nat) (s1_0 : ByteArray) (a1_1 : Option Addr) (n1_1 : Nat) (c1_1 : Nat) (x1_2 : Int) (a1_3 : Option Addr) (n1_3 : Nat) (c1_3 : Nat) (a1_4 : Option Addr) (n1_4 : Nat) (c1_4 : Nat) (w : World) : Prop :=
 nw (w.alloc (.cells #[.string s0_0, .slice a0_1 n0_1 c0_1, .int .i64 x0_2, .slice a0_3 n0_3 c0_3, .slice a0_4 n0_4 c0_4] 46)) fun w49 =>
 nw (w49.alloc (.cells #[.string s1_0, .slice a1_1 n1_1 c1_1, .int .i64 x1_2, .slice a1_3 n1_3 c1_3, .slice a1_4 n1_4 c1_4] 46)) fun w50 =>
 ∃ ys_51 : ByteArray, w50.cell? ((na w).add 0) = some (.string ys_51) ∧
 (∃ ys_52 : ByteArray, w50.cell? ((na w49).add 0) = some (.string ys_52) ∧
 (onBool (!((ys_51 : ByteArray).toList == (ys_52 : ByteArray).toList))
 (R (.bool false) w50)
 (∃ yx_53 : Int, w50.cell? ((na w).add 2) = some (.int .i64 yx_53) ∧
 (∃ yx_54 : Int, w50.cell? ((na w49).add 2) = some (.int .i64 yx_54) ∧
 (onBool (yx_53 != yx_54)
 (R (.bool false) w50)
 (∃ ya_55 : Option Addr, ∃ yn_55 : Nat, ∃ yc_55 : Nat, w50.cell? ((na w).add 1) = some (.slice ya_55 yn_55 yc_55) ∧
 (∃ ya_56 : Option Addr, ∃ yn_56 : Nat, ∃ yc_56 : Nat, w50.cell? ((na w49).add 1) = some (.slice ya_56 yn_56 yc_56) ∧
 (onBool ((yn_55 : Int) != (yn_56 : Int))
 (R (.bool false) w50)
 (∃ ya_57 : Option Addr, ∃ yn_57 : Nat, ∃ yc_57 : Nat, w50.cell? ((na w).add 3) = some (.slice ya_57 yn_57 yc_57) ∧
 (∃ ya_58 : Option Addr, ∃ yn_58 : Nat, ∃ yc_58 : Nat, w50.cell? ((na w49).add 3) = some (.slice ya_58 yn_58 yc_58) ∧
 (onBool ((yn_57 : Int) != (yn_58 : Int))
 (R (.bool false) w50)
 (∃ ya_59 : Option Addr, ∃ yn_59 : Nat, ∃ yc_59 : Nat, w50.cell? ((na w).add 4) = some (.slice ya_59 yn_59 yc_59) ∧
 (∃ ya_60 : Option Addr, ∃ yn_60 : Nat, ∃ yc_60 : Nat, w50.cell? ((na w49).add 4) = some (.slice ya_60 yn_60 yc_60) ∧
 (onBool ((yn_59 : Int) != (yn_60 : Int))
 (R (.bool false) w50)
 (∃ ya_61 : Option Addr, ∃ yn_61 : Nat, ∃ yc_61 : Nat, w50.cell? ((na w).add 1) = some (.slice ya_61 yn_61 yc_61) ∧
 (e14 (some (na w)) (some (na w49)) (yn_61 : Int) 0 w50))))))))))))))))
def thicketref07_Same.g14 (R : Value → World → Prop) (b14 : (Option Addr) → (Option Addr) → Int → Int → World → Prop) (e37 : (Option Addr) → (Option Addr) → Int → Int → World → Prop) (p2 : Option Addr) (p3 : Option Addr) (x49 : Int) (x50 : Int) (w : World) : Prop :=
 onBool (decide (x50 < x49))
 (optN p2 fun q62 =>
 ∃ ya_63 : Option Addr, ∃ yn_63 : Nat, ∃ yc_63 : Nat, w.cell? (q62.add 1) = some (.slice ya_63 yn_63 yc_63) ∧
 (optN ya_63 fun q64 =>
 chk ((0 : Int) ≤ x50 ∧ x50 < (yn_63 : Int))
 (∃ ys_65 : ByteArray, w.cell? (q64.add (x50.toNat * 1)) = some (.string ys_65) ∧
 (optN p3 fun q66 =>
 ∃ ya_67 : Option Addr, ∃ yn_67 : Nat, ∃ yc_67 : Nat, w.cell? (q66.add 1) = some (.slice ya_67 yn_67 yc_67) ∧
 (optN ya_67 fun q68 =>
 chk ((0 : Int) ≤ x50 ∧ x50 < (yn_67 : Int))
 (∃ ys_69 : ByteArray, w.cell? (q68.add (x50.toNat * 1)) = some (.string ys_69) ∧
 (onBool (!((ys_65 : ByteArray).toList == (ys_69 : ByteArray).toList))
 (R (.bool false) w)
 (nv (IntKind.i64.wrap (x50 + 1)) fun t70 =>
 b14 p2 p3 x49 t70 w))))))))
 (optN p2 fun q71 =>
 ∃ ya_72 : Option Addr, ∃ yn_72 : Nat, ∃ yc_72 : Nat, w.cell? (q71.add 3) = some (.slice ya_72 yn_72 yc_72) ∧
 (e37 p2 p3 (yn_72 : Int) 0 w))
def thicketref07_Same.g37 (R : Value → World → Prop) (b37 : (Option Addr) → (Option Addr) → Int → Int → World → Prop) (e60 : (Option Addr) → (Option Addr) → Int → Int → World → Prop) (p2 : Option Addr) (p3 : Option Addr) (x67 : Int) (x68 : Int) (w : World) : Prop :=
 onBool (decide (x68 < x67))
 (optN p2 fun q73 =>
 ∃ ya_74 : Option Addr, ∃ yn_74 : Nat, ∃ yc_74 : Nat, w.cell? (q73.add 3) = some (.slice ya_74 yn_74 yc_74) ∧
 (optN ya_74 fun q75 =>
 chk ((0 : Int) ≤ x68 ∧ x68 < (yn_74 : Int))
 (∃ yx_76 : Int, w.cell? (q75.add (x68.toNat * 1)) = some (.int .i64 yx_76) ∧
 (optN p3 fun q77 =>
 ∃ ya_78 : Option Addr, ∃ yn_78 : Nat, ∃ yc_78 : Nat, w.cell? (q77.add 3) = some (.slice ya_78 yn_78 yc_78) ∧
 (optN ya_78 fun q79 =>
 chk ((0 : Int) ≤ x68 ∧ x68 < (yn_78 : Int))
 (∃ yx_80 : Int, w.cell? (q79.add (x68.toNat * 1)) = some (.int .i64 yx_80) ∧
 (onBool (yx_76 != yx_80)
 (R (.bool false) w)
 (nv (IntKind.i64.wrap (x68 + 1)) fun t81 =>
 b37 p2 p3 x67 t81 w))))))))
 (optN p2 fun q82 =>
 ∃ ya_83 : Option Addr, ∃ yn_83 : Nat, ∃ yc_83 : Nat, w.cell? (q82.add 4) = some (.slice ya_83 yn_83 yc_83) ∧
 (e60 p2 p3 (yn_83 : Int) 0 w))
def thicketref07_Same.g60 (R : Value → World → Prop) (b60 : (Option Addr) → (Option Addr) → Int → Int → World → Prop) (p2 : Option Addr) (p3 : Option Addr) (x85 : Int) (x86 : Int) (w : World) : Prop :=
 onBool (decide (x86 < x85))
 (optN p2 fun q84 =>
 ∃ ya_85 : Option Addr, ∃ yn_85 : Nat, ∃ yc_85 : Nat, w.cell? (q84.add 4) = some (.slice ya_85 yn_85 yc_85) ∧
 (optN ya_85 fun q86 =>
 chk ((0 : Int) ≤ x86 ∧ x86 < (yn_85 : Int))
 (∃ yx_87 : Int, w.cell? ((q86.add (x86.toNat * 2)).add 0) = some (.int .i64 yx_87) ∧
 (∃ ya_88 : Option Addr, ∃ yn_88 : Nat, ∃ yc_88 : Nat, w.cell? ((q86.add (x86.toNat * 2)).add 1) = some (.slice ya_88 yn_88 yc_88) ∧
 (optN p3 fun q89 =>
 ∃ ya_90 : Option Addr, ∃ yn_90 : Nat, ∃ yc_90 : Nat, w.cell? (q89.add 4) = some (.slice ya_90 yn_90 yc_90) ∧
 (optN ya_90 fun q91 =>
 chk ((0 : Int) ≤ x86 ∧ x86 < (yn_90 : Int))
 (∃ yx_92 : Int, w.cell? ((q91.add (x86.toNat * 2)).add 0) = some (.int .i64 yx_92) ∧
 (∃ ya_93 : Option Addr, ∃ yn_93 : Nat, ∃ yc_93 : Nat, w.cell? ((q91.add (x86.toNat * 2)).add 1) = some (.slice ya_93 yn_93 yc_93) ∧
 (Go.E.CallsD Go.Proofs.Try.prog 42 #[.agg #[.int .i64 yx_87, .slice ya_88 yn_88 yc_88], .agg #[.int .i64 yx_92, .slice ya_93 yn_93 yc_93]] w fun yv94 u95 =>
 ∃ yb_96 : Bool, yv94 = .bool yb_96 ∧
 (onBool (!yb_96)
 (R (.bool false) u95)
 (nv (IntKind.i64.wrap (x86 + 1)) fun t97 =>
 b60 p2 p3 x85 t97 u95)))))))))))
 (R (.bool true) w)
def thicketref07_Same.q2 (R : Value → World → Prop) : Exit → Act → World → Prop := (fin Go.Proofs.Try.prog Go.Proofs.Try.f24 R)
def thicketref07_Same.q10 (R : Value → World → Prop) : Exit → Act → World → Prop := (thicketref07_Same.q2 R)
def thicketref07_Same.q11 (R : Value → World → Prop) : Exit → Act → World → Prop := Exit.then (startN none (codeN Go.Proofs.Try.prog (sub (codeOf Go.Proofs.Try.f24) [1, 1, 1]) (nsub thicketref07_Same.an [1, 1, 1]) (thicketref07_Same.q10 R))) (thicketref07_Same.q10 R)
def thicketref07_Same.q13 (R : Value → World → Prop) : Exit → Act → World → Prop := (thicketref07_Same.q11 R)
def thicketref07_Same.q14 (R : Value → World → Prop) : Exit → Act → World → Prop := Exit.inBlock 0 (thicketref07_Same.q13 R)
def thicketref07_Same.rl14 (R : Value → World → Prop) (k : Nat) (p2 : Option Addr) (p3 : Option Addr) (x49 : Int) (x50 : Int) (w : World) : Prop := loopN [2, 3, 49, 50] (codeN Go.Proofs.Try.prog (sub (codeOf Go.Proofs.Try.f24) [1, 1, 0, 1, 0, 0]) (nsub thicketref07_Same.an [1, 1, 0, 1, 0, 0])) (thicketref07_Same.q14 R) k ⟨#[undef, undef, .pointer p2, .pointer p3, undef, undef, undef, undef, undef, undef, undef, undef, undef, undef, undef, undef, undef, undef, undef, undef, undef, undef, undef, undef, undef, undef, undef, undef, undef, undef, undef, undef, undef, undef, undef, undef, undef, undef, undef, undef, undef, undef, undef, undef, undef, undef, undef, undef, undef, .int .i64 x49, .int .i64 x50, undef, undef, undef, undef, undef, undef, undef, undef, undef, undef, undef, undef, undef, undef, undef, undef, undef, undef, undef, undef, undef, undef, undef, undef, undef, undef, undef, undef, undef, undef, undef, undef, undef, undef, undef, undef, undef, undef, undef, undef, undef, undef, undef, undef, undef, undef, undef, undef, undef, undef, undef], []⟩ w
def thicketref07_Same.re14 (R : Value → World → Prop) (p2 : Option Addr) (p3 : Option Addr) (x49 : Int) (x50 : Int) (w : World) : Prop := ∃ k, thicketref07_Same.rl14 R k p2 p3 x49 x50 w
def thicketref07_Same.q33 (R : Value → World → Prop) : Exit → Act → World → Prop := (thicketref07_Same.q10 R)
def thicketref07_Same.q34 (R : Value → World → Prop) : Exit → Act → World → Prop := Exit.then (startN none (codeN Go.Proofs.Try.prog (sub (codeOf Go.Proofs.Try.f24) [1, 1, 1, 1]) (nsub thicketref07_Same.an [1, 1, 1, 1]) (thicketref07_Same.q33 R))) (thicketref07_Same.q33 R)
def thicketref07_Same.q36 (R : Value → World → Prop) : Exit → Act → World → Prop := (thicketref07_Same.q34 R)
def thicketref07_Same.q37 (R : Value → World → Prop) : Exit → Act → World → Prop := Exit.inBlock 2 (thicketref07_Same.q36 R)
def thicketref07_Same.rl37 (R : Value → World → Prop) (k : Nat) (p2 : Option Addr) (p3 : Option Addr) (x67 : Int) (x68 : Int) (w : World) : Prop := loopN [2, 3, 67, 68] (codeN Go.Proofs.Try.prog (sub (codeOf Go.Proofs.Try.f24) [1, 1, 1, 0, 1, 0, 0]) (nsub thicketref07_Same.an [1, 1, 1, 0, 1, 0, 0])) (thicketref07_Same.q37 R) k ⟨#[undef, undef, .pointer p2, .pointer p3, undef, undef, undef, undef, undef, undef, undef, undef, undef, undef, undef, undef, undef, undef, undef, undef, undef, undef, undef, undef, undef, undef, undef, undef, undef, undef, undef, undef, undef, undef, undef, undef, undef, undef, undef, undef, undef, undef, undef, undef, undef, undef, undef, undef, undef, undef, undef, undef, undef, undef, undef, undef, undef, undef, undef, undef, undef, undef, undef, undef, undef, undef, undef, .int .i64 x67, .int .i64 x68, undef, undef, undef, undef, undef, undef, undef, undef, undef, undef, undef, undef, undef, undef, undef, undef, undef, undef, undef, undef, undef, undef, undef, undef, undef, undef, undef, undef, undef, undef, undef, undef, undef], []⟩ w
def thicketref07_Same.re37 (R : Value → World → Prop) (p2 : Option Addr) (p3 : Option Addr) (x67 : Int) (x68 : Int) (w : World) : Prop := ∃ k, thicketref07_Same.rl37 R k p2 p3 x67 x68 w
def thicketref07_Same.q56 (R : Value → World → Prop) : Exit → Act → World → Prop := (thicketref07_Same.q33 R)
def thicketref07_Same.q57 (R : Value → World → Prop) : Exit → Act → World → Prop := Exit.then (startN none (codeN Go.Proofs.Try.prog (sub (codeOf Go.Proofs.Try.f24) [1, 1, 1, 1, 1]) (nsub thicketref07_Same.an [1, 1, 1, 1, 1]) (thicketref07_Same.q56 R))) (thicketref07_Same.q56 R)
def thicketref07_Same.q59 (R : Value → World → Prop) : Exit → Act → World → Prop := (thicketref07_Same.q57 R)
def thicketref07_Same.q60 (R : Value → World → Prop) : Exit → Act → World → Prop := Exit.inBlock 4 (thicketref07_Same.q59 R)
def thicketref07_Same.rl60 (R : Value → World → Prop) (k : Nat) (p2 : Option Addr) (p3 : Option Addr) (x85 : Int) (x86 : Int) (w : World) : Prop := loopN [2, 3, 85, 86] (codeN Go.Proofs.Try.prog (sub (codeOf Go.Proofs.Try.f24) [1, 1, 1, 1, 0, 1, 0, 0]) (nsub thicketref07_Same.an [1, 1, 1, 1, 0, 1, 0, 0])) (thicketref07_Same.q60 R) k ⟨#[undef, undef, .pointer p2, .pointer p3, undef, undef, undef, undef, undef, undef, undef, undef, undef, undef, undef, undef, undef, undef, undef, undef, undef, undef, undef, undef, undef, undef, undef, undef, undef, undef, undef, undef, undef, undef, undef, undef, undef, undef, undef, undef, undef, undef, undef, undef, undef, undef, undef, undef, undef, undef, undef, undef, undef, undef, undef, undef, undef, undef, undef, undef, undef, undef, undef, undef, undef, undef, undef, undef, undef, undef, undef, undef, undef, undef, undef, undef, undef, undef, undef, undef, undef, undef, undef, undef, undef, .int .i64 x85, .int .i64 x86, undef, undef, undef, undef, undef, undef, undef, undef, undef, undef, undef, undef, undef, undef, undef], []⟩ w
def thicketref07_Same.re60 (R : Value → World → Prop) (p2 : Option Addr) (p3 : Option Addr) (x85 : Int) (x86 : Int) (w : World) : Prop := ∃ k, thicketref07_Same.rl60 R k p2 p3 x85 x86 w
def thicketref07_Same.l60 (R : Value → World → Prop) : Nat → (Option Addr) → (Option Addr) → Int → Int → World → Prop
  | 0, _, _, _, _, _ => False
  | k + 1, p2, p3, x85, x86, w => thicketref07_Same.g60 R (thicketref07_Same.l60 R k) p2 p3 x85 x86 w
def thicketref07_Same.e60 (R : Value → World → Prop) (p2 : Option Addr) (p3 : Option Addr) (x85 : Int) (x86 : Int) (w : World) : Prop := ∃ k, thicketref07_Same.l60 R k p2 p3 x85 x86 w
theorem thicketref07_Same.s60 (R : Value → World → Prop) (k : Nat) (p2 : Option Addr) (p3 : Option Addr) (x85 : Int) (x86 : Int) (w : World) : thicketref07_Same.rl60 R (k + 1) p2 p3 x85 x86 w = ∀ _ : Nat → Value, thicketref07_Same.g60 R (thicketref07_Same.rl60 R k) p2 p3 x85 x86 w := by kernel_rfl
theorem thicketref07_Same.lq60 (R : Value → World → Prop) : ∀ k, thicketref07_Same.l60 R k = thicketref07_Same.rl60 R k
  | 0 => by funext p2 p3 x85 x86 w; first | rfl | kernel_rfl
  | k + 1 => by
    funext p2 p3 x85 x86 w
    rw [thicketref07_Same.s60, forall_const]
    unfold thicketref07_Same.l60
    have ih := thicketref07_Same.lq60 R k
    rw [ih]
    all_goals rfl
theorem thicketref07_Same.eq60 (R : Value → World → Prop) : thicketref07_Same.e60 R = thicketref07_Same.re60 R := by
  funext p2 p3 x85 x86 w
  unfold thicketref07_Same.e60 thicketref07_Same.re60
  simp only [thicketref07_Same.lq60 R]
def thicketref07_Same.l37 (R : Value → World → Prop) : Nat → (Option Addr) → (Option Addr) → Int → Int → World → Prop
  | 0, _, _, _, _, _ => False
  | k + 1, p2, p3, x67, x68, w => thicketref07_Same.g37 R (thicketref07_Same.l37 R k) (thicketref07_Same.e60 R) p2 p3 x67 x68 w
def thicketref07_Same.e37 (R : Value → World → Prop) (p2 : Option Addr) (p3 : Option Addr) (x67 : Int) (x68 : Int) (w : World) : Prop := ∃ k, thicketref07_Same.l37 R k p2 p3 x67 x68 w
theorem thicketref07_Same.s37 (R : Value → World → Prop) (k : Nat) (p2 : Option Addr) (p3 : Option Addr) (x67 : Int) (x68 : Int) (w : World) : thicketref07_Same.rl37 R (k + 1) p2 p3 x67 x68 w = ∀ _ : Nat → Value, thicketref07_Same.g37 R (thicketref07_Same.rl37 R k) (thicketref07_Same.re60 R) p2 p3 x67 x68 w := by kernel_rfl
theorem thicketref07_Same.lq37 (R : Value → World → Prop) : ∀ k, thicketref07_Same.l37 R k = thicketref07_Same.rl37 R k
  | 0 => by funext p2 p3 x67 x68 w; first | rfl | kernel_rfl
  | k + 1 => by
    funext p2 p3 x67 x68 w
    rw [thicketref07_Same.s37, forall_const]
    unfold thicketref07_Same.l37
    have ih := thicketref07_Same.lq37 R k
    rw [thicketref07_Same.eq60 R]
    rw [ih]
    all_goals rfl
theorem thicketref07_Same.eq37 (R : Value → World → Prop) : thicketref07_Same.e37 R = thicketref07_Same.re37 R := by
  funext p2 p3 x67 x68 w
  unfold thicketref07_Same.e37 thicketref07_Same.re37
  simp only [thicketref07_Same.lq37 R]
def thicketref07_Same.l14 (R : Value → World → Prop) : Nat → (Option Addr) → (Option Addr) → Int → Int → World → Prop
  | 0, _, _, _, _, _ => False
  | k + 1, p2, p3, x49, x50, w => thicketref07_Same.g14 R (thicketref07_Same.l14 R k) (thicketref07_Same.e37 R) p2 p3 x49 x50 w
def thicketref07_Same.e14 (R : Value → World → Prop) (p2 : Option Addr) (p3 : Option Addr) (x49 : Int) (x50 : Int) (w : World) : Prop := ∃ k, thicketref07_Same.l14 R k p2 p3 x49 x50 w
theorem thicketref07_Same.s14 (R : Value → World → Prop) (k : Nat) (p2 : Option Addr) (p3 : Option Addr) (x49 : Int) (x50 : Int) (w : World) : thicketref07_Same.rl14 R (k + 1) p2 p3 x49 x50 w = ∀ _ : Nat → Value, thicketref07_Same.g14 R (thicketref07_Same.rl14 R k) (thicketref07_Same.re37 R) p2 p3 x49 x50 w := by kernel_rfl
theorem thicketref07_Same.lq14 (R : Value → World → Prop) : ∀ k, thicketref07_Same.l14 R k = thicketref07_Same.rl14 R k
  | 0 => by funext p2 p3 x49 x50 w; first | rfl | kernel_rfl
  | k + 1 => by
    funext p2 p3 x49 x50 w
    rw [thicketref07_Same.s14, forall_const]
    unfold thicketref07_Same.l14
    have ih := thicketref07_Same.lq14 R k
    rw [thicketref07_Same.eq37 R]
    rw [ih]
    all_goals rfl
theorem thicketref07_Same.eq14 (R : Value → World → Prop) : thicketref07_Same.e14 R = thicketref07_Same.re14 R := by
  funext p2 p3 x49 x50 w
  unfold thicketref07_Same.e14 thicketref07_Same.re14
  simp only [thicketref07_Same.lq14 R]
def thicketref07_Same (R : Value → World → Prop) (s0_0 : ByteArray) (a0_1 : Option Addr) (n0_1 : Nat) (c0_1 : Nat) (x0_2 : Int) (a0_3 : Option Addr) (n0_3 : Nat) (c0_3 : Nat) (a0_4 : Option Addr) (n0_4 : Nat) (c0_4 : Nat) (s1_0 : ByteArray) (a1_1 : Option Addr) (n1_1 : Nat) (c1_1 : Nat) (x1_2 : Int) (a1_3 : Option Addr) (n1_3 : Nat) (c1_3 : Nat) (a1_4 : Option Addr) (n1_4 : Nat) (c1_4 : Nat) (w : World) : Prop := thicketref07_Same.g0 R (thicketref07_Same.e14 R) s0_0 a0_1 n0_1 c0_1 x0_2 a0_3 n0_3 c0_3 a0_4 n0_4 c0_4 s1_0 a1_1 n1_1 c1_1 x1_2 a1_3 n1_3 c1_3 a1_4 n1_4 c1_4 w
theorem thicketref07_Same.root0 (R : Value → World → Prop) (s0_0 : ByteArray) (a0_1 : Option Addr) (n0_1 : Nat) (c0_1 : Nat) (x0_2 : Int) (a0_3 : Option Addr) (n0_3 : Nat) (c0_3 : Nat) (a0_4 : Option Addr) (n0_4 : Nat) (c0_4 : Nat) (s1_0 : ByteArray) (a1_1 : Option Addr) (n1_1 : Nat) (c1_1 : Nat) (x1_2 : Int) (a1_3 : Option Addr) (n1_3 : Nat) (c1_3 : Nat) (a1_4 : Option Addr) (n1_4 : Nat) (c1_4 : Nat) (w : World) : fnN Go.Proofs.Try.prog Go.Proofs.Try.f24 thicketref07_Same.an #[.agg #[.string s0_0, .slice a0_1 n0_1 c0_1, .int .i64 x0_2, .slice a0_3 n0_3 c0_3, .slice a0_4 n0_4 c0_4], .agg #[.string s1_0, .slice a1_1 n1_1 c1_1, .int .i64 x1_2, .slice a1_3 n1_3 c1_3, .slice a1_4 n1_4 c1_4]] w R = thicketref07_Same.g0 R (thicketref07_Same.re14 R) s0_0 a0_1 n0_1 c0_1 x0_2 a0_3 n0_3 c0_3 a0_4 n0_4 c0_4 s1_0 a1_1 n1_1 c1_1 x1_2 a1_3 n1_3 c1_3 a1_4 n1_4 c1_4 w := by kernel_rfl
theorem thicketref07_Same.calls {R : Value → World → Prop} {s0_0 : ByteArray} {a0_1 : Option Addr} {n0_1 : Nat} {c0_1 : Nat} {x0_2 : Int} {a0_3 : Option Addr} {n0_3 : Nat} {c0_3 : Nat} {a0_4 : Option Addr} {n0_4 : Nat} {c0_4 : Nat} {s1_0 : ByteArray} {a1_1 : Option Addr} {n1_1 : Nat} {c1_1 : Nat} {x1_2 : Int} {a1_3 : Option Addr} {n1_3 : Nat} {c1_3 : Nat} {a1_4 : Option Addr} {n1_4 : Nat} {c1_4 : Nat} {w : World} (h : thicketref07_Same R s0_0 a0_1 n0_1 c0_1 x0_2 a0_3 n0_3 c0_3 a0_4 n0_4 c0_4 s1_0 a1_1 n1_1 c1_1 x1_2 a1_3 n1_3 c1_3 a1_4 n1_4 c1_4 w) : Go.E.CallsD Go.Proofs.Try.prog 24 #[.agg #[.string s0_0, .slice a0_1 n0_1 c0_1, .int .i64 x0_2, .slice a0_3 n0_3 c0_3, .slice a0_4 n0_4 c0_4], .agg #[.string s1_0, .slice a1_1 n1_1 c1_1, .int .i64 x1_2, .slice a1_3 n1_3 c1_3, .slice a1_4 n1_4 c1_4]] w R := by
  refine callsD_of (n := thicketref07_Same.an) M_follows M_sizes Go.Proofs.Try.func24 (by rfl) ?_
  rw [thicketref07_Same.root0]
  unfold thicketref07_Same at h
  rw [thicketref07_Same.eq14 R] at h
  exact h
-- thicket/trees.Shape
def trees_Shape.an : An := (.mk none .nil (.mk none .nil (.mk none .nil (.mk none (.mk none .nil (.mk none (.mk (some [1, 4, 22, 23, 24]) .nil .nil) .nil)) (.mk none .nil (.mk none .nil (.mk none (.mk none (.mk (some [1, 4, 7, 8]) .nil .nil) .nil) (.mk none (.mk none .nil (.mk none (.mk (some [4, 7, 95, 96]) .nil .nil) .nil)) .nil))))))))
def trees_Shape.g0 (R : Value → World → Prop) (e16 : (Option Addr) → (Option Addr) → Nat → Nat → (Option Addr) → Nat → Nat → Int → Int → World → Prop) (x0_0 : Int) (a0_1 : Option Addr) (n0_1 : Nat) (c0_1 : Nat) (w : World) : Prop :=
 nw (w.alloc (.cells #[.int .i64 x0_0, .slice a0_1 n0_1 c0_1] 33)) fun w117 =>
 ∃ ya_118 : Option Addr, ∃ yn_118 : Nat, ∃ yc_118 : Nat, w117.cell? ((na w).add 1) = some (.slice ya_118 yn_118 yc_118) ∧
 (onBool ((yn_118 : Int) == 0)
 (R (.tuple #[.int .i64 70, .int .i64 0]) w117)
 (∃ ya_119 : Option Addr, ∃ yn_119 : Nat, ∃ yc_119 : Nat, w117.cell? ((na w).add 1) = some (.slice ya_119 yn_119 yc_119) ∧
 (chk ((0 : Int) ≤ (yn_119 : Int) ∧ (yn_119 : Int) ≤ (yn_119 : Int) ∧ ((8 : Nat) : Int) * (yn_119 : Int) ≤ 281474976710656 ∧ (yn_119 : Int) ≤ 9223372036854775807)
 (nw (w117.alloc (.cells (madeCells #[.int .i64 0] (((yn_119 : Int)).toNat * 1)) 3)) fun w120 =>
 ∃ ya_121 : Option Addr, ∃ yn_121 : Nat, ∃ yc_121 : Nat, w120.cell? ((na w).add 1) = some (.slice ya_121 yn_121 yc_121) ∧
 (e16 (some (na w)) (some (na w117)) (((yn_119 : Int)).toNat) (((yn_119 : Int)).toNat) ya_121 yn_121 yc_121 (yn_121 : Int) 0 w120)))))
def trees_Shape.g16 (R : Value → World → Prop) (b16 : (Option Addr) → (Option Addr) → Nat → Nat → (Option Addr) → Nat → Nat → Int → Int → World → Prop) (e49 : (Option Addr) → (Option Addr) → Nat → Nat → (Option Addr) → Nat → Nat → (Option Addr) → Nat → Nat → World → Prop) (p1 : Option Addr) (a4 : Option Addr) (n4 : Nat) (c4 : Nat) (a22 : Option Addr) (n22 : Nat) (c22 : Nat) (x23 : Int) (x24 : Int) (w : World) : Prop :=
 onBool (decide (x24 < x23))
 (optN a22 fun q122 =>
 chk ((0 : Int) ≤ x24 ∧ x24 < (n22 : Int))
 (∃ yx_123 : Int, w.cell? ((q122.add (x24.toNat * 8)).add 0) = some (.int .u8 yx_123) ∧
 (∃ yx_124 : Int, w.cell? ((q122.add (x24.toNat * 8)).add 1) = some (.int .i64 yx_124) ∧
 (∃ yx_125 : Int, w.cell? ((q122.add (x24.toNat * 8)).add 2) = some (.int .i64 yx_125) ∧
 (∃ yf_126 : Nat, w.cell? ((q122.add (x24.toNat * 8)).add 3) = some (.float .f64 yf_126) ∧
 (∃ ya_127 : Option Addr, ∃ yn_127 : Nat, ∃ yc_127 : Nat, w.cell? ((q122.add (x24.toNat * 8)).add 4) = some (.slice ya_127 yn_127 yc_127) ∧
 (∃ yx_128 : Int, w.cell? ((q122.add (x24.toNat * 8)).add 5) = some (.int .u8 yx_128) ∧
 (∃ yx_129 : Int, w.cell? ((q122.add (x24.toNat * 8)).add 6) = some (.int .i64 yx_129) ∧
 (∃ yx_130 : Int, w.cell? ((q122.add (x24.toNat * 8)).add 7) = some (.int .i64 yx_130) ∧
 (nw (w.alloc (.cells #[.int .u8 0, .int .i64 0, .int .i64 0, .float .f64 0, .slice none 0 0, .int .u8 0, .int .i64 0, .int .i64 0] 27)) fun w131 =>
 okSt w131 ((na w).add 0) ∧
 (nw (w131.setCell ((na w).add 0) (.int .u8 yx_123)) fun w132 =>
 okSt w132 ((na w).add 1) ∧
 (nw (w132.setCell ((na w).add 1) (.int .i64 yx_124)) fun w133 =>
 okSt w133 ((na w).add 2) ∧
 (nw (w133.setCell ((na w).add 2) (.int .i64 yx_125)) fun w134 =>
 okSt w134 ((na w).add 3) ∧
 (nw (w134.setCell ((na w).add 3) (.float .f64 yf_126)) fun w135 =>
 okSt w135 ((na w).add 4) ∧
 (nw (w135.setCell ((na w).add 4) (.slice ya_127 yn_127 yc_127)) fun w136 =>
 okSt w136 ((na w).add 5) ∧
 (nw (w136.setCell ((na w).add 5) (.int .u8 yx_128)) fun w137 =>
 okSt w137 ((na w).add 6) ∧
 (nw (w137.setCell ((na w).add 6) (.int .i64 yx_129)) fun w138 =>
 okSt w138 ((na w).add 7) ∧
 (nw (w138.setCell ((na w).add 7) (.int .i64 yx_130)) fun w139 =>
 ∃ yx_140 : Int, w139.cell? ((na w).add 0) = some (.int .u8 yx_140) ∧
 (∃ yx_141 : Int, w139.cell? ((na w).add 1) = some (.int .i64 yx_141) ∧
 (∃ yx_142 : Int, w139.cell? ((na w).add 2) = some (.int .i64 yx_142) ∧
 (∃ yf_143 : Nat, w139.cell? ((na w).add 3) = some (.float .f64 yf_143) ∧
 (∃ ya_144 : Option Addr, ∃ yn_144 : Nat, ∃ yc_144 : Nat, w139.cell? ((na w).add 4) = some (.slice ya_144 yn_144 yc_144) ∧
 (∃ yx_145 : Int, w139.cell? ((na w).add 5) = some (.int .u8 yx_145) ∧
 (∃ yx_146 : Int, w139.cell? ((na w).add 6) = some (.int .i64 yx_146) ∧
 (∃ yx_147 : Int, w139.cell? ((na w).add 7) = some (.int .i64 yx_147) ∧
 (optN p1 fun q148 =>
 ∃ ya_149 : Option Addr, ∃ yn_149 : Nat, ∃ yc_149 : Nat, w139.cell? (q148.add 1) = some (.slice ya_149 yn_149 yc_149) ∧
 (Go.E.CallsD Go.Proofs.Try.prog 52 #[.agg #[.int .u8 yx_140, .int .i64 yx_141, .int .i64 yx_142, .float .f64 yf_143, .slice ya_144 yn_144 yc_144, .int .u8 yx_145, .int .i64 yx_146, .int .i64 yx_147], .int .i64 (yn_149 : Int)] w139 fun yv150 u151 =>
 ∃ yb_152 : Bool, yv150 = .bool yb_152 ∧
 (onBool (!yb_152)
 (R (.tuple #[.int .i64 71, .int .i64 x24]) u151)
 (∃ yx_153 : Int, u151.cell? ((na w).add 0) = some (.int .u8 yx_153) ∧
 (∃ yx_154 : Int, u151.cell? ((na w).add 1) = some (.int .i64 yx_154) ∧
 (∃ yx_155 : Int, u151.cell? ((na w).add 2) = some (.int .i64 yx_155) ∧
 (∃ yf_156 : Nat, u151.cell? ((na w).add 3) = some (.float .f64 yf_156) ∧
 (∃ ya_157 : Option Addr, ∃ yn_157 : Nat, ∃ yc_157 : Nat, u151.cell? ((na w).add 4) = some (.slice ya_157 yn_157 yc_157) ∧
 (∃ yx_158 : Int, u151.cell? ((na w).add 5) = some (.int .u8 yx_158) ∧
 (∃ yx_159 : Int, u151.cell? ((na w).add 6) = some (.int .i64 yx_159) ∧
 (∃ yx_160 : Int, u151.cell? ((na w).add 7) = some (.int .i64 yx_160) ∧
 (Go.E.CallsD Go.Proofs.Try.prog 47 #[.agg #[.int .u8 yx_153, .int .i64 yx_154, .int .i64 yx_155, .float .f64 yf_156, .slice ya_157 yn_157 yc_157, .int .u8 yx_158, .int .i64 yx_159, .int .i64 yx_160]] u151 fun yv161 u162 =>
 ∃ yb_163 : Bool, yv161 = .bool yb_163 ∧
 (onBool yb_163
 (∃ yx_164 : Int, u162.cell? ((na w).add 6) = some (.int .i64 yx_164) ∧
 (optN a4 fun q165 =>
 chk ((0 : Int) ≤ yx_164 ∧ yx_164 < (n4 : Int))
 (∃ yx_166 : Int, u162.cell? (q165.add (yx_164.toNat * 1)) = some (.int .i64 yx_166) ∧
 (nv (IntKind.i64.wrap (yx_166 + 1)) fun t167 =>
 optN a4 fun q168 =>
 chk ((0 : Int) ≤ yx_164 ∧ yx_164 < (n4 : Int))
 (okSt u162 ((q168.add (yx_164.toNat * 1)).add 0) ∧
 (nw (u162.setCell ((q168.add (yx_164.toNat * 1)).add 0) (.int .i64 t167)) fun w169 =>
 ∃ yx_170 : Int, w169.cell? ((na w).add 7) = some (.int .i64 yx_170) ∧
 (optN a4 fun q171 =>
 chk ((0 : Int) ≤ yx_170 ∧ yx_170 < (n4 : Int))
 (∃ yx_172 : Int, w169.cell? (q171.add (yx_170.toNat * 1)) = some (.int .i64 yx_172) ∧
 (nv (IntKind.i64.wrap (yx_172 + 1)) fun t173 =>
 optN a4 fun q174 =>
 chk ((0 : Int) ≤ yx_170 ∧ yx_170 < (n4 : Int))
 (okSt w169 ((q174.add (yx_170.toNat * 1)).add 0) ∧
 (nw (w169.setCell ((q174.add (yx_170.toNat * 1)).add 0) (.int .i64 t173)) fun w175 =>
 nv (IntKind.i64.wrap (x24 + 1)) fun t176 =>
 b16 p1 a4 n4 c4 a22 n22 c22 x23 t176 w175)))))))))))
 (nv (IntKind.i64.wrap (x24 + 1)) fun t177 =>
 b16 p1 a4 n4 c4 a22 n22 c22 x23 t177 u162)))))))))))))))))))))))))))))))))))))))
 (optN p1 fun q178 =>
 ∃ ya_179 : Option Addr, ∃ yn_179 : Nat, ∃ yc_179 : Nat, w.cell? (q178.add 1) = some (.slice ya_179 yn_179 yc_179) ∧
 (chk ((0 : Int) ≤ (yn_179 : Int) ∧ (yn_179 : Int) ≤ (yn_179 : Int) ∧ ((1 : Nat) : Int) * (yn_179 : Int) ≤ 281474976710656 ∧ (yn_179 : Int) ≤ 9223372036854775807)
 (nw (w.alloc (.cells (madeCells #[.bool false] (((yn_179 : Int)).toNat * 1)) 4)) fun w180 =>
 nw (w180.alloc (.cells #[.int .i64 0] 3)) fun w181 =>
 e49 p1 a4 n4 c4 (some (na w)) (((yn_179 : Int)).toNat) (((yn_179 : Int)).toNat) (some (na w180)) 1 1 w181)))
def trees_Shape.g49 (R : Value → World → Prop) (b49 : (Option Addr) → (Option Addr) → Nat → Nat → (Option Addr) → Nat → Nat → (Option Addr) → Nat → Nat → World → Prop) (e80 : (Option Addr) → Nat → Nat → (Option Addr) → Nat → Nat → Int → Int → World → Prop) (p1 : Option Addr) (a4 : Option Addr) (n4 : Nat) (c4 : Nat) (a7 : Option Addr) (n7 : Nat) (c7 : Nat) (a8 : Option Addr) (n8 : Nat) (c8 : Nat) (w : World) : Prop :=
 onBool (decide ((n8 : Int) > 0))
 (nv (IntKind.i64.wrap ((n8 : Int) - 1)) fun t182 =>
 optN a8 fun q183 =>
 chk ((0 : Int) ≤ t182 ∧ t182 < (n8 : Int))
 (∃ yx_184 : Int, w.cell? (q183.add (t182.toNat * 1)) = some (.int .i64 yx_184) ∧
 (nv (IntKind.i64.wrap ((n8 : Int) - 1)) fun t185 =>
 chk ((0 : Int) ≤ t185 ∧ t185 ≤ (c8 : Int))
 (optN a7 fun q186 =>
 chk ((0 : Int) ≤ yx_184 ∧ yx_184 < (n7 : Int))
 (∃ yb_187 : Bool, w.cell? (q186.add (yx_184.toNat * 1)) = some (.bool yb_187) ∧
 (onBool yb_187
 (b49 p1 a4 n4 c4 a7 n7 c7 (slA a8 c8 0 1) t185.toNat c8 w)
 (optN a7 fun q188 =>
 chk ((0 : Int) ≤ yx_184 ∧ yx_184 < (n7 : Int))
 (okSt w ((q188.add (yx_184.toNat * 1)).add 0) ∧
 (nw (w.setCell ((q188.add (yx_184.toNat * 1)).add 0) (.bool true)) fun w189 =>
 optN p1 fun q190 =>
 ∃ ya_191 : Option Addr, ∃ yn_191 : Nat, ∃ yc_191 : Nat, w189.cell? (q190.add 1) = some (.slice ya_191 yn_191 yc_191) ∧
 (optN ya_191 fun q192 =>
 chk ((0 : Int) ≤ yx_184 ∧ yx_184 < (yn_191 : Int))
 (∃ yx_193 : Int, w189.cell? ((q192.add (yx_184.toNat * 8)).add 0) = some (.int .u8 yx_193) ∧
 (∃ yx_194 : Int, w189.cell? ((q192.add (yx_184.toNat * 8)).add 1) = some (.int .i64 yx_194) ∧
 (∃ yx_195 : Int, w189.cell? ((q192.add (yx_184.toNat * 8)).add 2) = some (.int .i64 yx_195) ∧
 (∃ yf_196 : Nat, w189.cell? ((q192.add (yx_184.toNat * 8)).add 3) = some (.float .f64 yf_196) ∧
 (∃ ya_197 : Option Addr, ∃ yn_197 : Nat, ∃ yc_197 : Nat, w189.cell? ((q192.add (yx_184.toNat * 8)).add 4) = some (.slice ya_197 yn_197 yc_197) ∧
 (∃ yx_198 : Int, w189.cell? ((q192.add (yx_184.toNat * 8)).add 5) = some (.int .u8 yx_198) ∧
 (∃ yx_199 : Int, w189.cell? ((q192.add (yx_184.toNat * 8)).add 6) = some (.int .i64 yx_199) ∧
 (∃ yx_200 : Int, w189.cell? ((q192.add (yx_184.toNat * 8)).add 7) = some (.int .i64 yx_200) ∧
 (nw (w189.alloc (.cells #[.int .u8 0, .int .i64 0, .int .i64 0, .float .f64 0, .slice none 0 0, .int .u8 0, .int .i64 0, .int .i64 0] 27)) fun w201 =>
 okSt w201 ((na w189).add 0) ∧
 (nw (w201.setCell ((na w189).add 0) (.int .u8 yx_193)) fun w202 =>
 okSt w202 ((na w189).add 1) ∧
 (nw (w202.setCell ((na w189).add 1) (.int .i64 yx_194)) fun w203 =>
 okSt w203 ((na w189).add 2) ∧
 (nw (w203.setCell ((na w189).add 2) (.int .i64 yx_195)) fun w204 =>
 okSt w204 ((na w189).add 3) ∧
 (nw (w204.setCell ((na w189).add 3) (.float .f64 yf_196)) fun w205 =>
 okSt w205 ((na w189).add 4) ∧
 (nw (w205.setCell ((na w189).add 4) (.slice ya_197 yn_197 yc_197)) fun w206 =>
 okSt w206 ((na w189).add 5) ∧
 (nw (w206.setCell ((na w189).add 5) (.int .u8 yx_198)) fun w207 =>
 okSt w207 ((na w189).add 6) ∧
 (nw (w207.setCell ((na w189).add 6) (.int .i64 yx_199)) fun w208 =>
 okSt w208 ((na w189).add 7) ∧
 (nw (w208.setCell ((na w189).add 7) (.int .i64 yx_200)) fun w209 =>
 ∃ yx_210 : Int, w209.cell? ((na w189).add 0) = some (.int .u8 yx_210) ∧
 (∃ yx_211 : Int, w209.cell? ((na w189).add 1) = some (.int .i64 yx_211) ∧
 (∃ yx_212 : Int, w209.cell? ((na w189).add 2) = some (.int .i64 yx_212) ∧
 (∃ yf_213 : Nat, w209.cell? ((na w189).add 3) = some (.float .f64 yf_213) ∧
 (∃ ya_214 : Option Addr, ∃ yn_214 : Nat, ∃ yc_214 : Nat, w209.cell? ((na w189).add 4) = some (.slice ya_214 yn_214 yc_214) ∧
 (∃ yx_215 : Int, w209.cell? ((na w189).add 5) = some (.int .u8 yx_215) ∧
 (∃ yx_216 : Int, w209.cell? ((na w189).add 6) = some (.int .i64 yx_216) ∧
 (∃ yx_217 : Int, w209.cell? ((na w189).add 7) = some (.int .i64 yx_217) ∧
 (Go.E.CallsD Go.Proofs.Try.prog 47 #[.agg #[.int .u8 yx_210, .int .i64 yx_211, .int .i64 yx_212, .float .f64 yf_213, .slice ya_214 yn_214 yc_214, .int .u8 yx_215, .int .i64 yx_216, .int .i64 yx_217]] w209 fun yv218 u219 =>
 ∃ yb_220 : Bool, yv218 = .bool yb_220 ∧
 (onBool yb_220
 (∃ yx_221 : Int, u219.cell? ((na w189).add 6) = some (.int .i64 yx_221) ∧
 (∃ yx_222 : Int, u219.cell? ((na w189).add 7) = some (.int .i64 yx_222) ∧
 (nw (u219.alloc (.cells #[.int .i64 yx_221, .int .i64 yx_222] 3)) fun w223 =>
 rawN Go.Proofs.Try.prog (Builtin.append_ #[24, 24] 24 #[.slice (slA a8 c8 0 1) t185.toNat c8, .slice (some (na u219)) 2 2]) w223 fun yv224 u225 =>
 ∃ ya_226 : Option Addr, ∃ yn_226 : Nat, ∃ yc_226 : Nat, yv224 = .slice ya_226 yn_226 yc_226 ∧
 (b49 p1 a4 n4 c4 a7 n7 c7 ya_226 yn_226 yc_226 u225))))
 (b49 p1 a4 n4 c4 a7 n7 c7 (slA a8 c8 0 1) t185.toNat c8 u219)))))))))))))))))))))))))))))))))))))
 (optN p1 fun q227 =>
 ∃ ya_228 : Option Addr, ∃ yn_228 : Nat, ∃ yc_228 : Nat, w.cell? (q227.add 1) = some (.slice ya_228 yn_228 yc_228) ∧
 (e80 a4 n4 c4 a7 n7 c7 (yn_228 : Int) 0 w))
def trees_Shape.g80 (R : Value → World → Prop) (b80 : (Option Addr) → Nat → Nat → (Option Addr) → Nat → Nat → Int → Int → World → Prop) (a4 : Option Addr) (n4 : Nat) (c4 : Nat) (a7 : Option Addr) (n7 : Nat) (c7 : Nat) (x95 : Int) (x96 : Int) (w : World) : Prop :=
 onBool (decide (x96 < x95))
 (nv ((if 1 < x96 then 1 else x96)) fun t229 =>
 optN a4 fun q230 =>
 chk ((0 : Int) ≤ x96 ∧ x96 < (n4 : Int))
 (∃ yx_231 : Int, w.cell? (q230.add (x96.toNat * 1)) = some (.int .i64 yx_231) ∧
 (onBool (yx_231 != t229)
 (R (.tuple #[.int .i64 70, .int .i64 x96]) w)
 (optN a7 fun q232 =>
 chk ((0 : Int) ≤ x96 ∧ x96 < (n7 : Int))
 (∃ yb_233 : Bool, w.cell? (q232.add (x96.toNat * 1)) = some (.bool yb_233) ∧
 (onBool (!yb_233)
 (R (.tuple #[.int .i64 70, .int .i64 x96]) w)
 (nv (IntKind.i64.wrap (x96 + 1)) fun t234 =>
 b80 a4 n4 c4 a7 n7 c7 x95 t234 w)))))))
 (R (.tuple #[.int .i64 0, .int .i64 0]) w)
def trees_Shape.q2 (R : Value → World → Prop) : Exit → Act → World → Prop := (fin Go.Proofs.Try.prog Go.Proofs.Try.f25 R)
def trees_Shape.q10 (R : Value → World → Prop) : Exit → Act → World → Prop := (trees_Shape.q2 R)
def trees_Shape.q12 (R : Value → World → Prop) : Exit → Act → World → Prop := (trees_Shape.q10 R)
def trees_Shape.q13 (R : Value → World → Prop) : Exit → Act → World → Prop := Exit.then (startN none (codeN Go.Proofs.Try.prog (sub (codeOf Go.Proofs.Try.f25) [1, 1, 1, 1]) (nsub trees_Shape.an [1, 1, 1, 1]) (trees_Shape.q12 R))) (trees_Shape.q12 R)
def trees_Shape.q15 (R : Value → World → Prop) : Exit → Act → World → Prop := (trees_Shape.q13 R)
def trees_Shape.q16 (R : Value → World → Prop) : Exit → Act → World → Prop := Exit.inBlock 0 (trees_Shape.q15 R)
def trees_Shape.rl16 (R : Value → World → Prop) (k : Nat) (p1 : Option Addr) (a4 : Option Addr) (n4 : Nat) (c4 : Nat) (a22 : Option Addr) (n22 : Nat) (c22 : Nat) (x23 : Int) (x24 : Int) (w : World) : Prop := loopN [1, 4, 22, 23, 24] (codeN Go.Proofs.Try.prog (sub (codeOf Go.Proofs.Try.f25) [1, 1, 1, 0, 1, 0, 0]) (nsub trees_Shape.an [1, 1, 1, 0, 1, 0, 0])) (trees_Shape.q16 R) k ⟨#[undef, .pointer p1, undef, undef, .slice a4 n4 c4, undef, undef, undef, undef, undef, undef, undef, undef, undef, undef, undef, undef, undef, undef, undef, undef, undef, .slice a22 n22 c22, .int .i64 x23, .int .i64 x24, undef, undef, undef, undef, undef, undef, undef, undef, undef, undef, undef, undef, undef, undef, undef, undef, undef, undef, undef, undef, undef, undef, undef, undef, undef, undef, undef, undef, undef, undef, undef, undef, undef, undef, undef, undef, undef, undef, undef, undef, undef, undef, undef, undef, undef, undef, undef, undef, undef, undef, undef, undef, undef, undef, undef, undef, undef, undef, undef, undef, undef, undef, undef, undef, undef, undef, undef, undef, undef, undef, undef, undef, undef, undef, undef, undef, undef, undef, undef, undef, undef, undef, undef, undef, undef, undef, undef, undef, undef, undef, undef], []⟩ w
def trees_Shape.re16 (R : Value → World → Prop) (p1 : Option Addr) (a4 : Option Addr) (n4 : Nat) (c4 : Nat) (a22 : Option Addr) (n22 : Nat) (c22 : Nat) (x23 : Int) (x24 : Int) (w : World) : Prop := ∃ k, trees_Shape.rl16 R k p1 a4 n4 c4 a22 n22 c22 x23 x24 w
def trees_Shape.q43 (R : Value → World → Prop) : Exit → Act → World → Prop := (trees_Shape.q12 R)
def trees_Shape.q45 (R : Value → World → Prop) : Exit → Act → World → Prop := (trees_Shape.q43 R)
def trees_Shape.q47 (R : Value → World → Prop) : Exit → Act → World → Prop := (trees_Shape.q45 R)
def trees_Shape.q48 (R : Value → World → Prop) : Exit → Act → World → Prop := Exit.then (startN none (codeN Go.Proofs.Try.prog (sub (codeOf Go.Proofs.Try.f25) [1, 1, 1, 1, 1, 1, 1]) (nsub trees_Shape.an [1, 1, 1, 1, 1, 1, 1]) (trees_Shape.q47 R))) (trees_Shape.q47 R)
def trees_Shape.q49 (R : Value → World → Prop) : Exit → Act → World → Prop := Exit.inBlock 2 (trees_Shape.q48 R)
def trees_Shape.rl49 (R : Value → World → Prop) (k : Nat) (p1 : Option Addr) (a4 : Option Addr) (n4 : Nat) (c4 : Nat) (a7 : Option Addr) (n7 : Nat) (c7 : Nat) (a8 : Option Addr) (n8 : Nat) (c8 : Nat) (w : World) : Prop := loopN [1, 4, 7, 8] (codeN Go.Proofs.Try.prog (sub (codeOf Go.Proofs.Try.f25) [1, 1, 1, 1, 1, 1, 0, 0, 0]) (nsub trees_Shape.an [1, 1, 1, 1, 1, 1, 0, 0, 0])) (trees_Shape.q49 R) k ⟨#[undef, .pointer p1, undef, undef, .slice a4 n4 c4, undef, undef, .slice a7 n7 c7, .slice a8 n8 c8, undef, undef, undef, undef, undef, undef, undef, undef, undef, undef, undef, undef, undef, undef, undef, undef, undef, undef, undef, undef, undef, undef, undef, undef, undef, undef, undef, undef, undef, undef, undef, undef, undef, undef, undef, undef, undef, undef, undef, undef, undef, undef, undef, undef, undef, undef, undef, undef, undef, undef, undef, undef, undef, undef, undef, undef, undef, undef, undef, undef, undef, undef, undef, undef, undef, undef, undef, undef, undef, undef, undef, undef, undef, undef, undef, undef, undef, undef, undef, undef, undef, undef, undef, undef, undef, undef, undef, undef, undef, undef, undef, undef, undef, undef, undef, undef, undef, undef, undef, undef, undef, undef, undef, undef, undef, undef, undef], []⟩ w
def trees_Shape.re49 (R : Value → World → Prop) (p1 : Option Addr) (a4 : Option Addr) (n4 : Nat) (c4 : Nat) (a7 : Option Addr) (n7 : Nat) (c7 : Nat) (a8 : Option Addr) (n8 : Nat) (c8 : Nat) (w : World) : Prop := ∃ k, trees_Shape.rl49 R k p1 a4 n4 c4 a7 n7 c7 a8 n8 c8 w
def trees_Shape.q76 (R : Value → World → Prop) : Exit → Act → World → Prop := (trees_Shape.q47 R)
def trees_Shape.q77 (R : Value → World → Prop) : Exit → Act → World → Prop := Exit.then (startN none (codeN Go.Proofs.Try.prog (sub (codeOf Go.Proofs.Try.f25) [1, 1, 1, 1, 1, 1, 1, 1]) (nsub trees_Shape.an [1, 1, 1, 1, 1, 1, 1, 1]) (trees_Shape.q76 R))) (trees_Shape.q76 R)
def trees_Shape.q79 (R : Value → World → Prop) : Exit → Act → World → Prop := (trees_Shape.q77 R)
def trees_Shape.q80 (R : Value → World → Prop) : Exit → Act → World → Prop := Exit.inBlock 4 (trees_Shape.q79 R)
def trees_Shape.rl80 (R : Value → World → Prop) (k : Nat) (a4 : Option Addr) (n4 : Nat) (c4 : Nat) (a7 : Option Addr) (n7 : Nat) (c7 : Nat) (x95 : Int) (x96 : Int) (w : World) : Prop := loopN [4, 7, 95, 96] (codeN Go.Proofs.Try.prog (sub (codeOf Go.Proofs.Try.f25) [1, 1, 1, 1, 1, 1, 1, 0, 1, 0, 0]) (nsub trees_Shape.an [1, 1, 1, 1, 1, 1, 1, 0, 1, 0, 0])) (trees_Shape.q80 R) k ⟨#[undef, undef, undef, undef, .slice a4 n4 c4, undef, undef, .slice a7 n7 c7, undef, undef, undef, undef, undef, undef, undef, undef, undef, undef, undef, undef, undef, undef, undef, undef, undef, undef, undef, undef, undef, undef, undef, undef, undef, undef, undef, undef, undef, undef, undef, undef, undef, undef, undef, undef, undef, undef, undef, undef, undef, undef, undef, undef, undef, undef, undef, undef, undef, undef, undef, undef, undef, undef, undef, undef, undef, undef, undef, undef, undef, undef, undef, undef, undef, undef, undef, undef, undef, undef, undef, undef, undef, undef, undef, undef, undef, undef, undef, undef, undef, undef, undef, undef, undef, undef, undef, .int .i64 x95, .int .i64 x96, undef, undef, undef, undef, undef, undef, undef, undef, undef, undef, undef, undef, undef, undef, undef, undef, undef, undef, undef], []⟩ w
def trees_Shape.re80 (R : Value → World → Prop) (a4 : Option Addr) (n4 : Nat) (c4 : Nat) (a7 : Option Addr) (n7 : Nat) (c7 : Nat) (x95 : Int) (x96 : Int) (w : World) : Prop := ∃ k, trees_Shape.rl80 R k a4 n4 c4 a7 n7 c7 x95 x96 w
def trees_Shape.l80 (R : Value → World → Prop) : Nat → (Option Addr) → Nat → Nat → (Option Addr) → Nat → Nat → Int → Int → World → Prop
  | 0, _, _, _, _, _, _, _, _, _ => False
  | k + 1, a4, n4, c4, a7, n7, c7, x95, x96, w => trees_Shape.g80 R (trees_Shape.l80 R k) a4 n4 c4 a7 n7 c7 x95 x96 w
def trees_Shape.e80 (R : Value → World → Prop) (a4 : Option Addr) (n4 : Nat) (c4 : Nat) (a7 : Option Addr) (n7 : Nat) (c7 : Nat) (x95 : Int) (x96 : Int) (w : World) : Prop := ∃ k, trees_Shape.l80 R k a4 n4 c4 a7 n7 c7 x95 x96 w
theorem trees_Shape.s80 (R : Value → World → Prop) (k : Nat) (a4 : Option Addr) (n4 : Nat) (c4 : Nat) (a7 : Option Addr) (n7 : Nat) (c7 : Nat) (x95 : Int) (x96 : Int) (w : World) : trees_Shape.rl80 R (k + 1) a4 n4 c4 a7 n7 c7 x95 x96 w = ∀ _ : Nat → Value, trees_Shape.g80 R (trees_Shape.rl80 R k) a4 n4 c4 a7 n7 c7 x95 x96 w := by kernel_rfl
theorem trees_Shape.lq80 (R : Value → World → Prop) : ∀ k, trees_Shape.l80 R k = trees_Shape.rl80 R k
  | 0 => by funext a4 n4 c4 a7 n7 c7 x95 x96 w; first | rfl | kernel_rfl
  | k + 1 => by
    funext a4 n4 c4 a7 n7 c7 x95 x96 w
    rw [trees_Shape.s80, forall_const]
    unfold trees_Shape.l80
    have ih := trees_Shape.lq80 R k
    rw [ih]
    all_goals rfl
theorem trees_Shape.eq80 (R : Value → World → Prop) : trees_Shape.e80 R = trees_Shape.re80 R := by
  funext a4 n4 c4 a7 n7 c7 x95 x96 w
  unfold trees_Shape.e80 trees_Shape.re80
  simp only [trees_Shape.lq80 R]
def trees_Shape.l49 (R : Value → World → Prop) : Nat → (Option Addr) → (Option Addr) → Nat → Nat → (Option Addr) → Nat → Nat → (Option Addr) → Nat → Nat → World → Prop
  | 0, _, _, _, _, _, _, _, _, _, _, _ => False
  | k + 1, p1, a4, n4, c4, a7, n7, c7, a8, n8, c8, w => trees_Shape.g49 R (trees_Shape.l49 R k) (trees_Shape.e80 R) p1 a4 n4 c4 a7 n7 c7 a8 n8 c8 w
def trees_Shape.e49 (R : Value → World → Prop) (p1 : Option Addr) (a4 : Option Addr) (n4 : Nat) (c4 : Nat) (a7 : Option Addr) (n7 : Nat) (c7 : Nat) (a8 : Option Addr) (n8 : Nat) (c8 : Nat) (w : World) : Prop := ∃ k, trees_Shape.l49 R k p1 a4 n4 c4 a7 n7 c7 a8 n8 c8 w
theorem trees_Shape.s49 (R : Value → World → Prop) (k : Nat) (p1 : Option Addr) (a4 : Option Addr) (n4 : Nat) (c4 : Nat) (a7 : Option Addr) (n7 : Nat) (c7 : Nat) (a8 : Option Addr) (n8 : Nat) (c8 : Nat) (w : World) : trees_Shape.rl49 R (k + 1) p1 a4 n4 c4 a7 n7 c7 a8 n8 c8 w = ∀ _ : Nat → Value, trees_Shape.g49 R (trees_Shape.rl49 R k) (trees_Shape.re80 R) p1 a4 n4 c4 a7 n7 c7 a8 n8 c8 w := by kernel_rfl
theorem trees_Shape.lq49 (R : Value → World → Prop) : ∀ k, trees_Shape.l49 R k = trees_Shape.rl49 R k
  | 0 => by funext p1 a4 n4 c4 a7 n7 c7 a8 n8 c8 w; first | rfl | kernel_rfl
  | k + 1 => by
    funext p1 a4 n4 c4 a7 n7 c7 a8 n8 c8 w
    rw [trees_Shape.s49, forall_const]
    unfold trees_Shape.l49
    have ih := trees_Shape.lq49 R k
    rw [trees_Shape.eq80 R]
    rw [ih]
    all_goals rfl
theorem trees_Shape.eq49 (R : Value → World → Prop) : trees_Shape.e49 R = trees_Shape.re49 R := by
  funext p1 a4 n4 c4 a7 n7 c7 a8 n8 c8 w
  unfold trees_Shape.e49 trees_Shape.re49
  simp only [trees_Shape.lq49 R]
def trees_Shape.l16 (R : Value → World → Prop) : Nat → (Option Addr) → (Option Addr) → Nat → Nat → (Option Addr) → Nat → Nat → Int → Int → World → Prop
  | 0, _, _, _, _, _, _, _, _, _, _ => False
  | k + 1, p1, a4, n4, c4, a22, n22, c22, x23, x24, w => trees_Shape.g16 R (trees_Shape.l16 R k) (trees_Shape.e49 R) p1 a4 n4 c4 a22 n22 c22 x23 x24 w
def trees_Shape.e16 (R : Value → World → Prop) (p1 : Option Addr) (a4 : Option Addr) (n4 : Nat) (c4 : Nat) (a22 : Option Addr) (n22 : Nat) (c22 : Nat) (x23 : Int) (x24 : Int) (w : World) : Prop := ∃ k, trees_Shape.l16 R k p1 a4 n4 c4 a22 n22 c22 x23 x24 w
theorem trees_Shape.s16 (R : Value → World → Prop) (k : Nat) (p1 : Option Addr) (a4 : Option Addr) (n4 : Nat) (c4 : Nat) (a22 : Option Addr) (n22 : Nat) (c22 : Nat) (x23 : Int) (x24 : Int) (w : World) : trees_Shape.rl16 R (k + 1) p1 a4 n4 c4 a22 n22 c22 x23 x24 w = ∀ _ : Nat → Value, trees_Shape.g16 R (trees_Shape.rl16 R k) (trees_Shape.re49 R) p1 a4 n4 c4 a22 n22 c22 x23 x24 w := by kernel_rfl
theorem trees_Shape.lq16 (R : Value → World → Prop) : ∀ k, trees_Shape.l16 R k = trees_Shape.rl16 R k
  | 0 => by funext p1 a4 n4 c4 a22 n22 c22 x23 x24 w; first | rfl | kernel_rfl
  | k + 1 => by
    funext p1 a4 n4 c4 a22 n22 c22 x23 x24 w
    rw [trees_Shape.s16, forall_const]
    unfold trees_Shape.l16
    have ih := trees_Shape.lq16 R k
    rw [trees_Shape.eq49 R]
    rw [ih]
    all_goals rfl
theorem trees_Shape.eq16 (R : Value → World → Prop) : trees_Shape.e16 R = trees_Shape.re16 R := by
  funext p1 a4 n4 c4 a22 n22 c22 x23 x24 w
  unfold trees_Shape.e16 trees_Shape.re16
  simp only [trees_Shape.lq16 R]
def trees_Shape (R : Value → World → Prop) (x0_0 : Int) (a0_1 : Option Addr) (n0_1 : Nat) (c0_1 : Nat) (w : World) : Prop := trees_Shape.g0 R (trees_Shape.e16 R) x0_0 a0_1 n0_1 c0_1 w
theorem trees_Shape.root0 (R : Value → World → Prop) (x0_0 : Int) (a0_1 : Option Addr) (n0_1 : Nat) (c0_1 : Nat) (w : World) : fnN Go.Proofs.Try.prog Go.Proofs.Try.f25 trees_Shape.an #[.agg #[.int .i64 x0_0, .slice a0_1 n0_1 c0_1]] w R = trees_Shape.g0 R (trees_Shape.re16 R) x0_0 a0_1 n0_1 c0_1 w := by kernel_rfl
theorem trees_Shape.calls {R : Value → World → Prop} {x0_0 : Int} {a0_1 : Option Addr} {n0_1 : Nat} {c0_1 : Nat} {w : World} (h : trees_Shape R x0_0 a0_1 n0_1 c0_1 w) : Go.E.CallsD Go.Proofs.Try.prog 25 #[.agg #[.int .i64 x0_0, .slice a0_1 n0_1 c0_1]] w R := by
  refine callsD_of (n := trees_Shape.an) M_follows M_sizes Go.Proofs.Try.func25 (by rfl) ?_
  rw [trees_Shape.root0]
  unfold trees_Shape at h
  rw [trees_Shape.eq16 R] at h
  exact h
-- thicket/thicketref07.Shape
def thicketref07_Shape.an : An := (.mk none .nil (.mk none .nil (.mk none .nil (.mk none .nil (.mk none (.mk none .nil (.mk none (.mk (some [1, 4, 5, 21, 22, 23]) .nil .nil) .nil)) (.mk none .nil (.mk none .nil (.mk none (.mk none (.mk (some [1, 5, 8, 9]) .nil .nil) .nil) (.mk none (.mk none .nil (.mk none (.mk (some [5, 8, 92, 93]) .nil .nil) .nil)) .nil)))))))))
def thicketref07_Shape.g0 (R : Value → World → Prop) (e18 : (Option Addr) → Int → (Option Addr) → Nat → Nat → (Option Addr) → Nat → Nat → Int → Int → World → Prop) (x0_0 : Int) (a0_1 : Option Addr) (n0_1 : Nat) (c0_1 : Nat) (w : World) : Prop :=
 nw (w.alloc (.cells #[.int .i64 x0_0, .slice a0_1 n0_1 c0_1] 33)) fun w101 =>
 ∃ ya_102 : Option Addr, ∃ yn_102 : Nat, ∃ yc_102 : Nat, w101.cell? ((na w).add 1) = some (.slice ya_102 yn_102 yc_102) ∧
 (onBool ((yn_102 : Int) == 0)
 (R (.tuple #[.int .i64 70, .int .i64 0]) w101)
 (chk ((0 : Int) ≤ (yn_102 : Int) ∧ (yn_102 : Int) ≤ (yn_102 : Int) ∧ ((8 : Nat) : Int) * (yn_102 : Int) ≤ 281474976710656 ∧ (yn_102 : Int) ≤ 9223372036854775807)
 (nw (w101.alloc (.cells (madeCells #[.int .i64 0] (((yn_102 : Int)).toNat * 1)) 3)) fun w103 =>
 ∃ ya_104 : Option Addr, ∃ yn_104 : Nat, ∃ yc_104 : Nat, w103.cell? ((na w).add 1) = some (.slice ya_104 yn_104 yc_104) ∧
 (e18 (some (na w)) (yn_102 : Int) (some (na w101)) (((yn_102 : Int)).toNat) (((yn_102 : Int)).toNat) ya_104 yn_104 yc_104 (yn_104 : Int) 0 w103))))
def thicketref07_Shape.g18 (R : Value → World → Prop) (b18 : (Option Addr) → Int → (Option Addr) → Nat → Nat → (Option Addr) → Nat → Nat → Int → Int → World → Prop) (e51 : (Option Addr) → (Option Addr) → Nat → Nat → (Option Addr) → Nat → Nat → (Option Addr) → Nat → Nat → World → Prop) (p1 : Option Addr) (x4 : Int) (a5 : Option Addr) (n5 : Nat) (c5 : Nat) (a21 : Option Addr) (n21 : Nat) (c21 : Nat) (x22 : Int) (x23 : Int) (w : World) : Prop :=
 onBool (decide (x23 < x22))
 (optN a21 fun q105 =>
 chk ((0 : Int) ≤ x23 ∧ x23 < (n21 : Int))
 (∃ yx_106 : Int, w.cell? ((q105.add (x23.toNat * 8)).add 0) = some (.int .u8 yx_106) ∧
 (∃ yx_107 : Int, w.cell? ((q105.add (x23.toNat * 8)).add 1) = some (.int .i64 yx_107) ∧
 (∃ yx_108 : Int, w.cell? ((q105.add (x23.toNat * 8)).add 2) = some (.int .i64 yx_108) ∧
 (∃ yf_109 : Nat, w.cell? ((q105.add (x23.toNat * 8)).add 3) = some (.float .f64 yf_109) ∧
 (∃ ya_110 : Option Addr, ∃ yn_110 : Nat, ∃ yc_110 : Nat, w.cell? ((q105.add (x23.toNat * 8)).add 4) = some (.slice ya_110 yn_110 yc_110) ∧
 (∃ yx_111 : Int, w.cell? ((q105.add (x23.toNat * 8)).add 5) = some (.int .u8 yx_111) ∧
 (∃ yx_112 : Int, w.cell? ((q105.add (x23.toNat * 8)).add 6) = some (.int .i64 yx_112) ∧
 (∃ yx_113 : Int, w.cell? ((q105.add (x23.toNat * 8)).add 7) = some (.int .i64 yx_113) ∧
 (nw (w.alloc (.cells #[.int .u8 0, .int .i64 0, .int .i64 0, .float .f64 0, .slice none 0 0, .int .u8 0, .int .i64 0, .int .i64 0] 27)) fun w114 =>
 okSt w114 ((na w).add 0) ∧
 (nw (w114.setCell ((na w).add 0) (.int .u8 yx_106)) fun w115 =>
 okSt w115 ((na w).add 1) ∧
 (nw (w115.setCell ((na w).add 1) (.int .i64 yx_107)) fun w116 =>
 okSt w116 ((na w).add 2) ∧
 (nw (w116.setCell ((na w).add 2) (.int .i64 yx_108)) fun w117 =>
 okSt w117 ((na w).add 3) ∧
 (nw (w117.setCell ((na w).add 3) (.float .f64 yf_109)) fun w118 =>
 okSt w118 ((na w).add 4) ∧
 (nw (w118.setCell ((na w).add 4) (.slice ya_110 yn_110 yc_110)) fun w119 =>
 okSt w119 ((na w).add 5) ∧
 (nw (w119.setCell ((na w).add 5) (.int .u8 yx_111)) fun w120 =>
 okSt w120 ((na w).add 6) ∧
 (nw (w120.setCell ((na w).add 6) (.int .i64 yx_112)) fun w121 =>
 okSt w121 ((na w).add 7) ∧
 (nw (w121.setCell ((na w).add 7) (.int .i64 yx_113)) fun w122 =>
 ∃ yx_123 : Int, w122.cell? ((na w).add 0) = some (.int .u8 yx_123) ∧
 (∃ yx_124 : Int, w122.cell? ((na w).add 1) = some (.int .i64 yx_124) ∧
 (∃ yx_125 : Int, w122.cell? ((na w).add 2) = some (.int .i64 yx_125) ∧
 (∃ yf_126 : Nat, w122.cell? ((na w).add 3) = some (.float .f64 yf_126) ∧
 (∃ ya_127 : Option Addr, ∃ yn_127 : Nat, ∃ yc_127 : Nat, w122.cell? ((na w).add 4) = some (.slice ya_127 yn_127 yc_127) ∧
 (∃ yx_128 : Int, w122.cell? ((na w).add 5) = some (.int .u8 yx_128) ∧
 (∃ yx_129 : Int, w122.cell? ((na w).add 6) = some (.int .i64 yx_129) ∧
 (∃ yx_130 : Int, w122.cell? ((na w).add 7) = some (.int .i64 yx_130) ∧
 (Go.E.CallsD Go.Proofs.Try.prog 53 #[.agg #[.int .u8 yx_123, .int .i64 yx_124, .int .i64 yx_125, .float .f64 yf_126, .slice ya_127 yn_127 yc_127, .int .u8 yx_128, .int .i64 yx_129, .int .i64 yx_130], .int .i64 x4] w122 fun yv131 u132 =>
 ∃ yb_133 : Bool, yv131 = .bool yb_133 ∧
 (onBool (!yb_133)
 (R (.tuple #[.int .i64 71, .int .i64 x23]) u132)
 (∃ yx_134 : Int, u132.cell? ((na w).add 0) = some (.int .u8 yx_134) ∧
 (onBool (yx_134 != 1)
 (∃ yx_135 : Int, u132.cell? ((na w).add 6) = some (.int .i64 yx_135) ∧
 (optN a5 fun q136 =>
 chk ((0 : Int) ≤ yx_135 ∧ yx_135 < (n5 : Int))
 (∃ yx_137 : Int, u132.cell? (q136.add (yx_135.toNat * 1)) = some (.int .i64 yx_137) ∧
 (nv (IntKind.i64.wrap (yx_137 + 1)) fun t138 =>
 optN a5 fun q139 =>
 chk ((0 : Int) ≤ yx_135 ∧ yx_135 < (n5 : Int))
 (okSt u132 ((q139.add (yx_135.toNat * 1)).add 0) ∧
 (nw (u132.setCell ((q139.add (yx_135.toNat * 1)).add 0) (.int .i64 t138)) fun w140 =>
 ∃ yx_141 : Int, w140.cell? ((na w).add 7) = some (.int .i64 yx_141) ∧
 (optN a5 fun q142 =>
 chk ((0 : Int) ≤ yx_141 ∧ yx_141 < (n5 : Int))
 (∃ yx_143 : Int, w140.cell? (q142.add (yx_141.toNat * 1)) = some (.int .i64 yx_143) ∧
 (nv (IntKind.i64.wrap (yx_143 + 1)) fun t144 =>
 optN a5 fun q145 =>
 chk ((0 : Int) ≤ yx_141 ∧ yx_141 < (n5 : Int))
 (okSt w140 ((q145.add (yx_141.toNat * 1)).add 0) ∧
 (nw (w140.setCell ((q145.add (yx_141.toNat * 1)).add 0) (.int .i64 t144)) fun w146 =>
 nv (IntKind.i64.wrap (x23 + 1)) fun t147 =>
 b18 p1 x4 a5 n5 c5 a21 n21 c21 x22 t147 w146)))))))))))
 (nv (IntKind.i64.wrap (x23 + 1)) fun t148 =>
 b18 p1 x4 a5 n5 c5 a21 n21 c21 x22 t148 u132))))))))))))))))))))))))))))))
 (chk ((0 : Int) ≤ x4 ∧ x4 ≤ x4 ∧ ((1 : Nat) : Int) * x4 ≤ 281474976710656 ∧ x4 ≤ 9223372036854775807)
 (nw (w.alloc (.cells (madeCells #[.bool false] ((x4).toNat * 1)) 4)) fun w149 =>
 nw (w149.alloc (.cells #[.int .i64 0] 3)) fun w150 =>
 e51 p1 a5 n5 c5 (some (na w)) ((x4).toNat) ((x4).toNat) (some (na w149)) 1 1 w150))
def thicketref07_Shape.g51 (R : Value → World → Prop) (b51 : (Option Addr) → (Option Addr) → Nat → Nat → (Option Addr) → Nat → Nat → (Option Addr) → Nat → Nat → World → Prop) (e82 : (Option Addr) → Nat → Nat → (Option Addr) → Nat → Nat → Int → Int → World → Prop) (p1 : Option Addr) (a5 : Option Addr) (n5 : Nat) (c5 : Nat) (a8 : Option Addr) (n8 : Nat) (c8 : Nat) (a9 : Option Addr) (n9 : Nat) (c9 : Nat) (w : World) : Prop :=
 onBool (decide ((n9 : Int) > 0))
 (nv (IntKind.i64.wrap ((n9 : Int) - 1)) fun t151 =>
 optN a9 fun q152 =>
 chk ((0 : Int) ≤ t151 ∧ t151 < (n9 : Int))
 (∃ yx_153 : Int, w.cell? (q152.add (t151.toNat * 1)) = some (.int .i64 yx_153) ∧
 (nv (IntKind.i64.wrap ((n9 : Int) - 1)) fun t154 =>
 chk ((0 : Int) ≤ t154 ∧ t154 ≤ (c9 : Int))
 (optN a8 fun q155 =>
 chk ((0 : Int) ≤ yx_153 ∧ yx_153 < (n8 : Int))
 (∃ yb_156 : Bool, w.cell? (q155.add (yx_153.toNat * 1)) = some (.bool yb_156) ∧
 (onBool yb_156
 (b51 p1 a5 n5 c5 a8 n8 c8 (slA a9 c9 0 1) t154.toNat c9 w)
 (optN a8 fun q157 =>
 chk ((0 : Int) ≤ yx_153 ∧ yx_153 < (n8 : Int))
 (okSt w ((q157.add (yx_153.toNat * 1)).add 0) ∧
 (nw (w.setCell ((q157.add (yx_153.toNat * 1)).add 0) (.bool true)) fun w158 =>
 optN p1 fun q159 =>
 ∃ ya_160 : Option Addr, ∃ yn_160 : Nat, ∃ yc_160 : Nat, w158.cell? (q159.add 1) = some (.slice ya_160 yn_160 yc_160) ∧
 (optN ya_160 fun q161 =>
 chk ((0 : Int) ≤ yx_153 ∧ yx_153 < (yn_160 : Int))
 (∃ yx_162 : Int, w158.cell? ((q161.add (yx_153.toNat * 8)).add 0) = some (.int .u8 yx_162) ∧
 (∃ yx_163 : Int, w158.cell? ((q161.add (yx_153.toNat * 8)).add 1) = some (.int .i64 yx_163) ∧
 (∃ yx_164 : Int, w158.cell? ((q161.add (yx_153.toNat * 8)).add 2) = some (.int .i64 yx_164) ∧
 (∃ yf_165 : Nat, w158.cell? ((q161.add (yx_153.toNat * 8)).add 3) = some (.float .f64 yf_165) ∧
 (∃ ya_166 : Option Addr, ∃ yn_166 : Nat, ∃ yc_166 : Nat, w158.cell? ((q161.add (yx_153.toNat * 8)).add 4) = some (.slice ya_166 yn_166 yc_166) ∧
 (∃ yx_167 : Int, w158.cell? ((q161.add (yx_153.toNat * 8)).add 5) = some (.int .u8 yx_167) ∧
 (∃ yx_168 : Int, w158.cell? ((q161.add (yx_153.toNat * 8)).add 6) = some (.int .i64 yx_168) ∧
 (∃ yx_169 : Int, w158.cell? ((q161.add (yx_153.toNat * 8)).add 7) = some (.int .i64 yx_169) ∧
 (nw (w158.alloc (.cells #[.int .u8 0, .int .i64 0, .int .i64 0, .float .f64 0, .slice none 0 0, .int .u8 0, .int .i64 0, .int .i64 0] 27)) fun w170 =>
 okSt w170 ((na w158).add 0) ∧
 (nw (w170.setCell ((na w158).add 0) (.int .u8 yx_162)) fun w171 =>
 okSt w171 ((na w158).add 1) ∧
 (nw (w171.setCell ((na w158).add 1) (.int .i64 yx_163)) fun w172 =>
 okSt w172 ((na w158).add 2) ∧
 (nw (w172.setCell ((na w158).add 2) (.int .i64 yx_164)) fun w173 =>
 okSt w173 ((na w158).add 3) ∧
 (nw (w173.setCell ((na w158).add 3) (.float .f64 yf_165)) fun w174 =>
 okSt w174 ((na w158).add 4) ∧
 (nw (w174.setCell ((na w158).add 4) (.slice ya_166 yn_166 yc_166)) fun w175 =>
 okSt w175 ((na w158).add 5) ∧
 (nw (w175.setCell ((na w158).add 5) (.int .u8 yx_167)) fun w176 =>
 okSt w176 ((na w158).add 6) ∧
 (nw (w176.setCell ((na w158).add 6) (.int .i64 yx_168)) fun w177 =>
 okSt w177 ((na w158).add 7) ∧
 (nw (w177.setCell ((na w158).add 7) (.int .i64 yx_169)) fun w178 =>
 ∃ yx_179 : Int, w178.cell? ((na w158).add 0) = some (.int .u8 yx_179) ∧
 (onBool (yx_179 != 1)
 (∃ yx_180 : Int, w178.cell? ((na w158).add 6) = some (.int .i64 yx_180) ∧
 (∃ yx_181 : Int, w178.cell? ((na w158).add 7) = some (.int .i64 yx_181) ∧
 (nw (w178.alloc (.cells #[.int .i64 yx_180, .int .i64 yx_181] 3)) fun w182 =>
 rawN Go.Proofs.Try.prog (Builtin.append_ #[24, 24] 24 #[.slice (slA a9 c9 0 1) t154.toNat c9, .slice (some (na w178)) 2 2]) w182 fun yv183 u184 =>
 ∃ ya_185 : Option Addr, ∃ yn_185 : Nat, ∃ yc_185 : Nat, yv183 = .slice ya_185 yn_185 yc_185 ∧
 (b51 p1 a5 n5 c5 a8 n8 c8 ya_185 yn_185 yc_185 u184))))
 (b51 p1 a5 n5 c5 a8 n8 c8 (slA a9 c9 0 1) t154.toNat c9 w178)))))))))))))))))))))))))))))
 (optN p1 fun q186 =>
 ∃ ya_187 : Option Addr, ∃ yn_187 : Nat, ∃ yc_187 : Nat, w.cell? (q186.add 1) = some (.slice ya_187 yn_187 yc_187) ∧
 (e82 a5 n5 c5 a8 n8 c8 (yn_187 : Int) 0 w))
def thicketref07_Shape.g82 (R : Value → World → Prop) (b82 : (Option Addr) → Nat → Nat → (Option Addr) → Nat → Nat → Int → Int → World → Prop) (a5 : Option Addr) (n5 : Nat) (c5 : Nat) (a8 : Option Addr) (n8 : Nat) (c8 : Nat) (x92 : Int) (x93 : Int) (w : World) : Prop :=
 onBool (decide (x93 < x92))
 (onBool (x93 == 0)
 (optN a5 fun q188 =>
 chk ((0 : Int) ≤ x93 ∧ x93 < (n5 : Int))
 (∃ yx_189 : Int, w.cell? (q188.add (x93.toNat * 1)) = some (.int .i64 yx_189) ∧
 (onBool (yx_189 != 0)
 (R (.tuple #[.int .i64 70, .int .i64 x93]) w)
 (onBool (decide (x93 > 0))
 (optN a5 fun q190 =>
 chk ((0 : Int) ≤ x93 ∧ x93 < (n5 : Int))
 (∃ yx_191 : Int, w.cell? (q190.add (x93.toNat * 1)) = some (.int .i64 yx_191) ∧
 (onBool (yx_191 != 1)
 (R (.tuple #[.int .i64 70, .int .i64 x93]) w)
 (optN a8 fun q192 =>
 chk ((0 : Int) ≤ x93 ∧ x93 < (n8 : Int))
 (∃ yb_193 : Bool, w.cell? (q192.add (x93.toNat * 1)) = some (.bool yb_193) ∧
 (onBool (!yb_193)
 (R (.tuple #[.int .i64 70, .int .i64 x93]) w)
 (nv (IntKind.i64.wrap (x93 + 1)) fun t194 =>
 b82 a5 n5 c5 a8 n8 c8 x92 t194 w)))))))
 (optN a8 fun q195 =>
 chk ((0 : Int) ≤ x93 ∧ x93 < (n8 : Int))
 (∃ yb_196 : Bool, w.cell? (q195.add (x93.toNat * 1)) = some (.bool yb_196) ∧
 (onBool (!yb_196)
 (R (.tuple #[.int .i64 70, .int .i64 x93]) w)
 (nv (IntKind.i64.wrap (x93 + 1)) fun t197 =>
 b82 a5 n5 c5 a8 n8 c8 x92 t197 w))))))))
 (onBool (decide (x93 > 0))
 (optN a5 fun q198 =>
 chk ((0 : Int) ≤ x93 ∧ x93 < (n5 : Int))
 (∃ yx_199 : Int, w.cell? (q198.add (x93.toNat * 1)) = some (.int .i64 yx_199) ∧
 (onBool (yx_199 != 1)
 (R (.tuple #[.int .i64 70, .int .i64 x93]) w)
 (optN a8 fun q200 =>
 chk ((0 : Int) ≤ x93 ∧ x93 < (n8 : Int))
 (∃ yb_201 : Bool, w.cell? (q200.add (x93.toNat * 1)) = some (.bool yb_201) ∧
 (onBool (!yb_201)
 (R (.tuple #[.int .i64 70, .int .i64 x93]) w)
 (nv (IntKind.i64.wrap (x93 + 1)) fun t202 =>
 b82 a5 n5 c5 a8 n8 c8 x92 t202 w)))))))
 (optN a8 fun q203 =>
 chk ((0 : Int) ≤ x93 ∧ x93 < (n8 : Int))
 (∃ yb_204 : Bool, w.cell? (q203.add (x93.toNat * 1)) = some (.bool yb_204) ∧
 (onBool (!yb_204)
 (R (.tuple #[.int .i64 70, .int .i64 x93]) w)
 (nv (IntKind.i64.wrap (x93 + 1)) fun t205 =>
 b82 a5 n5 c5 a8 n8 c8 x92 t205 w))))))
 (R (.tuple #[.int .i64 0, .int .i64 0]) w)
def thicketref07_Shape.q2 (R : Value → World → Prop) : Exit → Act → World → Prop := (fin Go.Proofs.Try.prog Go.Proofs.Try.f26 R)
def thicketref07_Shape.q4 (R : Value → World → Prop) : Exit → Act → World → Prop := (thicketref07_Shape.q2 R)
def thicketref07_Shape.q12 (R : Value → World → Prop) : Exit → Act → World → Prop := (thicketref07_Shape.q4 R)
def thicketref07_Shape.q14 (R : Value → World → Prop) : Exit → Act → World → Prop := (thicketref07_Shape.q12 R)
def thicketref07_Shape.q15 (R : Value → World → Prop) : Exit → Act → World → Prop := Exit.then (startN none (codeN Go.Proofs.Try.prog (sub (codeOf Go.Proofs.Try.f26) [1, 1, 1, 1, 1]) (nsub thicketref07_Shape.an [1, 1, 1, 1, 1]) (thicketref07_Shape.q14 R))) (thicketref07_Shape.q14 R)
def thicketref07_Shape.q17 (R : Value → World → Prop) : Exit → Act → World → Prop := (thicketref07_Shape.q15 R)
def thicketref07_Shape.q18 (R : Value → World → Prop) : Exit → Act → World → Prop := Exit.inBlock 0 (thicketref07_Shape.q17 R)
def thicketref07_Shape.rl18 (R : Value → World → Prop) (k : Nat) (p1 : Option Addr) (x4 : Int) (a5 : Option Addr) (n5 : Nat) (c5 : Nat) (a21 : Option Addr) (n21 : Nat) (c21 : Nat) (x22 : Int) (x23 : Int) (w : World) : Prop := loopN [1, 4, 5, 21, 22, 23] (codeN Go.Proofs.Try.prog (sub (codeOf Go.Proofs.Try.f26) [1, 1, 1, 1, 0, 1, 0, 0]) (nsub thicketref07_Shape.an [1, 1, 1, 1, 0, 1, 0, 0])) (thicketref07_Shape.q18 R) k ⟨#[undef, .pointer p1, undef, undef, .int .i64 x4, .slice a5 n5 c5, undef, undef, undef, undef, undef, undef, undef, undef, undef, undef, undef, undef, undef, undef, undef, .slice a21 n21 c21, .int .i64 x22, .int .i64 x23, undef, undef, undef, undef, undef, undef, undef, undef, undef, undef, undef, undef, undef, undef, undef, undef, undef, undef, undef, undef, undef, undef, undef, undef, undef, undef, undef, undef, undef, undef, undef, undef, undef, undef, undef, undef, undef, undef, undef, undef, undef, undef, undef, undef, undef, undef, undef, undef, undef, undef, undef, undef, undef, undef, undef, undef, undef, undef, undef, undef, undef, undef, undef, undef, undef, undef, undef, undef, undef, undef, undef, undef, undef, undef, undef, undef, undef, undef, undef, undef, undef, undef, undef, undef, undef, undef, undef, undef, undef, undef, undef, undef, undef, undef, undef, undef, undef, undef, undef, undef, undef], []⟩ w
def thicketref07_Shape.re18 (R : Value → World → Prop) (p1 : Option Addr) (x4 : Int) (a5 : Option Addr) (n5 : Nat) (c5 : Nat) (a21 : Option Addr) (n21 : Nat) (c21 : Nat) (x22 : Int) (x23 : Int) (w : World) : Prop := ∃ k, thicketref07_Shape.rl18 R k p1 x4 a5 n5 c5 a21 n21 c21 x22 x23 w
def thicketref07_Shape.q45 (R : Value → World → Prop) : Exit → Act → World → Prop := (thicketref07_Shape.q14 R)
def thicketref07_Shape.q47 (R : Value → World → Prop) : Exit → Act → World → Prop := (thicketref07_Shape.q45 R)
def thicketref07_Shape.q49 (R : Value → World → Prop) : Exit → Act → World → Prop := (thicketref07_Shape.q47 R)
def thicketref07_Shape.q50 (R : Value → World → Prop) : Exit → Act → World → Prop := Exit.then (startN none (codeN Go.Proofs.Try.prog (sub (codeOf Go.Proofs.Try.f26) [1, 1, 1, 1, 1, 1, 1, 1]) (nsub thicketref07_Shape.an [1, 1, 1, 1, 1, 1, 1, 1]) (thicketref07_Shape.q49 R))) (thicketref07_Shape.q49 R)
def thicketref07_Shape.q51 (R : Value → World → Prop) : Exit → Act → World → Prop := Exit.inBlock 2 (thicketref07_Shape.q50 R)
def thicketref07_Shape.rl51 (R : Value → World → Prop) (k : Nat) (p1 : Option Addr) (a5 : Option Addr) (n5 : Nat) (c5 : Nat) (a8 : Option Addr) (n8 : Nat) (c8 : Nat) (a9 : Option Addr) (n9 : Nat) (c9 : Nat) (w : World) : Prop := loopN [1, 5, 8, 9] (codeN Go.Proofs.Try.prog (sub (codeOf Go.Proofs.Try.f26) [1, 1, 1, 1, 1, 1, 1, 0, 0, 0]) (nsub thicketref07_Shape.an [1, 1, 1, 1, 1, 1, 1, 0, 0, 0])) (thicketref07_Shape.q51 R) k ⟨#[undef, .pointer p1, undef, undef, undef, .slice a5 n5 c5, undef, undef, .slice a8 n8 c8, .slice a9 n9 c9, undef, undef, undef, undef, undef, undef, undef, undef, undef, undef, undef, undef, undef, undef, undef, undef, undef, undef, undef, undef, undef, undef, undef, undef, undef, undef, undef, undef, undef, undef, undef, undef, undef, undef, undef, undef, undef, undef, undef, undef, undef, undef, undef, undef, undef, undef, undef, undef, undef, undef, undef, undef, undef, undef, undef, undef, undef, undef, undef, undef, undef, undef, undef, undef, undef, undef, undef, undef, undef, undef, undef, undef, undef, undef, undef, undef, undef, undef, undef, undef, undef, undef, undef, undef, undef, undef, undef, undef, undef, undef, undef, undef, undef, undef, undef, undef, undef, undef, undef, undef, undef, undef, undef, undef, undef, undef, undef, undef, undef, undef, undef, undef, undef, undef, undef], []⟩ w
def thicketref07_Shape.re51 (R : Value → World → Prop) (p1 : Option Addr) (a5 : Option Addr) (n5 : Nat) (c5 : Nat) (a8 : Option Addr) (n8 : Nat) (c8 : Nat) (a9 : Option Addr) (n9 : Nat) (c9 : Nat) (w : World) : Prop := ∃ k, thicketref07_Shape.rl51 R k p1 a5 n5 c5 a8 n8 c8 a9 n9 c9 w
def thicketref07_Shape.q78 (R : Value → World → Prop) : Exit → Act → World → Prop := (thicketref07_Shape.q49 R)
def thicketref07_Shape.q79 (R : Value → World → Prop) : Exit → Act → World → Prop := Exit.then (startN none (codeN Go.Proofs.Try.prog (sub (codeOf Go.Proofs.Try.f26) [1, 1, 1, 1, 1, 1, 1, 1, 1]) (nsub thicketref07_Shape.an [1, 1, 1, 1, 1, 1, 1, 1, 1]) (thicketref07_Shape.q78 R))) (thicketref07_Shape.q78 R)
def thicketref07_Shape.q81 (R : Value → World → Prop) : Exit → Act → World → Prop := (thicketref07_Shape.q79 R)
def thicketref07_Shape.q82 (R : Value → World → Prop) : Exit → Act → World → Prop := Exit.inBlock 4 (thicketref07_Shape.q81 R)
def thicketref07_Shape.rl82 (R : Value → World → Prop) (k : Nat) (a5 : Option Addr) (n5 : Nat) (c5 : Nat) (a8 : Option Addr) (n8 : Nat) (c8 : Nat) (x92 : Int) (x93 : Int) (w : World) : Prop := loopN [5, 8, 92, 93] (codeN Go.Proofs.Try.prog (sub (codeOf Go.Proofs.Try.f26) [1, 1, 1, 1, 1, 1, 1, 1, 0, 1, 0, 0]) (nsub thicketref07_Shape.an [1, 1, 1, 1, 1, 1, 1, 1, 0, 1, 0, 0])) (thicketref07_Shape.q82 R) k ⟨#[undef, undef, undef, undef, undef, .slice a5 n5 c5, undef, undef, .slice a8 n8 c8, undef, undef, undef, undef, undef, undef, undef, undef, undef, undef, undef, undef, undef, undef, undef, undef, undef, undef, undef, undef, undef, undef, undef, undef, undef, undef, undef, undef, undef, undef, undef, undef, undef, undef, undef, undef, undef, undef, undef, undef, undef, undef, undef, undef, undef, undef, undef, undef, undef, undef, undef, undef, undef, undef, undef, undef, undef, undef, undef, undef, undef, undef, undef, undef, undef, undef, undef, undef, undef, undef, undef, undef, undef, undef, undef, undef, undef, undef, undef, undef, undef, undef, undef, .int .i64 x92, .int .i64 x93, undef, undef, undef, undef, undef, undef, undef, undef, undef, undef, undef, undef, undef, undef, undef, undef, undef, undef, undef, undef, undef, undef, undef, undef, undef, undef, undef, undef, undef, undef, undef], []⟩ w
def thicketref07_Shape.re82 (R : Value → World → Prop) (a5 : Option Addr) (n5 : Nat) (c5 : Nat) (a8 : Option Addr) (n8 : Nat) (c8 : Nat) (x92 : Int) (x93 : Int) (w : World) : Prop := ∃ k, thicketref07_Shape.rl82 R k a5 n5 c5 a8 n8 c8 x92 x93 w
def thicketref07_Shape.l82 (R : Value → World → Prop) : Nat → (Option Addr) → Nat → Nat → (Option Addr) → Nat → Nat → Int → Int → World → Prop
  | 0, _, _, _, _, _, _, _, _, _ => False
  | k + 1, a5, n5, c5, a8, n8, c8, x92, x93, w => thicketref07_Shape.g82 R (thicketref07_Shape.l82 R k) a5 n5 c5 a8 n8 c8 x92 x93 w
def thicketref07_Shape.e82 (R : Value → World → Prop) (a5 : Option Addr) (n5 : Nat) (c5 : Nat) (a8 : Option Addr) (n8 : Nat) (c8 : Nat) (x92 : Int) (x93 : Int) (w : World) : Prop := ∃ k, thicketref07_Shape.l82 R k a5 n5 c5 a8 n8 c8 x92 x93 w
theorem thicketref07_Shape.s82 (R : Value → World → Prop) (k : Nat) (a5 : Option Addr) (n5 : Nat) (c5 : Nat) (a8 : Option Addr) (n8 : Nat) (c8 : Nat) (x92 : Int) (x93 : Int) (w : World) : thicketref07_Shape.rl82 R (k + 1) a5 n5 c5 a8 n8 c8 x92 x93 w = ∀ _ : Nat → Value, thicketref07_Shape.g82 R (thicketref07_Shape.rl82 R k) a5 n5 c5 a8 n8 c8 x92 x93 w := by kernel_rfl
theorem thicketref07_Shape.lq82 (R : Value → World → Prop) : ∀ k, thicketref07_Shape.l82 R k = thicketref07_Shape.rl82 R k
  | 0 => by funext a5 n5 c5 a8 n8 c8 x92 x93 w; first | rfl | kernel_rfl
  | k + 1 => by
    funext a5 n5 c5 a8 n8 c8 x92 x93 w
    rw [thicketref07_Shape.s82, forall_const]
    unfold thicketref07_Shape.l82
    have ih := thicketref07_Shape.lq82 R k
    rw [ih]
    all_goals rfl
theorem thicketref07_Shape.eq82 (R : Value → World → Prop) : thicketref07_Shape.e82 R = thicketref07_Shape.re82 R := by
  funext a5 n5 c5 a8 n8 c8 x92 x93 w
  unfold thicketref07_Shape.e82 thicketref07_Shape.re82
  simp only [thicketref07_Shape.lq82 R]
def thicketref07_Shape.l51 (R : Value → World → Prop) : Nat → (Option Addr) → (Option Addr) → Nat → Nat → (Option Addr) → Nat → Nat → (Option Addr) → Nat → Nat → World → Prop
  | 0, _, _, _, _, _, _, _, _, _, _, _ => False
  | k + 1, p1, a5, n5, c5, a8, n8, c8, a9, n9, c9, w => thicketref07_Shape.g51 R (thicketref07_Shape.l51 R k) (thicketref07_Shape.e82 R) p1 a5 n5 c5 a8 n8 c8 a9 n9 c9 w
def thicketref07_Shape.e51 (R : Value → World → Prop) (p1 : Option Addr) (a5 : Option Addr) (n5 : Nat) (c5 : Nat) (a8 : Option Addr) (n8 : Nat) (c8 : Nat) (a9 : Option Addr) (n9 : Nat) (c9 : Nat) (w : World) : Prop := ∃ k, thicketref07_Shape.l51 R k p1 a5 n5 c5 a8 n8 c8 a9 n9 c9 w
theorem thicketref07_Shape.s51 (R : Value → World → Prop) (k : Nat) (p1 : Option Addr) (a5 : Option Addr) (n5 : Nat) (c5 : Nat) (a8 : Option Addr) (n8 : Nat) (c8 : Nat) (a9 : Option Addr) (n9 : Nat) (c9 : Nat) (w : World) : thicketref07_Shape.rl51 R (k + 1) p1 a5 n5 c5 a8 n8 c8 a9 n9 c9 w = ∀ _ : Nat → Value, thicketref07_Shape.g51 R (thicketref07_Shape.rl51 R k) (thicketref07_Shape.re82 R) p1 a5 n5 c5 a8 n8 c8 a9 n9 c9 w := by kernel_rfl
theorem thicketref07_Shape.lq51 (R : Value → World → Prop) : ∀ k, thicketref07_Shape.l51 R k = thicketref07_Shape.rl51 R k
  | 0 => by funext p1 a5 n5 c5 a8 n8 c8 a9 n9 c9 w; first | rfl | kernel_rfl
  | k + 1 => by
    funext p1 a5 n5 c5 a8 n8 c8 a9 n9 c9 w
    rw [thicketref07_Shape.s51, forall_const]
    unfold thicketref07_Shape.l51
    have ih := thicketref07_Shape.lq51 R k
    rw [thicketref07_Shape.eq82 R]
    rw [ih]
    all_goals rfl
theorem thicketref07_Shape.eq51 (R : Value → World → Prop) : thicketref07_Shape.e51 R = thicketref07_Shape.re51 R := by
  funext p1 a5 n5 c5 a8 n8 c8 a9 n9 c9 w
  unfold thicketref07_Shape.e51 thicketref07_Shape.re51
  simp only [thicketref07_Shape.lq51 R]
def thicketref07_Shape.l18 (R : Value → World → Prop) : Nat → (Option Addr) → Int → (Option Addr) → Nat → Nat → (Option Addr) → Nat → Nat → Int → Int → World → Prop
  | 0, _, _, _, _, _, _, _, _, _, _, _ => False
  | k + 1, p1, x4, a5, n5, c5, a21, n21, c21, x22, x23, w => thicketref07_Shape.g18 R (thicketref07_Shape.l18 R k) (thicketref07_Shape.e51 R) p1 x4 a5 n5 c5 a21 n21 c21 x22 x23 w
def thicketref07_Shape.e18 (R : Value → World → Prop) (p1 : Option Addr) (x4 : Int) (a5 : Option Addr) (n5 : Nat) (c5 : Nat) (a21 : Option Addr) (n21 : Nat) (c21 : Nat) (x22 : Int) (x23 : Int) (w : World) : Prop := ∃ k, thicketref07_Shape.l18 R k p1 x4 a5 n5 c5 a21 n21 c21 x22 x23 w
theorem thicketref07_Shape.s18 (R : Value → World → Prop) (k : Nat) (p1 : Option Addr) (x4 : Int) (a5 : Option Addr) (n5 : Nat) (c5 : Nat) (a21 : Option Addr) (n21 : Nat) (c21 : Nat) (x22 : Int) (x23 : Int) (w : World) : thicketref07_Shape.rl18 R (k + 1) p1 x4 a5 n5 c5 a21 n21 c21 x22 x23 w = ∀ _ : Nat → Value, thicketref07_Shape.g18 R (thicketref07_Shape.rl18 R k) (thicketref07_Shape.re51 R) p1 x4 a5 n5 c5 a21 n21 c21 x22 x23 w := by kernel_rfl
theorem thicketref07_Shape.lq18 (R : Value → World → Prop) : ∀ k, thicketref07_Shape.l18 R k = thicketref07_Shape.rl18 R k
  | 0 => by funext p1 x4 a5 n5 c5 a21 n21 c21 x22 x23 w; first | rfl | kernel_rfl
  | k + 1 => by
    funext p1 x4 a5 n5 c5 a21 n21 c21 x22 x23 w
    rw [thicketref07_Shape.s18, forall_const]
    unfold thicketref07_Shape.l18
    have ih := thicketref07_Shape.lq18 R k
    rw [thicketref07_Shape.eq51 R]
    rw [ih]
    all_goals rfl
theorem thicketref07_Shape.eq18 (R : Value → World → Prop) : thicketref07_Shape.e18 R = thicketref07_Shape.re18 R := by
  funext p1 x4 a5 n5 c5 a21 n21 c21 x22 x23 w
  unfold thicketref07_Shape.e18 thicketref07_Shape.re18
  simp only [thicketref07_Shape.lq18 R]
def thicketref07_Shape (R : Value → World → Prop) (x0_0 : Int) (a0_1 : Option Addr) (n0_1 : Nat) (c0_1 : Nat) (w : World) : Prop := thicketref07_Shape.g0 R (thicketref07_Shape.e18 R) x0_0 a0_1 n0_1 c0_1 w
theorem thicketref07_Shape.root0 (R : Value → World → Prop) (x0_0 : Int) (a0_1 : Option Addr) (n0_1 : Nat) (c0_1 : Nat) (w : World) : fnN Go.Proofs.Try.prog Go.Proofs.Try.f26 thicketref07_Shape.an #[.agg #[.int .i64 x0_0, .slice a0_1 n0_1 c0_1]] w R = thicketref07_Shape.g0 R (thicketref07_Shape.re18 R) x0_0 a0_1 n0_1 c0_1 w := by kernel_rfl
theorem thicketref07_Shape.calls {R : Value → World → Prop} {x0_0 : Int} {a0_1 : Option Addr} {n0_1 : Nat} {c0_1 : Nat} {w : World} (h : thicketref07_Shape R x0_0 a0_1 n0_1 c0_1 w) : Go.E.CallsD Go.Proofs.Try.prog 26 #[.agg #[.int .i64 x0_0, .slice a0_1 n0_1 c0_1]] w R := by
  refine callsD_of (n := thicketref07_Shape.an) M_follows M_sizes Go.Proofs.Try.func26 (by rfl) ?_
  rw [thicketref07_Shape.root0]
  unfold thicketref07_Shape at h
  rw [thicketref07_Shape.eq18 R] at h
  exact h
end Go.Mir
