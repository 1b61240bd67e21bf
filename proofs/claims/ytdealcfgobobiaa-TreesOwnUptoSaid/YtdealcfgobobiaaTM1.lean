/- Part of a proof of laws of the seat Ytdealcfgobobiaa: functions' weakest preconditions, each checked by the kernel, contracts out of them, plain lemmas; no conditions. -/
import Derived.Test.YtdealcfgobobiaaTM0
set_option linter.unusedVariables false
set_option linter.unusedSimpArgs false
set_option linter.unusedVariables false
set_option maxRecDepth 100000
namespace Go.Mir
open Go Go.E Go.RowKit
-- thicket/thicketlaw07.lives
def thicketlaw07_lives.an : An := An.nil
def thicketlaw07_lives.g0 (R : Value → World → Prop) (w : World) : Prop :=
 Go.E.CallsD Go.Proofs.Try.prog 43 #[] w fun yv59 u60 =>
 ∃ yx_61_0 : Int, ∃ ya_61_1 : Option Addr, ∃ yn_61_1 : Nat, ∃ yc_61_1 : Nat, yv59 = .agg #[.int .i64 yx_61_0, .slice ya_61_1 yn_61_1 yc_61_1] ∧
 (nw (u60.alloc (.cells #[.int .i64 0, .slice none 0 0] 33)) fun w62 =>
 okSt w62 ((na u60).add 0) ∧
 (nw (w62.setCell ((na u60).add 0) (.int .i64 yx_61_0)) fun w63 =>
 okSt w63 ((na u60).add 1) ∧
 (nw (w63.setCell ((na u60).add 1) (.slice ya_61_1 yn_61_1 yc_61_1)) fun w64 =>
 ∃ yx_65 : Int, w64.cell? ((na u60).add 0) = some (.int .i64 yx_65) ∧
 (∃ ya_66 : Option Addr, ∃ yn_66 : Nat, ∃ yc_66 : Nat, w64.cell? ((na u60).add 1) = some (.slice ya_66 yn_66 yc_66) ∧
 (Go.E.CallsD Go.Proofs.Try.prog 27 #[.agg #[.int .i64 yx_65, .slice ya_66 yn_66 yc_66]] w64 fun yv67 u68 =>
 ∃ ya_69_0 : Option Addr, ∃ yn_69_0 : Nat, ∃ yc_69_0 : Nat, ∃ yx_69_1 : Int, yv67 = .tuple #[.slice ya_69_0 yn_69_0 yc_69_0, .int .i64 yx_69_1] ∧
 (∃ yx_70 : Int, u68.cell? ((na u60).add 0) = some (.int .i64 yx_70) ∧
 (∃ ya_71 : Option Addr, ∃ yn_71 : Nat, ∃ yc_71 : Nat, u68.cell? ((na u60).add 1) = some (.slice ya_71 yn_71 yc_71) ∧
 (nw (u68.alloc (.cells #[.float .f64 4611686018427387904, .float .f64 4602678819172646912] 23)) fun w72 =>
 Go.E.CallsD Go.Proofs.Try.prog 17 #[.agg #[.int .i64 yx_70, .slice ya_71 yn_71 yc_71], .slice (some (na u68)) 2 2] w72 fun yv73 u74 =>
 ∃ yx_75_0 : Int, ∃ yx_75_1 : Int, ∃ yx_75_2 : Int, yv73 = .tuple #[.int .i64 yx_75_0, .int .i64 yx_75_1, .int .i64 yx_75_2] ∧
 (∃ F76 : Nat → Value → World → Prop, (∀ i v u u', F76 i v u → Below u.heap.size u u' → F76 i v u') ∧
 ((∀ u77 : World, Below u74.heap.size u74 u77 → F76 0 (.slice (some (na u77)) 2 2) (u77.alloc (.cells #[.string ⟨#[97]⟩, .string ⟨#[98]⟩] 9))) ∧
 (∀ q78 : Addr, (∃ u, Below u74.heap.size u74 u ∧ F76 0 (.slice (some q78) 2 2) u) →
 (∀ u79 : World, Below u74.heap.size u74 u79 → F76 1 (.slice (some (na u79)) 1 1) (u79.alloc (.cells #[.int .i64 7] 2))) ∧
 (∀ q80 : Addr, (∃ u, Below u74.heap.size u74 u ∧ F76 1 (.slice (some q80) 1 1) u) →
 ∃ yx_81 : Int, u74.cell? ((na u60).add 0) = some (.int .i64 yx_81) ∧
 (∃ ya_82 : Option Addr, ∃ yn_82 : Nat, ∃ yc_82 : Nat, u74.cell? ((na u60).add 1) = some (.slice ya_82 yn_82 yc_82) ∧
 ((∀ u83 : World, Below u74.heap.size u74 u83 → F76 3 (.slice (some (na u83)) 1 1) (u83.alloc (.cells #[.int .i64 yx_81, .slice ya_82 yn_82 yc_82] 33))) ∧
 (∀ q84 : Addr, (∃ u, Below u74.heap.size u74 u ∧ F76 3 (.slice (some q84) 1 1) u) →
 (∀ u85 : World, Below u74.heap.size u74 u85 → Go.E.CallsD Go.Proofs.Try.prog 44 #[] u85 fun yv87 u88 => ∃ yf_86 : Nat, yv87 = .float .f64 yf_86 ∧ F76 5 (.float .f64 yf_86) u88 ∧ Below u85.heap.size u85 u88) ∧
 (∀ yf_89 : Nat, (∃ u, Below u74.heap.size u74 u ∧ F76 5 (.float .f64 yf_89) u) →
 (∀ u90 : World, Below u74.heap.size u74 u90 → F76 5 (.float .f64 yf_89) u90 → F76 6 (.slice (some (na u90)) 2 2) (u90.alloc (.cells #[.float .f64 0, .float .f64 yf_89] 23))) ∧
 (∀ q91 : Addr, (∃ u, Below u74.heap.size u74 u ∧ F76 6 (.slice (some q91) 2 2) u) →
 (∀ u92 : World, Below u74.heap.size u74 u92 → F76 0 (.slice (some q78) 2 2) u92 → F76 1 (.slice (some q80) 1 1) u92 → F76 3 (.slice (some q84) 1 1) u92 → F76 5 (.float .f64 yf_89) u92 → F76 6 (.slice (some q91) 2 2) u92 → Go.E.CallsD Go.Proofs.Try.prog 21 #[.agg #[.string ⟨#[]⟩, .slice (some q78) 2 2, .int .i64 1, .slice (some q80) 1 1, .slice (some q84) 1 1], .slice (some q91) 2 2] u92 fun yv94 u95 => ∃ ya_93_0 : Option Addr, ∃ yn_93_0 : Nat, ∃ yc_93_0 : Nat, ∃ yx_93_1 : Int, yv94 = .tuple #[.slice ya_93_0 yn_93_0 yc_93_0, .int .i64 yx_93_1] ∧ F76 7 (.tuple #[.slice ya_93_0 yn_93_0 yc_93_0, .int .i64 yx_93_1]) u95 ∧ Below u92.heap.size u92 u95) ∧
 (∀ ya_96_0 : Option Addr, ∀ yn_96_0 : Nat, ∀ yc_96_0 : Nat, ∀ yx_96_1 : Int, (∃ u, Below u74.heap.size u74 u ∧ F76 7 (.tuple #[.slice ya_96_0 yn_96_0 yc_96_0, .int .i64 yx_96_1]) u) →
 ∀ u97 : World, Below u74.heap.size u74 u97 → F76 0 (.slice (some q78) 2 2) u97 → F76 1 (.slice (some q80) 1 1) u97 → F76 3 (.slice (some q84) 1 1) u97 → F76 5 (.float .f64 yf_89) u97 → F76 6 (.slice (some q91) 2 2) u97 → F76 7 (.tuple #[.slice ya_96_0 yn_96_0 yc_96_0, .int .i64 yx_96_1]) u97 → 
 onBool (yx_69_1 == 0)
 (nw (u97.alloc (.cells #[.int .i64 3, .int .i64 4, .int .i64 1] 3)) fun w98 =>
 Go.E.CallsD Go.Proofs.Try.prog 19 #[.slice ya_69_0 yn_69_0 yc_69_0, .slice (some (na u97)) 3 3] w98 fun yv99 u100 =>
 ∃ yb_101 : Bool, yv99 = .bool yb_101 ∧
 (onBool yb_101
 (onBool (yx_75_2 == 0)
 (onBool (yx_75_0 == 1)
 (onBool (yx_75_1 == 20)
 (onBool (yx_96_1 == 0)
 (onBool ((yn_96_0 : Int) == 1)
 (optN ya_96_0 fun q102 =>
 chk ((0 : Int) ≤ 0 ∧ 0 < (yn_96_0 : Int))
 (∃ yx_103 : Int, u100.cell? (q102.add 0) = some (.int .i64 yx_103) ∧
 (onBool (yx_103 == 37)
 (∃ ya_104 : Option Addr, ∃ yn_104 : Nat, ∃ yc_104 : Nat, u100.cell? ((na u60).add 1) = some (.slice ya_104 yn_104 yc_104) ∧
 (optN ya_104 fun q105 =>
 chk ((0 : Int) ≤ 0 ∧ 0 < (yn_104 : Int))
 (∃ yx_106 : Int, u100.cell? ((q105.add 0).add 0) = some (.int .u8 yx_106) ∧
 (∃ yx_107 : Int, u100.cell? ((q105.add 0).add 1) = some (.int .i64 yx_107) ∧
 (∃ yx_108 : Int, u100.cell? ((q105.add 0).add 2) = some (.int .i64 yx_108) ∧
 (∃ yf_109 : Nat, u100.cell? ((q105.add 0).add 3) = some (.float .f64 yf_109) ∧
 (∃ ya_110 : Option Addr, ∃ yn_110 : Nat, ∃ yc_110 : Nat, u100.cell? ((q105.add 0).add 4) = some (.slice ya_110 yn_110 yc_110) ∧
 (∃ yx_111 : Int, u100.cell? ((q105.add 0).add 5) = some (.int .u8 yx_111) ∧
 (∃ yx_112 : Int, u100.cell? ((q105.add 0).add 6) = some (.int .i64 yx_112) ∧
 (∃ yx_113 : Int, u100.cell? ((q105.add 0).add 7) = some (.int .i64 yx_113) ∧
 (Go.E.CallsD Go.Proofs.Try.prog 13 #[.agg #[.int .u8 yx_106, .int .i64 yx_107, .int .i64 yx_108, .float .f64 yf_109, .slice ya_110 yn_110 yc_110, .int .u8 yx_111, .int .i64 yx_112, .int .i64 yx_113], .float .f64 4602678819172646912] u100 fun yv114 u115 =>
 ∃ yx_116 : Int, yv114 = .int .u8 yx_116 ∧
 (R (.bool (yx_116 == 1)) u115))))))))))))
 (R (.bool false) u100))))
 (R (.bool false) u100))
 (R (.bool false) u100))
 (R (.bool false) u100))
 (R (.bool false) u100))
 (R (.bool false) u100))
 (R (.bool false) u100)))
 (R (.bool false) u97)))))))))))))))))))
def thicketlaw07_lives (R : Value → World → Prop) (w : World) : Prop := thicketlaw07_lives.g0 R  w
theorem thicketlaw07_lives.root0 (R : Value → World → Prop) (w : World) : fnN Go.Proofs.Try.prog Go.Proofs.Try.f12 thicketlaw07_lives.an #[] w R = thicketlaw07_lives.g0 R  w := by kernel_rfl
theorem thicketlaw07_lives.calls {R : Value → World → Prop} {w : World} (h : thicketlaw07_lives R  w) : Go.E.CallsD Go.Proofs.Try.prog 12 #[] w R := by
  refine callsD_of (n := thicketlaw07_lives.an) M_follows M_sizes Go.Proofs.Try.func12 (by rfl) ?_
  rw [thicketlaw07_lives.root0]
  unfold thicketlaw07_lives at h
  exact h
-- thicket/trees.Goes
def trees_Goes.an : An := An.nil
def trees_Goes.g0 (R : Value → World → Prop) (x0_0 : Int) (x0_1 : Int) (x0_2 : Int) (f0_3 : Nat) (a0_4 : Option Addr) (n0_4 : Nat) (c0_4 : Nat) (x0_5 : Int) (x0_6 : Int) (x0_7 : Int) (f1 : Nat) (w : World) : Prop :=
 nw (w.alloc (.cells #[.int .u8 x0_0, .int .i64 x0_1, .int .i64 x0_2, .float .f64 f0_3, .slice a0_4 n0_4 c0_4, .int .u8 x0_5, .int .i64 x0_6, .int .i64 x0_7] 27)) fun w18 =>
 ∃ yx_19 : Int, w18.cell? ((na w).add 0) = some (.int .u8 yx_19) ∧
 (∃ yx_20 : Int, w18.cell? ((na w).add 1) = some (.int .i64 yx_20) ∧
 (∃ yx_21 : Int, w18.cell? ((na w).add 2) = some (.int .i64 yx_21) ∧
 (∃ yf_22 : Nat, w18.cell? ((na w).add 3) = some (.float .f64 yf_22) ∧
 (∃ ya_23 : Option Addr, ∃ yn_23 : Nat, ∃ yc_23 : Nat, w18.cell? ((na w).add 4) = some (.slice ya_23 yn_23 yc_23) ∧
 (∃ yx_24 : Int, w18.cell? ((na w).add 5) = some (.int .u8 yx_24) ∧
 (∃ yx_25 : Int, w18.cell? ((na w).add 6) = some (.int .i64 yx_25) ∧
 (∃ yx_26 : Int, w18.cell? ((na w).add 7) = some (.int .i64 yx_26) ∧
 (Go.E.CallsD Go.Proofs.Try.prog 45 #[.agg #[.int .u8 yx_19, .int .i64 yx_20, .int .i64 yx_21, .float .f64 yf_22, .slice ya_23 yn_23 yc_23, .int .u8 yx_24, .int .i64 yx_25, .int .i64 yx_26]] w18 fun yv27 u28 =>
 ∃ yv_29 : Value, yv27 = yv_29 ∧
 (ifcN Go.Proofs.Try.prog yv_29 "thicket/trees.goes" fun f30 r31 =>
 Go.E.CallsD Go.Proofs.Try.prog f30 #[r31, .float .f64 f1] u28 fun yv32 u33 =>
 ∃ yx_34 : Int, yv32 = .int .u8 yx_34 ∧
 (R (.int .u8 yx_34) u33))))))))))
def trees_Goes (R : Value → World → Prop) (x0_0 : Int) (x0_1 : Int) (x0_2 : Int) (f0_3 : Nat) (a0_4 : Option Addr) (n0_4 : Nat) (c0_4 : Nat) (x0_5 : Int) (x0_6 : Int) (x0_7 : Int) (f1 : Nat) (w : World) : Prop := trees_Goes.g0 R x0_0 x0_1 x0_2 f0_3 a0_4 n0_4 c0_4 x0_5 x0_6 x0_7 f1 w
theorem trees_Goes.root0 (R : Value → World → Prop) (x0_0 : Int) (x0_1 : Int) (x0_2 : Int) (f0_3 : Nat) (a0_4 : Option Addr) (n0_4 : Nat) (c0_4 : Nat) (x0_5 : Int) (x0_6 : Int) (x0_7 : Int) (f1 : Nat) (w : World) : fnN Go.Proofs.Try.prog Go.Proofs.Try.f13 trees_Goes.an #[.agg #[.int .u8 x0_0, .int .i64 x0_1, .int .i64 x0_2, .float .f64 f0_3, .slice a0_4 n0_4 c0_4, .int .u8 x0_5, .int .i64 x0_6, .int .i64 x0_7], .float .f64 f1] w R = trees_Goes.g0 R x0_0 x0_1 x0_2 f0_3 a0_4 n0_4 c0_4 x0_5 x0_6 x0_7 f1 w := by kernel_rfl
theorem trees_Goes.calls {R : Value → World → Prop} {x0_0 : Int} {x0_1 : Int} {x0_2 : Int} {f0_3 : Nat} {a0_4 : Option Addr} {n0_4 : Nat} {c0_4 : Nat} {x0_5 : Int} {x0_6 : Int} {x0_7 : Int} {f1 : Nat} {w : World} (h : trees_Goes R x0_0 x0_1 x0_2 f0_3 a0_4 n0_4 c0_4 x0_5 x0_6 x0_7 f1 w) : Go.E.CallsD Go.Proofs.Try.prog 13 #[.agg #[.int .u8 x0_0, .int .i64 x0_1, .int .i64 x0_2, .float .f64 f0_3, .slice a0_4 n0_4 c0_4, .int .u8 x0_5, .int .i64 x0_6, .int .i64 x0_7], .float .f64 f1] w R := by
  refine callsD_of (n := trees_Goes.an) M_follows M_sizes Go.Proofs.Try.func13 (by rfl) ?_
  rw [trees_Goes.root0]
  unfold trees_Goes at h
  exact h
-- thicket/thicketref07.Goes
def thicketref07_Goes.an : An := (.mk none .nil (.mk none .nil (.mk none .nil (.mk none .nil (.mk none (.mk none .nil (.mk none (.mk (some [1, 27, 28, 29]) .nil .nil) .nil)) .nil)))))
def thicketref07_Goes.g0 (R : Value → World → Prop) (e38 : Nat → (Option Addr) → Nat → Nat → Int → Int → World → Prop) (x0_0 : Int) (x0_1 : Int) (x0_2 : Int) (f0_3 : Nat) (a0_4 : Option Addr) (n0_4 : Nat) (c0_4 : Nat) (x0_5 : Int) (x0_6 : Int) (x0_7 : Int) (f1 : Nat) (w : World) : Prop :=
 nw (w.alloc (.cells #[.int .u8 x0_0, .int .i64 x0_1, .int .i64 x0_2, .float .f64 f0_3, .slice a0_4 n0_4 c0_4, .int .u8 x0_5, .int .i64 x0_6, .int .i64 x0_7] 27)) fun w15 =>
 ∃ yx_16 : Int, w15.cell? ((na w).add 0) = some (.int .u8 yx_16) ∧
 (onBool (yx_16 != 2)
 (∃ yx_17 : Int, w15.cell? ((na w).add 0) = some (.int .u8 yx_17) ∧
 (onBool (yx_17 != 3)
 (R (.int .u8 0) w15)
 (Go.E.CallsD Go.Proofs.Try.prog 46 #[.float .f64 f1] w15 fun yv18 u19 =>
 ∃ yb_20 : Bool, yv18 = .bool yb_20 ∧
 (onBool yb_20
 (∃ yx_21 : Int, u19.cell? ((na w).add 5) = some (.int .u8 yx_21) ∧
 (R (.int .u8 yx_21) u19))
 (∃ yx_22 : Int, u19.cell? ((na w).add 0) = some (.int .u8 yx_22) ∧
 (onBool (yx_22 == 2)
 (∃ yf_23 : Nat, u19.cell? ((na w).add 3) = some (.float .f64 yf_23) ∧
 (onBool ((FloatKind.f64.format.order f1 yf_23 == some .lt) || (FloatKind.f64.format.order f1 yf_23 == some .eq))
 (R (.int .u8 1) u19)
 (R (.int .u8 2) u19)))
 (∃ ya_24 : Option Addr, ∃ yn_24 : Nat, ∃ yc_24 : Nat, u19.cell? ((na w).add 4) = some (.slice ya_24 yn_24 yc_24) ∧
 (e38 f1 ya_24 yn_24 yc_24 (yn_24 : Int) 0 u19))))))))
 (Go.E.CallsD Go.Proofs.Try.prog 46 #[.float .f64 f1] w15 fun yv25 u26 =>
 ∃ yb_27 : Bool, yv25 = .bool yb_27 ∧
 (onBool yb_27
 (∃ yx_28 : Int, u26.cell? ((na w).add 5) = some (.int .u8 yx_28) ∧
 (R (.int .u8 yx_28) u26))
 (∃ yx_29 : Int, u26.cell? ((na w).add 0) = some (.int .u8 yx_29) ∧
 (onBool (yx_29 == 2)
 (∃ yf_30 : Nat, u26.cell? ((na w).add 3) = some (.float .f64 yf_30) ∧
 (onBool ((FloatKind.f64.format.order f1 yf_30 == some .lt) || (FloatKind.f64.format.order f1 yf_30 == some .eq))
 (R (.int .u8 1) u26)
 (R (.int .u8 2) u26)))
 (∃ ya_31 : Option Addr, ∃ yn_31 : Nat, ∃ yc_31 : Nat, u26.cell? ((na w).add 4) = some (.slice ya_31 yn_31 yc_31) ∧
 (e38 f1 ya_31 yn_31 yc_31 (yn_31 : Int) 0 u26)))))))
def thicketref07_Goes.g38 (R : Value → World → Prop) (b38 : Nat → (Option Addr) → Nat → Nat → Int → Int → World → Prop) (f1 : Nat) (a27 : Option Addr) (n27 : Nat) (c27 : Nat) (x28 : Int) (x29 : Int) (w : World) : Prop :=
 onBool (decide (x29 < x28))
 (optN a27 fun q32 =>
 chk ((0 : Int) ≤ x29 ∧ x29 < (n27 : Int))
 (∃ yx_33 : Int, w.cell? (q32.add (x29.toNat * 1)) = some (.int .i64 yx_33) ∧
 (nv (FloatKind.f64.nearest yx_33) fun t34 =>
 onBool (FloatKind.f64.format.order f1 t34 == some .eq)
 (R (.int .u8 1) w)
 (nv (IntKind.i64.wrap (x29 + 1)) fun t35 =>
 b38 f1 a27 n27 c27 x28 t35 w))))
 (R (.int .u8 2) w)
def thicketref07_Goes.q2 (R : Value → World → Prop) : Exit → Act → World → Prop := (fin Go.Proofs.Try.prog Go.Proofs.Try.f14 R)
def thicketref07_Goes.q10 (R : Value → World → Prop) : Exit → Act → World → Prop := (thicketref07_Goes.q2 R)
def thicketref07_Goes.q18 (R : Value → World → Prop) : Exit → Act → World → Prop := (thicketref07_Goes.q10 R)
def thicketref07_Goes.q34 (R : Value → World → Prop) : Exit → Act → World → Prop := (thicketref07_Goes.q18 R)
def thicketref07_Goes.q35 (R : Value → World → Prop) : Exit → Act → World → Prop := Exit.then (startN none (codeN Go.Proofs.Try.prog (sub (codeOf Go.Proofs.Try.f14) [1, 1, 1, 1, 1]) (nsub thicketref07_Goes.an [1, 1, 1, 1, 1]) (thicketref07_Goes.q34 R))) (thicketref07_Goes.q34 R)
def thicketref07_Goes.q37 (R : Value → World → Prop) : Exit → Act → World → Prop := (thicketref07_Goes.q35 R)
def thicketref07_Goes.q38 (R : Value → World → Prop) : Exit → Act → World → Prop := Exit.inBlock 0 (thicketref07_Goes.q37 R)
def thicketref07_Goes.rl38 (R : Value → World → Prop) (k : Nat) (f1 : Nat) (a27 : Option Addr) (n27 : Nat) (c27 : Nat) (x28 : Int) (x29 : Int) (w : World) : Prop := loopN [1, 27, 28, 29] (codeN Go.Proofs.Try.prog (sub (codeOf Go.Proofs.Try.f14) [1, 1, 1, 1, 0, 1, 0, 0]) (nsub thicketref07_Goes.an [1, 1, 1, 1, 0, 1, 0, 0])) (thicketref07_Goes.q38 R) k ⟨#[undef, .float .f64 f1, undef, undef, undef, undef, undef, undef, undef, undef, undef, undef, undef, undef, undef, undef, undef, undef, undef, undef, undef, undef, undef, undef, undef, undef, undef, .slice a27 n27 c27, .int .i64 x28, .int .i64 x29, undef, undef, undef, undef, undef, undef, undef, undef], []⟩ w
def thicketref07_Goes.re38 (R : Value → World → Prop) (f1 : Nat) (a27 : Option Addr) (n27 : Nat) (c27 : Nat) (x28 : Int) (x29 : Int) (w : World) : Prop := ∃ k, thicketref07_Goes.rl38 R k f1 a27 n27 c27 x28 x29 w
def thicketref07_Goes.l38 (R : Value → World → Prop) : Nat → Nat → (Option Addr) → Nat → Nat → Int → Int → World → Prop
  | 0, _, _, _, _, _, _, _ => False
  | k + 1, f1, a27, n27, c27, x28, x29, w => thicketref07_Goes.g38 R (thicketref07_Goes.l38 R k) f1 a27 n27 c27 x28 x29 w
def thicketref07_Goes.e38 (R : Value → World → Prop) (f1 : Nat) (a27 : Option Addr) (n27 : Nat) (c27 : Nat) (x28 : Int) (x29 : Int) (w : World) : Prop := ∃ k, thicketref07_Goes.l38 R k f1 a27 n27 c27 x28 x29 w
theorem thicketref07_Goes.s38 (R : Value → World → Prop) (k : Nat) (f1 : Nat) (a27 : Option Addr) (n27 : Nat) (c27 : Nat) (x28 : Int) (x29 : Int) (w : World) : thicketref07_Goes.rl38 R (k + 1) f1 a27 n27 c27 x28 x29 w = ∀ _ : Nat → Value, thicketref07_Goes.g38 R (thicketref07_Goes.rl38 R k) f1 a27 n27 c27 x28 x29 w := by kernel_rfl
theorem thicketref07_Goes.lq38 (R : Value → World → Prop) : ∀ k, thicketref07_Goes.l38 R k = thicketref07_Goes.rl38 R k
  | 0 => by funext f1 a27 n27 c27 x28 x29 w; first | rfl | kernel_rfl
  | k + 1 => by
    funext f1 a27 n27 c27 x28 x29 w
    rw [thicketref07_Goes.s38, forall_const]
    unfold thicketref07_Goes.l38
    have ih := thicketref07_Goes.lq38 R k
    rw [ih]
    all_goals rfl
theorem thicketref07_Goes.eq38 (R : Value → World → Prop) : thicketref07_Goes.e38 R = thicketref07_Goes.re38 R := by
  funext f1 a27 n27 c27 x28 x29 w
  unfold thicketref07_Goes.e38 thicketref07_Goes.re38
  simp only [thicketref07_Goes.lq38 R]
def thicketref07_Goes (R : Value → World → Prop) (x0_0 : Int) (x0_1 : Int) (x0_2 : Int) (f0_3 : Nat) (a0_4 : Option Addr) (n0_4 : Nat) (c0_4 : Nat) (x0_5 : Int) (x0_6 : Int) (x0_7 : Int) (f1 : Nat) (w : World) : Prop := thicketref07_Goes.g0 R (thicketref07_Goes.e38 R) x0_0 x0_1 x0_2 f0_3 a0_4 n0_4 c0_4 x0_5 x0_6 x0_7 f1 w
theorem thicketref07_Goes.root0 (R : Value → World → Prop) (x0_0 : Int) (x0_1 : Int) (x0_2 : Int) (f0_3 : Nat) (a0_4 : Option Addr) (n0_4 : Nat) (c0_4 : Nat) (x0_5 : Int) (x0_6 : Int) (x0_7 : Int) (f1 : Nat) (w : World) : fnN Go.Proofs.Try.prog Go.Proofs.Try.f14 thicketref07_Goes.an #[.agg #[.int .u8 x0_0, .int .i64 x0_1, .int .i64 x0_2, .float .f64 f0_3, .slice a0_4 n0_4 c0_4, .int .u8 x0_5, .int .i64 x0_6, .int .i64 x0_7], .float .f64 f1] w R = thicketref07_Goes.g0 R (thicketref07_Goes.re38 R) x0_0 x0_1 x0_2 f0_3 a0_4 n0_4 c0_4 x0_5 x0_6 x0_7 f1 w := by kernel_rfl
theorem thicketref07_Goes.calls {R : Value → World → Prop} {x0_0 : Int} {x0_1 : Int} {x0_2 : Int} {f0_3 : Nat} {a0_4 : Option Addr} {n0_4 : Nat} {c0_4 : Nat} {x0_5 : Int} {x0_6 : Int} {x0_7 : Int} {f1 : Nat} {w : World} (h : thicketref07_Goes R x0_0 x0_1 x0_2 f0_3 a0_4 n0_4 c0_4 x0_5 x0_6 x0_7 f1 w) : Go.E.CallsD Go.Proofs.Try.prog 14 #[.agg #[.int .u8 x0_0, .int .i64 x0_1, .int .i64 x0_2, .float .f64 f0_3, .slice a0_4 n0_4 c0_4, .int .u8 x0_5, .int .i64 x0_6, .int .i64 x0_7], .float .f64 f1] w R := by
  refine callsD_of (n := thicketref07_Goes.an) M_follows M_sizes Go.Proofs.Try.func14 (by rfl) ?_
  rw [thicketref07_Goes.root0]
  unfold thicketref07_Goes at h
  rw [thicketref07_Goes.eq38 R] at h
  exact h
-- thicket/trees.Way
def trees_Way.an : An := (.mk none .nil (.mk none .nil (.mk none (.mk none .nil (.mk none (.mk (some [1, 2, 22, 23, 24]) .nil .nil) .nil)) (.mk none .nil (.mk none .nil (.mk none (.mk none (.mk (some [1, 2, 10, 11]) .nil .nil) .nil) .nil))))))
def trees_Way.g0 (R : Value → World → Prop) (e16 : (Option Addr) → Nat → Nat → (Option Addr) → (Option Addr) → Nat → Nat → Int → Int → World → Prop) (x0_0 : Int) (a0_1 : Option Addr) (n0_1 : Nat) (c0_1 : Nat) (a1 : Option Addr) (n1 : Nat) (c1 : Nat) (w : World) : Prop :=
 nw (w.alloc (.cells #[.int .i64 x0_0, .slice a0_1 n0_1 c0_1] 33)) fun w94 =>
 ∃ yx_95 : Int, w94.cell? ((na w).add 0) = some (.int .i64 yx_95) ∧
 (∃ ya_96 : Option Addr, ∃ yn_96 : Nat, ∃ yc_96 : Nat, w94.cell? ((na w).add 1) = some (.slice ya_96 yn_96 yc_96) ∧
 (Go.E.CallsD Go.Proofs.Try.prog 25 #[.agg #[.int .i64 yx_95, .slice ya_96 yn_96 yc_96]] w94 fun yv97 u98 =>
 ∃ yx_99_0 : Int, ∃ yx_99_1 : Int, yv97 = .tuple #[.int .i64 yx_99_0, .int .i64 yx_99_1] ∧
 (onBool (yx_99_0 != 0)
 (R (.tuple #[.slice none 0 0, .int .i64 yx_99_0]) u98)
 (∃ ya_100 : Option Addr, ∃ yn_100 : Nat, ∃ yc_100 : Nat, u98.cell? ((na w).add 1) = some (.slice ya_100 yn_100 yc_100) ∧
 (e16 a1 n1 c1 (some (na w)) ya_100 yn_100 yc_100 (yn_100 : Int) 0 u98)))))
def trees_Way.g16 (R : Value → World → Prop) (b16 : (Option Addr) → Nat → Nat → (Option Addr) → (Option Addr) → Nat → Nat → Int → Int → World → Prop) (e41 : (Option Addr) → Nat → Nat → (Option Addr) → Int → (Option Addr) → Nat → Nat → World → Prop) (a1 : Option Addr) (n1 : Nat) (c1 : Nat) (p2 : Option Addr) (a22 : Option Addr) (n22 : Nat) (c22 : Nat) (x23 : Int) (x24 : Int) (w : World) : Prop :=
 onBool (decide (x24 < x23))
 (optN a22 fun q101 =>
 chk ((0 : Int) ≤ x24 ∧ x24 < (n22 : Int))
 (∃ yx_102 : Int, w.cell? ((q101.add (x24.toNat * 8)).add 0) = some (.int .u8 yx_102) ∧
 (∃ yx_103 : Int, w.cell? ((q101.add (x24.toNat * 8)).add 1) = some (.int .i64 yx_103) ∧
 (∃ yx_104 : Int, w.cell? ((q101.add (x24.toNat * 8)).add 2) = some (.int .i64 yx_104) ∧
 (∃ yf_105 : Nat, w.cell? ((q101.add (x24.toNat * 8)).add 3) = some (.float .f64 yf_105) ∧
 (∃ ya_106 : Option Addr, ∃ yn_106 : Nat, ∃ yc_106 : Nat, w.cell? ((q101.add (x24.toNat * 8)).add 4) = some (.slice ya_106 yn_106 yc_106) ∧
 (∃ yx_107 : Int, w.cell? ((q101.add (x24.toNat * 8)).add 5) = some (.int .u8 yx_107) ∧
 (∃ yx_108 : Int, w.cell? ((q101.add (x24.toNat * 8)).add 6) = some (.int .i64 yx_108) ∧
 (∃ yx_109 : Int, w.cell? ((q101.add (x24.toNat * 8)).add 7) = some (.int .i64 yx_109) ∧
 (nw (w.alloc (.cells #[.int .u8 0, .int .i64 0, .int .i64 0, .float .f64 0, .slice none 0 0, .int .u8 0, .int .i64 0, .int .i64 0] 27)) fun w110 =>
 okSt w110 ((na w).add 0) ∧
 (nw (w110.setCell ((na w).add 0) (.int .u8 yx_102)) fun w111 =>
 okSt w111 ((na w).add 1) ∧
 (nw (w111.setCell ((na w).add 1) (.int .i64 yx_103)) fun w112 =>
 okSt w112 ((na w).add 2) ∧
 (nw (w112.setCell ((na w).add 2) (.int .i64 yx_104)) fun w113 =>
 okSt w113 ((na w).add 3) ∧
 (nw (w113.setCell ((na w).add 3) (.float .f64 yf_105)) fun w114 =>
 okSt w114 ((na w).add 4) ∧
 (nw (w114.setCell ((na w).add 4) (.slice ya_106 yn_106 yc_106)) fun w115 =>
 okSt w115 ((na w).add 5) ∧
 (nw (w115.setCell ((na w).add 5) (.int .u8 yx_107)) fun w116 =>
 okSt w116 ((na w).add 6) ∧
 (nw (w116.setCell ((na w).add 6) (.int .i64 yx_108)) fun w117 =>
 okSt w117 ((na w).add 7) ∧
 (nw (w117.setCell ((na w).add 7) (.int .i64 yx_109)) fun w118 =>
 ∃ yx_119 : Int, w118.cell? ((na w).add 0) = some (.int .u8 yx_119) ∧
 (∃ yx_120 : Int, w118.cell? ((na w).add 1) = some (.int .i64 yx_120) ∧
 (∃ yx_121 : Int, w118.cell? ((na w).add 2) = some (.int .i64 yx_121) ∧
 (∃ yf_122 : Nat, w118.cell? ((na w).add 3) = some (.float .f64 yf_122) ∧
 (∃ ya_123 : Option Addr, ∃ yn_123 : Nat, ∃ yc_123 : Nat, w118.cell? ((na w).add 4) = some (.slice ya_123 yn_123 yc_123) ∧
 (∃ yx_124 : Int, w118.cell? ((na w).add 5) = some (.int .u8 yx_124) ∧
 (∃ yx_125 : Int, w118.cell? ((na w).add 6) = some (.int .i64 yx_125) ∧
 (∃ yx_126 : Int, w118.cell? ((na w).add 7) = some (.int .i64 yx_126) ∧
 (Go.E.CallsD Go.Proofs.Try.prog 47 #[.agg #[.int .u8 yx_119, .int .i64 yx_120, .int .i64 yx_121, .float .f64 yf_122, .slice ya_123 yn_123 yc_123, .int .u8 yx_124, .int .i64 yx_125, .int .i64 yx_126]] w118 fun yv127 u128 =>
 ∃ yb_129 : Bool, yv127 = .bool yb_129 ∧
 (onBool yb_129
 (∃ yx_130 : Int, u128.cell? ((na w).add 2) = some (.int .i64 yx_130) ∧
 (onBool (decide (yx_130 ≥ (n1 : Int)))
 (R (.tuple #[.slice none 0 0, .int .i64 72]) u128)
 (nv (IntKind.i64.wrap (x24 + 1)) fun t131 =>
 b16 a1 n1 c1 p2 a22 n22 c22 x23 t131 u128)))
 (nv (IntKind.i64.wrap (x24 + 1)) fun t132 =>
 b16 a1 n1 c1 p2 a22 n22 c22 x23 t132 u128))))))))))))))))))))))))))))
 (nw (w.alloc (.cells #[.int .i64 0] 3)) fun w133 =>
 e41 a1 n1 c1 p2 0 (some (na w)) 1 1 w133)
def trees_Way.g41 (R : Value → World → Prop) (b41 : (Option Addr) → Nat → Nat → (Option Addr) → Int → (Option Addr) → Nat → Nat → World → Prop) (a1 : Option Addr) (n1 : Nat) (c1 : Nat) (p2 : Option Addr) (x10 : Int) (a11 : Option Addr) (n11 : Nat) (c11 : Nat) (w : World) : Prop :=
 optN p2 fun q134 =>
 ∃ ya_135 : Option Addr, ∃ yn_135 : Nat, ∃ yc_135 : Nat, w.cell? (q134.add 1) = some (.slice ya_135 yn_135 yc_135) ∧
 (optN ya_135 fun q136 =>
 chk ((0 : Int) ≤ x10 ∧ x10 < (yn_135 : Int))
 (∃ yx_137 : Int, w.cell? ((q136.add (x10.toNat * 8)).add 0) = some (.int .u8 yx_137) ∧
 (∃ yx_138 : Int, w.cell? ((q136.add (x10.toNat * 8)).add 1) = some (.int .i64 yx_138) ∧
 (∃ yx_139 : Int, w.cell? ((q136.add (x10.toNat * 8)).add 2) = some (.int .i64 yx_139) ∧
 (∃ yf_140 : Nat, w.cell? ((q136.add (x10.toNat * 8)).add 3) = some (.float .f64 yf_140) ∧
 (∃ ya_141 : Option Addr, ∃ yn_141 : Nat, ∃ yc_141 : Nat, w.cell? ((q136.add (x10.toNat * 8)).add 4) = some (.slice ya_141 yn_141 yc_141) ∧
 (∃ yx_142 : Int, w.cell? ((q136.add (x10.toNat * 8)).add 5) = some (.int .u8 yx_142) ∧
 (∃ yx_143 : Int, w.cell? ((q136.add (x10.toNat * 8)).add 6) = some (.int .i64 yx_143) ∧
 (∃ yx_144 : Int, w.cell? ((q136.add (x10.toNat * 8)).add 7) = some (.int .i64 yx_144) ∧
 (Go.E.CallsD Go.Proofs.Try.prog 47 #[.agg #[.int .u8 yx_137, .int .i64 yx_138, .int .i64 yx_139, .float .f64 yf_140, .slice ya_141 yn_141 yc_141, .int .u8 yx_142, .int .i64 yx_143, .int .i64 yx_144]] w fun yv145 u146 =>
 ∃ yb_147 : Bool, yv145 = .bool yb_147 ∧
 (onBool yb_147
 (optN p2 fun q148 =>
 ∃ ya_149 : Option Addr, ∃ yn_149 : Nat, ∃ yc_149 : Nat, u146.cell? (q148.add 1) = some (.slice ya_149 yn_149 yc_149) ∧
 (optN ya_149 fun q150 =>
 chk ((0 : Int) ≤ x10 ∧ x10 < (yn_149 : Int))
 (∃ yx_151 : Int, u146.cell? ((q150.add (x10.toNat * 8)).add 0) = some (.int .u8 yx_151) ∧
 (∃ yx_152 : Int, u146.cell? ((q150.add (x10.toNat * 8)).add 1) = some (.int .i64 yx_152) ∧
 (∃ yx_153 : Int, u146.cell? ((q150.add (x10.toNat * 8)).add 2) = some (.int .i64 yx_153) ∧
 (∃ yf_154 : Nat, u146.cell? ((q150.add (x10.toNat * 8)).add 3) = some (.float .f64 yf_154) ∧
 (∃ ya_155 : Option Addr, ∃ yn_155 : Nat, ∃ yc_155 : Nat, u146.cell? ((q150.add (x10.toNat * 8)).add 4) = some (.slice ya_155 yn_155 yc_155) ∧
 (∃ yx_156 : Int, u146.cell? ((q150.add (x10.toNat * 8)).add 5) = some (.int .u8 yx_156) ∧
 (∃ yx_157 : Int, u146.cell? ((q150.add (x10.toNat * 8)).add 6) = some (.int .i64 yx_157) ∧
 (∃ yx_158 : Int, u146.cell? ((q150.add (x10.toNat * 8)).add 7) = some (.int .i64 yx_158) ∧
 (nw (u146.alloc (.cells #[.int .u8 0, .int .i64 0, .int .i64 0, .float .f64 0, .slice none 0 0, .int .u8 0, .int .i64 0, .int .i64 0] 27)) fun w159 =>
 okSt w159 ((na u146).add 0) ∧
 (nw (w159.setCell ((na u146).add 0) (.int .u8 yx_151)) fun w160 =>
 okSt w160 ((na u146).add 1) ∧
 (nw (w160.setCell ((na u146).add 1) (.int .i64 yx_152)) fun w161 =>
 okSt w161 ((na u146).add 2) ∧
 (nw (w161.setCell ((na u146).add 2) (.int .i64 yx_153)) fun w162 =>
 okSt w162 ((na u146).add 3) ∧
 (nw (w162.setCell ((na u146).add 3) (.float .f64 yf_154)) fun w163 =>
 okSt w163 ((na u146).add 4) ∧
 (nw (w163.setCell ((na u146).add 4) (.slice ya_155 yn_155 yc_155)) fun w164 =>
 okSt w164 ((na u146).add 5) ∧
 (nw (w164.setCell ((na u146).add 5) (.int .u8 yx_156)) fun w165 =>
 okSt w165 ((na u146).add 6) ∧
 (nw (w165.setCell ((na u146).add 6) (.int .i64 yx_157)) fun w166 =>
 okSt w166 ((na u146).add 7) ∧
 (nw (w166.setCell ((na u146).add 7) (.int .i64 yx_158)) fun w167 =>
 ∃ yx_168 : Int, w167.cell? ((na u146).add 7) = some (.int .i64 yx_168) ∧
 (∃ yx_169 : Int, w167.cell? ((na u146).add 0) = some (.int .u8 yx_169) ∧
 (∃ yx_170 : Int, w167.cell? ((na u146).add 1) = some (.int .i64 yx_170) ∧
 (∃ yx_171 : Int, w167.cell? ((na u146).add 2) = some (.int .i64 yx_171) ∧
 (∃ yf_172 : Nat, w167.cell? ((na u146).add 3) = some (.float .f64 yf_172) ∧
 (∃ ya_173 : Option Addr, ∃ yn_173 : Nat, ∃ yc_173 : Nat, w167.cell? ((na u146).add 4) = some (.slice ya_173 yn_173 yc_173) ∧
 (∃ yx_174 : Int, w167.cell? ((na u146).add 5) = some (.int .u8 yx_174) ∧
 (∃ yx_175 : Int, w167.cell? ((na u146).add 6) = some (.int .i64 yx_175) ∧
 (∃ yx_176 : Int, w167.cell? ((na u146).add 7) = some (.int .i64 yx_176) ∧
 (∃ yx_177 : Int, w167.cell? ((na u146).add 2) = some (.int .i64 yx_177) ∧
 (optN a1 fun q178 =>
 chk ((0 : Int) ≤ yx_177 ∧ yx_177 < (n1 : Int))
 (∃ yf_179 : Nat, w167.cell? (q178.add (yx_177.toNat * 1)) = some (.float .f64 yf_179) ∧
 (Go.E.CallsD Go.Proofs.Try.prog 13 #[.agg #[.int .u8 yx_169, .int .i64 yx_170, .int .i64 yx_171, .float .f64 yf_172, .slice ya_173 yn_173 yc_173, .int .u8 yx_174, .int .i64 yx_175, .int .i64 yx_176], .float .f64 yf_179] w167 fun yv180 u181 =>
 ∃ yx_182 : Int, yv180 = .int .u8 yx_182 ∧
 (onBool (yx_182 == 1)
 (∃ yx_183 : Int, u181.cell? ((na u146).add 6) = some (.int .i64 yx_183) ∧
 (nw (u181.alloc (.cells #[.int .i64 yx_183] 3)) fun w184 =>
 rawN Go.Proofs.Try.prog (Builtin.append_ #[24, 24] 24 #[.slice a11 n11 c11, .slice (some (na u181)) 1 1]) w184 fun yv185 u186 =>
 ∃ ya_187 : Option Addr, ∃ yn_187 : Nat, ∃ yc_187 : Nat, yv185 = .slice ya_187 yn_187 yc_187 ∧
 (b41 a1 n1 c1 p2 yx_183 ya_187 yn_187 yc_187 u186)))
 (nw (u181.alloc (.cells #[.int .i64 yx_168] 3)) fun w188 =>
 rawN Go.Proofs.Try.prog (Builtin.append_ #[24, 24] 24 #[.slice a11 n11 c11, .slice (some (na u181)) 1 1]) w188 fun yv189 u190 =>
 ∃ ya_191 : Option Addr, ∃ yn_191 : Nat, ∃ yc_191 : Nat, yv189 = .slice ya_191 yn_191 yc_191 ∧
 (b41 a1 n1 c1 p2 yx_168 ya_191 yn_191 yc_191 u190))))))))))))))))))))))))))))))))))
 (R (.tuple #[.slice a11 n11 c11, .int .i64 0]) u146))))))))))))
def trees_Way.q2 (R : Value → World → Prop) : Exit → Act → World → Prop := (fin Go.Proofs.Try.prog Go.Proofs.Try.f15 R)
def trees_Way.q12 (R : Value → World → Prop) : Exit → Act → World → Prop := (trees_Way.q2 R)
def trees_Way.q13 (R : Value → World → Prop) : Exit → Act → World → Prop := Exit.then (startN none (codeN Go.Proofs.Try.prog (sub (codeOf Go.Proofs.Try.f15) [1, 1, 1]) (nsub trees_Way.an [1, 1, 1]) (trees_Way.q12 R))) (trees_Way.q12 R)
def trees_Way.q15 (R : Value → World → Prop) : Exit → Act → World → Prop := (trees_Way.q13 R)
def trees_Way.q16 (R : Value → World → Prop) : Exit → Act → World → Prop := Exit.inBlock 0 (trees_Way.q15 R)
def trees_Way.rl16 (R : Value → World → Prop) (k : Nat) (a1 : Option Addr) (n1 : Nat) (c1 : Nat) (p2 : Option Addr) (a22 : Option Addr) (n22 : Nat) (c22 : Nat) (x23 : Int) (x24 : Int) (w : World) : Prop := loopN [1, 2, 22, 23, 24] (codeN Go.Proofs.Try.prog (sub (codeOf Go.Proofs.Try.f15) [1, 1, 0, 1, 0, 0]) (nsub trees_Way.an [1, 1, 0, 1, 0, 0])) (trees_Way.q16 R) k ⟨#[undef, .slice a1 n1 c1, .pointer p2, undef, undef, undef, undef, undef, undef, undef, undef, undef, undef, undef, undef, undef, undef, undef, undef, undef, undef, undef, .slice a22 n22 c22, .int .i64 x23, .int .i64 x24, undef, undef, undef, undef, undef, undef, undef, undef, undef, undef, undef, undef, undef, undef, undef, undef, undef, undef, undef, undef, undef, undef, undef, undef, undef, undef, undef, undef, undef, undef, undef, undef, undef, undef, undef, undef, undef, undef, undef, undef, undef, undef], []⟩ w
def trees_Way.re16 (R : Value → World → Prop) (a1 : Option Addr) (n1 : Nat) (c1 : Nat) (p2 : Option Addr) (a22 : Option Addr) (n22 : Nat) (c22 : Nat) (x23 : Int) (x24 : Int) (w : World) : Prop := ∃ k, trees_Way.rl16 R k a1 n1 c1 p2 a22 n22 c22 x23 x24 w
def trees_Way.q35 (R : Value → World → Prop) : Exit → Act → World → Prop := (trees_Way.q12 R)
def trees_Way.q37 (R : Value → World → Prop) : Exit → Act → World → Prop := (trees_Way.q35 R)
def trees_Way.q39 (R : Value → World → Prop) : Exit → Act → World → Prop := (trees_Way.q37 R)
def trees_Way.q40 (R : Value → World → Prop) : Exit → Act → World → Prop := Exit.then (startN none (codeN Go.Proofs.Try.prog (sub (codeOf Go.Proofs.Try.f15) [1, 1, 1, 1, 1, 1]) (nsub trees_Way.an [1, 1, 1, 1, 1, 1]) (trees_Way.q39 R))) (trees_Way.q39 R)
def trees_Way.q41 (R : Value → World → Prop) : Exit → Act → World → Prop := Exit.inBlock 2 (trees_Way.q40 R)
def trees_Way.rl41 (R : Value → World → Prop) (k : Nat) (a1 : Option Addr) (n1 : Nat) (c1 : Nat) (p2 : Option Addr) (x10 : Int) (a11 : Option Addr) (n11 : Nat) (c11 : Nat) (w : World) : Prop := loopN [1, 2, 10, 11] (codeN Go.Proofs.Try.prog (sub (codeOf Go.Proofs.Try.f15) [1, 1, 1, 1, 1, 0, 0, 0]) (nsub trees_Way.an [1, 1, 1, 1, 1, 0, 0, 0])) (trees_Way.q41 R) k ⟨#[undef, .slice a1 n1 c1, .pointer p2, undef, undef, undef, undef, undef, undef, undef, .int .i64 x10, .slice a11 n11 c11, undef, undef, undef, undef, undef, undef, undef, undef, undef, undef, undef, undef, undef, undef, undef, undef, undef, undef, undef, undef, undef, undef, undef, undef, undef, undef, undef, undef, undef, undef, undef, undef, undef, undef, undef, undef, undef, undef, undef, undef, undef, undef, undef, undef, undef, undef, undef, undef, undef, undef, undef, undef, undef, undef, undef], []⟩ w
def trees_Way.re41 (R : Value → World → Prop) (a1 : Option Addr) (n1 : Nat) (c1 : Nat) (p2 : Option Addr) (x10 : Int) (a11 : Option Addr) (n11 : Nat) (c11 : Nat) (w : World) : Prop := ∃ k, trees_Way.rl41 R k a1 n1 c1 p2 x10 a11 n11 c11 w
def trees_Way.l41 (R : Value → World → Prop) : Nat → (Option Addr) → Nat → Nat → (Option Addr) → Int → (Option Addr) → Nat → Nat → World → Prop
  | 0, _, _, _, _, _, _, _, _, _ => False
  | k + 1, a1, n1, c1, p2, x10, a11, n11, c11, w => trees_Way.g41 R (trees_Way.l41 R k) a1 n1 c1 p2 x10 a11 n11 c11 w
def trees_Way.e41 (R : Value → World → Prop) (a1 : Option Addr) (n1 : Nat) (c1 : Nat) (p2 : Option Addr) (x10 : Int) (a11 : Option Addr) (n11 : Nat) (c11 : Nat) (w : World) : Prop := ∃ k, trees_Way.l41 R k a1 n1 c1 p2 x10 a11 n11 c11 w
theorem trees_Way.s41 (R : Value → World → Prop) (k : Nat) (a1 : Option Addr) (n1 : Nat) (c1 : Nat) (p2 : Option Addr) (x10 : Int) (a11 : Option Addr) (n11 : Nat) (c11 : Nat) (w : World) : trees_Way.rl41 R (k + 1) a1 n1 c1 p2 x10 a11 n11 c11 w = ∀ _ : Nat → Value, trees_Way.g41 R (trees_Way.rl41 R k) a1 n1 c1 p2 x10 a11 n11 c11 w := by kernel_rfl
theorem trees_Way.lq41 (R : Value → World → Prop) : ∀ k, trees_Way.l41 R k = trees_Way.rl41 R k
  | 0 => by funext a1 n1 c1 p2 x10 a11 n11 c11 w; first | rfl | kernel_rfl
  | k + 1 => by
    funext a1 n1 c1 p2 x10 a11 n11 c11 w
    rw [trees_Way.s41, forall_const]
    unfold trees_Way.l41
    have ih := trees_Way.lq41 R k
    rw [ih]
    all_goals rfl
theorem trees_Way.eq41 (R : Value → World → Prop) : trees_Way.e41 R = trees_Way.re41 R := by
  funext a1 n1 c1 p2 x10 a11 n11 c11 w
  unfold trees_Way.e41 trees_Way.re41
  simp only [trees_Way.lq41 R]
def trees_Way.l16 (R : Value → World → Prop) : Nat → (Option Addr) → Nat → Nat → (Option Addr) → (Option Addr) → Nat → Nat → Int → Int → World → Prop
  | 0, _, _, _, _, _, _, _, _, _, _ => False
  | k + 1, a1, n1, c1, p2, a22, n22, c22, x23, x24, w => trees_Way.g16 R (trees_Way.l16 R k) (trees_Way.e41 R) a1 n1 c1 p2 a22 n22 c22 x23 x24 w
def trees_Way.e16 (R : Value → World → Prop) (a1 : Option Addr) (n1 : Nat) (c1 : Nat) (p2 : Option Addr) (a22 : Option Addr) (n22 : Nat) (c22 : Nat) (x23 : Int) (x24 : Int) (w : World) : Prop := ∃ k, trees_Way.l16 R k a1 n1 c1 p2 a22 n22 c22 x23 x24 w
theorem trees_Way.s16 (R : Value → World → Prop) (k : Nat) (a1 : Option Addr) (n1 : Nat) (c1 : Nat) (p2 : Option Addr) (a22 : Option Addr) (n22 : Nat) (c22 : Nat) (x23 : Int) (x24 : Int) (w : World) : trees_Way.rl16 R (k + 1) a1 n1 c1 p2 a22 n22 c22 x23 x24 w = ∀ _ : Nat → Value, trees_Way.g16 R (trees_Way.rl16 R k) (trees_Way.re41 R) a1 n1 c1 p2 a22 n22 c22 x23 x24 w := by kernel_rfl
theorem trees_Way.lq16 (R : Value → World → Prop) : ∀ k, trees_Way.l16 R k = trees_Way.rl16 R k
  | 0 => by funext a1 n1 c1 p2 a22 n22 c22 x23 x24 w; first | rfl | kernel_rfl
  | k + 1 => by
    funext a1 n1 c1 p2 a22 n22 c22 x23 x24 w
    rw [trees_Way.s16, forall_const]
    unfold trees_Way.l16
    have ih := trees_Way.lq16 R k
    rw [trees_Way.eq41 R]
    rw [ih]
    all_goals rfl
theorem trees_Way.eq16 (R : Value → World → Prop) : trees_Way.e16 R = trees_Way.re16 R := by
  funext a1 n1 c1 p2 a22 n22 c22 x23 x24 w
  unfold trees_Way.e16 trees_Way.re16
  simp only [trees_Way.lq16 R]
def trees_Way (R : Value → World → Prop) (x0_0 : Int) (a0_1 : Option Addr) (n0_1 : Nat) (c0_1 : Nat) (a1 : Option Addr) (n1 : Nat) (c1 : Nat) (w : World) : Prop := trees_Way.g0 R (trees_Way.e16 R) x0_0 a0_1 n0_1 c0_1 a1 n1 c1 w
theorem trees_Way.root0 (R : Value → World → Prop) (x0_0 : Int) (a0_1 : Option Addr) (n0_1 : Nat) (c0_1 : Nat) (a1 : Option Addr) (n1 : Nat) (c1 : Nat) (w : World) : fnN Go.Proofs.Try.prog Go.Proofs.Try.f15 trees_Way.an #[.agg #[.int .i64 x0_0, .slice a0_1 n0_1 c0_1], .slice a1 n1 c1] w R = trees_Way.g0 R (trees_Way.re16 R) x0_0 a0_1 n0_1 c0_1 a1 n1 c1 w := by kernel_rfl
theorem trees_Way.calls {R : Value → World → Prop} {x0_0 : Int} {a0_1 : Option Addr} {n0_1 : Nat} {c0_1 : Nat} {a1 : Option Addr} {n1 : Nat} {c1 : Nat} {w : World} (h : trees_Way R x0_0 a0_1 n0_1 c0_1 a1 n1 c1 w) : Go.E.CallsD Go.Proofs.Try.prog 15 #[.agg #[.int .i64 x0_0, .slice a0_1 n0_1 c0_1], .slice a1 n1 c1] w R := by
  refine callsD_of (n := trees_Way.an) M_follows M_sizes Go.Proofs.Try.func15 (by rfl) ?_
  rw [trees_Way.root0]
  unfold trees_Way at h
  rw [trees_Way.eq16 R] at h
  exact h
-- thicket/thicketref07.Way
def thicketref07_Way.an : An := (.mk none .nil (.mk none .nil (.mk none .nil (.mk none .nil (.mk none .nil (.mk none .nil (.mk none (.mk none (.mk (some [1, 2, 8, 9]) .nil .nil) .nil) .nil)))))))
def thicketref07_Way.g0 (R : Value → World → Prop) (e26 : (Option Addr) → Nat → Nat → (Option Addr) → (Option Addr) → Nat → Nat → Int → World → Prop) (x0_0 : Int) (a0_1 : Option Addr) (n0_1 : Nat) (c0_1 : Nat) (a1 : Option Addr) (n1 : Nat) (c1 : Nat) (w : World) : Prop :=
 nw (w.alloc (.cells #[.int .i64 x0_0, .slice a0_1 n0_1 c0_1] 33)) fun w57 =>
 ∃ yx_58 : Int, w57.cell? ((na w).add 0) = some (.int .i64 yx_58) ∧
 (∃ ya_59 : Option Addr, ∃ yn_59 : Nat, ∃ yc_59 : Nat, w57.cell? ((na w).add 1) = some (.slice ya_59 yn_59 yc_59) ∧
 (Go.E.CallsD Go.Proofs.Try.prog 26 #[.agg #[.int .i64 yx_58, .slice ya_59 yn_59 yc_59]] w57 fun yv60 u61 =>
 ∃ yx_62_0 : Int, ∃ yx_62_1 : Int, yv60 = .tuple #[.int .i64 yx_62_0, .int .i64 yx_62_1] ∧
 (onBool (yx_62_0 != 0)
 (R (.tuple #[.slice none 0 0, .int .i64 yx_62_0]) u61)
 (∃ yx_63 : Int, u61.cell? ((na w).add 0) = some (.int .i64 yx_63) ∧
 (∃ ya_64 : Option Addr, ∃ yn_64 : Nat, ∃ yc_64 : Nat, u61.cell? ((na w).add 1) = some (.slice ya_64 yn_64 yc_64) ∧
 (Go.E.CallsD Go.Proofs.Try.prog 48 #[.agg #[.int .i64 yx_63, .slice ya_64 yn_64 yc_64], .int .i64 (n1 : Int)] u61 fun yv65 u66 =>
 ∃ yb_67 : Bool, yv65 = .bool yb_67 ∧
 (onBool (!yb_67)
 (R (.tuple #[.slice none 0 0, .int .i64 72]) u66)
 (nw (u66.alloc (.cells #[.int .i64 0] 3)) fun w68 =>
 e26 a1 n1 c1 (some (na w)) (some (na u66)) 1 1 0 w68))))))))
def thicketref07_Way.g26 (R : Value → World → Prop) (b26 : (Option Addr) → Nat → Nat → (Option Addr) → (Option Addr) → Nat → Nat → Int → World → Prop) (a1 : Option Addr) (n1 : Nat) (c1 : Nat) (p2 : Option Addr) (a8 : Option Addr) (n8 : Nat) (c8 : Nat) (x9 : Int) (w : World) : Prop :=
 optN p2 fun q69 =>
 ∃ ya_70 : Option Addr, ∃ yn_70 : Nat, ∃ yc_70 : Nat, w.cell? (q69.add 1) = some (.slice ya_70 yn_70 yc_70) ∧
 (optN ya_70 fun q71 =>
 chk ((0 : Int) ≤ x9 ∧ x9 < (yn_70 : Int))
 (∃ yx_72 : Int, w.cell? ((q71.add (x9.toNat * 8)).add 0) = some (.int .u8 yx_72) ∧
 (onBool (yx_72 != 1)
 (optN p2 fun q73 =>
 ∃ ya_74 : Option Addr, ∃ yn_74 : Nat, ∃ yc_74 : Nat, w.cell? (q73.add 1) = some (.slice ya_74 yn_74 yc_74) ∧
 (optN ya_74 fun q75 =>
 chk ((0 : Int) ≤ x9 ∧ x9 < (yn_74 : Int))
 (∃ yx_76 : Int, w.cell? ((q75.add (x9.toNat * 8)).add 0) = some (.int .u8 yx_76) ∧
 (∃ yx_77 : Int, w.cell? ((q75.add (x9.toNat * 8)).add 1) = some (.int .i64 yx_77) ∧
 (∃ yx_78 : Int, w.cell? ((q75.add (x9.toNat * 8)).add 2) = some (.int .i64 yx_78) ∧
 (∃ yf_79 : Nat, w.cell? ((q75.add (x9.toNat * 8)).add 3) = some (.float .f64 yf_79) ∧
 (∃ ya_80 : Option Addr, ∃ yn_80 : Nat, ∃ yc_80 : Nat, w.cell? ((q75.add (x9.toNat * 8)).add 4) = some (.slice ya_80 yn_80 yc_80) ∧
 (∃ yx_81 : Int, w.cell? ((q75.add (x9.toNat * 8)).add 5) = some (.int .u8 yx_81) ∧
 (∃ yx_82 : Int, w.cell? ((q75.add (x9.toNat * 8)).add 6) = some (.int .i64 yx_82) ∧
 (∃ yx_83 : Int, w.cell? ((q75.add (x9.toNat * 8)).add 7) = some (.int .i64 yx_83) ∧
 (nw (w.alloc (.cells #[.int .u8 0, .int .i64 0, .int .i64 0, .float .f64 0, .slice none 0 0, .int .u8 0, .int .i64 0, .int .i64 0] 27)) fun w84 =>
 okSt w84 ((na w).add 0) ∧
 (nw (w84.setCell ((na w).add 0) (.int .u8 yx_76)) fun w85 =>
 okSt w85 ((na w).add 1) ∧
 (nw (w85.setCell ((na w).add 1) (.int .i64 yx_77)) fun w86 =>
 okSt w86 ((na w).add 2) ∧
 (nw (w86.setCell ((na w).add 2) (.int .i64 yx_78)) fun w87 =>
 okSt w87 ((na w).add 3) ∧
 (nw (w87.setCell ((na w).add 3) (.float .f64 yf_79)) fun w88 =>
 okSt w88 ((na w).add 4) ∧
 (nw (w88.setCell ((na w).add 4) (.slice ya_80 yn_80 yc_80)) fun w89 =>
 okSt w89 ((na w).add 5) ∧
 (nw (w89.setCell ((na w).add 5) (.int .u8 yx_81)) fun w90 =>
 okSt w90 ((na w).add 6) ∧
 (nw (w90.setCell ((na w).add 6) (.int .i64 yx_82)) fun w91 =>
 okSt w91 ((na w).add 7) ∧
 (nw (w91.setCell ((na w).add 7) (.int .i64 yx_83)) fun w92 =>
 ∃ yx_93 : Int, w92.cell? ((na w).add 7) = some (.int .i64 yx_93) ∧
 (∃ yx_94 : Int, w92.cell? ((na w).add 0) = some (.int .u8 yx_94) ∧
 (∃ yx_95 : Int, w92.cell? ((na w).add 1) = some (.int .i64 yx_95) ∧
 (∃ yx_96 : Int, w92.cell? ((na w).add 2) = some (.int .i64 yx_96) ∧
 (∃ yf_97 : Nat, w92.cell? ((na w).add 3) = some (.float .f64 yf_97) ∧
 (∃ ya_98 : Option Addr, ∃ yn_98 : Nat, ∃ yc_98 : Nat, w92.cell? ((na w).add 4) = some (.slice ya_98 yn_98 yc_98) ∧
 (∃ yx_99 : Int, w92.cell? ((na w).add 5) = some (.int .u8 yx_99) ∧
 (∃ yx_100 : Int, w92.cell? ((na w).add 6) = some (.int .i64 yx_100) ∧
 (∃ yx_101 : Int, w92.cell? ((na w).add 7) = some (.int .i64 yx_101) ∧
 (∃ yx_102 : Int, w92.cell? ((na w).add 2) = some (.int .i64 yx_102) ∧
 (optN a1 fun q103 =>
 chk ((0 : Int) ≤ yx_102 ∧ yx_102 < (n1 : Int))
 (∃ yf_104 : Nat, w92.cell? (q103.add (yx_102.toNat * 1)) = some (.float .f64 yf_104) ∧
 (Go.E.CallsD Go.Proofs.Try.prog 14 #[.agg #[.int .u8 yx_94, .int .i64 yx_95, .int .i64 yx_96, .float .f64 yf_97, .slice ya_98 yn_98 yc_98, .int .u8 yx_99, .int .i64 yx_100, .int .i64 yx_101], .float .f64 yf_104] w92 fun yv105 u106 =>
 ∃ yx_107 : Int, yv105 = .int .u8 yx_107 ∧
 (onBool (yx_107 == 1)
 (∃ yx_108 : Int, u106.cell? ((na w).add 6) = some (.int .i64 yx_108) ∧
 (nw (u106.alloc (.cells #[.int .i64 yx_108] 3)) fun w109 =>
 rawN Go.Proofs.Try.prog (Builtin.append_ #[24, 24] 24 #[.slice a8 n8 c8, .slice (some (na u106)) 1 1]) w109 fun yv110 u111 =>
 ∃ ya_112 : Option Addr, ∃ yn_112 : Nat, ∃ yc_112 : Nat, yv110 = .slice ya_112 yn_112 yc_112 ∧
 (b26 a1 n1 c1 p2 ya_112 yn_112 yc_112 yx_108 u111)))
 (nw (u106.alloc (.cells #[.int .i64 yx_93] 3)) fun w113 =>
 rawN Go.Proofs.Try.prog (Builtin.append_ #[24, 24] 24 #[.slice a8 n8 c8, .slice (some (na u106)) 1 1]) w113 fun yv114 u115 =>
 ∃ ya_116 : Option Addr, ∃ yn_116 : Nat, ∃ yc_116 : Nat, yv114 = .slice ya_116 yn_116 yc_116 ∧
 (b26 a1 n1 c1 p2 ya_116 yn_116 yc_116 yx_93 u115))))))))))))))))))))))))))))))))))
 (R (.tuple #[.slice a8 n8 c8, .int .i64 0]) w))))
def thicketref07_Way.q2 (R : Value → World → Prop) : Exit → Act → World → Prop := (fin Go.Proofs.Try.prog Go.Proofs.Try.f16 R)
def thicketref07_Way.q4 (R : Value → World → Prop) : Exit → Act → World → Prop := (thicketref07_Way.q2 R)
def thicketref07_Way.q12 (R : Value → World → Prop) : Exit → Act → World → Prop := (thicketref07_Way.q4 R)
def thicketref07_Way.q20 (R : Value → World → Prop) : Exit → Act → World → Prop := (thicketref07_Way.q12 R)
def thicketref07_Way.q22 (R : Value → World → Prop) : Exit → Act → World → Prop := (thicketref07_Way.q20 R)
def thicketref07_Way.q24 (R : Value → World → Prop) : Exit → Act → World → Prop := (thicketref07_Way.q22 R)
def thicketref07_Way.q25 (R : Value → World → Prop) : Exit → Act → World → Prop := Exit.then (startN none (codeN Go.Proofs.Try.prog (sub (codeOf Go.Proofs.Try.f16) [1, 1, 1, 1, 1, 1, 1]) (nsub thicketref07_Way.an [1, 1, 1, 1, 1, 1, 1]) (thicketref07_Way.q24 R))) (thicketref07_Way.q24 R)
def thicketref07_Way.q26 (R : Value → World → Prop) : Exit → Act → World → Prop := Exit.inBlock 0 (thicketref07_Way.q25 R)
def thicketref07_Way.rl26 (R : Value → World → Prop) (k : Nat) (a1 : Option Addr) (n1 : Nat) (c1 : Nat) (p2 : Option Addr) (a8 : Option Addr) (n8 : Nat) (c8 : Nat) (x9 : Int) (w : World) : Prop := loopN [1, 2, 8, 9] (codeN Go.Proofs.Try.prog (sub (codeOf Go.Proofs.Try.f16) [1, 1, 1, 1, 1, 1, 0, 0, 0]) (nsub thicketref07_Way.an [1, 1, 1, 1, 1, 1, 0, 0, 0])) (thicketref07_Way.q26 R) k ⟨#[undef, .slice a1 n1 c1, .pointer p2, undef, undef, undef, undef, undef, .slice a8 n8 c8, .int .i64 x9, undef, undef, undef, undef, undef, undef, undef, undef, undef, undef, undef, undef, undef, undef, undef, undef, undef, undef, undef, undef, undef, undef, undef, undef, undef, undef, undef, undef, undef, undef, undef, undef, undef, undef, undef, undef, undef, undef, undef, undef, undef, undef, undef, undef], []⟩ w
def thicketref07_Way.re26 (R : Value → World → Prop) (a1 : Option Addr) (n1 : Nat) (c1 : Nat) (p2 : Option Addr) (a8 : Option Addr) (n8 : Nat) (c8 : Nat) (x9 : Int) (w : World) : Prop := ∃ k, thicketref07_Way.rl26 R k a1 n1 c1 p2 a8 n8 c8 x9 w
def thicketref07_Way.l26 (R : Value → World → Prop) : Nat → (Option Addr) → Nat → Nat → (Option Addr) → (Option Addr) → Nat → Nat → Int → World → Prop
  | 0, _, _, _, _, _, _, _, _, _ => False
  | k + 1, a1, n1, c1, p2, a8, n8, c8, x9, w => thicketref07_Way.g26 R (thicketref07_Way.l26 R k) a1 n1 c1 p2 a8 n8 c8 x9 w
def thicketref07_Way.e26 (R : Value → World → Prop) (a1 : Option Addr) (n1 : Nat) (c1 : Nat) (p2 : Option Addr) (a8 : Option Addr) (n8 : Nat) (c8 : Nat) (x9 : Int) (w : World) : Prop := ∃ k, thicketref07_Way.l26 R k a1 n1 c1 p2 a8 n8 c8 x9 w
theorem thicketref07_Way.s26 (R : Value → World → Prop) (k : Nat) (a1 : Option Addr) (n1 : Nat) (c1 : Nat) (p2 : Option Addr) (a8 : Option Addr) (n8 : Nat) (c8 : Nat) (x9 : Int) (w : World) : thicketref07_Way.rl26 R (k + 1) a1 n1 c1 p2 a8 n8 c8 x9 w = ∀ _ : Nat → Value, thicketref07_Way.g26 R (thicketref07_Way.rl26 R k) a1 n1 c1 p2 a8 n8 c8 x9 w := by kernel_rfl
theorem thicketref07_Way.lq26 (R : Value → World → Prop) : ∀ k, thicketref07_Way.l26 R k = thicketref07_Way.rl26 R k
  | 0 => by funext a1 n1 c1 p2 a8 n8 c8 x9 w; first | rfl | kernel_rfl
  | k + 1 => by
    funext a1 n1 c1 p2 a8 n8 c8 x9 w
    rw [thicketref07_Way.s26, forall_const]
    unfold thicketref07_Way.l26
    have ih := thicketref07_Way.lq26 R k
    rw [ih]
    all_goals rfl
theorem thicketref07_Way.eq26 (R : Value → World → Prop) : thicketref07_Way.e26 R = thicketref07_Way.re26 R := by
  funext a1 n1 c1 p2 a8 n8 c8 x9 w
  unfold thicketref07_Way.e26 thicketref07_Way.re26
  simp only [thicketref07_Way.lq26 R]
def thicketref07_Way (R : Value → World → Prop) (x0_0 : Int) (a0_1 : Option Addr) (n0_1 : Nat) (c0_1 : Nat) (a1 : Option Addr) (n1 : Nat) (c1 : Nat) (w : World) : Prop := thicketref07_Way.g0 R (thicketref07_Way.e26 R) x0_0 a0_1 n0_1 c0_1 a1 n1 c1 w
theorem thicketref07_Way.root0 (R : Value → World → Prop) (x0_0 : Int) (a0_1 : Option Addr) (n0_1 : Nat) (c0_1 : Nat) (a1 : Option Addr) (n1 : Nat) (c1 : Nat) (w : World) : fnN Go.Proofs.Try.prog Go.Proofs.Try.f16 thicketref07_Way.an #[.agg #[.int .i64 x0_0, .slice a0_1 n0_1 c0_1], .slice a1 n1 c1] w R = thicketref07_Way.g0 R (thicketref07_Way.re26 R) x0_0 a0_1 n0_1 c0_1 a1 n1 c1 w := by kernel_rfl
theorem thicketref07_Way.calls {R : Value → World → Prop} {x0_0 : Int} {a0_1 : Option Addr} {n0_1 : Nat} {c0_1 : Nat} {a1 : Option Addr} {n1 : Nat} {c1 : Nat} {w : World} (h : thicketref07_Way R x0_0 a0_1 n0_1 c0_1 a1 n1 c1 w) : Go.E.CallsD Go.Proofs.Try.prog 16 #[.agg #[.int .i64 x0_0, .slice a0_1 n0_1 c0_1], .slice a1 n1 c1] w R := by
  refine callsD_of (n := thicketref07_Way.an) M_follows M_sizes Go.Proofs.Try.func16 (by rfl) ?_
  rw [thicketref07_Way.root0]
  unfold thicketref07_Way at h
  rw [thicketref07_Way.eq26 R] at h
  exact h
-- thicket/trees.Leaf
def trees_Leaf.an : An := An.nil
def trees_Leaf.g0 (R : Value → World → Prop) (x0_0 : Int) (a0_1 : Option Addr) (n0_1 : Nat) (c0_1 : Nat) (a1 : Option Addr) (n1 : Nat) (c1 : Nat) (w : World) : Prop :=
 nw (w.alloc (.cells #[.int .i64 x0_0, .slice a0_1 n0_1 c0_1] 33)) fun w23 =>
 ∃ yx_24 : Int, w23.cell? ((na w).add 0) = some (.int .i64 yx_24) ∧
 (∃ ya_25 : Option Addr, ∃ yn_25 : Nat, ∃ yc_25 : Nat, w23.cell? ((na w).add 1) = some (.slice ya_25 yn_25 yc_25) ∧
 (Go.E.CallsD Go.Proofs.Try.prog 15 #[.agg #[.int .i64 yx_24, .slice ya_25 yn_25 yc_25], .slice a1 n1 c1] w23 fun yv26 u27 =>
 ∃ ya_28_0 : Option Addr, ∃ yn_28_0 : Nat, ∃ yc_28_0 : Nat, ∃ yx_28_1 : Int, yv26 = .tuple #[.slice ya_28_0 yn_28_0 yc_28_0, .int .i64 yx_28_1] ∧
 (onBool (yx_28_1 != 0)
 (R (.tuple #[.int .i64 0, .int .i64 0, .int .i64 yx_28_1]) u27)
 (∃ yx_29 : Int, u27.cell? ((na w).add 0) = some (.int .i64 yx_29) ∧
 (∃ ya_30 : Option Addr, ∃ yn_30 : Nat, ∃ yc_30 : Nat, u27.cell? ((na w).add 1) = some (.slice ya_30 yn_30 yc_30) ∧
 (Go.E.CallsD Go.Proofs.Try.prog 27 #[.agg #[.int .i64 yx_29, .slice ya_30 yn_30 yc_30]] u27 fun yv31 u32 =>
 ∃ ya_33_0 : Option Addr, ∃ yn_33_0 : Nat, ∃ yc_33_0 : Nat, ∃ yx_33_1 : Int, yv31 = .tuple #[.slice ya_33_0 yn_33_0 yc_33_0, .int .i64 yx_33_1] ∧
 (nv (IntKind.i64.wrap ((yn_28_0 : Int) - 1)) fun t34 =>
 optN ya_28_0 fun q35 =>
 chk ((0 : Int) ≤ t34 ∧ t34 < (yn_28_0 : Int))
 (∃ yx_36 : Int, u32.cell? (q35.add (t34.toNat * 1)) = some (.int .i64 yx_36) ∧
 (∃ yx_37 : Int, (∀ u38 : World, Below u32.heap.size u32 u38 → Go.E.CallsD Go.Proofs.Try.prog 49 #[.slice ya_33_0 yn_33_0 yc_33_0, .int .i64 yx_36] u38 fun yv39 u40 => yv39 = .int .i64 yx_37 ∧ Below u32.heap.size u32 u40) ∧
 (∃ ya_41 : Option Addr, ∃ yn_41 : Nat, ∃ yc_41 : Nat, u32.cell? ((na w).add 1) = some (.slice ya_41 yn_41 yc_41) ∧
 (optN ya_41 fun q42 =>
 chk ((0 : Int) ≤ yx_36 ∧ yx_36 < (yn_41 : Int))
 (∃ yx_43 : Int, u32.cell? ((q42.add (yx_36.toNat * 8)).add 1) = some (.int .i64 yx_43) ∧
 (∀ u44 : World, Below u32.heap.size u32 u44 →
 R (.tuple #[.int .i64 yx_37, .int .i64 yx_43, .int .i64 0]) u44)))))))))))))
def trees_Leaf (R : Value → World → Prop) (x0_0 : Int) (a0_1 : Option Addr) (n0_1 : Nat) (c0_1 : Nat) (a1 : Option Addr) (n1 : Nat) (c1 : Nat) (w : World) : Prop := trees_Leaf.g0 R x0_0 a0_1 n0_1 c0_1 a1 n1 c1 w
theorem trees_Leaf.root0 (R : Value → World → Prop) (x0_0 : Int) (a0_1 : Option Addr) (n0_1 : Nat) (c0_1 : Nat) (a1 : Option Addr) (n1 : Nat) (c1 : Nat) (w : World) : fnN Go.Proofs.Try.prog Go.Proofs.Try.f17 trees_Leaf.an #[.agg #[.int .i64 x0_0, .slice a0_1 n0_1 c0_1], .slice a1 n1 c1] w R = trees_Leaf.g0 R x0_0 a0_1 n0_1 c0_1 a1 n1 c1 w := by kernel_rfl
theorem trees_Leaf.calls {R : Value → World → Prop} {x0_0 : Int} {a0_1 : Option Addr} {n0_1 : Nat} {c0_1 : Nat} {a1 : Option Addr} {n1 : Nat} {c1 : Nat} {w : World} (h : trees_Leaf R x0_0 a0_1 n0_1 c0_1 a1 n1 c1 w) : Go.E.CallsD Go.Proofs.Try.prog 17 #[.agg #[.int .i64 x0_0, .slice a0_1 n0_1 c0_1], .slice a1 n1 c1] w R := by
  refine callsD_of (n := trees_Leaf.an) M_follows M_sizes Go.Proofs.Try.func17 (by rfl) ?_
  rw [trees_Leaf.root0]
  unfold trees_Leaf at h
  exact h
-- thicket/thicketref07.Leaf
def thicketref07_Leaf.an : An := (.mk none .nil (.mk none .nil (.mk none .nil (.mk none .nil (.mk none (.mk none .nil (.mk none (.mk (some [2, 7, 27, 28, 29]) .nil .nil) .nil)) .nil)))))
def thicketref07_Leaf.g0 (R : Value → World → Prop) (e18 : (Option Addr) → (Option Addr) → Nat → Nat → (Option Addr) → Nat → Nat → Int → Int → World → Prop) (x0_0 : Int) (a0_1 : Option Addr) (n0_1 : Nat) (c0_1 : Nat) (a1 : Option Addr) (n1 : Nat) (c1 : Nat) (w : World) : Prop :=
 nw (w.alloc (.cells #[.int .i64 x0_0, .slice a0_1 n0_1 c0_1] 33)) fun w22 =>
 ∃ yx_23 : Int, w22.cell? ((na w).add 0) = some (.int .i64 yx_23) ∧
 (∃ ya_24 : Option Addr, ∃ yn_24 : Nat, ∃ yc_24 : Nat, w22.cell? ((na w).add 1) = some (.slice ya_24 yn_24 yc_24) ∧
 (Go.E.CallsD Go.Proofs.Try.prog 16 #[.agg #[.int .i64 yx_23, .slice ya_24 yn_24 yc_24], .slice a1 n1 c1] w22 fun yv25 u26 =>
 ∃ ya_27_0 : Option Addr, ∃ yn_27_0 : Nat, ∃ yc_27_0 : Nat, ∃ yx_27_1 : Int, yv25 = .tuple #[.slice ya_27_0 yn_27_0 yc_27_0, .int .i64 yx_27_1] ∧
 (onBool (yx_27_1 != 0)
 (R (.tuple #[.int .i64 0, .int .i64 0, .int .i64 yx_27_1]) u26)
 (∃ yx_28 : Int, u26.cell? ((na w).add 0) = some (.int .i64 yx_28) ∧
 (∃ ya_29 : Option Addr, ∃ yn_29 : Nat, ∃ yc_29 : Nat, u26.cell? ((na w).add 1) = some (.slice ya_29 yn_29 yc_29) ∧
 (Go.E.CallsD Go.Proofs.Try.prog 30 #[.agg #[.int .i64 yx_28, .slice ya_29 yn_29 yc_29]] u26 fun yv30 u31 =>
 ∃ ya_32_0 : Option Addr, ∃ yn_32_0 : Nat, ∃ yc_32_0 : Nat, ∃ yx_32_1 : Int, yv30 = .tuple #[.slice ya_32_0 yn_32_0 yc_32_0, .int .i64 yx_32_1] ∧
 (e18 (some (na w)) ya_27_0 yn_27_0 yc_27_0 ya_32_0 yn_32_0 yc_32_0 (yn_32_0 : Int) 0 u31)))))))
def thicketref07_Leaf.g18 (R : Value → World → Prop) (b18 : (Option Addr) → (Option Addr) → Nat → Nat → (Option Addr) → Nat → Nat → Int → Int → World → Prop) (p2 : Option Addr) (a7 : Option Addr) (n7 : Nat) (c7 : Nat) (a27 : Option Addr) (n27 : Nat) (c27 : Nat) (x28 : Int) (x29 : Int) (w : World) : Prop :=
 onBool (decide (x29 < x28))
 (optN a27 fun q33 =>
 chk ((0 : Int) ≤ x29 ∧ x29 < (n27 : Int))
 (∃ yx_34 : Int, w.cell? (q33.add (x29.toNat * 1)) = some (.int .i64 yx_34) ∧
 (nv (IntKind.i64.wrap ((n7 : Int) - 1)) fun t35 =>
 optN a7 fun q36 =>
 chk ((0 : Int) ≤ t35 ∧ t35 < (n7 : Int))
 (∃ yx_37 : Int, w.cell? (q36.add (t35.toNat * 1)) = some (.int .i64 yx_37) ∧
 (onBool (yx_34 == yx_37)
 (optN p2 fun q38 =>
 ∃ ya_39 : Option Addr, ∃ yn_39 : Nat, ∃ yc_39 : Nat, w.cell? (q38.add 1) = some (.slice ya_39 yn_39 yc_39) ∧
 (optN ya_39 fun q40 =>
 chk ((0 : Int) ≤ yx_34 ∧ yx_34 < (yn_39 : Int))
 (∃ yx_41 : Int, w.cell? ((q40.add (yx_34.toNat * 8)).add 1) = some (.int .i64 yx_41) ∧
 (R (.tuple #[.int .i64 x29, .int .i64 yx_41, .int .i64 0]) w))))
 (nv (IntKind.i64.wrap (x29 + 1)) fun t42 =>
 b18 p2 a7 n7 c7 a27 n27 c27 x28 t42 w))))))
 (R (.tuple #[.int .i64 0, .int .i64 0, .int .i64 70]) w)
def thicketref07_Leaf.q2 (R : Value → World → Prop) : Exit → Act → World → Prop := (fin Go.Proofs.Try.prog Go.Proofs.Try.f18 R)
def thicketref07_Leaf.q4 (R : Value → World → Prop) : Exit → Act → World → Prop := (thicketref07_Leaf.q2 R)
def thicketref07_Leaf.q12 (R : Value → World → Prop) : Exit → Act → World → Prop := (thicketref07_Leaf.q4 R)
def thicketref07_Leaf.q14 (R : Value → World → Prop) : Exit → Act → World → Prop := (thicketref07_Leaf.q12 R)
def thicketref07_Leaf.q15 (R : Value → World → Prop) : Exit → Act → World → Prop := Exit.then (startN none (codeN Go.Proofs.Try.prog (sub (codeOf Go.Proofs.Try.f18) [1, 1, 1, 1, 1]) (nsub thicketref07_Leaf.an [1, 1, 1, 1, 1]) (thicketref07_Leaf.q14 R))) (thicketref07_Leaf.q14 R)
def thicketref07_Leaf.q17 (R : Value → World → Prop) : Exit → Act → World → Prop := (thicketref07_Leaf.q15 R)
def thicketref07_Leaf.q18 (R : Value → World → Prop) : Exit → Act → World → Prop := Exit.inBlock 0 (thicketref07_Leaf.q17 R)
def thicketref07_Leaf.rl18 (R : Value → World → Prop) (k : Nat) (p2 : Option Addr) (a7 : Option Addr) (n7 : Nat) (c7 : Nat) (a27 : Option Addr) (n27 : Nat) (c27 : Nat) (x28 : Int) (x29 : Int) (w : World) : Prop := loopN [2, 7, 27, 28, 29] (codeN Go.Proofs.Try.prog (sub (codeOf Go.Proofs.Try.f18) [1, 1, 1, 1, 0, 1, 0, 0]) (nsub thicketref07_Leaf.an [1, 1, 1, 1, 0, 1, 0, 0])) (thicketref07_Leaf.q18 R) k ⟨#[undef, undef, .pointer p2, undef, undef, undef, undef, .slice a7 n7 c7, undef, undef, undef, undef, undef, undef, undef, undef, undef, undef, undef, undef, undef, undef, undef, undef, undef, undef, undef, .slice a27 n27 c27, .int .i64 x28, .int .i64 x29, undef, undef, undef, undef, undef, undef, undef, undef, undef, undef, undef, undef, undef, undef, undef, undef, undef, undef, undef, undef], []⟩ w
def thicketref07_Leaf.re18 (R : Value → World → Prop) (p2 : Option Addr) (a7 : Option Addr) (n7 : Nat) (c7 : Nat) (a27 : Option Addr) (n27 : Nat) (c27 : Nat) (x28 : Int) (x29 : Int) (w : World) : Prop := ∃ k, thicketref07_Leaf.rl18 R k p2 a7 n7 c7 a27 n27 c27 x28 x29 w
def thicketref07_Leaf.l18 (R : Value → World → Prop) : Nat → (Option Addr) → (Option Addr) → Nat → Nat → (Option Addr) → Nat → Nat → Int → Int → World → Prop
  | 0, _, _, _, _, _, _, _, _, _, _ => False
  | k + 1, p2, a7, n7, c7, a27, n27, c27, x28, x29, w => thicketref07_Leaf.g18 R (thicketref07_Leaf.l18 R k) p2 a7 n7 c7 a27 n27 c27 x28 x29 w
def thicketref07_Leaf.e18 (R : Value → World → Prop) (p2 : Option Addr) (a7 : Option Addr) (n7 : Nat) (c7 : Nat) (a27 : Option Addr) (n27 : Nat) (c27 : Nat) (x28 : Int) (x29 : Int) (w : World) : Prop := ∃ k, thicketref07_Leaf.l18 R k p2 a7 n7 c7 a27 n27 c27 x28 x29 w
theorem thicketref07_Leaf.s18 (R : Value → World → Prop) (k : Nat) (p2 : Option Addr) (a7 : Option Addr) (n7 : Nat) (c7 : Nat) (a27 : Option Addr) (n27 : Nat) (c27 : Nat) (x28 : Int) (x29 : Int) (w : World) : thicketref07_Leaf.rl18 R (k + 1) p2 a7 n7 c7 a27 n27 c27 x28 x29 w = ∀ _ : Nat → Value, thicketref07_Leaf.g18 R (thicketref07_Leaf.rl18 R k) p2 a7 n7 c7 a27 n27 c27 x28 x29 w := by kernel_rfl
theorem thicketref07_Leaf.lq18 (R : Value → World → Prop) : ∀ k, thicketref07_Leaf.l18 R k = thicketref07_Leaf.rl18 R k
  | 0 => by funext p2 a7 n7 c7 a27 n27 c27 x28 x29 w; first | rfl | kernel_rfl
  | k + 1 => by
    funext p2 a7 n7 c7 a27 n27 c27 x28 x29 w
    rw [thicketref07_Leaf.s18, forall_const]
    unfold thicketref07_Leaf.l18
    have ih := thicketref07_Leaf.lq18 R k
    rw [ih]
    all_goals rfl
theorem thicketref07_Leaf.eq18 (R : Value → World → Prop) : thicketref07_Leaf.e18 R = thicketref07_Leaf.re18 R := by
  funext p2 a7 n7 c7 a27 n27 c27 x28 x29 w
  unfold thicketref07_Leaf.e18 thicketref07_Leaf.re18
  simp only [thicketref07_Leaf.lq18 R]
def thicketref07_Leaf (R : Value → World → Prop) (x0_0 : Int) (a0_1 : Option Addr) (n0_1 : Nat) (c0_1 : Nat) (a1 : Option Addr) (n1 : Nat) (c1 : Nat) (w : World) : Prop := thicketref07_Leaf.g0 R (thicketref07_Leaf.e18 R) x0_0 a0_1 n0_1 c0_1 a1 n1 c1 w
theorem thicketref07_Leaf.root0 (R : Value → World → Prop) (x0_0 : Int) (a0_1 : Option Addr) (n0_1 : Nat) (c0_1 : Nat) (a1 : Option Addr) (n1 : Nat) (c1 : Nat) (w : World) : fnN Go.Proofs.Try.prog Go.Proofs.Try.f18 thicketref07_Leaf.an #[.agg #[.int .i64 x0_0, .slice a0_1 n0_1 c0_1], .slice a1 n1 c1] w R = thicketref07_Leaf.g0 R (thicketref07_Leaf.re18 R) x0_0 a0_1 n0_1 c0_1 a1 n1 c1 w := by kernel_rfl
theorem thicketref07_Leaf.calls {R : Value → World → Prop} {x0_0 : Int} {a0_1 : Option Addr} {n0_1 : Nat} {c0_1 : Nat} {a1 : Option Addr} {n1 : Nat} {c1 : Nat} {w : World} (h : thicketref07_Leaf R x0_0 a0_1 n0_1 c0_1 a1 n1 c1 w) : Go.E.CallsD Go.Proofs.Try.prog 18 #[.agg #[.int .i64 x0_0, .slice a0_1 n0_1 c0_1], .slice a1 n1 c1] w R := by
  refine callsD_of (n := thicketref07_Leaf.an) M_follows M_sizes Go.Proofs.Try.func18 (by rfl) ?_
  rw [thicketref07_Leaf.root0]
  unfold thicketref07_Leaf at h
  rw [thicketref07_Leaf.eq18 R] at h
  exact h
end Go.Mir
