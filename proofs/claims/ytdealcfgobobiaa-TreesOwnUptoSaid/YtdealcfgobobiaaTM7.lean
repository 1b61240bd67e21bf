/- Part of a proof of laws of the seat Ytdealcfgobobiaa: functions' weakest preconditions, each checked by the kernel, contracts out of them, plain lemmas; no conditions. -/
import Derived.Test.YtdealcfgobobiaaTM0
set_option linter.unusedVariables false
set_option linter.unusedSimpArgs false
set_option linter.unusedVariables false
set_option maxRecDepth 100000
namespace Go.Mir
open Go Go.E Go.RowKit
-- slices.Clone[[]thicket/api.Node,thicket/api.Node]
def Clone_node.an : An := An.nil
def Clone_node.g0 (R : Value → World → Prop) (a0 : Option Addr) (n0 : Nat) (c0 : Nat) (w : World) : Prop :=
 onBool a0.isNone
 (R (.slice none 0 0) w)
 (nw (w.alloc (.cells #[] 27)) fun w5 =>
 rawN Go.Proofs.Try.prog (Builtin.append_ #[31, 31] 31 #[.slice (some (na w)) 0 0, .slice a0 n0 c0]) w5 fun yv6 u7 =>
 ∃ ya_8 : Option Addr, ∃ yn_8 : Nat, ∃ yc_8 : Nat, yv6 = .slice ya_8 yn_8 yc_8 ∧
 (R (.slice ya_8 yn_8 yc_8) u7))
def Clone_node (R : Value → World → Prop) (a0 : Option Addr) (n0 : Nat) (c0 : Nat) (w : World) : Prop := Clone_node.g0 R a0 n0 c0 w
theorem Clone_node.root0 (R : Value → World → Prop) (a0 : Option Addr) (n0 : Nat) (c0 : Nat) (w : World) : fnN Go.Proofs.Try.prog Go.Proofs.Try.f59 Clone_node.an #[.slice a0 n0 c0] w R = Clone_node.g0 R a0 n0 c0 w := by kernel_rfl
theorem Clone_node.calls {R : Value → World → Prop} {a0 : Option Addr} {n0 : Nat} {c0 : Nat} {w : World} (h : Clone_node R a0 n0 c0 w) : Go.E.CallsD Go.Proofs.Try.prog 59 #[.slice a0 n0 c0] w R := by
  refine callsD_of (n := Clone_node.an) M_follows M_sizes Go.Proofs.Try.func59 (by rfl) ?_
  rw [Clone_node.root0]
  unfold Clone_node at h
  exact h
-- slices.Clone[[]int,int]
def slices_Clone_int.an : An := An.nil
def slices_Clone_int.g0 (R : Value → World → Prop) (a0 : Option Addr) (n0 : Nat) (c0 : Nat) (w : World) : Prop :=
 onBool a0.isNone
 (R (.slice none 0 0) w)
 (nw (w.alloc (.cells #[] 3)) fun w5 =>
 rawN Go.Proofs.Try.prog (Builtin.append_ #[24, 24] 24 #[.slice (some (na w)) 0 0, .slice a0 n0 c0]) w5 fun yv6 u7 =>
 ∃ ya_8 : Option Addr, ∃ yn_8 : Nat, ∃ yc_8 : Nat, yv6 = .slice ya_8 yn_8 yc_8 ∧
 (R (.slice ya_8 yn_8 yc_8) u7))
def slices_Clone_int (R : Value → World → Prop) (a0 : Option Addr) (n0 : Nat) (c0 : Nat) (w : World) : Prop := slices_Clone_int.g0 R a0 n0 c0 w
theorem slices_Clone_int.root0 (R : Value → World → Prop) (a0 : Option Addr) (n0 : Nat) (c0 : Nat) (w : World) : fnN Go.Proofs.Try.prog Go.Proofs.Try.f60 slices_Clone_int.an #[.slice a0 n0 c0] w R = slices_Clone_int.g0 R a0 n0 c0 w := by kernel_rfl
theorem slices_Clone_int.calls {R : Value → World → Prop} {a0 : Option Addr} {n0 : Nat} {c0 : Nat} {w : World} (h : slices_Clone_int R a0 n0 c0 w) : Go.E.CallsD Go.Proofs.Try.prog 60 #[.slice a0 n0 c0] w R := by
  refine callsD_of (n := slices_Clone_int.an) M_follows M_sizes Go.Proofs.Try.func60 (by rfl) ?_
  rw [slices_Clone_int.root0]
  unfold slices_Clone_int at h
  exact h
-- slices.EqualFunc[[]thicket/api.Node,[]thicket/api.Node,thicket/api.Node,thicket/api.Node]
def Equal_node.an : An := (.mk none .nil (.mk none .nil (.mk none (.mk none .nil (.mk none (.mk (some [1, 2, 15, 16, 17]) .nil .nil) .nil)) .nil)))
def Equal_node.g0 (R : Value → World → Prop) (e14 : (Option Addr) → Nat → Nat → (Option Addr) → Nat → Nat → Int → Int → World → Prop) (a0 : Option Addr) (n0 : Nat) (c0 : Nat) (a1 : Option Addr) (n1 : Nat) (c1 : Nat) (w : World) : Prop :=
 onBool ((n0 : Int) != (n1 : Int))
 (R (.bool false) w)
 (e14 a1 n1 c1 a0 n0 c0 (n0 : Int) 0 w)
def Equal_node.g14 (R : Value → World → Prop) (b14 : (Option Addr) → Nat → Nat → (Option Addr) → Nat → Nat → Int → Int → World → Prop) (a1 : Option Addr) (n1 : Nat) (c1 : Nat) (a15 : Option Addr) (n15 : Nat) (c15 : Nat) (x16 : Int) (x17 : Int) (w : World) : Prop :=
 onBool (decide (x17 < x16))
 (optN a15 fun q57 =>
 chk ((0 : Int) ≤ x17 ∧ x17 < (n15 : Int))
 (∃ yx_58 : Int, w.cell? ((q57.add (x17.toNat * 8)).add 0) = some (.int .u8 yx_58) ∧
 (∃ yx_59 : Int, w.cell? ((q57.add (x17.toNat * 8)).add 1) = some (.int .i64 yx_59) ∧
 (∃ yx_60 : Int, w.cell? ((q57.add (x17.toNat * 8)).add 2) = some (.int .i64 yx_60) ∧
 (∃ yf_61 : Nat, w.cell? ((q57.add (x17.toNat * 8)).add 3) = some (.float .f64 yf_61) ∧
 (∃ ya_62 : Option Addr, ∃ yn_62 : Nat, ∃ yc_62 : Nat, w.cell? ((q57.add (x17.toNat * 8)).add 4) = some (.slice ya_62 yn_62 yc_62) ∧
 (∃ yx_63 : Int, w.cell? ((q57.add (x17.toNat * 8)).add 5) = some (.int .u8 yx_63) ∧
 (∃ yx_64 : Int, w.cell? ((q57.add (x17.toNat * 8)).add 6) = some (.int .i64 yx_64) ∧
 (∃ yx_65 : Int, w.cell? ((q57.add (x17.toNat * 8)).add 7) = some (.int .i64 yx_65) ∧
 (nw (w.alloc (.cells #[.int .u8 0, .int .i64 0, .int .i64 0, .float .f64 0, .slice none 0 0, .int .u8 0, .int .i64 0, .int .i64 0] 27)) fun w66 =>
 okSt w66 ((na w).add 0) ∧
 (nw (w66.setCell ((na w).add 0) (.int .u8 yx_58)) fun w67 =>
 okSt w67 ((na w).add 1) ∧
 (nw (w67.setCell ((na w).add 1) (.int .i64 yx_59)) fun w68 =>
 okSt w68 ((na w).add 2) ∧
 (nw (w68.setCell ((na w).add 2) (.int .i64 yx_60)) fun w69 =>
 okSt w69 ((na w).add 3) ∧
 (nw (w69.setCell ((na w).add 3) (.float .f64 yf_61)) fun w70 =>
 okSt w70 ((na w).add 4) ∧
 (nw (w70.setCell ((na w).add 4) (.slice ya_62 yn_62 yc_62)) fun w71 =>
 okSt w71 ((na w).add 5) ∧
 (nw (w71.setCell ((na w).add 5) (.int .u8 yx_63)) fun w72 =>
 okSt w72 ((na w).add 6) ∧
 (nw (w72.setCell ((na w).add 6) (.int .i64 yx_64)) fun w73 =>
 okSt w73 ((na w).add 7) ∧
 (nw (w73.setCell ((na w).add 7) (.int .i64 yx_65)) fun w74 =>
 optN a1 fun q75 =>
 chk ((0 : Int) ≤ x17 ∧ x17 < (n1 : Int))
 (∃ yx_76 : Int, w74.cell? ((q75.add (x17.toNat * 8)).add 0) = some (.int .u8 yx_76) ∧
 (∃ yx_77 : Int, w74.cell? ((q75.add (x17.toNat * 8)).add 1) = some (.int .i64 yx_77) ∧
 (∃ yx_78 : Int, w74.cell? ((q75.add (x17.toNat * 8)).add 2) = some (.int .i64 yx_78) ∧
 (∃ yf_79 : Nat, w74.cell? ((q75.add (x17.toNat * 8)).add 3) = some (.float .f64 yf_79) ∧
 (∃ ya_80 : Option Addr, ∃ yn_80 : Nat, ∃ yc_80 : Nat, w74.cell? ((q75.add (x17.toNat * 8)).add 4) = some (.slice ya_80 yn_80 yc_80) ∧
 (∃ yx_81 : Int, w74.cell? ((q75.add (x17.toNat * 8)).add 5) = some (.int .u8 yx_81) ∧
 (∃ yx_82 : Int, w74.cell? ((q75.add (x17.toNat * 8)).add 6) = some (.int .i64 yx_82) ∧
 (∃ yx_83 : Int, w74.cell? ((q75.add (x17.toNat * 8)).add 7) = some (.int .i64 yx_83) ∧
 (nw (w74.alloc (.cells #[.int .u8 0, .int .i64 0, .int .i64 0, .float .f64 0, .slice none 0 0, .int .u8 0, .int .i64 0, .int .i64 0] 27)) fun w84 =>
 okSt w84 ((na w74).add 0) ∧
 (nw (w84.setCell ((na w74).add 0) (.int .u8 yx_76)) fun w85 =>
 okSt w85 ((na w74).add 1) ∧
 (nw (w85.setCell ((na w74).add 1) (.int .i64 yx_77)) fun w86 =>
 okSt w86 ((na w74).add 2) ∧
 (nw (w86.setCell ((na w74).add 2) (.int .i64 yx_78)) fun w87 =>
 okSt w87 ((na w74).add 3) ∧
 (nw (w87.setCell ((na w74).add 3) (.float .f64 yf_79)) fun w88 =>
 okSt w88 ((na w74).add 4) ∧
 (nw (w88.setCell ((na w74).add 4) (.slice ya_80 yn_80 yc_80)) fun w89 =>
 okSt w89 ((na w74).add 5) ∧
 (nw (w89.setCell ((na w74).add 5) (.int .u8 yx_81)) fun w90 =>
 okSt w90 ((na w74).add 6) ∧
 (nw (w90.setCell ((na w74).add 6) (.int .i64 yx_82)) fun w91 =>
 okSt w91 ((na w74).add 7) ∧
 (nw (w91.setCell ((na w74).add 7) (.int .i64 yx_83)) fun w92 =>
 ∃ yx_93 : Int, w92.cell? ((na w).add 0) = some (.int .u8 yx_93) ∧
 (∃ yx_94 : Int, w92.cell? ((na w).add 1) = some (.int .i64 yx_94) ∧
 (∃ yx_95 : Int, w92.cell? ((na w).add 2) = some (.int .i64 yx_95) ∧
 (∃ yf_96 : Nat, w92.cell? ((na w).add 3) = some (.float .f64 yf_96) ∧
 (∃ ya_97 : Option Addr, ∃ yn_97 : Nat, ∃ yc_97 : Nat, w92.cell? ((na w).add 4) = some (.slice ya_97 yn_97 yc_97) ∧
 (∃ yx_98 : Int, w92.cell? ((na w).add 5) = some (.int .u8 yx_98) ∧
 (∃ yx_99 : Int, w92.cell? ((na w).add 6) = some (.int .i64 yx_99) ∧
 (∃ yx_100 : Int, w92.cell? ((na w).add 7) = some (.int .i64 yx_100) ∧
 (∃ yx_101 : Int, w92.cell? ((na w74).add 0) = some (.int .u8 yx_101) ∧
 (∃ yx_102 : Int, w92.cell? ((na w74).add 1) = some (.int .i64 yx_102) ∧
 (∃ yx_103 : Int, w92.cell? ((na w74).add 2) = some (.int .i64 yx_103) ∧
 (∃ yf_104 : Nat, w92.cell? ((na w74).add 3) = some (.float .f64 yf_104) ∧
 (∃ ya_105 : Option Addr, ∃ yn_105 : Nat, ∃ yc_105 : Nat, w92.cell? ((na w74).add 4) = some (.slice ya_105 yn_105 yc_105) ∧
 (∃ yx_106 : Int, w92.cell? ((na w74).add 5) = some (.int .u8 yx_106) ∧
 (∃ yx_107 : Int, w92.cell? ((na w74).add 6) = some (.int .i64 yx_107) ∧
 (∃ yx_108 : Int, w92.cell? ((na w74).add 7) = some (.int .i64 yx_108) ∧
 (Go.E.CallsD Go.Proofs.Try.prog 62 #[.agg #[.int .u8 yx_93, .int .i64 yx_94, .int .i64 yx_95, .float .f64 yf_96, .slice ya_97 yn_97 yc_97, .int .u8 yx_98, .int .i64 yx_99, .int .i64 yx_100], .agg #[.int .u8 yx_101, .int .i64 yx_102, .int .i64 yx_103, .float .f64 yf_104, .slice ya_105 yn_105 yc_105, .int .u8 yx_106, .int .i64 yx_107, .int .i64 yx_108]] w92 fun yv109 u110 =>
 ∃ yb_111 : Bool, yv109 = .bool yb_111 ∧
 (onBool (!yb_111)
 (R (.bool false) u110)
 (nv (IntKind.i64.wrap (x17 + 1)) fun t112 =>
 b14 a1 n1 c1 a15 n15 c15 x16 t112 u110)))))))))))))))))))))))))))))))))))))))))))))))))))))
 (R (.bool true) w)
def Equal_node.q2 (R : Value → World → Prop) : Exit → Act → World → Prop := (fin Go.Proofs.Try.prog Go.Proofs.Try.f61 R)
def Equal_node.q10 (R : Value → World → Prop) : Exit → Act → World → Prop := (Equal_node.q2 R)
def Equal_node.q11 (R : Value → World → Prop) : Exit → Act → World → Prop := Exit.then (startN none (codeN Go.Proofs.Try.prog (sub (codeOf Go.Proofs.Try.f61) [1, 1, 1]) (nsub Equal_node.an [1, 1, 1]) (Equal_node.q10 R))) (Equal_node.q10 R)
def Equal_node.q13 (R : Value → World → Prop) : Exit → Act → World → Prop := (Equal_node.q11 R)
def Equal_node.q14 (R : Value → World → Prop) : Exit → Act → World → Prop := Exit.inBlock 0 (Equal_node.q13 R)
def Equal_node.rl14 (R : Value → World → Prop) (k : Nat) (a1 : Option Addr) (n1 : Nat) (c1 : Nat) (a15 : Option Addr) (n15 : Nat) (c15 : Nat) (x16 : Int) (x17 : Int) (w : World) : Prop := loopN [1, 2, 15, 16, 17] (codeN Go.Proofs.Try.prog (sub (codeOf Go.Proofs.Try.f61) [1, 1, 0, 1, 0, 0]) (nsub Equal_node.an [1, 1, 0, 1, 0, 0])) (Equal_node.q14 R) k ⟨#[undef, .slice a1 n1 c1, .func (.func 62) #[] #[], undef, undef, undef, undef, undef, undef, undef, undef, undef, undef, undef, undef, .slice a15 n15 c15, .int .i64 x16, .int .i64 x17, undef, undef, undef, undef, undef, undef, undef, undef, undef, undef, undef, undef, undef, undef], []⟩ w
def Equal_node.re14 (R : Value → World → Prop) (a1 : Option Addr) (n1 : Nat) (c1 : Nat) (a15 : Option Addr) (n15 : Nat) (c15 : Nat) (x16 : Int) (x17 : Int) (w : World) : Prop := ∃ k, Equal_node.rl14 R k a1 n1 c1 a15 n15 c15 x16 x17 w
def Equal_node.l14 (R : Value → World → Prop) : Nat → (Option Addr) → Nat → Nat → (Option Addr) → Nat → Nat → Int → Int → World → Prop
  | 0, _, _, _, _, _, _, _, _, _ => False
  | k + 1, a1, n1, c1, a15, n15, c15, x16, x17, w => Equal_node.g14 R (Equal_node.l14 R k) a1 n1 c1 a15 n15 c15 x16 x17 w
def Equal_node.e14 (R : Value → World → Prop) (a1 : Option Addr) (n1 : Nat) (c1 : Nat) (a15 : Option Addr) (n15 : Nat) (c15 : Nat) (x16 : Int) (x17 : Int) (w : World) : Prop := ∃ k, Equal_node.l14 R k a1 n1 c1 a15 n15 c15 x16 x17 w
theorem Equal_node.s14 (R : Value → World → Prop) (k : Nat) (a1 : Option Addr) (n1 : Nat) (c1 : Nat) (a15 : Option Addr) (n15 : Nat) (c15 : Nat) (x16 : Int) (x17 : Int) (w : World) : Equal_node.rl14 R (k + 1) a1 n1 c1 a15 n15 c15 x16 x17 w = ∀ _ : Nat → Value, Equal_node.g14 R (Equal_node.rl14 R k) a1 n1 c1 a15 n15 c15 x16 x17 w := by kernel_rfl
theorem Equal_node.lq14 (R : Value → World → Prop) : ∀ k, Equal_node.l14 R k = Equal_node.rl14 R k
  | 0 => by funext a1 n1 c1 a15 n15 c15 x16 x17 w; first | rfl | kernel_rfl
  | k + 1 => by
    funext a1 n1 c1 a15 n15 c15 x16 x17 w
    rw [Equal_node.s14, forall_const]
    unfold Equal_node.l14
    have ih := Equal_node.lq14 R k
    rw [ih]
    all_goals rfl
theorem Equal_node.eq14 (R : Value → World → Prop) : Equal_node.e14 R = Equal_node.re14 R := by
  funext a1 n1 c1 a15 n15 c15 x16 x17 w
  unfold Equal_node.e14 Equal_node.re14
  simp only [Equal_node.lq14 R]
def Equal_node (R : Value → World → Prop) (a0 : Option Addr) (n0 : Nat) (c0 : Nat) (a1 : Option Addr) (n1 : Nat) (c1 : Nat) (w : World) : Prop := Equal_node.g0 R (Equal_node.e14 R) a0 n0 c0 a1 n1 c1 w
theorem Equal_node.root0 (R : Value → World → Prop) (a0 : Option Addr) (n0 : Nat) (c0 : Nat) (a1 : Option Addr) (n1 : Nat) (c1 : Nat) (w : World) : fnN Go.Proofs.Try.prog Go.Proofs.Try.f61 Equal_node.an #[.slice a0 n0 c0, .slice a1 n1 c1, .func (.func 62) #[] #[]] w R = Equal_node.g0 R (Equal_node.re14 R) a0 n0 c0 a1 n1 c1 w := by kernel_rfl
theorem Equal_node.calls {R : Value → World → Prop} {a0 : Option Addr} {n0 : Nat} {c0 : Nat} {a1 : Option Addr} {n1 : Nat} {c1 : Nat} {w : World} (h : Equal_node R a0 n0 c0 a1 n1 c1 w) : Go.E.CallsD Go.Proofs.Try.prog 61 #[.slice a0 n0 c0, .slice a1 n1 c1, .func (.func 62) #[] #[]] w R := by
  refine callsD_of (n := Equal_node.an) M_follows M_sizes Go.Proofs.Try.func61 (by rfl) ?_
  rw [Equal_node.root0]
  unfold Equal_node at h
  rw [Equal_node.eq14 R] at h
  exact h
-- thicket/trees.Alike$1
def trees_Alike_1.an : An := An.nil
def trees_Alike_1.g0 (R : Value → World → Prop) (x0_0 : Int) (x0_1 : Int) (x0_2 : Int) (f0_3 : Nat) (a0_4 : Option Addr) (n0_4 : Nat) (c0_4 : Nat) (x0_5 : Int) (x0_6 : Int) (x0_7 : Int) (x1_0 : Int) (x1_1 : Int) (x1_2 : Int) (f1_3 : Nat) (a1_4 : Option Addr) (n1_4 : Nat) (c1_4 : Nat) (x1_5 : Int) (x1_6 : Int) (x1_7 : Int) (w : World) : Prop :=
 nw (w.alloc (.cells #[.int .u8 x0_0, .int .i64 x0_1, .int .i64 x0_2, .float .f64 f0_3, .slice a0_4 n0_4 c0_4, .int .u8 x0_5, .int .i64 x0_6, .int .i64 x0_7] 27)) fun w33 =>
 nw (w33.alloc (.cells #[.int .u8 x1_0, .int .i64 x1_1, .int .i64 x1_2, .float .f64 f1_3, .slice a1_4 n1_4 c1_4, .int .u8 x1_5, .int .i64 x1_6, .int .i64 x1_7] 27)) fun w34 =>
 ∃ yx_35 : Int, w34.cell? ((na w).add 0) = some (.int .u8 yx_35) ∧
 (∃ yx_36 : Int, w34.cell? ((na w33).add 0) = some (.int .u8 yx_36) ∧
 (onBool (yx_35 == yx_36)
 (∃ yx_37 : Int, w34.cell? ((na w).add 1) = some (.int .i64 yx_37) ∧
 (∃ yx_38 : Int, w34.cell? ((na w33).add 1) = some (.int .i64 yx_38) ∧
 (onBool (yx_37 == yx_38)
 (∃ yx_39 : Int, w34.cell? ((na w).add 2) = some (.int .i64 yx_39) ∧
 (∃ yx_40 : Int, w34.cell? ((na w33).add 2) = some (.int .i64 yx_40) ∧
 (onBool (yx_39 == yx_40)
 (∃ yf_41 : Nat, w34.cell? ((na w).add 3) = some (.float .f64 yf_41) ∧
 (∃ yx_42 : Int, RunV Go.Proofs.Try.prog (callFunc 63 #[.float .f64 yf_41]) w34 (.int .u64 yx_42) ∧
 (∃ yf_43 : Nat, w34.cell? ((na w33).add 3) = some (.float .f64 yf_43) ∧
 (∃ yx_44 : Int, RunV Go.Proofs.Try.prog (callFunc 63 #[.float .f64 yf_43]) w34 (.int .u64 yx_44) ∧
 (onBool (yx_42 == yx_44)
 (∃ ya_45 : Option Addr, ∃ yn_45 : Nat, ∃ yc_45 : Nat, w34.cell? ((na w).add 4) = some (.slice ya_45 yn_45 yc_45) ∧
 (∃ ya_46 : Option Addr, ∃ yn_46 : Nat, ∃ yc_46 : Nat, w34.cell? ((na w33).add 4) = some (.slice ya_46 yn_46 yc_46) ∧
 (∃ yb_47 : Bool, (∀ u48 : World, Below w34.heap.size w34 u48 → Go.E.CallsD Go.Proofs.Try.prog 64 #[.slice ya_45 yn_45 yc_45, .slice ya_46 yn_46 yc_46] u48 fun yv49 u50 => yv49 = .bool yb_47 ∧ Below w34.heap.size w34 u50) ∧
 (onBool yb_47
 (∃ yx_51 : Int, w34.cell? ((na w).add 5) = some (.int .u8 yx_51) ∧
 (∃ yx_52 : Int, w34.cell? ((na w33).add 5) = some (.int .u8 yx_52) ∧
 (onBool (yx_51 == yx_52)
 (∃ yx_53 : Int, w34.cell? ((na w).add 6) = some (.int .i64 yx_53) ∧
 (∃ yx_54 : Int, w34.cell? ((na w33).add 6) = some (.int .i64 yx_54) ∧
 (onBool (yx_53 == yx_54)
 (∃ yx_55 : Int, w34.cell? ((na w).add 7) = some (.int .i64 yx_55) ∧
 (∃ yx_56 : Int, w34.cell? ((na w33).add 7) = some (.int .i64 yx_56) ∧
 (∀ u57 : World, Below w34.heap.size w34 u57 →
 R (.bool (yx_55 == yx_56)) u57)))
 (∀ u58 : World, Below w34.heap.size w34 u58 →
 R (.bool false) u58))))
 (∀ u59 : World, Below w34.heap.size w34 u59 →
 R (.bool false) u59))))
 (∀ u60 : World, Below w34.heap.size w34 u60 →
 R (.bool false) u60)))))
 (∀ u61 : World, Below w34.heap.size w34 u61 →
 R (.bool false) u61))))))
 (∀ u62 : World, Below w34.heap.size w34 u62 →
 R (.bool false) u62))))
 (∀ u63 : World, Below w34.heap.size w34 u63 →
 R (.bool false) u63))))
 (∀ u64 : World, Below w34.heap.size w34 u64 →
 R (.bool false) u64)))
def trees_Alike_1 (R : Value → World → Prop) (x0_0 : Int) (x0_1 : Int) (x0_2 : Int) (f0_3 : Nat) (a0_4 : Option Addr) (n0_4 : Nat) (c0_4 : Nat) (x0_5 : Int) (x0_6 : Int) (x0_7 : Int) (x1_0 : Int) (x1_1 : Int) (x1_2 : Int) (f1_3 : Nat) (a1_4 : Option Addr) (n1_4 : Nat) (c1_4 : Nat) (x1_5 : Int) (x1_6 : Int) (x1_7 : Int) (w : World) : Prop := trees_Alike_1.g0 R x0_0 x0_1 x0_2 f0_3 a0_4 n0_4 c0_4 x0_5 x0_6 x0_7 x1_0 x1_1 x1_2 f1_3 a1_4 n1_4 c1_4 x1_5 x1_6 x1_7 w
theorem trees_Alike_1.root0 (R : Value → World → Prop) (x0_0 : Int) (x0_1 : Int) (x0_2 : Int) (f0_3 : Nat) (a0_4 : Option Addr) (n0_4 : Nat) (c0_4 : Nat) (x0_5 : Int) (x0_6 : Int) (x0_7 : Int) (x1_0 : Int) (x1_1 : Int) (x1_2 : Int) (f1_3 : Nat) (a1_4 : Option Addr) (n1_4 : Nat) (c1_4 : Nat) (x1_5 : Int) (x1_6 : Int) (x1_7 : Int) (w : World) : fnN Go.Proofs.Try.prog Go.Proofs.Try.f62 trees_Alike_1.an #[.agg #[.int .u8 x0_0, .int .i64 x0_1, .int .i64 x0_2, .float .f64 f0_3, .slice a0_4 n0_4 c0_4, .int .u8 x0_5, .int .i64 x0_6, .int .i64 x0_7], .agg #[.int .u8 x1_0, .int .i64 x1_1, .int .i64 x1_2, .float .f64 f1_3, .slice a1_4 n1_4 c1_4, .int .u8 x1_5, .int .i64 x1_6, .int .i64 x1_7]] w R = trees_Alike_1.g0 R x0_0 x0_1 x0_2 f0_3 a0_4 n0_4 c0_4 x0_5 x0_6 x0_7 x1_0 x1_1 x1_2 f1_3 a1_4 n1_4 c1_4 x1_5 x1_6 x1_7 w := by kernel_rfl
theorem trees_Alike_1.calls {R : Value → World → Prop} {x0_0 : Int} {x0_1 : Int} {x0_2 : Int} {f0_3 : Nat} {a0_4 : Option Addr} {n0_4 : Nat} {c0_4 : Nat} {x0_5 : Int} {x0_6 : Int} {x0_7 : Int} {x1_0 : Int} {x1_1 : Int} {x1_2 : Int} {f1_3 : Nat} {a1_4 : Option Addr} {n1_4 : Nat} {c1_4 : Nat} {x1_5 : Int} {x1_6 : Int} {x1_7 : Int} {w : World} (h : trees_Alike_1 R x0_0 x0_1 x0_2 f0_3 a0_4 n0_4 c0_4 x0_5 x0_6 x0_7 x1_0 x1_1 x1_2 f1_3 a1_4 n1_4 c1_4 x1_5 x1_6 x1_7 w) : Go.E.CallsD Go.Proofs.Try.prog 62 #[.agg #[.int .u8 x0_0, .int .i64 x0_1, .int .i64 x0_2, .float .f64 f0_3, .slice a0_4 n0_4 c0_4, .int .u8 x0_5, .int .i64 x0_6, .int .i64 x0_7], .agg #[.int .u8 x1_0, .int .i64 x1_1, .int .i64 x1_2, .float .f64 f1_3, .slice a1_4 n1_4 c1_4, .int .u8 x1_5, .int .i64 x1_6, .int .i64 x1_7]] w R := by
  refine callsD_of (n := trees_Alike_1.an) M_follows M_sizes Go.Proofs.Try.func62 (by rfl) ?_
  rw [trees_Alike_1.root0]
  unfold trees_Alike_1 at h
  exact h
-- slices.Equal[[]int,int]
def slices_Equal_int.an : An := (.mk none .nil (.mk none .nil (.mk none (.mk none .nil (.mk none (.mk (some [0, 1, 12, 13]) .nil .nil) .nil)) .nil)))
def slices_Equal_int.g0 (R : Value → World → Prop) (e14 : (Option Addr) → Nat → Nat → (Option Addr) → Nat → Nat → Int → Int → World → Prop) (a0 : Option Addr) (n0 : Nat) (c0 : Nat) (a1 : Option Addr) (n1 : Nat) (c1 : Nat) (w : World) : Prop :=
 onBool ((n0 : Int) != (n1 : Int))
 (R (.bool false) w)
 (e14 a0 n0 c0 a1 n1 c1 (n0 : Int) 0 w)
def slices_Equal_int.g14 (R : Value → World → Prop) (b14 : (Option Addr) → Nat → Nat → (Option Addr) → Nat → Nat → Int → Int → World → Prop) (a0 : Option Addr) (n0 : Nat) (c0 : Nat) (a1 : Option Addr) (n1 : Nat) (c1 : Nat) (x12 : Int) (x13 : Int) (w : World) : Prop :=
 onBool (decide (x13 < x12))
 (optN a0 fun q6 =>
 chk ((0 : Int) ≤ x13 ∧ x13 < (n0 : Int))
 (∃ yx_7 : Int, w.cell? (q6.add (x13.toNat * 1)) = some (.int .i64 yx_7) ∧
 (optN a1 fun q8 =>
 chk ((0 : Int) ≤ x13 ∧ x13 < (n1 : Int))
 (∃ yx_9 : Int, w.cell? (q8.add (x13.toNat * 1)) = some (.int .i64 yx_9) ∧
 (onBool (yx_7 != yx_9)
 (R (.bool false) w)
 (nv (IntKind.i64.wrap (x13 + 1)) fun t10 =>
 b14 a0 n0 c0 a1 n1 c1 x12 t10 w))))))
 (R (.bool true) w)
def slices_Equal_int.q2 (R : Value → World → Prop) : Exit → Act → World → Prop := (fin Go.Proofs.Try.prog Go.Proofs.Try.f64 R)
def slices_Equal_int.q10 (R : Value → World → Prop) : Exit → Act → World → Prop := (slices_Equal_int.q2 R)
def slices_Equal_int.q11 (R : Value → World → Prop) : Exit → Act → World → Prop := Exit.then (startN none (codeN Go.Proofs.Try.prog (sub (codeOf Go.Proofs.Try.f64) [1, 1, 1]) (nsub slices_Equal_int.an [1, 1, 1]) (slices_Equal_int.q10 R))) (slices_Equal_int.q10 R)
def slices_Equal_int.q13 (R : Value → World → Prop) : Exit → Act → World → Prop := (slices_Equal_int.q11 R)
def slices_Equal_int.q14 (R : Value → World → Prop) : Exit → Act → World → Prop := Exit.inBlock 0 (slices_Equal_int.q13 R)
def slices_Equal_int.rl14 (R : Value → World → Prop) (k : Nat) (a0 : Option Addr) (n0 : Nat) (c0 : Nat) (a1 : Option Addr) (n1 : Nat) (c1 : Nat) (x12 : Int) (x13 : Int) (w : World) : Prop := loopN [0, 1, 12, 13] (codeN Go.Proofs.Try.prog (sub (codeOf Go.Proofs.Try.f64) [1, 1, 0, 1, 0, 0]) (nsub slices_Equal_int.an [1, 1, 0, 1, 0, 0])) (slices_Equal_int.q14 R) k ⟨#[.slice a0 n0 c0, .slice a1 n1 c1, undef, undef, undef, undef, undef, undef, undef, undef, undef, undef, .int .i64 x12, .int .i64 x13, undef, undef, undef, undef, undef, undef, undef, undef, undef, undef, undef, undef], []⟩ w
def slices_Equal_int.re14 (R : Value → World → Prop) (a0 : Option Addr) (n0 : Nat) (c0 : Nat) (a1 : Option Addr) (n1 : Nat) (c1 : Nat) (x12 : Int) (x13 : Int) (w : World) : Prop := ∃ k, slices_Equal_int.rl14 R k a0 n0 c0 a1 n1 c1 x12 x13 w
def slices_Equal_int.l14 (R : Value → World → Prop) : Nat → (Option Addr) → Nat → Nat → (Option Addr) → Nat → Nat → Int → Int → World → Prop
  | 0, _, _, _, _, _, _, _, _, _ => False
  | k + 1, a0, n0, c0, a1, n1, c1, x12, x13, w => slices_Equal_int.g14 R (slices_Equal_int.l14 R k) a0 n0 c0 a1 n1 c1 x12 x13 w
def slices_Equal_int.e14 (R : Value → World → Prop) (a0 : Option Addr) (n0 : Nat) (c0 : Nat) (a1 : Option Addr) (n1 : Nat) (c1 : Nat) (x12 : Int) (x13 : Int) (w : World) : Prop := ∃ k, slices_Equal_int.l14 R k a0 n0 c0 a1 n1 c1 x12 x13 w
theorem slices_Equal_int.s14 (R : Value → World → Prop) (k : Nat) (a0 : Option Addr) (n0 : Nat) (c0 : Nat) (a1 : Option Addr) (n1 : Nat) (c1 : Nat) (x12 : Int) (x13 : Int) (w : World) : slices_Equal_int.rl14 R (k + 1) a0 n0 c0 a1 n1 c1 x12 x13 w = ∀ _ : Nat → Value, slices_Equal_int.g14 R (slices_Equal_int.rl14 R k) a0 n0 c0 a1 n1 c1 x12 x13 w := by kernel_rfl
theorem slices_Equal_int.lq14 (R : Value → World → Prop) : ∀ k, slices_Equal_int.l14 R k = slices_Equal_int.rl14 R k
  | 0 => by funext a0 n0 c0 a1 n1 c1 x12 x13 w; first | rfl | kernel_rfl
  | k + 1 => by
    funext a0 n0 c0 a1 n1 c1 x12 x13 w
    rw [slices_Equal_int.s14, forall_const]
    unfold slices_Equal_int.l14
    have ih := slices_Equal_int.lq14 R k
    rw [ih]
    all_goals rfl
theorem slices_Equal_int.eq14 (R : Value → World → Prop) : slices_Equal_int.e14 R = slices_Equal_int.re14 R := by
  funext a0 n0 c0 a1 n1 c1 x12 x13 w
  unfold slices_Equal_int.e14 slices_Equal_int.re14
  simp only [slices_Equal_int.lq14 R]
def slices_Equal_int (R : Value → World → Prop) (a0 : Option Addr) (n0 : Nat) (c0 : Nat) (a1 : Option Addr) (n1 : Nat) (c1 : Nat) (w : World) : Prop := slices_Equal_int.g0 R (slices_Equal_int.e14 R) a0 n0 c0 a1 n1 c1 w
theorem slices_Equal_int.root0 (R : Value → World → Prop) (a0 : Option Addr) (n0 : Nat) (c0 : Nat) (a1 : Option Addr) (n1 : Nat) (c1 : Nat) (w : World) : fnN Go.Proofs.Try.prog Go.Proofs.Try.f64 slices_Equal_int.an #[.slice a0 n0 c0, .slice a1 n1 c1] w R = slices_Equal_int.g0 R (slices_Equal_int.re14 R) a0 n0 c0 a1 n1 c1 w := by kernel_rfl
theorem slices_Equal_int.calls {R : Value → World → Prop} {a0 : Option Addr} {n0 : Nat} {c0 : Nat} {a1 : Option Addr} {n1 : Nat} {c1 : Nat} {w : World} (h : slices_Equal_int R a0 n0 c0 a1 n1 c1 w) : Go.E.CallsD Go.Proofs.Try.prog 64 #[.slice a0 n0 c0, .slice a1 n1 c1] w R := by
  refine callsD_of (n := slices_Equal_int.an) M_follows M_sizes Go.Proofs.Try.func64 (by rfl) ?_
  rw [slices_Equal_int.root0]
  unfold slices_Equal_int at h
  rw [slices_Equal_int.eq14 R] at h
  exact h
-- slices.Equal[[]string,string]
def slices_Equal_str.an : An := (.mk none .nil (.mk none .nil (.mk none (.mk none .nil (.mk none (.mk (some [0, 1, 12, 13]) .nil .nil) .nil)) .nil)))
def slices_Equal_str.g0 (R : Value → World → Prop) (e14 : (Option Addr) → Nat → Nat → (Option Addr) → Nat → Nat → Int → Int → World → Prop) (a0 : Option Addr) (n0 : Nat) (c0 : Nat) (a1 : Option Addr) (n1 : Nat) (c1 : Nat) (w : World) : Prop :=
 onBool ((n0 : Int) != (n1 : Int))
 (R (.bool false) w)
 (e14 a0 n0 c0 a1 n1 c1 (n0 : Int) 0 w)
def slices_Equal_str.g14 (R : Value → World → Prop) (b14 : (Option Addr) → Nat → Nat → (Option Addr) → Nat → Nat → Int → Int → World → Prop) (a0 : Option Addr) (n0 : Nat) (c0 : Nat) (a1 : Option Addr) (n1 : Nat) (c1 : Nat) (x12 : Int) (x13 : Int) (w : World) : Prop :=
 onBool (decide (x13 < x12))
 (optN a0 fun q6 =>
 chk ((0 : Int) ≤ x13 ∧ x13 < (n0 : Int))
 (∃ ys_7 : ByteArray, w.cell? (q6.add (x13.toNat * 1)) = some (.string ys_7) ∧
 (optN a1 fun q8 =>
 chk ((0 : Int) ≤ x13 ∧ x13 < (n1 : Int))
 (∃ ys_9 : ByteArray, w.cell? (q8.add (x13.toNat * 1)) = some (.string ys_9) ∧
 (onBool (!((ys_7 : ByteArray).toList == (ys_9 : ByteArray).toList))
 (R (.bool false) w)
 (nv (IntKind.i64.wrap (x13 + 1)) fun t10 =>
 b14 a0 n0 c0 a1 n1 c1 x12 t10 w))))))
 (R (.bool true) w)
def slices_Equal_str.q2 (R : Value → World → Prop) : Exit → Act → World → Prop := (fin Go.Proofs.Try.prog Go.Proofs.Try.f65 R)
def slices_Equal_str.q10 (R : Value → World → Prop) : Exit → Act → World → Prop := (slices_Equal_str.q2 R)
def slices_Equal_str.q11 (R : Value → World → Prop) : Exit → Act → World → Prop := Exit.then (startN none (codeN Go.Proofs.Try.prog (sub (codeOf Go.Proofs.Try.f65) [1, 1, 1]) (nsub slices_Equal_str.an [1, 1, 1]) (slices_Equal_str.q10 R))) (slices_Equal_str.q10 R)
def slices_Equal_str.q13 (R : Value → World → Prop) : Exit → Act → World → Prop := (slices_Equal_str.q11 R)
def slices_Equal_str.q14 (R : Value → World → Prop) : Exit → Act → World → Prop := Exit.inBlock 0 (slices_Equal_str.q13 R)
def slices_Equal_str.rl14 (R : Value → World → Prop) (k : Nat) (a0 : Option Addr) (n0 : Nat) (c0 : Nat) (a1 : Option Addr) (n1 : Nat) (c1 : Nat) (x12 : Int) (x13 : Int) (w : World) : Prop := loopN [0, 1, 12, 13] (codeN Go.Proofs.Try.prog (sub (codeOf Go.Proofs.Try.f65) [1, 1, 0, 1, 0, 0]) (nsub slices_Equal_str.an [1, 1, 0, 1, 0, 0])) (slices_Equal_str.q14 R) k ⟨#[.slice a0 n0 c0, .slice a1 n1 c1, undef, undef, undef, undef, undef, undef, undef, undef, undef, undef, .int .i64 x12, .int .i64 x13, undef, undef, undef, undef, undef, undef, undef, undef, undef, undef, undef, undef], []⟩ w
def slices_Equal_str.re14 (R : Value → World → Prop) (a0 : Option Addr) (n0 : Nat) (c0 : Nat) (a1 : Option Addr) (n1 : Nat) (c1 : Nat) (x12 : Int) (x13 : Int) (w : World) : Prop := ∃ k, slices_Equal_str.rl14 R k a0 n0 c0 a1 n1 c1 x12 x13 w
def slices_Equal_str.l14 (R : Value → World → Prop) : Nat → (Option Addr) → Nat → Nat → (Option Addr) → Nat → Nat → Int → Int → World → Prop
  | 0, _, _, _, _, _, _, _, _, _ => False
  | k + 1, a0, n0, c0, a1, n1, c1, x12, x13, w => slices_Equal_str.g14 R (slices_Equal_str.l14 R k) a0 n0 c0 a1 n1 c1 x12 x13 w
def slices_Equal_str.e14 (R : Value → World → Prop) (a0 : Option Addr) (n0 : Nat) (c0 : Nat) (a1 : Option Addr) (n1 : Nat) (c1 : Nat) (x12 : Int) (x13 : Int) (w : World) : Prop := ∃ k, slices_Equal_str.l14 R k a0 n0 c0 a1 n1 c1 x12 x13 w
theorem slices_Equal_str.s14 (R : Value → World → Prop) (k : Nat) (a0 : Option Addr) (n0 : Nat) (c0 : Nat) (a1 : Option Addr) (n1 : Nat) (c1 : Nat) (x12 : Int) (x13 : Int) (w : World) : slices_Equal_str.rl14 R (k + 1) a0 n0 c0 a1 n1 c1 x12 x13 w = ∀ _ : Nat → Value, slices_Equal_str.g14 R (slices_Equal_str.rl14 R k) a0 n0 c0 a1 n1 c1 x12 x13 w := by kernel_rfl
theorem slices_Equal_str.lq14 (R : Value → World → Prop) : ∀ k, slices_Equal_str.l14 R k = slices_Equal_str.rl14 R k
  | 0 => by funext a0 n0 c0 a1 n1 c1 x12 x13 w; first | rfl | kernel_rfl
  | k + 1 => by
    funext a0 n0 c0 a1 n1 c1 x12 x13 w
    rw [slices_Equal_str.s14, forall_const]
    unfold slices_Equal_str.l14
    have ih := slices_Equal_str.lq14 R k
    rw [ih]
    all_goals rfl
theorem slices_Equal_str.eq14 (R : Value → World → Prop) : slices_Equal_str.e14 R = slices_Equal_str.re14 R := by
  funext a0 n0 c0 a1 n1 c1 x12 x13 w
  unfold slices_Equal_str.e14 slices_Equal_str.re14
  simp only [slices_Equal_str.lq14 R]
def slices_Equal_str (R : Value → World → Prop) (a0 : Option Addr) (n0 : Nat) (c0 : Nat) (a1 : Option Addr) (n1 : Nat) (c1 : Nat) (w : World) : Prop := slices_Equal_str.g0 R (slices_Equal_str.e14 R) a0 n0 c0 a1 n1 c1 w
theorem slices_Equal_str.root0 (R : Value → World → Prop) (a0 : Option Addr) (n0 : Nat) (c0 : Nat) (a1 : Option Addr) (n1 : Nat) (c1 : Nat) (w : World) : fnN Go.Proofs.Try.prog Go.Proofs.Try.f65 slices_Equal_str.an #[.slice a0 n0 c0, .slice a1 n1 c1] w R = slices_Equal_str.g0 R (slices_Equal_str.re14 R) a0 n0 c0 a1 n1 c1 w := by kernel_rfl
theorem slices_Equal_str.calls {R : Value → World → Prop} {a0 : Option Addr} {n0 : Nat} {c0 : Nat} {a1 : Option Addr} {n1 : Nat} {c1 : Nat} {w : World} (h : slices_Equal_str R a0 n0 c0 a1 n1 c1 w) : Go.E.CallsD Go.Proofs.Try.prog 65 #[.slice a0 n0 c0, .slice a1 n1 c1] w R := by
  refine callsD_of (n := slices_Equal_str.an) M_follows M_sizes Go.Proofs.Try.func65 (by rfl) ?_
  rw [slices_Equal_str.root0]
  unfold slices_Equal_str at h
  rw [slices_Equal_str.eq14 R] at h
  exact h
-- slices.Equal[[]int64,int64]
def slices_Equal_i64.an : An := (.mk none .nil (.mk none .nil (.mk none (.mk none .nil (.mk none (.mk (some [0, 1, 12, 13]) .nil .nil) .nil)) .nil)))
def slices_Equal_i64.g0 (R : Value → World → Prop) (e14 : (Option Addr) → Nat → Nat → (Option Addr) → Nat → Nat → Int → Int → World → Prop) (a0 : Option Addr) (n0 : Nat) (c0 : Nat) (a1 : Option Addr) (n1 : Nat) (c1 : Nat) (w : World) : Prop :=
 onBool ((n0 : Int) != (n1 : Int))
 (R (.bool false) w)
 (e14 a0 n0 c0 a1 n1 c1 (n0 : Int) 0 w)
def slices_Equal_i64.g14 (R : Value → World → Prop) (b14 : (Option Addr) → Nat → Nat → (Option Addr) → Nat → Nat → Int → Int → World → Prop) (a0 : Option Addr) (n0 : Nat) (c0 : Nat) (a1 : Option Addr) (n1 : Nat) (c1 : Nat) (x12 : Int) (x13 : Int) (w : World) : Prop :=
 onBool (decide (x13 < x12))
 (optN a0 fun q6 =>
 chk ((0 : Int) ≤ x13 ∧ x13 < (n0 : Int))
 (∃ yx_7 : Int, w.cell? (q6.add (x13.toNat * 1)) = some (.int .i64 yx_7) ∧
 (optN a1 fun q8 =>
 chk ((0 : Int) ≤ x13 ∧ x13 < (n1 : Int))
 (∃ yx_9 : Int, w.cell? (q8.add (x13.toNat * 1)) = some (.int .i64 yx_9) ∧
 (onBool (yx_7 != yx_9)
 (R (.bool false) w)
 (nv (IntKind.i64.wrap (x13 + 1)) fun t10 =>
 b14 a0 n0 c0 a1 n1 c1 x12 t10 w))))))
 (R (.bool true) w)
def slices_Equal_i64.q2 (R : Value → World → Prop) : Exit → Act → World → Prop := (fin Go.Proofs.Try.prog Go.Proofs.Try.f66 R)
def slices_Equal_i64.q10 (R : Value → World → Prop) : Exit → Act → World → Prop := (slices_Equal_i64.q2 R)
def slices_Equal_i64.q11 (R : Value → World → Prop) : Exit → Act → World → Prop := Exit.then (startN none (codeN Go.Proofs.Try.prog (sub (codeOf Go.Proofs.Try.f66) [1, 1, 1]) (nsub slices_Equal_i64.an [1, 1, 1]) (slices_Equal_i64.q10 R))) (slices_Equal_i64.q10 R)
def slices_Equal_i64.q13 (R : Value → World → Prop) : Exit → Act → World → Prop := (slices_Equal_i64.q11 R)
def slices_Equal_i64.q14 (R : Value → World → Prop) : Exit → Act → World → Prop := Exit.inBlock 0 (slices_Equal_i64.q13 R)
def slices_Equal_i64.rl14 (R : Value → World → Prop) (k : Nat) (a0 : Option Addr) (n0 : Nat) (c0 : Nat) (a1 : Option Addr) (n1 : Nat) (c1 : Nat) (x12 : Int) (x13 : Int) (w : World) : Prop := loopN [0, 1, 12, 13] (codeN Go.Proofs.Try.prog (sub (codeOf Go.Proofs.Try.f66) [1, 1, 0, 1, 0, 0]) (nsub slices_Equal_i64.an [1, 1, 0, 1, 0, 0])) (slices_Equal_i64.q14 R) k ⟨#[.slice a0 n0 c0, .slice a1 n1 c1, undef, undef, undef, undef, undef, undef, undef, undef, undef, undef, .int .i64 x12, .int .i64 x13, undef, undef, undef, undef, undef, undef, undef, undef, undef, undef, undef, undef], []⟩ w
def slices_Equal_i64.re14 (R : Value → World → Prop) (a0 : Option Addr) (n0 : Nat) (c0 : Nat) (a1 : Option Addr) (n1 : Nat) (c1 : Nat) (x12 : Int) (x13 : Int) (w : World) : Prop := ∃ k, slices_Equal_i64.rl14 R k a0 n0 c0 a1 n1 c1 x12 x13 w
def slices_Equal_i64.l14 (R : Value → World → Prop) : Nat → (Option Addr) → Nat → Nat → (Option Addr) → Nat → Nat → Int → Int → World → Prop
  | 0, _, _, _, _, _, _, _, _, _ => False
  | k + 1, a0, n0, c0, a1, n1, c1, x12, x13, w => slices_Equal_i64.g14 R (slices_Equal_i64.l14 R k) a0 n0 c0 a1 n1 c1 x12 x13 w
def slices_Equal_i64.e14 (R : Value → World → Prop) (a0 : Option Addr) (n0 : Nat) (c0 : Nat) (a1 : Option Addr) (n1 : Nat) (c1 : Nat) (x12 : Int) (x13 : Int) (w : World) : Prop := ∃ k, slices_Equal_i64.l14 R k a0 n0 c0 a1 n1 c1 x12 x13 w
theorem slices_Equal_i64.s14 (R : Value → World → Prop) (k : Nat) (a0 : Option Addr) (n0 : Nat) (c0 : Nat) (a1 : Option Addr) (n1 : Nat) (c1 : Nat) (x12 : Int) (x13 : Int) (w : World) : slices_Equal_i64.rl14 R (k + 1) a0 n0 c0 a1 n1 c1 x12 x13 w = ∀ _ : Nat → Value, slices_Equal_i64.g14 R (slices_Equal_i64.rl14 R k) a0 n0 c0 a1 n1 c1 x12 x13 w := by kernel_rfl
theorem slices_Equal_i64.lq14 (R : Value → World → Prop) : ∀ k, slices_Equal_i64.l14 R k = slices_Equal_i64.rl14 R k
  | 0 => by funext a0 n0 c0 a1 n1 c1 x12 x13 w; first | rfl | kernel_rfl
  | k + 1 => by
    funext a0 n0 c0 a1 n1 c1 x12 x13 w
    rw [slices_Equal_i64.s14, forall_const]
    unfold slices_Equal_i64.l14
    have ih := slices_Equal_i64.lq14 R k
    rw [ih]
    all_goals rfl
theorem slices_Equal_i64.eq14 (R : Value → World → Prop) : slices_Equal_i64.e14 R = slices_Equal_i64.re14 R := by
  funext a0 n0 c0 a1 n1 c1 x12 x13 w
  unfold slices_Equal_i64.e14 slices_Equal_i64.re14
  simp only [slices_Equal_i64.lq14 R]
def slices_Equal_i64 (R : Value → World → Prop) (a0 : Option Addr) (n0 : Nat) (c0 : Nat) (a1 : Option Addr) (n1 : Nat) (c1 : Nat) (w : World) : Prop := slices_Equal_i64.g0 R (slices_Equal_i64.e14 R) a0 n0 c0 a1 n1 c1 w
theorem slices_Equal_i64.root0 (R : Value → World → Prop) (a0 : Option Addr) (n0 : Nat) (c0 : Nat) (a1 : Option Addr) (n1 : Nat) (c1 : Nat) (w : World) : fnN Go.Proofs.Try.prog Go.Proofs.Try.f66 slices_Equal_i64.an #[.slice a0 n0 c0, .slice a1 n1 c1] w R = slices_Equal_i64.g0 R (slices_Equal_i64.re14 R) a0 n0 c0 a1 n1 c1 w := by kernel_rfl
theorem slices_Equal_i64.calls {R : Value → World → Prop} {a0 : Option Addr} {n0 : Nat} {c0 : Nat} {a1 : Option Addr} {n1 : Nat} {c1 : Nat} {w : World} (h : slices_Equal_i64 R a0 n0 c0 a1 n1 c1 w) : Go.E.CallsD Go.Proofs.Try.prog 66 #[.slice a0 n0 c0, .slice a1 n1 c1] w R := by
  refine callsD_of (n := slices_Equal_i64.an) M_follows M_sizes Go.Proofs.Try.func66 (by rfl) ?_
  rw [slices_Equal_i64.root0]
  unfold slices_Equal_i64 at h
  rw [slices_Equal_i64.eq14 R] at h
  exact h
-- slices.EqualFunc[[]thicket/api.Tree,[]thicket/api.Tree,thicket/api.Tree,thicket/api.Tree]
def Equal_tree.an : An := (.mk none .nil (.mk none .nil (.mk none (.mk none .nil (.mk none (.mk (some [1, 2, 15, 16, 17]) .nil .nil) .nil)) .nil)))
def Equal_tree.g0 (R : Value → World → Prop) (e14 : (Option Addr) → Nat → Nat → (Option Addr) → Nat → Nat → Int → Int → World → Prop) (a0 : Option Addr) (n0 : Nat) (c0 : Nat) (a1 : Option Addr) (n1 : Nat) (c1 : Nat) (w : World) : Prop :=
 onBool ((n0 : Int) != (n1 : Int))
 (R (.bool false) w)
 (e14 a1 n1 c1 a0 n0 c0 (n0 : Int) 0 w)
def Equal_tree.g14 (R : Value → World → Prop) (b14 : (Option Addr) → Nat → Nat → (Option Addr) → Nat → Nat → Int → Int → World → Prop) (a1 : Option Addr) (n1 : Nat) (c1 : Nat) (a15 : Option Addr) (n15 : Nat) (c15 : Nat) (x16 : Int) (x17 : Int) (w : World) : Prop :=
 onBool (decide (x17 < x16))
 (optN a15 fun q21 =>
 chk ((0 : Int) ≤ x17 ∧ x17 < (n15 : Int))
 (∃ yx_22 : Int, w.cell? ((q21.add (x17.toNat * 2)).add 0) = some (.int .i64 yx_22) ∧
 (∃ ya_23 : Option Addr, ∃ yn_23 : Nat, ∃ yc_23 : Nat, w.cell? ((q21.add (x17.toNat * 2)).add 1) = some (.slice ya_23 yn_23 yc_23) ∧
 (nw (w.alloc (.cells #[.int .i64 0, .slice none 0 0] 33)) fun w24 =>
 okSt w24 ((na w).add 0) ∧
 (nw (w24.setCell ((na w).add 0) (.int .i64 yx_22)) fun w25 =>
 okSt w25 ((na w).add 1) ∧
 (nw (w25.setCell ((na w).add 1) (.slice ya_23 yn_23 yc_23)) fun w26 =>
 optN a1 fun q27 =>
 chk ((0 : Int) ≤ x17 ∧ x17 < (n1 : Int))
 (∃ yx_28 : Int, w26.cell? ((q27.add (x17.toNat * 2)).add 0) = some (.int .i64 yx_28) ∧
 (∃ ya_29 : Option Addr, ∃ yn_29 : Nat, ∃ yc_29 : Nat, w26.cell? ((q27.add (x17.toNat * 2)).add 1) = some (.slice ya_29 yn_29 yc_29) ∧
 (nw (w26.alloc (.cells #[.int .i64 0, .slice none 0 0] 33)) fun w30 =>
 okSt w30 ((na w26).add 0) ∧
 (nw (w30.setCell ((na w26).add 0) (.int .i64 yx_28)) fun w31 =>
 okSt w31 ((na w26).add 1) ∧
 (nw (w31.setCell ((na w26).add 1) (.slice ya_29 yn_29 yc_29)) fun w32 =>
 ∃ yx_33 : Int, w32.cell? ((na w).add 0) = some (.int .i64 yx_33) ∧
 (∃ ya_34 : Option Addr, ∃ yn_34 : Nat, ∃ yc_34 : Nat, w32.cell? ((na w).add 1) = some (.slice ya_34 yn_34 yc_34) ∧
 (∃ yx_35 : Int, w32.cell? ((na w26).add 0) = some (.int .i64 yx_35) ∧
 (∃ ya_36 : Option Addr, ∃ yn_36 : Nat, ∃ yc_36 : Nat, w32.cell? ((na w26).add 1) = some (.slice ya_36 yn_36 yc_36) ∧
 (Go.E.CallsD Go.Proofs.Try.prog 38 #[.agg #[.int .i64 yx_33, .slice ya_34 yn_34 yc_34], .agg #[.int .i64 yx_35, .slice ya_36 yn_36 yc_36]] w32 fun yv37 u38 =>
 ∃ yb_39 : Bool, yv37 = .bool yb_39 ∧
 (onBool (!yb_39)
 (R (.bool false) u38)
 (nv (IntKind.i64.wrap (x17 + 1)) fun t40 =>
 b14 a1 n1 c1 a15 n15 c15 x16 t40 u38)))))))))))))))))
 (R (.bool true) w)
def Equal_tree.q2 (R : Value → World → Prop) : Exit → Act → World → Prop := (fin Go.Proofs.Try.prog Go.Proofs.Try.f67 R)
def Equal_tree.q10 (R : Value → World → Prop) : Exit → Act → World → Prop := (Equal_tree.q2 R)
def Equal_tree.q11 (R : Value → World → Prop) : Exit → Act → World → Prop := Exit.then (startN none (codeN Go.Proofs.Try.prog (sub (codeOf Go.Proofs.Try.f67) [1, 1, 1]) (nsub Equal_tree.an [1, 1, 1]) (Equal_tree.q10 R))) (Equal_tree.q10 R)
def Equal_tree.q13 (R : Value → World → Prop) : Exit → Act → World → Prop := (Equal_tree.q11 R)
def Equal_tree.q14 (R : Value → World → Prop) : Exit → Act → World → Prop := Exit.inBlock 0 (Equal_tree.q13 R)
def Equal_tree.rl14 (R : Value → World → Prop) (k : Nat) (a1 : Option Addr) (n1 : Nat) (c1 : Nat) (a15 : Option Addr) (n15 : Nat) (c15 : Nat) (x16 : Int) (x17 : Int) (w : World) : Prop := loopN [1, 2, 15, 16, 17] (codeN Go.Proofs.Try.prog (sub (codeOf Go.Proofs.Try.f67) [1, 1, 0, 1, 0, 0]) (nsub Equal_tree.an [1, 1, 0, 1, 0, 0])) (Equal_tree.q14 R) k ⟨#[undef, .slice a1 n1 c1, .func (.func 38) #[] #[], undef, undef, undef, undef, undef, undef, undef, undef, undef, undef, undef, undef, .slice a15 n15 c15, .int .i64 x16, .int .i64 x17, undef, undef, undef, undef, undef, undef, undef, undef, undef, undef, undef, undef, undef, undef], []⟩ w
def Equal_tree.re14 (R : Value → World → Prop) (a1 : Option Addr) (n1 : Nat) (c1 : Nat) (a15 : Option Addr) (n15 : Nat) (c15 : Nat) (x16 : Int) (x17 : Int) (w : World) : Prop := ∃ k, Equal_tree.rl14 R k a1 n1 c1 a15 n15 c15 x16 x17 w
def Equal_tree.l14 (R : Value → World → Prop) : Nat → (Option Addr) → Nat → Nat → (Option Addr) → Nat → Nat → Int → Int → World → Prop
  | 0, _, _, _, _, _, _, _, _, _ => False
  | k + 1, a1, n1, c1, a15, n15, c15, x16, x17, w => Equal_tree.g14 R (Equal_tree.l14 R k) a1 n1 c1 a15 n15 c15 x16 x17 w
def Equal_tree.e14 (R : Value → World → Prop) (a1 : Option Addr) (n1 : Nat) (c1 : Nat) (a15 : Option Addr) (n15 : Nat) (c15 : Nat) (x16 : Int) (x17 : Int) (w : World) : Prop := ∃ k, Equal_tree.l14 R k a1 n1 c1 a15 n15 c15 x16 x17 w
theorem Equal_tree.s14 (R : Value → World → Prop) (k : Nat) (a1 : Option Addr) (n1 : Nat) (c1 : Nat) (a15 : Option Addr) (n15 : Nat) (c15 : Nat) (x16 : Int) (x17 : Int) (w : World) : Equal_tree.rl14 R (k + 1) a1 n1 c1 a15 n15 c15 x16 x17 w = ∀ _ : Nat → Value, Equal_tree.g14 R (Equal_tree.rl14 R k) a1 n1 c1 a15 n15 c15 x16 x17 w := by kernel_rfl
theorem Equal_tree.lq14 (R : Value → World → Prop) : ∀ k, Equal_tree.l14 R k = Equal_tree.rl14 R k
  | 0 => by funext a1 n1 c1 a15 n15 c15 x16 x17 w; first | rfl | kernel_rfl
  | k + 1 => by
    funext a1 n1 c1 a15 n15 c15 x16 x17 w
    rw [Equal_tree.s14, forall_const]
    unfold Equal_tree.l14
    have ih := Equal_tree.lq14 R k
    rw [ih]
    all_goals rfl
theorem Equal_tree.eq14 (R : Value → World → Prop) : Equal_tree.e14 R = Equal_tree.re14 R := by
  funext a1 n1 c1 a15 n15 c15 x16 x17 w
  unfold Equal_tree.e14 Equal_tree.re14
  simp only [Equal_tree.lq14 R]
def Equal_tree (R : Value → World → Prop) (a0 : Option Addr) (n0 : Nat) (c0 : Nat) (a1 : Option Addr) (n1 : Nat) (c1 : Nat) (w : World) : Prop := Equal_tree.g0 R (Equal_tree.e14 R) a0 n0 c0 a1 n1 c1 w
theorem Equal_tree.root0 (R : Value → World → Prop) (a0 : Option Addr) (n0 : Nat) (c0 : Nat) (a1 : Option Addr) (n1 : Nat) (c1 : Nat) (w : World) : fnN Go.Proofs.Try.prog Go.Proofs.Try.f67 Equal_tree.an #[.slice a0 n0 c0, .slice a1 n1 c1, .func (.func 38) #[] #[]] w R = Equal_tree.g0 R (Equal_tree.re14 R) a0 n0 c0 a1 n1 c1 w := by kernel_rfl
theorem Equal_tree.calls {R : Value → World → Prop} {a0 : Option Addr} {n0 : Nat} {c0 : Nat} {a1 : Option Addr} {n1 : Nat} {c1 : Nat} {w : World} (h : Equal_tree R a0 n0 c0 a1 n1 c1 w) : Go.E.CallsD Go.Proofs.Try.prog 67 #[.slice a0 n0 c0, .slice a1 n1 c1, .func (.func 38) #[] #[]] w R := by
  refine callsD_of (n := Equal_tree.an) M_follows M_sizes Go.Proofs.Try.func67 (by rfl) ?_
  rw [Equal_tree.root0]
  unfold Equal_tree at h
  rw [Equal_tree.eq14 R] at h
  exact h
end Go.Mir
