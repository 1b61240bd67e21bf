/- Part of a proof of laws of the seat Ytdealcfgobobiaa: functions' weakest preconditions, each checked by the kernel, contracts out of them, plain lemmas; no conditions. -/
import Derived.Test.YtdealcfgobobiaaTM0
set_option linter.unusedVariables false
set_option linter.unusedSimpArgs false
set_option linter.unusedVariables false
set_option maxRecDepth 100000
namespace Go.Mir
open Go Go.E Go.RowKit
-- slices.Clone[[]int64,int64]
def slices_Clone_i64.an : An := An.nil
def slices_Clone_i64.g0 (R : Value → World → Prop) (a0 : Option Addr) (n0 : Nat) (c0 : Nat) (w : World) : Prop :=
 onBool a0.isNone
 (R (.slice none 0 0) w)
 (nw (w.alloc (.cells #[] 2)) fun w5 =>
 rawN Go.Proofs.Try.prog (Builtin.append_ #[43, 43] 43 #[.slice (some (na w)) 0 0, .slice a0 n0 c0]) w5 fun yv6 u7 =>
 ∃ ya_8 : Option Addr, ∃ yn_8 : Nat, ∃ yc_8 : Nat, yv6 = .slice ya_8 yn_8 yc_8 ∧
 (R (.slice ya_8 yn_8 yc_8) u7))
def slices_Clone_i64 (R : Value → World → Prop) (a0 : Option Addr) (n0 : Nat) (c0 : Nat) (w : World) : Prop := slices_Clone_i64.g0 R a0 n0 c0 w
theorem slices_Clone_i64.root0 (R : Value → World → Prop) (a0 : Option Addr) (n0 : Nat) (c0 : Nat) (w : World) : fnN Go.Proofs.Try.prog Go.Proofs.Try.f51 slices_Clone_i64.an #[.slice a0 n0 c0] w R = slices_Clone_i64.g0 R a0 n0 c0 w := by kernel_rfl
theorem slices_Clone_i64.calls {R : Value → World → Prop} {a0 : Option Addr} {n0 : Nat} {c0 : Nat} {w : World} (h : slices_Clone_i64 R a0 n0 c0 w) : Go.E.CallsD Go.Proofs.Try.prog 51 #[.slice a0 n0 c0] w R := by
  refine callsD_of (n := slices_Clone_i64.an) M_follows M_sizes Go.Proofs.Try.func51 (by rfl) ?_
  rw [slices_Clone_i64.root0]
  unfold slices_Clone_i64 at h
  exact h
-- thicket/trees.right
def trees_right.an : An := (.mk none .nil (.mk none .nil (.mk none .nil (.mk none .nil (.mk none .nil (.mk none .nil (.mk none (.mk none .nil (.mk none (.mk (some [5, 6, 108, 109, 110]) .nil .nil) .nil)) .nil)))))))
def trees_right.g0 (R : Value → World → Prop) (e34 : Bool → Int → (Option Addr) → Nat → Nat → Int → Int → World → Prop) (x0_0 : Int) (x0_1 : Int) (x0_2 : Int) (f0_3 : Nat) (a0_4 : Option Addr) (n0_4 : Nat) (c0_4 : Nat) (x0_5 : Int) (x0_6 : Int) (x0_7 : Int) (x1 : Int) (w : World) : Prop :=
 nw (w.alloc (.cells #[.int .u8 x0_0, .int .i64 x0_1, .int .i64 x0_2, .float .f64 f0_3, .slice a0_4 n0_4 c0_4, .int .u8 x0_5, .int .i64 x0_6, .int .i64 x0_7] 27)) fun w36 =>
 ∃ yf_37 : Nat, w36.cell? ((na w).add 3) = some (.float .f64 yf_37) ∧
 (∃ yx_38 : Int, RunV Go.Proofs.Try.prog (callFunc 63 #[.float .f64 yf_37]) w36 (.int .u64 yx_38) ∧
 (∃ yx_39 : Int, w36.cell? ((na w).add 0) = some (.int .u8 yx_39) ∧
 (onBool (yx_39 == 1)
 (∃ yx_40 : Int, w36.cell? ((na w).add 2) = some (.int .i64 yx_40) ∧
 (onBool (yx_40 == 0)
 (onBool (yx_38 == 0)
 (∃ ya_41 : Option Addr, ∃ yn_41 : Nat, ∃ yc_41 : Nat, w36.cell? ((na w).add 4) = some (.slice ya_41 yn_41 yc_41) ∧
 (onBool ((yn_41 : Int) == 0)
 (∃ yx_42 : Int, w36.cell? ((na w).add 5) = some (.int .u8 yx_42) ∧
 (onBool (yx_42 == 0)
 (∃ yx_43 : Int, w36.cell? ((na w).add 6) = some (.int .i64 yx_43) ∧
 (onBool (yx_43 == 0)
 (∃ yx_44 : Int, w36.cell? ((na w).add 7) = some (.int .i64 yx_44) ∧
 (R (.bool (yx_44 == 0)) w36))
 (R (.bool false) w36)))
 (R (.bool false) w36)))
 (R (.bool false) w36)))
 (R (.bool false) w36))
 (R (.bool false) w36)))
 (∃ yx_45 : Int, w36.cell? ((na w).add 0) = some (.int .u8 yx_45) ∧
 (∃ yx_46 : Int, w36.cell? ((na w).add 1) = some (.int .i64 yx_46) ∧
 (∃ yx_47 : Int, w36.cell? ((na w).add 2) = some (.int .i64 yx_47) ∧
 (∃ yf_48 : Nat, w36.cell? ((na w).add 3) = some (.float .f64 yf_48) ∧
 (∃ ya_49 : Option Addr, ∃ yn_49 : Nat, ∃ yc_49 : Nat, w36.cell? ((na w).add 4) = some (.slice ya_49 yn_49 yc_49) ∧
 (∃ yx_50 : Int, w36.cell? ((na w).add 5) = some (.int .u8 yx_50) ∧
 (∃ yx_51 : Int, w36.cell? ((na w).add 6) = some (.int .i64 yx_51) ∧
 (∃ yx_52 : Int, w36.cell? ((na w).add 7) = some (.int .i64 yx_52) ∧
 (Go.E.CallsD Go.Proofs.Try.prog 47 #[.agg #[.int .u8 yx_45, .int .i64 yx_46, .int .i64 yx_47, .float .f64 yf_48, .slice ya_49 yn_49 yc_49, .int .u8 yx_50, .int .i64 yx_51, .int .i64 yx_52]] w36 fun yv53 u54 =>
 ∃ yb_55 : Bool, yv53 = .bool yb_55 ∧
 (onBool (!yb_55)
 (R (.bool false) u54)
 (∃ yx_56 : Int, u54.cell? ((na w).add 1) = some (.int .i64 yx_56) ∧
 (onBool (yx_56 != 0)
 (R (.bool false) u54)
 (∃ yx_57 : Int, u54.cell? ((na w).add 2) = some (.int .i64 yx_57) ∧
 (onBool (decide (yx_57 < 0))
 (R (.bool false) u54)
 (∃ yx_58 : Int, u54.cell? ((na w).add 2) = some (.int .i64 yx_58) ∧
 (onBool (decide (yx_58 ≥ 65536))
 (R (.bool false) u54)
 (∃ yx_59 : Int, u54.cell? ((na w).add 5) = some (.int .u8 yx_59) ∧
 (onBool (yx_59 != 1)
 (∃ yx_60 : Int, u54.cell? ((na w).add 5) = some (.int .u8 yx_60) ∧
 (onBool (yx_60 != 2)
 (R (.bool false) u54)
 (∃ yx_61 : Int, u54.cell? ((na w).add 6) = some (.int .i64 yx_61) ∧
 (onBool (decide (yx_61 < 1))
 (R (.bool false) u54)
 (∃ yx_62 : Int, u54.cell? ((na w).add 6) = some (.int .i64 yx_62) ∧
 (onBool (decide (yx_62 ≥ x1))
 (R (.bool false) u54)
 (∃ yx_63 : Int, u54.cell? ((na w).add 7) = some (.int .i64 yx_63) ∧
 (onBool (decide (yx_63 < 1))
 (R (.bool false) u54)
 (∃ yx_64 : Int, u54.cell? ((na w).add 7) = some (.int .i64 yx_64) ∧
 (onBool (decide (yx_64 ≥ x1))
 (R (.bool false) u54)
 (∃ yx_65 : Int, u54.cell? ((na w).add 0) = some (.int .u8 yx_65) ∧
 (onBool (yx_65 == 2)
 (∃ yf_66 : Nat, u54.cell? ((na w).add 3) = some (.float .f64 yf_66) ∧
 (∃ yf_67 : Nat, u54.cell? ((na w).add 3) = some (.float .f64 yf_67) ∧
 (onBool (FloatKind.f64.format.order yf_66 yf_67 == some .eq)
 (∃ ya_68 : Option Addr, ∃ yn_68 : Nat, ∃ yc_68 : Nat, u54.cell? ((na w).add 4) = some (.slice ya_68 yn_68 yc_68) ∧
 (R (.bool ((yn_68 : Int) == 0)) u54))
 (R (.bool false) u54))))
 (∃ ya_69 : Option Addr, ∃ yn_69 : Nat, ∃ yc_69 : Nat, u54.cell? ((na w).add 4) = some (.slice ya_69 yn_69 yc_69) ∧
 (e34 (yx_38 == 0) (-1) ya_69 yn_69 yc_69 (yn_69 : Int) 0 u54))))))))))))))
 (∃ yx_70 : Int, u54.cell? ((na w).add 6) = some (.int .i64 yx_70) ∧
 (onBool (decide (yx_70 < 1))
 (R (.bool false) u54)
 (∃ yx_71 : Int, u54.cell? ((na w).add 6) = some (.int .i64 yx_71) ∧
 (onBool (decide (yx_71 ≥ x1))
 (R (.bool false) u54)
 (∃ yx_72 : Int, u54.cell? ((na w).add 7) = some (.int .i64 yx_72) ∧
 (onBool (decide (yx_72 < 1))
 (R (.bool false) u54)
 (∃ yx_73 : Int, u54.cell? ((na w).add 7) = some (.int .i64 yx_73) ∧
 (onBool (decide (yx_73 ≥ x1))
 (R (.bool false) u54)
 (∃ yx_74 : Int, u54.cell? ((na w).add 0) = some (.int .u8 yx_74) ∧
 (onBool (yx_74 == 2)
 (∃ yf_75 : Nat, u54.cell? ((na w).add 3) = some (.float .f64 yf_75) ∧
 (∃ yf_76 : Nat, u54.cell? ((na w).add 3) = some (.float .f64 yf_76) ∧
 (onBool (FloatKind.f64.format.order yf_75 yf_76 == some .eq)
 (∃ ya_77 : Option Addr, ∃ yn_77 : Nat, ∃ yc_77 : Nat, u54.cell? ((na w).add 4) = some (.slice ya_77 yn_77 yc_77) ∧
 (R (.bool ((yn_77 : Int) == 0)) u54))
 (R (.bool false) u54))))
 (∃ ya_78 : Option Addr, ∃ yn_78 : Nat, ∃ yc_78 : Nat, u54.cell? ((na w).add 4) = some (.slice ya_78 yn_78 yc_78) ∧
 (e34 (yx_38 == 0) (-1) ya_78 yn_78 yc_78 (yn_78 : Int) 0 u54)))))))))))))))))))))))))))))))))
def trees_right.g34 (R : Value → World → Prop) (b34 : Bool → Int → (Option Addr) → Nat → Nat → Int → Int → World → Prop) (b5 : Bool) (x6 : Int) (a108 : Option Addr) (n108 : Nat) (c108 : Nat) (x109 : Int) (x110 : Int) (w : World) : Prop :=
 onBool (decide (x110 < x109))
 (optN a108 fun q79 =>
 chk ((0 : Int) ≤ x110 ∧ x110 < (n108 : Int))
 (∃ yx_80 : Int, w.cell? (q79.add (x110.toNat * 1)) = some (.int .i64 yx_80) ∧
 (onBool (decide (yx_80 ≤ x6))
 (R (.bool false) w)
 (onBool (decide (yx_80 ≥ 1024))
 (R (.bool false) w)
 (nv (IntKind.i64.wrap (x110 + 1)) fun t81 =>
 b34 b5 yx_80 a108 n108 c108 x109 t81 w)))))
 (onBool b5
 (R (.bool (decide (x6 ≥ 0))) w)
 (R (.bool false) w))
def trees_right.q2 (R : Value → World → Prop) : Exit → Act → World → Prop := (fin Go.Proofs.Try.prog Go.Proofs.Try.f52 R)
def trees_right.q4 (R : Value → World → Prop) : Exit → Act → World → Prop := (trees_right.q2 R)
def trees_right.q12 (R : Value → World → Prop) : Exit → Act → World → Prop := (trees_right.q4 R)
def trees_right.q20 (R : Value → World → Prop) : Exit → Act → World → Prop := (trees_right.q12 R)
def trees_right.q28 (R : Value → World → Prop) : Exit → Act → World → Prop := (trees_right.q20 R)
def trees_right.q30 (R : Value → World → Prop) : Exit → Act → World → Prop := (trees_right.q28 R)
def trees_right.q31 (R : Value → World → Prop) : Exit → Act → World → Prop := Exit.then (startN none (codeN Go.Proofs.Try.prog (sub (codeOf Go.Proofs.Try.f52) [1, 1, 1, 1, 1, 1, 1]) (nsub trees_right.an [1, 1, 1, 1, 1, 1, 1]) (trees_right.q30 R))) (trees_right.q30 R)
def trees_right.q33 (R : Value → World → Prop) : Exit → Act → World → Prop := (trees_right.q31 R)
def trees_right.q34 (R : Value → World → Prop) : Exit → Act → World → Prop := Exit.inBlock 0 (trees_right.q33 R)
def trees_right.rl34 (R : Value → World → Prop) (k : Nat) (b5 : Bool) (x6 : Int) (a108 : Option Addr) (n108 : Nat) (c108 : Nat) (x109 : Int) (x110 : Int) (w : World) : Prop := loopN [5, 6, 108, 109, 110] (codeN Go.Proofs.Try.prog (sub (codeOf Go.Proofs.Try.f52) [1, 1, 1, 1, 1, 1, 0, 1, 0, 0]) (nsub trees_right.an [1, 1, 1, 1, 1, 1, 0, 1, 0, 0])) (trees_right.q34 R) k ⟨#[undef, undef, undef, undef, undef, .bool b5, .int .i64 x6, undef, undef, undef, undef, undef, undef, undef, undef, undef, undef, undef, undef, undef, undef, undef, undef, undef, undef, undef, undef, undef, undef, undef, undef, undef, undef, undef, undef, undef, undef, undef, undef, undef, undef, undef, undef, undef, undef, undef, undef, undef, undef, undef, undef, undef, undef, undef, undef, undef, undef, undef, undef, undef, undef, undef, undef, undef, undef, undef, undef, undef, undef, undef, undef, undef, undef, undef, undef, undef, undef, undef, undef, undef, undef, undef, undef, undef, undef, undef, undef, undef, undef, undef, undef, undef, undef, undef, undef, undef, undef, undef, undef, undef, undef, undef, undef, undef, undef, undef, undef, undef, .slice a108 n108 c108, .int .i64 x109, .int .i64 x110, undef, undef, undef, undef, undef, undef, undef, undef, undef, undef, undef, undef, undef, undef, undef, undef, undef], []⟩ w
def trees_right.re34 (R : Value → World → Prop) (b5 : Bool) (x6 : Int) (a108 : Option Addr) (n108 : Nat) (c108 : Nat) (x109 : Int) (x110 : Int) (w : World) : Prop := ∃ k, trees_right.rl34 R k b5 x6 a108 n108 c108 x109 x110 w
def trees_right.l34 (R : Value → World → Prop) : Nat → Bool → Int → (Option Addr) → Nat → Nat → Int → Int → World → Prop
  | 0, _, _, _, _, _, _, _, _ => False
  | k + 1, b5, x6, a108, n108, c108, x109, x110, w => trees_right.g34 R (trees_right.l34 R k) b5 x6 a108 n108 c108 x109 x110 w
def trees_right.e34 (R : Value → World → Prop) (b5 : Bool) (x6 : Int) (a108 : Option Addr) (n108 : Nat) (c108 : Nat) (x109 : Int) (x110 : Int) (w : World) : Prop := ∃ k, trees_right.l34 R k b5 x6 a108 n108 c108 x109 x110 w
theorem trees_right.s34 (R : Value → World → Prop) (k : Nat) (b5 : Bool) (x6 : Int) (a108 : Option Addr) (n108 : Nat) (c108 : Nat) (x109 : Int) (x110 : Int) (w : World) : trees_right.rl34 R (k + 1) b5 x6 a108 n108 c108 x109 x110 w = ∀ _ : Nat → Value, trees_right.g34 R (trees_right.rl34 R k) b5 x6 a108 n108 c108 x109 x110 w := by kernel_rfl
theorem trees_right.lq34 (R : Value → World → Prop) : ∀ k, trees_right.l34 R k = trees_right.rl34 R k
  | 0 => by funext b5 x6 a108 n108 c108 x109 x110 w; first | rfl | kernel_rfl
  | k + 1 => by
    funext b5 x6 a108 n108 c108 x109 x110 w
    rw [trees_right.s34, forall_const]
    unfold trees_right.l34
    have ih := trees_right.lq34 R k
    rw [ih]
    all_goals rfl
theorem trees_right.eq34 (R : Value → World → Prop) : trees_right.e34 R = trees_right.re34 R := by
  funext b5 x6 a108 n108 c108 x109 x110 w
  unfold trees_right.e34 trees_right.re34
  simp only [trees_right.lq34 R]
def trees_right (R : Value → World → Prop) (x0_0 : Int) (x0_1 : Int) (x0_2 : Int) (f0_3 : Nat) (a0_4 : Option Addr) (n0_4 : Nat) (c0_4 : Nat) (x0_5 : Int) (x0_6 : Int) (x0_7 : Int) (x1 : Int) (w : World) : Prop := trees_right.g0 R (trees_right.e34 R) x0_0 x0_1 x0_2 f0_3 a0_4 n0_4 c0_4 x0_5 x0_6 x0_7 x1 w
theorem trees_right.root0 (R : Value → World → Prop) (x0_0 : Int) (x0_1 : Int) (x0_2 : Int) (f0_3 : Nat) (a0_4 : Option Addr) (n0_4 : Nat) (c0_4 : Nat) (x0_5 : Int) (x0_6 : Int) (x0_7 : Int) (x1 : Int) (w : World) : fnN Go.Proofs.Try.prog Go.Proofs.Try.f52 trees_right.an #[.agg #[.int .u8 x0_0, .int .i64 x0_1, .int .i64 x0_2, .float .f64 f0_3, .slice a0_4 n0_4 c0_4, .int .u8 x0_5, .int .i64 x0_6, .int .i64 x0_7], .int .i64 x1] w R = trees_right.g0 R (trees_right.re34 R) x0_0 x0_1 x0_2 f0_3 a0_4 n0_4 c0_4 x0_5 x0_6 x0_7 x1 w := by kernel_rfl
theorem trees_right.calls {R : Value → World → Prop} {x0_0 : Int} {x0_1 : Int} {x0_2 : Int} {f0_3 : Nat} {a0_4 : Option Addr} {n0_4 : Nat} {c0_4 : Nat} {x0_5 : Int} {x0_6 : Int} {x0_7 : Int} {x1 : Int} {w : World} (h : trees_right R x0_0 x0_1 x0_2 f0_3 a0_4 n0_4 c0_4 x0_5 x0_6 x0_7 x1 w) : Go.E.CallsD Go.Proofs.Try.prog 52 #[.agg #[.int .u8 x0_0, .int .i64 x0_1, .int .i64 x0_2, .float .f64 f0_3, .slice a0_4 n0_4 c0_4, .int .u8 x0_5, .int .i64 x0_6, .int .i64 x0_7], .int .i64 x1] w R := by
  refine callsD_of (n := trees_right.an) M_follows M_sizes Go.Proofs.Try.func52 (by rfl) ?_
  rw [trees_right.root0]
  unfold trees_right at h
  rw [trees_right.eq34 R] at h
  exact h
-- thicket/thicketref07.node
def thicketref07_node.an : An := An.nil
def thicketref07_node.g0 (R : Value → World → Prop) (x0_0 : Int) (x0_1 : Int) (x0_2 : Int) (f0_3 : Nat) (a0_4 : Option Addr) (n0_4 : Nat) (c0_4 : Nat) (x0_5 : Int) (x0_6 : Int) (x0_7 : Int) (x1 : Int) (w : World) : Prop :=
 nw (w.alloc (.cells #[.int .u8 x0_0, .int .i64 x0_1, .int .i64 x0_2, .float .f64 f0_3, .slice a0_4 n0_4 c0_4, .int .u8 x0_5, .int .i64 x0_6, .int .i64 x0_7] 27)) fun w21 =>
 ∃ yx_22 : Int, w21.cell? ((na w).add 0) = some (.int .u8 yx_22) ∧
 (onBool (yx_22 == 1)
 (∃ yx_23 : Int, w21.cell? ((na w).add 2) = some (.int .i64 yx_23) ∧
 (onBool (yx_23 == 0)
 (∃ yf_24 : Nat, w21.cell? ((na w).add 3) = some (.float .f64 yf_24) ∧
 (∃ yx_25 : Int, RunV Go.Proofs.Try.prog (callFunc 63 #[.float .f64 yf_24]) w21 (.int .u64 yx_25) ∧
 (onBool (yx_25 == 0)
 (∃ ya_26 : Option Addr, ∃ yn_26 : Nat, ∃ yc_26 : Nat, w21.cell? ((na w).add 4) = some (.slice ya_26 yn_26 yc_26) ∧
 (onBool ((yn_26 : Int) == 0)
 (∃ yx_27 : Int, w21.cell? ((na w).add 5) = some (.int .u8 yx_27) ∧
 (onBool (yx_27 == 0)
 (∃ yx_28 : Int, w21.cell? ((na w).add 6) = some (.int .i64 yx_28) ∧
 (onBool (yx_28 == 0)
 (∃ yx_29 : Int, w21.cell? ((na w).add 7) = some (.int .i64 yx_29) ∧
 (R (.bool (yx_29 == 0)) w21))
 (R (.bool false) w21)))
 (R (.bool false) w21)))
 (R (.bool false) w21)))
 (R (.bool false) w21))))
 (R (.bool false) w21)))
 (onBool (yx_22 == 2)
 (∃ yf_30 : Nat, w21.cell? ((na w).add 3) = some (.float .f64 yf_30) ∧
 (Go.E.CallsD Go.Proofs.Try.prog 46 #[.float .f64 yf_30] w21 fun yv31 u32 =>
 ∃ yb_33 : Bool, yv31 = .bool yb_33 ∧
 (onBool yb_33
 (R (.bool false) u32)
 (∃ ya_34 : Option Addr, ∃ yn_34 : Nat, ∃ yc_34 : Nat, u32.cell? ((na w).add 4) = some (.slice ya_34 yn_34 yc_34) ∧
 (onBool (decide ((yn_34 : Int) > 0))
 (R (.bool false) u32)
 (∃ yx_35 : Int, u32.cell? ((na w).add 1) = some (.int .i64 yx_35) ∧
 (onBool (yx_35 == 0)
 (∃ yx_36 : Int, u32.cell? ((na w).add 2) = some (.int .i64 yx_36) ∧
 (onBool (decide (yx_36 ≥ 0))
 (∃ yx_37 : Int, u32.cell? ((na w).add 2) = some (.int .i64 yx_37) ∧
 (onBool (decide (yx_37 < 65536))
 (∃ yx_38 : Int, u32.cell? ((na w).add 5) = some (.int .u8 yx_38) ∧
 (onBool (yx_38 == 1)
 (∃ yx_39 : Int, u32.cell? ((na w).add 6) = some (.int .i64 yx_39) ∧
 (onBool (decide (yx_39 ≥ 1))
 (∃ yx_40 : Int, u32.cell? ((na w).add 6) = some (.int .i64 yx_40) ∧
 (onBool (decide (yx_40 < x1))
 (∃ yx_41 : Int, u32.cell? ((na w).add 7) = some (.int .i64 yx_41) ∧
 (onBool (decide (yx_41 ≥ 1))
 (∃ yx_42 : Int, u32.cell? ((na w).add 7) = some (.int .i64 yx_42) ∧
 (R (.bool (decide (yx_42 < x1))) u32))
 (R (.bool false) u32)))
 (R (.bool false) u32)))
 (R (.bool false) u32)))
 (∃ yx_43 : Int, u32.cell? ((na w).add 5) = some (.int .u8 yx_43) ∧
 (onBool (yx_43 == 2)
 (∃ yx_44 : Int, u32.cell? ((na w).add 6) = some (.int .i64 yx_44) ∧
 (onBool (decide (yx_44 ≥ 1))
 (∃ yx_45 : Int, u32.cell? ((na w).add 6) = some (.int .i64 yx_45) ∧
 (onBool (decide (yx_45 < x1))
 (∃ yx_46 : Int, u32.cell? ((na w).add 7) = some (.int .i64 yx_46) ∧
 (onBool (decide (yx_46 ≥ 1))
 (∃ yx_47 : Int, u32.cell? ((na w).add 7) = some (.int .i64 yx_47) ∧
 (R (.bool (decide (yx_47 < x1))) u32))
 (R (.bool false) u32)))
 (R (.bool false) u32)))
 (R (.bool false) u32)))
 (R (.bool false) u32)))))
 (R (.bool false) u32)))
 (R (.bool false) u32)))
 (R (.bool false) u32))))))))
 (onBool (yx_22 == 3)
 (∃ yf_48 : Nat, w21.cell? ((na w).add 3) = some (.float .f64 yf_48) ∧
 (∃ yx_49 : Int, RunV Go.Proofs.Try.prog (callFunc 63 #[.float .f64 yf_48]) w21 (.int .u64 yx_49) ∧
 (onBool (yx_49 != 0)
 (R (.bool false) w21)
 (∃ ya_50 : Option Addr, ∃ yn_50 : Nat, ∃ yc_50 : Nat, w21.cell? ((na w).add 4) = some (.slice ya_50 yn_50 yc_50) ∧
 (Go.E.CallsD Go.Proofs.Try.prog 69 #[.slice ya_50 yn_50 yc_50] w21 fun yv51 u52 =>
 ∃ yb_53 : Bool, yv51 = .bool yb_53 ∧
 (onBool (!yb_53)
 (R (.bool false) u52)
 (∃ yx_54 : Int, u52.cell? ((na w).add 1) = some (.int .i64 yx_54) ∧
 (onBool (yx_54 == 0)
 (∃ yx_55 : Int, u52.cell? ((na w).add 2) = some (.int .i64 yx_55) ∧
 (onBool (decide (yx_55 ≥ 0))
 (∃ yx_56 : Int, u52.cell? ((na w).add 2) = some (.int .i64 yx_56) ∧
 (onBool (decide (yx_56 < 65536))
 (∃ yx_57 : Int, u52.cell? ((na w).add 5) = some (.int .u8 yx_57) ∧
 (onBool (yx_57 == 1)
 (∃ yx_58 : Int, u52.cell? ((na w).add 6) = some (.int .i64 yx_58) ∧
 (onBool (decide (yx_58 ≥ 1))
 (∃ yx_59 : Int, u52.cell? ((na w).add 6) = some (.int .i64 yx_59) ∧
 (onBool (decide (yx_59 < x1))
 (∃ yx_60 : Int, u52.cell? ((na w).add 7) = some (.int .i64 yx_60) ∧
 (onBool (decide (yx_60 ≥ 1))
 (∃ yx_61 : Int, u52.cell? ((na w).add 7) = some (.int .i64 yx_61) ∧
 (R (.bool (decide (yx_61 < x1))) u52))
 (R (.bool false) u52)))
 (R (.bool false) u52)))
 (R (.bool false) u52)))
 (∃ yx_62 : Int, u52.cell? ((na w).add 5) = some (.int .u8 yx_62) ∧
 (onBool (yx_62 == 2)
 (∃ yx_63 : Int, u52.cell? ((na w).add 6) = some (.int .i64 yx_63) ∧
 (onBool (decide (yx_63 ≥ 1))
 (∃ yx_64 : Int, u52.cell? ((na w).add 6) = some (.int .i64 yx_64) ∧
 (onBool (decide (yx_64 < x1))
 (∃ yx_65 : Int, u52.cell? ((na w).add 7) = some (.int .i64 yx_65) ∧
 (onBool (decide (yx_65 ≥ 1))
 (∃ yx_66 : Int, u52.cell? ((na w).add 7) = some (.int .i64 yx_66) ∧
 (R (.bool (decide (yx_66 < x1))) u52))
 (R (.bool false) u52)))
 (R (.bool false) u52)))
 (R (.bool false) u52)))
 (R (.bool false) u52)))))
 (R (.bool false) u52)))
 (R (.bool false) u52)))
 (R (.bool false) u52)))))))))
 (R (.bool false) w21))))
def thicketref07_node (R : Value → World → Prop) (x0_0 : Int) (x0_1 : Int) (x0_2 : Int) (f0_3 : Nat) (a0_4 : Option Addr) (n0_4 : Nat) (c0_4 : Nat) (x0_5 : Int) (x0_6 : Int) (x0_7 : Int) (x1 : Int) (w : World) : Prop := thicketref07_node.g0 R x0_0 x0_1 x0_2 f0_3 a0_4 n0_4 c0_4 x0_5 x0_6 x0_7 x1 w
theorem thicketref07_node.root0 (R : Value → World → Prop) (x0_0 : Int) (x0_1 : Int) (x0_2 : Int) (f0_3 : Nat) (a0_4 : Option Addr) (n0_4 : Nat) (c0_4 : Nat) (x0_5 : Int) (x0_6 : Int) (x0_7 : Int) (x1 : Int) (w : World) : fnN Go.Proofs.Try.prog Go.Proofs.Try.f53 thicketref07_node.an #[.agg #[.int .u8 x0_0, .int .i64 x0_1, .int .i64 x0_2, .float .f64 f0_3, .slice a0_4 n0_4 c0_4, .int .u8 x0_5, .int .i64 x0_6, .int .i64 x0_7], .int .i64 x1] w R = thicketref07_node.g0 R x0_0 x0_1 x0_2 f0_3 a0_4 n0_4 c0_4 x0_5 x0_6 x0_7 x1 w := by kernel_rfl
theorem thicketref07_node.calls {R : Value → World → Prop} {x0_0 : Int} {x0_1 : Int} {x0_2 : Int} {f0_3 : Nat} {a0_4 : Option Addr} {n0_4 : Nat} {c0_4 : Nat} {x0_5 : Int} {x0_6 : Int} {x0_7 : Int} {x1 : Int} {w : World} (h : thicketref07_node R x0_0 x0_1 x0_2 f0_3 a0_4 n0_4 c0_4 x0_5 x0_6 x0_7 x1 w) : Go.E.CallsD Go.Proofs.Try.prog 53 #[.agg #[.int .u8 x0_0, .int .i64 x0_1, .int .i64 x0_2, .float .f64 f0_3, .slice a0_4 n0_4 c0_4, .int .u8 x0_5, .int .i64 x0_6, .int .i64 x0_7], .int .i64 x1] w R := by
  refine callsD_of (n := thicketref07_node.an) M_follows M_sizes Go.Proofs.Try.func53 (by rfl) ?_
  rw [thicketref07_node.root0]
  unfold thicketref07_node at h
  exact h
-- thicket/trees.those
def trees_those.an : An := An.nil
def trees_those.g0 (R : Value → World → Prop) (x0_0 : Int) (a0_1 : Option Addr) (n0_1 : Nat) (c0_1 : Nat) (b1 : Bool) (w : World) : Prop :=
 nw (w.alloc (.cells #[.int .i64 x0_0, .slice a0_1 n0_1 c0_1] 33)) fun w44 =>
 nw (w44.alloc (.cells #[.bool b1] 4)) fun w45 =>
 ∃ yx_46 : Int, w45.cell? ((na w).add 0) = some (.int .i64 yx_46) ∧
 (∃ ya_47 : Option Addr, ∃ yn_47 : Nat, ∃ yc_47 : Nat, w45.cell? ((na w).add 1) = some (.slice ya_47 yn_47 yc_47) ∧
 (Go.E.CallsD Go.Proofs.Try.prog 25 #[.agg #[.int .i64 yx_46, .slice ya_47 yn_47 yc_47]] w45 fun yv48 u49 =>
 ∃ yx_50_0 : Int, ∃ yx_50_1 : Int, yv48 = .tuple #[.int .i64 yx_50_0, .int .i64 yx_50_1] ∧
 (onBool (yx_50_0 != 0)
 (R (.tuple #[.slice none 0 0, .int .i64 yx_50_0]) u49)
 (nw (u49.alloc (.cells #[.slice none 0 0] 24)) fun w51 =>
 ∃ yx_52 : Int, w51.cell? ((na w).add 0) = some (.int .i64 yx_52) ∧
 (∃ ya_53 : Option Addr, ∃ yn_53 : Nat, ∃ yc_53 : Nat, w51.cell? ((na w).add 1) = some (.slice ya_53 yn_53 yc_53) ∧
 (Go.E.CallsD Go.Proofs.Try.prog 55 #[.agg #[.int .i64 yx_52, .slice ya_53 yn_53 yc_53]] w51 fun yv54 u55 =>
 ∃ yv_56 : Value, yv54 = yv_56 ∧
 (rangeI Go.Proofs.Try.prog yv_56 u55
 (fun x57 x58 u60 K59 =>
 ∃ ya_63 : Option Addr, ∃ yn_63 : Nat, ∃ yc_63 : Nat, u60.cell? ((na w).add 1) = some (.slice ya_63 yn_63 yc_63) ∧
 (optN ya_63 fun q64 =>
 chk ((0 : Int) ≤ x57 ∧ x57 < (yn_63 : Int))
 (∃ yx_65 : Int, u60.cell? ((q64.add (x57.toNat * 8)).add 0) = some (.int .u8 yx_65) ∧
 (∃ yx_66 : Int, u60.cell? ((q64.add (x57.toNat * 8)).add 1) = some (.int .i64 yx_66) ∧
 (∃ yx_67 : Int, u60.cell? ((q64.add (x57.toNat * 8)).add 2) = some (.int .i64 yx_67) ∧
 (∃ yf_68 : Nat, u60.cell? ((q64.add (x57.toNat * 8)).add 3) = some (.float .f64 yf_68) ∧
 (∃ ya_69 : Option Addr, ∃ yn_69 : Nat, ∃ yc_69 : Nat, u60.cell? ((q64.add (x57.toNat * 8)).add 4) = some (.slice ya_69 yn_69 yc_69) ∧
 (∃ yx_70 : Int, u60.cell? ((q64.add (x57.toNat * 8)).add 5) = some (.int .u8 yx_70) ∧
 (∃ yx_71 : Int, u60.cell? ((q64.add (x57.toNat * 8)).add 6) = some (.int .i64 yx_71) ∧
 (∃ yx_72 : Int, u60.cell? ((q64.add (x57.toNat * 8)).add 7) = some (.int .i64 yx_72) ∧
 (∃ yb_73 : Bool, (∀ u74 : World, Below u60.heap.size u60 u74 → Go.E.CallsD Go.Proofs.Try.prog 47 #[.agg #[.int .u8 yx_65, .int .i64 yx_66, .int .i64 yx_67, .float .f64 yf_68, .slice ya_69 yn_69 yc_69, .int .u8 yx_70, .int .i64 yx_71, .int .i64 yx_72]] u74 fun yv75 u76 => yv75 = .bool yb_73 ∧ Below u60.heap.size u60 u76) ∧
 (∃ yb_77 : Bool, u60.cell? (na w44) = some (.bool yb_77) ∧
 (∀ u78 : World, Below u60.heap.size u60 u78 →
 onBool (yb_73 == yb_77)
 (∃ ya_79 : Option Addr, ∃ yn_79 : Nat, ∃ yc_79 : Nat, u78.cell? (na u49) = some (.slice ya_79 yn_79 yc_79) ∧
 (nw (u78.alloc (.cells #[.int .i64 x57] 3)) fun w80 =>
 rawN Go.Proofs.Try.prog (Builtin.append_ #[24, 24] 24 #[.slice ya_79 yn_79 yc_79, .slice (some (na u78)) 1 1]) w80 fun yv81 u82 =>
 ∃ ya_83 : Option Addr, ∃ yn_83 : Nat, ∃ yc_83 : Nat, yv81 = .slice ya_83 yn_83 yc_83 ∧
 (okSt u82 ((na u49).add 0) ∧
 (nw (u82.setCell ((na u49).add 0) (.slice ya_83 yn_83 yc_83)) fun w84 =>
 K59 w84))))
 (K59 u78))))))))))))))
 (fun D61 u62 =>
 ∃ ya_85 : Option Addr, ∃ yn_85 : Nat, ∃ yc_85 : Nat, u62.cell? (na u49) = some (.slice ya_85 yn_85 yc_85) ∧
 (u62.heap[D61]? = some (.deferred (some [])) ∧
 nw (u62.putObj D61 (.deferred none)) fun w86 =>
 R (.tuple #[.slice ya_85 yn_85 yc_85, .int .i64 0]) w86)))))))))
def trees_those (R : Value → World → Prop) (x0_0 : Int) (a0_1 : Option Addr) (n0_1 : Nat) (c0_1 : Nat) (b1 : Bool) (w : World) : Prop := trees_those.g0 R x0_0 a0_1 n0_1 c0_1 b1 w
theorem trees_those.root0 (R : Value → World → Prop) (x0_0 : Int) (a0_1 : Option Addr) (n0_1 : Nat) (c0_1 : Nat) (b1 : Bool) (w : World) : fnN Go.Proofs.Try.prog Go.Proofs.Try.f54 trees_those.an #[.agg #[.int .i64 x0_0, .slice a0_1 n0_1 c0_1], .bool b1] w R = trees_those.g0 R x0_0 a0_1 n0_1 c0_1 b1 w := by kernel_rfl
theorem trees_those.calls {R : Value → World → Prop} {x0_0 : Int} {a0_1 : Option Addr} {n0_1 : Nat} {c0_1 : Nat} {b1 : Bool} {w : World} (h : trees_those R x0_0 a0_1 n0_1 c0_1 b1 w) : Go.E.CallsD Go.Proofs.Try.prog 54 #[.agg #[.int .i64 x0_0, .slice a0_1 n0_1 c0_1], .bool b1] w R := by
  refine callsD_of (n := trees_those.an) M_follows M_sizes Go.Proofs.Try.func54 (by rfl) ?_
  rw [trees_those.root0]
  unfold trees_those at h
  exact h
-- thicket/trees.all
def trees_all.an : An := An.nil
def trees_all.g0 (R : Value → World → Prop) (x0_0 : Int) (a0_1 : Option Addr) (n0_1 : Nat) (c0_1 : Nat) (w : World) : Prop :=
 nw (w.alloc (.cells #[.int .i64 x0_0, .slice a0_1 n0_1 c0_1] 33)) fun w2 =>
 R (.func (.func 70) #[] #[.pointer (some (na w))]) w2
def trees_all (R : Value → World → Prop) (x0_0 : Int) (a0_1 : Option Addr) (n0_1 : Nat) (c0_1 : Nat) (w : World) : Prop := trees_all.g0 R x0_0 a0_1 n0_1 c0_1 w
theorem trees_all.root0 (R : Value → World → Prop) (x0_0 : Int) (a0_1 : Option Addr) (n0_1 : Nat) (c0_1 : Nat) (w : World) : fnN Go.Proofs.Try.prog Go.Proofs.Try.f55 trees_all.an #[.agg #[.int .i64 x0_0, .slice a0_1 n0_1 c0_1]] w R = trees_all.g0 R x0_0 a0_1 n0_1 c0_1 w := by kernel_rfl
theorem trees_all.calls {R : Value → World → Prop} {x0_0 : Int} {a0_1 : Option Addr} {n0_1 : Nat} {c0_1 : Nat} {w : World} (h : trees_all R x0_0 a0_1 n0_1 c0_1 w) : Go.E.CallsD Go.Proofs.Try.prog 55 #[.agg #[.int .i64 x0_0, .slice a0_1 n0_1 c0_1]] w R := by
  refine callsD_of (n := trees_all.an) M_follows M_sizes Go.Proofs.Try.func55 (by rfl) ?_
  rw [trees_all.root0]
  unfold trees_all at h
  exact h
-- thicket/thicketref07.kind
def thicketref07_kind.an : An := (.mk none .nil (.mk none .nil (.mk none .nil (.mk none .nil (.mk none (.mk none .nil (.mk none (.mk (some [1, 2, 8, 20, 21, 22]) .nil .nil) .nil)) .nil)))))
def thicketref07_kind.g0 (R : Value → World → Prop) (e18 : Bool → (Option Addr) → (Option Addr) → Nat → Nat → (Option Addr) → Nat → Nat → Int → Int → World → Prop) (x0_0 : Int) (a0_1 : Option Addr) (n0_1 : Nat) (c0_1 : Nat) (b1 : Bool) (w : World) : Prop :=
 nw (w.alloc (.cells #[.int .i64 x0_0, .slice a0_1 n0_1 c0_1] 33)) fun w23 =>
 ∃ yx_24 : Int, w23.cell? ((na w).add 0) = some (.int .i64 yx_24) ∧
 (∃ ya_25 : Option Addr, ∃ yn_25 : Nat, ∃ yc_25 : Nat, w23.cell? ((na w).add 1) = some (.slice ya_25 yn_25 yc_25) ∧
 (Go.E.CallsD Go.Proofs.Try.prog 26 #[.agg #[.int .i64 yx_24, .slice ya_25 yn_25 yc_25]] w23 fun yv26 u27 =>
 ∃ yx_28_0 : Int, ∃ yx_28_1 : Int, yv26 = .tuple #[.int .i64 yx_28_0, .int .i64 yx_28_1] ∧
 (onBool (yx_28_0 != 0)
 (R (.tuple #[.slice none 0 0, .int .i64 yx_28_0]) u27)
 (∃ yx_29 : Int, u27.cell? ((na w).add 0) = some (.int .i64 yx_29) ∧
 (∃ ya_30 : Option Addr, ∃ yn_30 : Nat, ∃ yc_30 : Nat, u27.cell? ((na w).add 1) = some (.slice ya_30 yn_30 yc_30) ∧
 (Go.E.CallsD Go.Proofs.Try.prog 57 #[.agg #[.int .i64 yx_29, .slice ya_30 yn_30 yc_30]] u27 fun yv31 u32 =>
 ∃ ya_33 : Option Addr, ∃ yn_33 : Nat, ∃ yc_33 : Nat, yv31 = .slice ya_33 yn_33 yc_33 ∧
 (e18 b1 (some (na w)) none 0 0 ya_33 yn_33 yc_33 (yn_33 : Int) 0 u32)))))))
def thicketref07_kind.g18 (R : Value → World → Prop) (b18 : Bool → (Option Addr) → (Option Addr) → Nat → Nat → (Option Addr) → Nat → Nat → Int → Int → World → Prop) (b1 : Bool) (p2 : Option Addr) (a8 : Option Addr) (n8 : Nat) (c8 : Nat) (a20 : Option Addr) (n20 : Nat) (c20 : Nat) (x21 : Int) (x22 : Int) (w : World) : Prop :=
 onBool (decide (x22 < x21))
 (optN a20 fun q34 =>
 chk ((0 : Int) ≤ x22 ∧ x22 < (n20 : Int))
 (∃ yx_35 : Int, w.cell? (q34.add (x22.toNat * 1)) = some (.int .i64 yx_35) ∧
 (optN p2 fun q36 =>
 ∃ ya_37 : Option Addr, ∃ yn_37 : Nat, ∃ yc_37 : Nat, w.cell? (q36.add 1) = some (.slice ya_37 yn_37 yc_37) ∧
 (optN ya_37 fun q38 =>
 chk ((0 : Int) ≤ yx_35 ∧ yx_35 < (yn_37 : Int))
 (∃ yx_39 : Int, w.cell? ((q38.add (yx_35.toNat * 8)).add 0) = some (.int .u8 yx_39) ∧
 (onBool ((yx_39 == 1) == b1)
 (nw (w.alloc (.cells #[.int .i64 yx_35] 3)) fun w40 =>
 rawN Go.Proofs.Try.prog (Builtin.append_ #[24, 24] 24 #[.slice a8 n8 c8, .slice (some (na w)) 1 1]) w40 fun yv41 u42 =>
 ∃ ya_43 : Option Addr, ∃ yn_43 : Nat, ∃ yc_43 : Nat, yv41 = .slice ya_43 yn_43 yc_43 ∧
 (nv (IntKind.i64.wrap (x22 + 1)) fun t44 =>
 b18 b1 p2 ya_43 yn_43 yc_43 a20 n20 c20 x21 t44 u42))
 (nv (IntKind.i64.wrap (x22 + 1)) fun t45 =>
 b18 b1 p2 a8 n8 c8 a20 n20 c20 x21 t45 w)))))))
 (R (.tuple #[.slice a8 n8 c8, .int .i64 0]) w)
def thicketref07_kind.q2 (R : Value → World → Prop) : Exit → Act → World → Prop := (fin Go.Proofs.Try.prog Go.Proofs.Try.f56 R)
def thicketref07_kind.q4 (R : Value → World → Prop) : Exit → Act → World → Prop := (thicketref07_kind.q2 R)
def thicketref07_kind.q12 (R : Value → World → Prop) : Exit → Act → World → Prop := (thicketref07_kind.q4 R)
def thicketref07_kind.q14 (R : Value → World → Prop) : Exit → Act → World → Prop := (thicketref07_kind.q12 R)
def thicketref07_kind.q15 (R : Value → World → Prop) : Exit → Act → World → Prop := Exit.then (startN none (codeN Go.Proofs.Try.prog (sub (codeOf Go.Proofs.Try.f56) [1, 1, 1, 1, 1]) (nsub thicketref07_kind.an [1, 1, 1, 1, 1]) (thicketref07_kind.q14 R))) (thicketref07_kind.q14 R)
def thicketref07_kind.q17 (R : Value → World → Prop) : Exit → Act → World → Prop := (thicketref07_kind.q15 R)
def thicketref07_kind.q18 (R : Value → World → Prop) : Exit → Act → World → Prop := Exit.inBlock 0 (thicketref07_kind.q17 R)
def thicketref07_kind.rl18 (R : Value → World → Prop) (k : Nat) (b1 : Bool) (p2 : Option Addr) (a8 : Option Addr) (n8 : Nat) (c8 : Nat) (a20 : Option Addr) (n20 : Nat) (c20 : Nat) (x21 : Int) (x22 : Int) (w : World) : Prop := loopN [1, 2, 8, 20, 21, 22] (codeN Go.Proofs.Try.prog (sub (codeOf Go.Proofs.Try.f56) [1, 1, 1, 1, 0, 1, 0, 0]) (nsub thicketref07_kind.an [1, 1, 1, 1, 0, 1, 0, 0])) (thicketref07_kind.q18 R) k ⟨#[undef, .bool b1, .pointer p2, undef, undef, undef, undef, undef, .slice a8 n8 c8, undef, undef, undef, undef, undef, undef, undef, undef, undef, undef, undef, .slice a20 n20 c20, .int .i64 x21, .int .i64 x22, undef, undef, undef, undef, undef, undef, undef, undef, undef, undef, undef, undef, undef, undef, undef, undef, undef, undef], []⟩ w
def thicketref07_kind.re18 (R : Value → World → Prop) (b1 : Bool) (p2 : Option Addr) (a8 : Option Addr) (n8 : Nat) (c8 : Nat) (a20 : Option Addr) (n20 : Nat) (c20 : Nat) (x21 : Int) (x22 : Int) (w : World) : Prop := ∃ k, thicketref07_kind.rl18 R k b1 p2 a8 n8 c8 a20 n20 c20 x21 x22 w
def thicketref07_kind.l18 (R : Value → World → Prop) : Nat → Bool → (Option Addr) → (Option Addr) → Nat → Nat → (Option Addr) → Nat → Nat → Int → Int → World → Prop
  | 0, _, _, _, _, _, _, _, _, _, _, _ => False
  | k + 1, b1, p2, a8, n8, c8, a20, n20, c20, x21, x22, w => thicketref07_kind.g18 R (thicketref07_kind.l18 R k) b1 p2 a8 n8 c8 a20 n20 c20 x21 x22 w
def thicketref07_kind.e18 (R : Value → World → Prop) (b1 : Bool) (p2 : Option Addr) (a8 : Option Addr) (n8 : Nat) (c8 : Nat) (a20 : Option Addr) (n20 : Nat) (c20 : Nat) (x21 : Int) (x22 : Int) (w : World) : Prop := ∃ k, thicketref07_kind.l18 R k b1 p2 a8 n8 c8 a20 n20 c20 x21 x22 w
theorem thicketref07_kind.s18 (R : Value → World → Prop) (k : Nat) (b1 : Bool) (p2 : Option Addr) (a8 : Option Addr) (n8 : Nat) (c8 : Nat) (a20 : Option Addr) (n20 : Nat) (c20 : Nat) (x21 : Int) (x22 : Int) (w : World) : thicketref07_kind.rl18 R (k + 1) b1 p2 a8 n8 c8 a20 n20 c20 x21 x22 w = ∀ _ : Nat → Value, thicketref07_kind.g18 R (thicketref07_kind.rl18 R k) b1 p2 a8 n8 c8 a20 n20 c20 x21 x22 w := by kernel_rfl
theorem thicketref07_kind.lq18 (R : Value → World → Prop) : ∀ k, thicketref07_kind.l18 R k = thicketref07_kind.rl18 R k
  | 0 => by funext b1 p2 a8 n8 c8 a20 n20 c20 x21 x22 w; first | rfl | kernel_rfl
  | k + 1 => by
    funext b1 p2 a8 n8 c8 a20 n20 c20 x21 x22 w
    rw [thicketref07_kind.s18, forall_const]
    unfold thicketref07_kind.l18
    have ih := thicketref07_kind.lq18 R k
    rw [ih]
    all_goals rfl
theorem thicketref07_kind.eq18 (R : Value → World → Prop) : thicketref07_kind.e18 R = thicketref07_kind.re18 R := by
  funext b1 p2 a8 n8 c8 a20 n20 c20 x21 x22 w
  unfold thicketref07_kind.e18 thicketref07_kind.re18
  simp only [thicketref07_kind.lq18 R]
def thicketref07_kind (R : Value → World → Prop) (x0_0 : Int) (a0_1 : Option Addr) (n0_1 : Nat) (c0_1 : Nat) (b1 : Bool) (w : World) : Prop := thicketref07_kind.g0 R (thicketref07_kind.e18 R) x0_0 a0_1 n0_1 c0_1 b1 w
theorem thicketref07_kind.root0 (R : Value → World → Prop) (x0_0 : Int) (a0_1 : Option Addr) (n0_1 : Nat) (c0_1 : Nat) (b1 : Bool) (w : World) : fnN Go.Proofs.Try.prog Go.Proofs.Try.f56 thicketref07_kind.an #[.agg #[.int .i64 x0_0, .slice a0_1 n0_1 c0_1], .bool b1] w R = thicketref07_kind.g0 R (thicketref07_kind.re18 R) x0_0 a0_1 n0_1 c0_1 b1 w := by kernel_rfl
theorem thicketref07_kind.calls {R : Value → World → Prop} {x0_0 : Int} {a0_1 : Option Addr} {n0_1 : Nat} {c0_1 : Nat} {b1 : Bool} {w : World} (h : thicketref07_kind R x0_0 a0_1 n0_1 c0_1 b1 w) : Go.E.CallsD Go.Proofs.Try.prog 56 #[.agg #[.int .i64 x0_0, .slice a0_1 n0_1 c0_1], .bool b1] w R := by
  refine callsD_of (n := thicketref07_kind.an) M_follows M_sizes Go.Proofs.Try.func56 (by rfl) ?_
  rw [thicketref07_kind.root0]
  unfold thicketref07_kind at h
  rw [thicketref07_kind.eq18 R] at h
  exact h
-- thicket/thicketref07.Order
def thicketref07_Order.an : An := (.mk none .nil (.mk none .nil (.mk none .nil (.mk none (.mk none (.mk (some [1, 3, 4]) .nil .nil) .nil) .nil))))
def thicketref07_Order.g0 (R : Value → World → Prop) (e8 : (Option Addr) → (Option Addr) → Nat → Nat → (Option Addr) → Nat → Nat → World → Prop) (x0_0 : Int) (a0_1 : Option Addr) (n0_1 : Nat) (c0_1 : Nat) (w : World) : Prop :=
 nw (w.alloc (.cells #[.int .i64 x0_0, .slice a0_1 n0_1 c0_1] 33)) fun w38 =>
 nw (w38.alloc (.cells #[.int .i64 0] 3)) fun w39 =>
 e8 (some (na w)) none 0 0 (some (na w38)) 1 1 w39
def thicketref07_Order.g8 (R : Value → World → Prop) (b8 : (Option Addr) → (Option Addr) → Nat → Nat → (Option Addr) → Nat → Nat → World → Prop) (p1 : Option Addr) (a3 : Option Addr) (n3 : Nat) (c3 : Nat) (a4 : Option Addr) (n4 : Nat) (c4 : Nat) (w : World) : Prop :=
 onBool (decide ((n4 : Int) > 0))
 (nv (IntKind.i64.wrap ((n4 : Int) - 1)) fun t40 =>
 optN a4 fun q41 =>
 chk ((0 : Int) ≤ t40 ∧ t40 < (n4 : Int))
 (∃ yx_42 : Int, w.cell? (q41.add (t40.toNat * 1)) = some (.int .i64 yx_42) ∧
 (nv (IntKind.i64.wrap ((n4 : Int) - 1)) fun t43 =>
 chk ((0 : Int) ≤ t43 ∧ t43 ≤ (c4 : Int))
 (nw (w.alloc (.cells #[.int .i64 yx_42] 3)) fun w44 =>
 rawN Go.Proofs.Try.prog (Builtin.append_ #[24, 24] 24 #[.slice a3 n3 c3, .slice (some (na w)) 1 1]) w44 fun yv45 u46 =>
 ∃ ya_47 : Option Addr, ∃ yn_47 : Nat, ∃ yc_47 : Nat, yv45 = .slice ya_47 yn_47 yc_47 ∧
 (optN p1 fun q48 =>
 ∃ ya_49 : Option Addr, ∃ yn_49 : Nat, ∃ yc_49 : Nat, u46.cell? (q48.add 1) = some (.slice ya_49 yn_49 yc_49) ∧
 (optN ya_49 fun q50 =>
 chk ((0 : Int) ≤ yx_42 ∧ yx_42 < (yn_49 : Int))
 (∃ yx_51 : Int, u46.cell? ((q50.add (yx_42.toNat * 8)).add 0) = some (.int .u8 yx_51) ∧
 (∃ yx_52 : Int, u46.cell? ((q50.add (yx_42.toNat * 8)).add 1) = some (.int .i64 yx_52) ∧
 (∃ yx_53 : Int, u46.cell? ((q50.add (yx_42.toNat * 8)).add 2) = some (.int .i64 yx_53) ∧
 (∃ yf_54 : Nat, u46.cell? ((q50.add (yx_42.toNat * 8)).add 3) = some (.float .f64 yf_54) ∧
 (∃ ya_55 : Option Addr, ∃ yn_55 : Nat, ∃ yc_55 : Nat, u46.cell? ((q50.add (yx_42.toNat * 8)).add 4) = some (.slice ya_55 yn_55 yc_55) ∧
 (∃ yx_56 : Int, u46.cell? ((q50.add (yx_42.toNat * 8)).add 5) = some (.int .u8 yx_56) ∧
 (∃ yx_57 : Int, u46.cell? ((q50.add (yx_42.toNat * 8)).add 6) = some (.int .i64 yx_57) ∧
 (∃ yx_58 : Int, u46.cell? ((q50.add (yx_42.toNat * 8)).add 7) = some (.int .i64 yx_58) ∧
 (nw (u46.alloc (.cells #[.int .u8 0, .int .i64 0, .int .i64 0, .float .f64 0, .slice none 0 0, .int .u8 0, .int .i64 0, .int .i64 0] 27)) fun w59 =>
 okSt w59 ((na u46).add 0) ∧
 (nw (w59.setCell ((na u46).add 0) (.int .u8 yx_51)) fun w60 =>
 okSt w60 ((na u46).add 1) ∧
 (nw (w60.setCell ((na u46).add 1) (.int .i64 yx_52)) fun w61 =>
 okSt w61 ((na u46).add 2) ∧
 (nw (w61.setCell ((na u46).add 2) (.int .i64 yx_53)) fun w62 =>
 okSt w62 ((na u46).add 3) ∧
 (nw (w62.setCell ((na u46).add 3) (.float .f64 yf_54)) fun w63 =>
 okSt w63 ((na u46).add 4) ∧
 (nw (w63.setCell ((na u46).add 4) (.slice ya_55 yn_55 yc_55)) fun w64 =>
 okSt w64 ((na u46).add 5) ∧
 (nw (w64.setCell ((na u46).add 5) (.int .u8 yx_56)) fun w65 =>
 okSt w65 ((na u46).add 6) ∧
 (nw (w65.setCell ((na u46).add 6) (.int .i64 yx_57)) fun w66 =>
 okSt w66 ((na u46).add 7) ∧
 (nw (w66.setCell ((na u46).add 7) (.int .i64 yx_58)) fun w67 =>
 ∃ yx_68 : Int, w67.cell? ((na u46).add 0) = some (.int .u8 yx_68) ∧
 (onBool (yx_68 != 1)
 (∃ yx_69 : Int, w67.cell? ((na u46).add 7) = some (.int .i64 yx_69) ∧
 (∃ yx_70 : Int, w67.cell? ((na u46).add 6) = some (.int .i64 yx_70) ∧
 (nw (w67.alloc (.cells #[.int .i64 yx_69, .int .i64 yx_70] 3)) fun w71 =>
 rawN Go.Proofs.Try.prog (Builtin.append_ #[24, 24] 24 #[.slice (slA a4 c4 0 1) t43.toNat c4, .slice (some (na w67)) 2 2]) w71 fun yv72 u73 =>
 ∃ ya_74 : Option Addr, ∃ yn_74 : Nat, ∃ yc_74 : Nat, yv72 = .slice ya_74 yn_74 yc_74 ∧
 (b8 p1 ya_47 yn_47 yc_47 ya_74 yn_74 yc_74 u73))))
 (b8 p1 ya_47 yn_47 yc_47 (slA a4 c4 0 1) t43.toNat c4 w67)))))))))))))))))))))))))
 (R (.slice a3 n3 c3) w)
def thicketref07_Order.q2 (R : Value → World → Prop) : Exit → Act → World → Prop := (fin Go.Proofs.Try.prog Go.Proofs.Try.f57 R)
def thicketref07_Order.q4 (R : Value → World → Prop) : Exit → Act → World → Prop := (thicketref07_Order.q2 R)
def thicketref07_Order.q6 (R : Value → World → Prop) : Exit → Act → World → Prop := (thicketref07_Order.q4 R)
def thicketref07_Order.q7 (R : Value → World → Prop) : Exit → Act → World → Prop := Exit.then (startN none (codeN Go.Proofs.Try.prog (sub (codeOf Go.Proofs.Try.f57) [1, 1, 1, 1]) (nsub thicketref07_Order.an [1, 1, 1, 1]) (thicketref07_Order.q6 R))) (thicketref07_Order.q6 R)
def thicketref07_Order.q8 (R : Value → World → Prop) : Exit → Act → World → Prop := Exit.inBlock 0 (thicketref07_Order.q7 R)
def thicketref07_Order.rl8 (R : Value → World → Prop) (k : Nat) (p1 : Option Addr) (a3 : Option Addr) (n3 : Nat) (c3 : Nat) (a4 : Option Addr) (n4 : Nat) (c4 : Nat) (w : World) : Prop := loopN [1, 3, 4] (codeN Go.Proofs.Try.prog (sub (codeOf Go.Proofs.Try.f57) [1, 1, 1, 0, 0, 0]) (nsub thicketref07_Order.an [1, 1, 1, 0, 0, 0])) (thicketref07_Order.q8 R) k ⟨#[undef, .pointer p1, undef, .slice a3 n3 c3, .slice a4 n4 c4, undef, undef, undef, undef, undef, undef, undef, undef, undef, undef, undef, undef, undef, undef, undef, undef, undef, undef, undef, undef, undef, undef, undef, undef, undef, undef, undef, undef, undef, undef, undef, undef, undef, undef, undef, undef, undef], []⟩ w
def thicketref07_Order.re8 (R : Value → World → Prop) (p1 : Option Addr) (a3 : Option Addr) (n3 : Nat) (c3 : Nat) (a4 : Option Addr) (n4 : Nat) (c4 : Nat) (w : World) : Prop := ∃ k, thicketref07_Order.rl8 R k p1 a3 n3 c3 a4 n4 c4 w
def thicketref07_Order.l8 (R : Value → World → Prop) : Nat → (Option Addr) → (Option Addr) → Nat → Nat → (Option Addr) → Nat → Nat → World → Prop
  | 0, _, _, _, _, _, _, _, _ => False
  | k + 1, p1, a3, n3, c3, a4, n4, c4, w => thicketref07_Order.g8 R (thicketref07_Order.l8 R k) p1 a3 n3 c3 a4 n4 c4 w
def thicketref07_Order.e8 (R : Value → World → Prop) (p1 : Option Addr) (a3 : Option Addr) (n3 : Nat) (c3 : Nat) (a4 : Option Addr) (n4 : Nat) (c4 : Nat) (w : World) : Prop := ∃ k, thicketref07_Order.l8 R k p1 a3 n3 c3 a4 n4 c4 w
theorem thicketref07_Order.s8 (R : Value → World → Prop) (k : Nat) (p1 : Option Addr) (a3 : Option Addr) (n3 : Nat) (c3 : Nat) (a4 : Option Addr) (n4 : Nat) (c4 : Nat) (w : World) : thicketref07_Order.rl8 R (k + 1) p1 a3 n3 c3 a4 n4 c4 w = ∀ _ : Nat → Value, thicketref07_Order.g8 R (thicketref07_Order.rl8 R k) p1 a3 n3 c3 a4 n4 c4 w := by kernel_rfl
theorem thicketref07_Order.lq8 (R : Value → World → Prop) : ∀ k, thicketref07_Order.l8 R k = thicketref07_Order.rl8 R k
  | 0 => by funext p1 a3 n3 c3 a4 n4 c4 w; first | rfl | kernel_rfl
  | k + 1 => by
    funext p1 a3 n3 c3 a4 n4 c4 w
    rw [thicketref07_Order.s8, forall_const]
    unfold thicketref07_Order.l8
    have ih := thicketref07_Order.lq8 R k
    rw [ih]
    all_goals rfl
theorem thicketref07_Order.eq8 (R : Value → World → Prop) : thicketref07_Order.e8 R = thicketref07_Order.re8 R := by
  funext p1 a3 n3 c3 a4 n4 c4 w
  unfold thicketref07_Order.e8 thicketref07_Order.re8
  simp only [thicketref07_Order.lq8 R]
def thicketref07_Order (R : Value → World → Prop) (x0_0 : Int) (a0_1 : Option Addr) (n0_1 : Nat) (c0_1 : Nat) (w : World) : Prop := thicketref07_Order.g0 R (thicketref07_Order.e8 R) x0_0 a0_1 n0_1 c0_1 w
theorem thicketref07_Order.root0 (R : Value → World → Prop) (x0_0 : Int) (a0_1 : Option Addr) (n0_1 : Nat) (c0_1 : Nat) (w : World) : fnN Go.Proofs.Try.prog Go.Proofs.Try.f57 thicketref07_Order.an #[.agg #[.int .i64 x0_0, .slice a0_1 n0_1 c0_1]] w R = thicketref07_Order.g0 R (thicketref07_Order.re8 R) x0_0 a0_1 n0_1 c0_1 w := by kernel_rfl
theorem thicketref07_Order.calls {R : Value → World → Prop} {x0_0 : Int} {a0_1 : Option Addr} {n0_1 : Nat} {c0_1 : Nat} {w : World} (h : thicketref07_Order R x0_0 a0_1 n0_1 c0_1 w) : Go.E.CallsD Go.Proofs.Try.prog 57 #[.agg #[.int .i64 x0_0, .slice a0_1 n0_1 c0_1]] w R := by
  refine callsD_of (n := thicketref07_Order.an) M_follows M_sizes Go.Proofs.Try.func57 (by rfl) ?_
  rw [thicketref07_Order.root0]
  unfold thicketref07_Order at h
  rw [thicketref07_Order.eq8 R] at h
  exact h
-- slices.Clone[[]string,string]
def slices_Clone_str.an : An := An.nil
def slices_Clone_str.g0 (R : Value → World → Prop) (a0 : Option Addr) (n0 : Nat) (c0 : Nat) (w : World) : Prop :=
 onBool a0.isNone
 (R (.slice none 0 0) w)
 (nw (w.alloc (.cells #[] 9)) fun w5 =>
 rawN Go.Proofs.Try.prog (Builtin.append_ #[42, 42] 42 #[.slice (some (na w)) 0 0, .slice a0 n0 c0]) w5 fun yv6 u7 =>
 ∃ ya_8 : Option Addr, ∃ yn_8 : Nat, ∃ yc_8 : Nat, yv6 = .slice ya_8 yn_8 yc_8 ∧
 (R (.slice ya_8 yn_8 yc_8) u7))
def slices_Clone_str (R : Value → World → Prop) (a0 : Option Addr) (n0 : Nat) (c0 : Nat) (w : World) : Prop := slices_Clone_str.g0 R a0 n0 c0 w
theorem slices_Clone_str.root0 (R : Value → World → Prop) (a0 : Option Addr) (n0 : Nat) (c0 : Nat) (w : World) : fnN Go.Proofs.Try.prog Go.Proofs.Try.f58 slices_Clone_str.an #[.slice a0 n0 c0] w R = slices_Clone_str.g0 R a0 n0 c0 w := by kernel_rfl
theorem slices_Clone_str.calls {R : Value → World → Prop} {a0 : Option Addr} {n0 : Nat} {c0 : Nat} {w : World} (h : slices_Clone_str R a0 n0 c0 w) : Go.E.CallsD Go.Proofs.Try.prog 58 #[.slice a0 n0 c0] w R := by
  refine callsD_of (n := slices_Clone_str.an) M_follows M_sizes Go.Proofs.Try.func58 (by rfl) ?_
  rw [slices_Clone_str.root0]
  unfold slices_Clone_str at h
  exact h
end Go.Mir
