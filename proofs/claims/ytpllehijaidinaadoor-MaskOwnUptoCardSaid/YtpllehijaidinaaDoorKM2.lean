/- Part of a proof of laws of the seat YtpllehijaidinaaDoor: functions' weakest preconditions, each checked by the kernel, contracts out of them, plain lemmas; no conditions. -/
import Derived.Test.YtpllehijaidinaaDoorKM0
set_option linter.unusedVariables false
set_option linter.unusedSimpArgs false
set_option linter.unusedVariables false
set_option maxRecDepth 100000
namespace Go.Mir
open Go Go.E Go.RowKit
-- thicket/thicketref05.Same
def thicketref05_Same.an : An := (.mk none .nil (.mk none .nil (.mk none (.mk none .nil (.mk none (.mk (some [0, 1, 12, 13]) .nil .nil) .nil)) .nil)))
def thicketref05_Same.g0 (R : Value → World → Prop) (e14 : (Option Addr) → Nat → Nat → (Option Addr) → Nat → Nat → Int → Int → World → Prop) (a0 : Option Addr) (n0 : Nat) (c0 : Nat) (a1 : Option Addr) (n1 : Nat) (c1 : Nat) (w : World) : Prop :=
 onBool ((n0 : Int) != (n1 : Int))
 (R (.bool false) w)
 (e14 a0 n0 c0 a1 n1 c1 (n0 : Int) 0 w)
def thicketref05_Same.g14 (R : Value → World → Prop) (b14 : (Option Addr) → Nat → Nat → (Option Addr) → Nat → Nat → Int → Int → World → Prop) (a0 : Option Addr) (n0 : Nat) (c0 : Nat) (a1 : Option Addr) (n1 : Nat) (c1 : Nat) (x12 : Int) (x13 : Int) (w : World) : Prop :=
 onBool (decide (x13 < x12))
 (optN a0 fun q6 =>
 chk ((0 : Int) ≤ x13 ∧ x13 < (n0 : Int))
 (∃ yx_7 : Int, w.cell? (q6.add (x13.toNat * 1)) = some (.int .u64 yx_7) ∧
 (optN a1 fun q8 =>
 chk ((0 : Int) ≤ x13 ∧ x13 < (n1 : Int))
 (∃ yx_9 : Int, w.cell? (q8.add (x13.toNat * 1)) = some (.int .u64 yx_9) ∧
 (onBool (yx_7 != yx_9)
 (R (.bool false) w)
 (nv (IntKind.i64.wrap (x13 + 1)) fun t10 =>
 b14 a0 n0 c0 a1 n1 c1 x12 t10 w))))))
 (R (.bool true) w)
def thicketref05_Same.q2 (R : Value → World → Prop) : Exit → Act → World → Prop := (fin Go.Proofs.Tryd.prog Go.Proofs.Tryd.f17 R)
def thicketref05_Same.q10 (R : Value → World → Prop) : Exit → Act → World → Prop := (thicketref05_Same.q2 R)
def thicketref05_Same.q11 (R : Value → World → Prop) : Exit → Act → World → Prop := Exit.then (startN none (codeN Go.Proofs.Tryd.prog (sub (codeOf Go.Proofs.Tryd.f17) [1, 1, 1]) (nsub thicketref05_Same.an [1, 1, 1]) (thicketref05_Same.q10 R))) (thicketref05_Same.q10 R)
def thicketref05_Same.q13 (R : Value → World → Prop) : Exit → Act → World → Prop := (thicketref05_Same.q11 R)
def thicketref05_Same.q14 (R : Value → World → Prop) : Exit → Act → World → Prop := Exit.inBlock 0 (thicketref05_Same.q13 R)
def thicketref05_Same.rl14 (R : Value → World → Prop) (k : Nat) (a0 : Option Addr) (n0 : Nat) (c0 : Nat) (a1 : Option Addr) (n1 : Nat) (c1 : Nat) (x12 : Int) (x13 : Int) (w : World) : Prop := loopN [0, 1, 12, 13] (codeN Go.Proofs.Tryd.prog (sub (codeOf Go.Proofs.Tryd.f17) [1, 1, 0, 1, 0, 0]) (nsub thicketref05_Same.an [1, 1, 0, 1, 0, 0])) (thicketref05_Same.q14 R) k ⟨#[.slice a0 n0 c0, .slice a1 n1 c1, undef, undef, undef, undef, undef, undef, undef, undef, undef, undef, .int .i64 x12, .int .i64 x13, undef, undef, undef, undef, undef, undef, undef, undef, undef, undef, undef, undef], []⟩ w
def thicketref05_Same.re14 (R : Value → World → Prop) (a0 : Option Addr) (n0 : Nat) (c0 : Nat) (a1 : Option Addr) (n1 : Nat) (c1 : Nat) (x12 : Int) (x13 : Int) (w : World) : Prop := ∃ k, thicketref05_Same.rl14 R k a0 n0 c0 a1 n1 c1 x12 x13 w
def thicketref05_Same.l14 (R : Value → World → Prop) : Nat → (Option Addr) → Nat → Nat → (Option Addr) → Nat → Nat → Int → Int → World → Prop
  | 0, _, _, _, _, _, _, _, _, _ => False
  | k + 1, a0, n0, c0, a1, n1, c1, x12, x13, w => thicketref05_Same.g14 R (thicketref05_Same.l14 R k) a0 n0 c0 a1 n1 c1 x12 x13 w
def thicketref05_Same.e14 (R : Value → World → Prop) (a0 : Option Addr) (n0 : Nat) (c0 : Nat) (a1 : Option Addr) (n1 : Nat) (c1 : Nat) (x12 : Int) (x13 : Int) (w : World) : Prop := ∃ k, thicketref05_Same.l14 R k a0 n0 c0 a1 n1 c1 x12 x13 w
theorem thicketref05_Same.s14 (R : Value → World → Prop) (k : Nat) (a0 : Option Addr) (n0 : Nat) (c0 : Nat) (a1 : Option Addr) (n1 : Nat) (c1 : Nat) (x12 : Int) (x13 : Int) (w : World) : thicketref05_Same.rl14 R (k + 1) a0 n0 c0 a1 n1 c1 x12 x13 w = ∀ _ : Nat → Value, thicketref05_Same.g14 R (thicketref05_Same.rl14 R k) a0 n0 c0 a1 n1 c1 x12 x13 w := by kernel_rfl
theorem thicketref05_Same.lq14 (R : Value → World → Prop) : ∀ k, thicketref05_Same.l14 R k = thicketref05_Same.rl14 R k
  | 0 => by funext a0 n0 c0 a1 n1 c1 x12 x13 w; first | rfl | kernel_rfl
  | k + 1 => by
    funext a0 n0 c0 a1 n1 c1 x12 x13 w
    rw [thicketref05_Same.s14, forall_const]
    unfold thicketref05_Same.l14
    have ih := thicketref05_Same.lq14 R k
    rw [ih]
    all_goals rfl
theorem thicketref05_Same.eq14 (R : Value → World → Prop) : thicketref05_Same.e14 R = thicketref05_Same.re14 R := by
  funext a0 n0 c0 a1 n1 c1 x12 x13 w
  unfold thicketref05_Same.e14 thicketref05_Same.re14
  simp only [thicketref05_Same.lq14 R]
def thicketref05_Same (R : Value → World → Prop) (a0 : Option Addr) (n0 : Nat) (c0 : Nat) (a1 : Option Addr) (n1 : Nat) (c1 : Nat) (w : World) : Prop := thicketref05_Same.g0 R (thicketref05_Same.e14 R) a0 n0 c0 a1 n1 c1 w
theorem thicketref05_Same.root0 (R : Value → World → Prop) (a0 : Option Addr) (n0 : Nat) (c0 : Nat) (a1 : Option Addr) (n1 : Nat) (c1 : Nat) (w : World) : fnN Go.Proofs.Tryd.prog Go.Proofs.Tryd.f17 thicketref05_Same.an #[.slice a0 n0 c0, .slice a1 n1 c1] w R = thicketref05_Same.g0 R (thicketref05_Same.re14 R) a0 n0 c0 a1 n1 c1 w := by kernel_rfl
theorem thicketref05_Same.calls {R : Value → World → Prop} {a0 : Option Addr} {n0 : Nat} {c0 : Nat} {a1 : Option Addr} {n1 : Nat} {c1 : Nat} {w : World} (h : thicketref05_Same R a0 n0 c0 a1 n1 c1 w) : Go.E.CallsD Go.Proofs.Tryd.prog 17 #[.slice a0 n0 c0, .slice a1 n1 c1] w R := by
  refine callsD_of (n := thicketref05_Same.an) M_follows M_sizes Go.Proofs.Tryd.func17 (by rfl) ?_
  rw [thicketref05_Same.root0]
  unfold thicketref05_Same at h
  rw [thicketref05_Same.eq14 R] at h
  exact h
-- thicket/masks.Marks
def masks_Marks.an : An := An.nil
def masks_Marks.g0 (R : Value → World → Prop) (x0_0 : Int) (a0_1 : Option Addr) (n0_1 : Nat) (c0_1 : Nat) (w : World) : Prop :=
 nw (w.alloc (.cells #[.int .i64 x0_0, .slice a0_1 n0_1 c0_1] 24)) fun w15 =>
 ∃ yx_16 : Int, w15.cell? ((na w).add 0) = some (.int .i64 yx_16) ∧
 (∃ ya_17 : Option Addr, ∃ yn_17 : Nat, ∃ yc_17 : Nat, w15.cell? ((na w).add 1) = some (.slice ya_17 yn_17 yc_17) ∧
 (Go.E.CallsD Go.Proofs.Tryd.prog 37 #[.agg #[.int .i64 yx_16, .slice ya_17 yn_17 yc_17]] w15 fun yv18 u19 =>
 ∃ yx_20_0 : Int, ∃ yx_20_1 : Int, yv18 = .tuple #[.int .i64 yx_20_0, .int .i64 yx_20_1] ∧
 (onBool (yx_20_1 != 0)
 (R (.tuple #[.slice none 0 0, .int .i64 yx_20_1]) u19)
 (nw (u19.alloc (.cells #[.slice none 0 0] 26)) fun w21 =>
 nw (w21.alloc (.cells #[.nilFunc] 71)) fun w22 =>
 okSt w22 ((na w21).add 0) ∧
 (nw (w22.setCell ((na w21).add 0) (.func (.func 44) #[] #[.pointer (some (na w)), .pointer (some (na u19)), .pointer (some (na w21))])) fun w23 =>
 ∃ yv_24 : Value, w23.cell? (na w21) = some (yv_24) ∧
 (callF Go.Proofs.Tryd.prog yv_24 #[.int .i64 0, .int .i64 0] w23 fun yv25 u26 =>
 ∃ yx_27 : Int, yv25 = .int .i64 yx_27 ∧
 (∃ ya_28 : Option Addr, ∃ yn_28 : Nat, ∃ yc_28 : Nat, u26.cell? (na u19) = some (.slice ya_28 yn_28 yc_28) ∧
 (R (.tuple #[.slice ya_28 yn_28 yc_28, .int .i64 0]) u26))))))))
def masks_Marks (R : Value → World → Prop) (x0_0 : Int) (a0_1 : Option Addr) (n0_1 : Nat) (c0_1 : Nat) (w : World) : Prop := masks_Marks.g0 R x0_0 a0_1 n0_1 c0_1 w
theorem masks_Marks.root0 (R : Value → World → Prop) (x0_0 : Int) (a0_1 : Option Addr) (n0_1 : Nat) (c0_1 : Nat) (w : World) : fnN Go.Proofs.Tryd.prog Go.Proofs.Tryd.f18 masks_Marks.an #[.agg #[.int .i64 x0_0, .slice a0_1 n0_1 c0_1]] w R = masks_Marks.g0 R x0_0 a0_1 n0_1 c0_1 w := by kernel_rfl
theorem masks_Marks.calls {R : Value → World → Prop} {x0_0 : Int} {a0_1 : Option Addr} {n0_1 : Nat} {c0_1 : Nat} {w : World} (h : masks_Marks R x0_0 a0_1 n0_1 c0_1 w) : Go.E.CallsD Go.Proofs.Tryd.prog 18 #[.agg #[.int .i64 x0_0, .slice a0_1 n0_1 c0_1]] w R := by
  refine callsD_of (n := masks_Marks.an) M_follows M_sizes Go.Proofs.Tryd.func18 (by rfl) ?_
  rw [masks_Marks.root0]
  unfold masks_Marks at h
  exact h
-- thicket/trees.Leaves
def trees_Leaves.an : An := An.nil
def trees_Leaves.g0 (R : Value → World → Prop) (x0_0 : Int) (a0_1 : Option Addr) (n0_1 : Nat) (c0_1 : Nat) (w : World) : Prop :=
 nw (w.alloc (.cells #[.int .i64 x0_0, .slice a0_1 n0_1 c0_1] 24)) fun w7 =>
 ∃ yx_8 : Int, w7.cell? ((na w).add 0) = some (.int .i64 yx_8) ∧
 (∃ ya_9 : Option Addr, ∃ yn_9 : Nat, ∃ yc_9 : Nat, w7.cell? ((na w).add 1) = some (.slice ya_9 yn_9 yc_9) ∧
 (Go.E.CallsD Go.Proofs.Tryd.prog 45 #[.agg #[.int .i64 yx_8, .slice ya_9 yn_9 yc_9], .bool false] w7 fun yv10 u11 =>
 ∃ ya_12_0 : Option Addr, ∃ yn_12_0 : Nat, ∃ yc_12_0 : Nat, ∃ yx_12_1 : Int, yv10 = .tuple #[.slice ya_12_0 yn_12_0 yc_12_0, .int .i64 yx_12_1] ∧
 (R (.tuple #[.slice ya_12_0 yn_12_0 yc_12_0, .int .i64 yx_12_1]) u11)))
def trees_Leaves (R : Value → World → Prop) (x0_0 : Int) (a0_1 : Option Addr) (n0_1 : Nat) (c0_1 : Nat) (w : World) : Prop := trees_Leaves.g0 R x0_0 a0_1 n0_1 c0_1 w
theorem trees_Leaves.root0 (R : Value → World → Prop) (x0_0 : Int) (a0_1 : Option Addr) (n0_1 : Nat) (c0_1 : Nat) (w : World) : fnN Go.Proofs.Tryd.prog Go.Proofs.Tryd.f19 trees_Leaves.an #[.agg #[.int .i64 x0_0, .slice a0_1 n0_1 c0_1]] w R = trees_Leaves.g0 R x0_0 a0_1 n0_1 c0_1 w := by kernel_rfl
theorem trees_Leaves.calls {R : Value → World → Prop} {x0_0 : Int} {a0_1 : Option Addr} {n0_1 : Nat} {c0_1 : Nat} {w : World} (h : trees_Leaves R x0_0 a0_1 n0_1 c0_1 w) : Go.E.CallsD Go.Proofs.Tryd.prog 19 #[.agg #[.int .i64 x0_0, .slice a0_1 n0_1 c0_1]] w R := by
  refine callsD_of (n := trees_Leaves.an) M_follows M_sizes Go.Proofs.Tryd.func19 (by rfl) ?_
  rw [trees_Leaves.root0]
  unfold trees_Leaves at h
  exact h
-- thicket/trees.Inner
def trees_Inner.an : An := An.nil
def trees_Inner.g0 (R : Value → World → Prop) (x0_0 : Int) (a0_1 : Option Addr) (n0_1 : Nat) (c0_1 : Nat) (w : World) : Prop :=
 nw (w.alloc (.cells #[.int .i64 x0_0, .slice a0_1 n0_1 c0_1] 24)) fun w7 =>
 ∃ yx_8 : Int, w7.cell? ((na w).add 0) = some (.int .i64 yx_8) ∧
 (∃ ya_9 : Option Addr, ∃ yn_9 : Nat, ∃ yc_9 : Nat, w7.cell? ((na w).add 1) = some (.slice ya_9 yn_9 yc_9) ∧
 (Go.E.CallsD Go.Proofs.Tryd.prog 45 #[.agg #[.int .i64 yx_8, .slice ya_9 yn_9 yc_9], .bool true] w7 fun yv10 u11 =>
 ∃ ya_12_0 : Option Addr, ∃ yn_12_0 : Nat, ∃ yc_12_0 : Nat, ∃ yx_12_1 : Int, yv10 = .tuple #[.slice ya_12_0 yn_12_0 yc_12_0, .int .i64 yx_12_1] ∧
 (R (.tuple #[.slice ya_12_0 yn_12_0 yc_12_0, .int .i64 yx_12_1]) u11)))
def trees_Inner (R : Value → World → Prop) (x0_0 : Int) (a0_1 : Option Addr) (n0_1 : Nat) (c0_1 : Nat) (w : World) : Prop := trees_Inner.g0 R x0_0 a0_1 n0_1 c0_1 w
theorem trees_Inner.root0 (R : Value → World → Prop) (x0_0 : Int) (a0_1 : Option Addr) (n0_1 : Nat) (c0_1 : Nat) (w : World) : fnN Go.Proofs.Tryd.prog Go.Proofs.Tryd.f20 trees_Inner.an #[.agg #[.int .i64 x0_0, .slice a0_1 n0_1 c0_1]] w R = trees_Inner.g0 R x0_0 a0_1 n0_1 c0_1 w := by kernel_rfl
theorem trees_Inner.calls {R : Value → World → Prop} {x0_0 : Int} {a0_1 : Option Addr} {n0_1 : Nat} {c0_1 : Nat} {w : World} (h : trees_Inner R x0_0 a0_1 n0_1 c0_1 w) : Go.E.CallsD Go.Proofs.Tryd.prog 20 #[.agg #[.int .i64 x0_0, .slice a0_1 n0_1 c0_1]] w R := by
  refine callsD_of (n := trees_Inner.an) M_follows M_sizes Go.Proofs.Tryd.func20 (by rfl) ?_
  rw [trees_Inner.root0]
  unfold trees_Inner at h
  exact h
-- thicket/thicketref07.Nodes
def thicketref07_Nodes.an : An := (.mk none .nil (.mk none .nil (.mk none (.mk none .nil (.mk none (.mk (some [3, 7, 8, 9]) .nil .nil) .nil)) .nil)))
def thicketref07_Nodes.g0 (R : Value → World → Prop) (e8 : (Option Addr) → Nat → Nat → (Option Addr) → Nat → Nat → Int → Int → World → Prop) (a0 : Option Addr) (n0 : Nat) (c0 : Nat) (w : World) : Prop :=
 e8 none 0 0 a0 n0 c0 (n0 : Int) 0 w
def thicketref07_Nodes.g8 (R : Value → World → Prop) (b8 : (Option Addr) → Nat → Nat → (Option Addr) → Nat → Nat → Int → Int → World → Prop) (a3 : Option Addr) (n3 : Nat) (c3 : Nat) (a7 : Option Addr) (n7 : Nat) (c7 : Nat) (x8 : Int) (x9 : Int) (w : World) : Prop :=
 onBool (decide (x9 < x8))
 (optN a7 fun q37 =>
 chk ((0 : Int) ≤ x9 ∧ x9 < (n7 : Int))
 (∃ yx_38 : Int, w.cell? ((q37.add (x9.toNat * 8)).add 0) = some (.int .u8 yx_38) ∧
 (∃ yx_39 : Int, w.cell? ((q37.add (x9.toNat * 8)).add 1) = some (.int .i64 yx_39) ∧
 (∃ yx_40 : Int, w.cell? ((q37.add (x9.toNat * 8)).add 2) = some (.int .i64 yx_40) ∧
 (∃ yf_41 : Nat, w.cell? ((q37.add (x9.toNat * 8)).add 3) = some (.float .f64 yf_41) ∧
 (∃ ya_42 : Option Addr, ∃ yn_42 : Nat, ∃ yc_42 : Nat, w.cell? ((q37.add (x9.toNat * 8)).add 4) = some (.slice ya_42 yn_42 yc_42) ∧
 (∃ yx_43 : Int, w.cell? ((q37.add (x9.toNat * 8)).add 5) = some (.int .u8 yx_43) ∧
 (∃ yx_44 : Int, w.cell? ((q37.add (x9.toNat * 8)).add 6) = some (.int .i64 yx_44) ∧
 (∃ yx_45 : Int, w.cell? ((q37.add (x9.toNat * 8)).add 7) = some (.int .i64 yx_45) ∧
 (nw (w.alloc (.cells #[.int .u8 0, .int .i64 0, .int .i64 0, .float .f64 0, .slice none 0 0, .int .u8 0, .int .i64 0, .int .i64 0] 49)) fun w46 =>
 okSt w46 ((na w).add 0) ∧
 (nw (w46.setCell ((na w).add 0) (.int .u8 yx_38)) fun w47 =>
 okSt w47 ((na w).add 1) ∧
 (nw (w47.setCell ((na w).add 1) (.int .i64 yx_39)) fun w48 =>
 okSt w48 ((na w).add 2) ∧
 (nw (w48.setCell ((na w).add 2) (.int .i64 yx_40)) fun w49 =>
 okSt w49 ((na w).add 3) ∧
 (nw (w49.setCell ((na w).add 3) (.float .f64 yf_41)) fun w50 =>
 okSt w50 ((na w).add 4) ∧
 (nw (w50.setCell ((na w).add 4) (.slice ya_42 yn_42 yc_42)) fun w51 =>
 okSt w51 ((na w).add 5) ∧
 (nw (w51.setCell ((na w).add 5) (.int .u8 yx_43)) fun w52 =>
 okSt w52 ((na w).add 6) ∧
 (nw (w52.setCell ((na w).add 6) (.int .i64 yx_44)) fun w53 =>
 okSt w53 ((na w).add 7) ∧
 (nw (w53.setCell ((na w).add 7) (.int .i64 yx_45)) fun w54 =>
 ∃ ya_55 : Option Addr, ∃ yn_55 : Nat, ∃ yc_55 : Nat, w54.cell? ((na w).add 4) = some (.slice ya_55 yn_55 yc_55) ∧
 (rawN Go.Proofs.Tryd.prog (Builtin.append_ #[40, 40] 40 #[.slice none 0 0, .slice ya_55 yn_55 yc_55]) w54 fun yv56 u57 =>
 ∃ ya_58 : Option Addr, ∃ yn_58 : Nat, ∃ yc_58 : Nat, yv56 = .slice ya_58 yn_58 yc_58 ∧
 (okSt u57 (((na w).add 4).add 0) ∧
 (nw (u57.setCell (((na w).add 4).add 0) (.slice ya_58 yn_58 yc_58)) fun w59 =>
 ∃ yx_60 : Int, w59.cell? ((na w).add 0) = some (.int .u8 yx_60) ∧
 (∃ yx_61 : Int, w59.cell? ((na w).add 1) = some (.int .i64 yx_61) ∧
 (∃ yx_62 : Int, w59.cell? ((na w).add 2) = some (.int .i64 yx_62) ∧
 (∃ yf_63 : Nat, w59.cell? ((na w).add 3) = some (.float .f64 yf_63) ∧
 (∃ ya_64 : Option Addr, ∃ yn_64 : Nat, ∃ yc_64 : Nat, w59.cell? ((na w).add 4) = some (.slice ya_64 yn_64 yc_64) ∧
 (∃ yx_65 : Int, w59.cell? ((na w).add 5) = some (.int .u8 yx_65) ∧
 (∃ yx_66 : Int, w59.cell? ((na w).add 6) = some (.int .i64 yx_66) ∧
 (∃ yx_67 : Int, w59.cell? ((na w).add 7) = some (.int .i64 yx_67) ∧
 (nw (w59.alloc (.cells #[.int .u8 yx_60, .int .i64 yx_61, .int .i64 yx_62, .float .f64 yf_63, .slice ya_64 yn_64 yc_64, .int .u8 yx_65, .int .i64 yx_66, .int .i64 yx_67] 49)) fun w68 =>
 rawN Go.Proofs.Tryd.prog (Builtin.append_ #[22, 22] 22 #[.slice a3 n3 c3, .slice (some (na w59)) 1 1]) w68 fun yv69 u70 =>
 ∃ ya_71 : Option Addr, ∃ yn_71 : Nat, ∃ yc_71 : Nat, yv69 = .slice ya_71 yn_71 yc_71 ∧
 (nv (IntKind.i64.wrap (x9 + 1)) fun t72 =>
 b8 ya_71 yn_71 yc_71 a7 n7 c7 x8 t72 u70))))))))))))))))))))))))))))))
 (R (.slice a3 n3 c3) w)
def thicketref07_Nodes.q2 (R : Value → World → Prop) : Exit → Act → World → Prop := (fin Go.Proofs.Tryd.prog Go.Proofs.Tryd.f21 R)
def thicketref07_Nodes.q4 (R : Value → World → Prop) : Exit → Act → World → Prop := (thicketref07_Nodes.q2 R)
def thicketref07_Nodes.q5 (R : Value → World → Prop) : Exit → Act → World → Prop := Exit.then (startN none (codeN Go.Proofs.Tryd.prog (sub (codeOf Go.Proofs.Tryd.f21) [1, 1, 1]) (nsub thicketref07_Nodes.an [1, 1, 1]) (thicketref07_Nodes.q4 R))) (thicketref07_Nodes.q4 R)
def thicketref07_Nodes.q7 (R : Value → World → Prop) : Exit → Act → World → Prop := (thicketref07_Nodes.q5 R)
def thicketref07_Nodes.q8 (R : Value → World → Prop) : Exit → Act → World → Prop := Exit.inBlock 0 (thicketref07_Nodes.q7 R)
def thicketref07_Nodes.rl8 (R : Value → World → Prop) (k : Nat) (a3 : Option Addr) (n3 : Nat) (c3 : Nat) (a7 : Option Addr) (n7 : Nat) (c7 : Nat) (x8 : Int) (x9 : Int) (w : World) : Prop := loopN [3, 7, 8, 9] (codeN Go.Proofs.Tryd.prog (sub (codeOf Go.Proofs.Tryd.f21) [1, 1, 0, 1, 0, 0]) (nsub thicketref07_Nodes.an [1, 1, 0, 1, 0, 0])) (thicketref07_Nodes.q8 R) k ⟨#[undef, undef, undef, .slice a3 n3 c3, undef, undef, undef, .slice a7 n7 c7, .int .i64 x8, .int .i64 x9, undef, undef, undef, undef, undef, undef, undef, undef, undef, undef, undef, undef, undef, undef], []⟩ w
def thicketref07_Nodes.re8 (R : Value → World → Prop) (a3 : Option Addr) (n3 : Nat) (c3 : Nat) (a7 : Option Addr) (n7 : Nat) (c7 : Nat) (x8 : Int) (x9 : Int) (w : World) : Prop := ∃ k, thicketref07_Nodes.rl8 R k a3 n3 c3 a7 n7 c7 x8 x9 w
def thicketref07_Nodes.l8 (R : Value → World → Prop) : Nat → (Option Addr) → Nat → Nat → (Option Addr) → Nat → Nat → Int → Int → World → Prop
  | 0, _, _, _, _, _, _, _, _, _ => False
  | k + 1, a3, n3, c3, a7, n7, c7, x8, x9, w => thicketref07_Nodes.g8 R (thicketref07_Nodes.l8 R k) a3 n3 c3 a7 n7 c7 x8 x9 w
def thicketref07_Nodes.e8 (R : Value → World → Prop) (a3 : Option Addr) (n3 : Nat) (c3 : Nat) (a7 : Option Addr) (n7 : Nat) (c7 : Nat) (x8 : Int) (x9 : Int) (w : World) : Prop := ∃ k, thicketref07_Nodes.l8 R k a3 n3 c3 a7 n7 c7 x8 x9 w
theorem thicketref07_Nodes.s8 (R : Value → World → Prop) (k : Nat) (a3 : Option Addr) (n3 : Nat) (c3 : Nat) (a7 : Option Addr) (n7 : Nat) (c7 : Nat) (x8 : Int) (x9 : Int) (w : World) : thicketref07_Nodes.rl8 R (k + 1) a3 n3 c3 a7 n7 c7 x8 x9 w = ∀ _ : Nat → Value, thicketref07_Nodes.g8 R (thicketref07_Nodes.rl8 R k) a3 n3 c3 a7 n7 c7 x8 x9 w := by kernel_rfl
theorem thicketref07_Nodes.lq8 (R : Value → World → Prop) : ∀ k, thicketref07_Nodes.l8 R k = thicketref07_Nodes.rl8 R k
  | 0 => by funext a3 n3 c3 a7 n7 c7 x8 x9 w; first | rfl | kernel_rfl
  | k + 1 => by
    funext a3 n3 c3 a7 n7 c7 x8 x9 w
    rw [thicketref07_Nodes.s8, forall_const]
    unfold thicketref07_Nodes.l8
    have ih := thicketref07_Nodes.lq8 R k
    rw [ih]
    all_goals rfl
theorem thicketref07_Nodes.eq8 (R : Value → World → Prop) : thicketref07_Nodes.e8 R = thicketref07_Nodes.re8 R := by
  funext a3 n3 c3 a7 n7 c7 x8 x9 w
  unfold thicketref07_Nodes.e8 thicketref07_Nodes.re8
  simp only [thicketref07_Nodes.lq8 R]
def thicketref07_Nodes (R : Value → World → Prop) (a0 : Option Addr) (n0 : Nat) (c0 : Nat) (w : World) : Prop := thicketref07_Nodes.g0 R (thicketref07_Nodes.e8 R) a0 n0 c0 w
theorem thicketref07_Nodes.root0 (R : Value → World → Prop) (a0 : Option Addr) (n0 : Nat) (c0 : Nat) (w : World) : fnN Go.Proofs.Tryd.prog Go.Proofs.Tryd.f21 thicketref07_Nodes.an #[.slice a0 n0 c0] w R = thicketref07_Nodes.g0 R (thicketref07_Nodes.re8 R) a0 n0 c0 w := by kernel_rfl
theorem thicketref07_Nodes.calls {R : Value → World → Prop} {a0 : Option Addr} {n0 : Nat} {c0 : Nat} {w : World} (h : thicketref07_Nodes R a0 n0 c0 w) : Go.E.CallsD Go.Proofs.Tryd.prog 21 #[.slice a0 n0 c0] w R := by
  refine callsD_of (n := thicketref07_Nodes.an) M_follows M_sizes Go.Proofs.Tryd.func21 (by rfl) ?_
  rw [thicketref07_Nodes.root0]
  unfold thicketref07_Nodes at h
  rw [thicketref07_Nodes.eq8 R] at h
  exact h
-- thicket/thicketlaw13.under
def thicketlaw13_under.an : An := (.mk none .nil (.mk none .nil (.mk none (.mk none .nil (.mk none (.mk (some [0, 5, 6]) .nil .nil) .nil)) (.mk none .nil (.mk none (.mk none .nil (.mk none (.mk (some [0, 5, 8, 43, 44, 45]) .nil .nil) .nil)) (.mk none .nil (.mk none (.mk none .nil (.mk none (.mk (some [0, 8, 11, 55, 56, 57]) .nil .nil) .nil)) .nil)))))))
def thicketlaw13_under.g0 (R : Value → World → Prop) (e8 : (Option Addr) → Nat → Nat → (Option Addr) → Nat → Nat → Int → World → Prop) (a0 : Option Addr) (n0 : Nat) (c0 : Nat) (x1 : Int) (w : World) : Prop :=
 nw (w.alloc (.cells #[.int .i64 x1] 3)) fun w79 =>
 e8 a0 n0 c0 (some (na w)) 1 1 0 w79
def thicketlaw13_under.g8 (R : Value → World → Prop) (b8 : (Option Addr) → Nat → Nat → (Option Addr) → Nat → Nat → Int → World → Prop) (e31 : (Option Addr) → Nat → Nat → (Option Addr) → Nat → Nat → (Option Addr) → Nat → Nat → (Option Addr) → Nat → Nat → Int → Int → World → Prop) (a0 : Option Addr) (n0 : Nat) (c0 : Nat) (a5 : Option Addr) (n5 : Nat) (c5 : Nat) (x6 : Int) (w : World) : Prop :=
 onBool (decide (x6 < (n5 : Int)))
 (optN a5 fun q80 =>
 chk ((0 : Int) ≤ x6 ∧ x6 < (n5 : Int))
 (∃ yx_81 : Int, w.cell? (q80.add (x6.toNat * 1)) = some (.int .i64 yx_81) ∧
 (optN a0 fun q82 =>
 chk ((0 : Int) ≤ yx_81 ∧ yx_81 < (n0 : Int))
 (∃ yx_83 : Int, w.cell? ((q82.add (yx_81.toNat * 8)).add 0) = some (.int .u8 yx_83) ∧
 (∃ yx_84 : Int, w.cell? ((q82.add (yx_81.toNat * 8)).add 1) = some (.int .i64 yx_84) ∧
 (∃ yx_85 : Int, w.cell? ((q82.add (yx_81.toNat * 8)).add 2) = some (.int .i64 yx_85) ∧
 (∃ yf_86 : Nat, w.cell? ((q82.add (yx_81.toNat * 8)).add 3) = some (.float .f64 yf_86) ∧
 (∃ ya_87 : Option Addr, ∃ yn_87 : Nat, ∃ yc_87 : Nat, w.cell? ((q82.add (yx_81.toNat * 8)).add 4) = some (.slice ya_87 yn_87 yc_87) ∧
 (∃ yx_88 : Int, w.cell? ((q82.add (yx_81.toNat * 8)).add 5) = some (.int .u8 yx_88) ∧
 (∃ yx_89 : Int, w.cell? ((q82.add (yx_81.toNat * 8)).add 6) = some (.int .i64 yx_89) ∧
 (∃ yx_90 : Int, w.cell? ((q82.add (yx_81.toNat * 8)).add 7) = some (.int .i64 yx_90) ∧
 (nw (w.alloc (.cells #[.int .u8 0, .int .i64 0, .int .i64 0, .float .f64 0, .slice none 0 0, .int .u8 0, .int .i64 0, .int .i64 0] 49)) fun w91 =>
 okSt w91 ((na w).add 0) ∧
 (nw (w91.setCell ((na w).add 0) (.int .u8 yx_83)) fun w92 =>
 okSt w92 ((na w).add 1) ∧
 (nw (w92.setCell ((na w).add 1) (.int .i64 yx_84)) fun w93 =>
 okSt w93 ((na w).add 2) ∧
 (nw (w93.setCell ((na w).add 2) (.int .i64 yx_85)) fun w94 =>
 okSt w94 ((na w).add 3) ∧
 (nw (w94.setCell ((na w).add 3) (.float .f64 yf_86)) fun w95 =>
 okSt w95 ((na w).add 4) ∧
 (nw (w95.setCell ((na w).add 4) (.slice ya_87 yn_87 yc_87)) fun w96 =>
 okSt w96 ((na w).add 5) ∧
 (nw (w96.setCell ((na w).add 5) (.int .u8 yx_88)) fun w97 =>
 okSt w97 ((na w).add 6) ∧
 (nw (w97.setCell ((na w).add 6) (.int .i64 yx_89)) fun w98 =>
 okSt w98 ((na w).add 7) ∧
 (nw (w98.setCell ((na w).add 7) (.int .i64 yx_90)) fun w99 =>
 ∃ yx_100 : Int, w99.cell? ((na w).add 0) = some (.int .u8 yx_100) ∧
 (onBool (yx_100 != 1)
 (∃ yx_101 : Int, w99.cell? ((na w).add 6) = some (.int .i64 yx_101) ∧
 (∃ yx_102 : Int, w99.cell? ((na w).add 7) = some (.int .i64 yx_102) ∧
 (nw (w99.alloc (.cells #[.int .i64 yx_101, .int .i64 yx_102] 3)) fun w103 =>
 rawN Go.Proofs.Tryd.prog (Builtin.append_ #[40, 40] 40 #[.slice a5 n5 c5, .slice (some (na w99)) 2 2]) w103 fun yv104 u105 =>
 ∃ ya_106 : Option Addr, ∃ yn_106 : Nat, ∃ yc_106 : Nat, yv104 = .slice ya_106 yn_106 yc_106 ∧
 (nv (IntKind.i64.wrap (x6 + 1)) fun t107 =>
 b8 a0 n0 c0 ya_106 yn_106 yc_106 t107 u105))))
 (nv (IntKind.i64.wrap (x6 + 1)) fun t108 =>
 b8 a0 n0 c0 a5 n5 c5 t108 w99))))))))))))))))))))))
 (chk ((0 : Int) ≤ (n0 : Int) ∧ (n0 : Int) ≤ (n0 : Int) ∧ ((8 : Nat) : Int) * (n0 : Int) ≤ 281474976710656 ∧ (n0 : Int) ≤ 9223372036854775807)
 (nw (w.alloc (.cells (madeCells #[.int .i64 0] (((n0 : Int)).toNat * 1)) 3)) fun w109 =>
 e31 a0 n0 c0 a5 n5 c5 (some (na w)) (((n0 : Int)).toNat) (((n0 : Int)).toNat) a5 n5 c5 (n5 : Int) 0 w109))
def thicketlaw13_under.g31 (R : Value → World → Prop) (b31 : (Option Addr) → Nat → Nat → (Option Addr) → Nat → Nat → (Option Addr) → Nat → Nat → (Option Addr) → Nat → Nat → Int → Int → World → Prop) (e50 : (Option Addr) → Nat → Nat → (Option Addr) → Nat → Nat → (Option Addr) → Nat → Nat → (Option Addr) → Nat → Nat → Int → Int → World → Prop) (a0 : Option Addr) (n0 : Nat) (c0 : Nat) (a5 : Option Addr) (n5 : Nat) (c5 : Nat) (a8 : Option Addr) (n8 : Nat) (c8 : Nat) (a43 : Option Addr) (n43 : Nat) (c43 : Nat) (x44 : Int) (x45 : Int) (w : World) : Prop :=
 onBool (decide (x45 < x44))
 (optN a43 fun q110 =>
 chk ((0 : Int) ≤ x45 ∧ x45 < (n43 : Int))
 (∃ yx_111 : Int, w.cell? (q110.add (x45.toNat * 1)) = some (.int .i64 yx_111) ∧
 (optN a8 fun q112 =>
 chk ((0 : Int) ≤ yx_111 ∧ yx_111 < (n8 : Int))
 (okSt w ((q112.add (yx_111.toNat * 1)).add 0) ∧
 (nw (w.setCell ((q112.add (yx_111.toNat * 1)).add 0) (.int .i64 x45)) fun w113 =>
 nv (IntKind.i64.wrap (x45 + 1)) fun t114 =>
 b31 a0 n0 c0 a5 n5 c5 a8 n8 c8 a43 n43 c43 x44 t114 w113)))))
 (e50 a0 n0 c0 a8 n8 c8 none 0 0 a5 n5 c5 (n5 : Int) 0 w)
def thicketlaw13_under.g50 (R : Value → World → Prop) (b50 : (Option Addr) → Nat → Nat → (Option Addr) → Nat → Nat → (Option Addr) → Nat → Nat → (Option Addr) → Nat → Nat → Int → Int → World → Prop) (a0 : Option Addr) (n0 : Nat) (c0 : Nat) (a8 : Option Addr) (n8 : Nat) (c8 : Nat) (a11 : Option Addr) (n11 : Nat) (c11 : Nat) (a55 : Option Addr) (n55 : Nat) (c55 : Nat) (x56 : Int) (x57 : Int) (w : World) : Prop :=
 onBool (decide (x57 < x56))
 (optN a55 fun q115 =>
 chk ((0 : Int) ≤ x57 ∧ x57 < (n55 : Int))
 (∃ yx_116 : Int, w.cell? (q115.add (x57.toNat * 1)) = some (.int .i64 yx_116) ∧
 (optN a0 fun q117 =>
 chk ((0 : Int) ≤ yx_116 ∧ yx_116 < (n0 : Int))
 (∃ yx_118 : Int, w.cell? ((q117.add (yx_116.toNat * 8)).add 0) = some (.int .u8 yx_118) ∧
 (∃ yx_119 : Int, w.cell? ((q117.add (yx_116.toNat * 8)).add 1) = some (.int .i64 yx_119) ∧
 (∃ yx_120 : Int, w.cell? ((q117.add (yx_116.toNat * 8)).add 2) = some (.int .i64 yx_120) ∧
 (∃ yf_121 : Nat, w.cell? ((q117.add (yx_116.toNat * 8)).add 3) = some (.float .f64 yf_121) ∧
 (∃ ya_122 : Option Addr, ∃ yn_122 : Nat, ∃ yc_122 : Nat, w.cell? ((q117.add (yx_116.toNat * 8)).add 4) = some (.slice ya_122 yn_122 yc_122) ∧
 (∃ yx_123 : Int, w.cell? ((q117.add (yx_116.toNat * 8)).add 5) = some (.int .u8 yx_123) ∧
 (∃ yx_124 : Int, w.cell? ((q117.add (yx_116.toNat * 8)).add 6) = some (.int .i64 yx_124) ∧
 (∃ yx_125 : Int, w.cell? ((q117.add (yx_116.toNat * 8)).add 7) = some (.int .i64 yx_125) ∧
 (nw (w.alloc (.cells #[.int .u8 0, .int .i64 0, .int .i64 0, .float .f64 0, .slice none 0 0, .int .u8 0, .int .i64 0, .int .i64 0] 49)) fun w126 =>
 okSt w126 ((na w).add 0) ∧
 (nw (w126.setCell ((na w).add 0) (.int .u8 yx_118)) fun w127 =>
 okSt w127 ((na w).add 1) ∧
 (nw (w127.setCell ((na w).add 1) (.int .i64 yx_119)) fun w128 =>
 okSt w128 ((na w).add 2) ∧
 (nw (w128.setCell ((na w).add 2) (.int .i64 yx_120)) fun w129 =>
 okSt w129 ((na w).add 3) ∧
 (nw (w129.setCell ((na w).add 3) (.float .f64 yf_121)) fun w130 =>
 okSt w130 ((na w).add 4) ∧
 (nw (w130.setCell ((na w).add 4) (.slice ya_122 yn_122 yc_122)) fun w131 =>
 okSt w131 ((na w).add 5) ∧
 (nw (w131.setCell ((na w).add 5) (.int .u8 yx_123)) fun w132 =>
 okSt w132 ((na w).add 6) ∧
 (nw (w132.setCell ((na w).add 6) (.int .i64 yx_124)) fun w133 =>
 okSt w133 ((na w).add 7) ∧
 (nw (w133.setCell ((na w).add 7) (.int .i64 yx_125)) fun w134 =>
 ∃ yx_135 : Int, w134.cell? ((na w).add 0) = some (.int .u8 yx_135) ∧
 (onBool (yx_135 != 1)
 (∃ wm136 : World, CK wm136 w134 ∧
 (∃ yx_137 : Int, w134.cell? ((na w).add 6) = some (.int .i64 yx_137) ∧
 (optN a8 fun q138 =>
 chk ((0 : Int) ≤ yx_137 ∧ yx_137 < (n8 : Int))
 (∃ yx_139 : Int, w134.cell? (q138.add (yx_137.toNat * 1)) = some (.int .i64 yx_139) ∧
 (∃ yx_140 : Int, w134.cell? ((na w).add 7) = some (.int .i64 yx_140) ∧
 (optN a8 fun q141 =>
 chk ((0 : Int) ≤ yx_140 ∧ yx_140 < (n8 : Int))
 (∃ yx_142 : Int, wm136.cell? (q141.add (yx_140.toNat * 1)) = some (.int .i64 yx_142) ∧
 (okSt w134 (((na w).add 6).add 0) ∧
 (nw (w134.setCell (((na w).add 6).add 0) (.int .i64 yx_139)) fun w143 =>
 CK wm136 w143 ∧
 (okSt w143 (((na w).add 7).add 0) ∧
 (nw (w143.setCell (((na w).add 7).add 0) (.int .i64 yx_142)) fun w144 =>
 CK wm136 w144 ∧
 (∃ yx_145 : Int, w144.cell? ((na w).add 0) = some (.int .u8 yx_145) ∧
 (∃ yx_146 : Int, w144.cell? ((na w).add 1) = some (.int .i64 yx_146) ∧
 (∃ yx_147 : Int, w144.cell? ((na w).add 2) = some (.int .i64 yx_147) ∧
 (∃ yf_148 : Nat, w144.cell? ((na w).add 3) = some (.float .f64 yf_148) ∧
 (∃ ya_149 : Option Addr, ∃ yn_149 : Nat, ∃ yc_149 : Nat, w144.cell? ((na w).add 4) = some (.slice ya_149 yn_149 yc_149) ∧
 (∃ yx_150 : Int, w144.cell? ((na w).add 5) = some (.int .u8 yx_150) ∧
 (∃ yx_151 : Int, w144.cell? ((na w).add 6) = some (.int .i64 yx_151) ∧
 (∃ yx_152 : Int, w144.cell? ((na w).add 7) = some (.int .i64 yx_152) ∧
 (nw (w144.alloc (.cells #[.int .u8 yx_145, .int .i64 yx_146, .int .i64 yx_147, .float .f64 yf_148, .slice ya_149 yn_149 yc_149, .int .u8 yx_150, .int .i64 yx_151, .int .i64 yx_152] 49)) fun w153 =>
 rawN Go.Proofs.Tryd.prog (Builtin.append_ #[22, 22] 22 #[.slice a11 n11 c11, .slice (some (na w144)) 1 1]) w153 fun yv154 u155 =>
 ∃ ya_156 : Option Addr, ∃ yn_156 : Nat, ∃ yc_156 : Nat, yv154 = .slice ya_156 yn_156 yc_156 ∧
 (nv (IntKind.i64.wrap (x57 + 1)) fun t157 =>
 b50 a0 n0 c0 a8 n8 c8 ya_156 yn_156 yc_156 a55 n55 c55 x56 t157 u155)))))))))))))))))))))
 (∃ yx_158 : Int, w134.cell? ((na w).add 0) = some (.int .u8 yx_158) ∧
 (∃ yx_159 : Int, w134.cell? ((na w).add 1) = some (.int .i64 yx_159) ∧
 (∃ yx_160 : Int, w134.cell? ((na w).add 2) = some (.int .i64 yx_160) ∧
 (∃ yf_161 : Nat, w134.cell? ((na w).add 3) = some (.float .f64 yf_161) ∧
 (∃ ya_162 : Option Addr, ∃ yn_162 : Nat, ∃ yc_162 : Nat, w134.cell? ((na w).add 4) = some (.slice ya_162 yn_162 yc_162) ∧
 (∃ yx_163 : Int, w134.cell? ((na w).add 5) = some (.int .u8 yx_163) ∧
 (∃ yx_164 : Int, w134.cell? ((na w).add 6) = some (.int .i64 yx_164) ∧
 (∃ yx_165 : Int, w134.cell? ((na w).add 7) = some (.int .i64 yx_165) ∧
 (nw (w134.alloc (.cells #[.int .u8 yx_158, .int .i64 yx_159, .int .i64 yx_160, .float .f64 yf_161, .slice ya_162 yn_162 yc_162, .int .u8 yx_163, .int .i64 yx_164, .int .i64 yx_165] 49)) fun w166 =>
 rawN Go.Proofs.Tryd.prog (Builtin.append_ #[22, 22] 22 #[.slice a11 n11 c11, .slice (some (na w134)) 1 1]) w166 fun yv167 u168 =>
 ∃ ya_169 : Option Addr, ∃ yn_169 : Nat, ∃ yc_169 : Nat, yv167 = .slice ya_169 yn_169 yc_169 ∧
 (nv (IntKind.i64.wrap (x57 + 1)) fun t170 =>
 b50 a0 n0 c0 a8 n8 c8 ya_169 yn_169 yc_169 a55 n55 c55 x56 t170 u168)))))))))))))))))))))))))))))))
 (R (.slice a11 n11 c11) w)
def thicketlaw13_under.q2 (R : Value → World → Prop) : Exit → Act → World → Prop := (fin Go.Proofs.Tryd.prog Go.Proofs.Tryd.f22 R)
def thicketlaw13_under.q4 (R : Value → World → Prop) : Exit → Act → World → Prop := (thicketlaw13_under.q2 R)
def thicketlaw13_under.q5 (R : Value → World → Prop) : Exit → Act → World → Prop := Exit.then (startN none (codeN Go.Proofs.Tryd.prog (sub (codeOf Go.Proofs.Tryd.f22) [1, 1, 1]) (nsub thicketlaw13_under.an [1, 1, 1]) (thicketlaw13_under.q4 R))) (thicketlaw13_under.q4 R)
def thicketlaw13_under.q7 (R : Value → World → Prop) : Exit → Act → World → Prop := (thicketlaw13_under.q5 R)
def thicketlaw13_under.q8 (R : Value → World → Prop) : Exit → Act → World → Prop := Exit.inBlock 0 (thicketlaw13_under.q7 R)
def thicketlaw13_under.rl8 (R : Value → World → Prop) (k : Nat) (a0 : Option Addr) (n0 : Nat) (c0 : Nat) (a5 : Option Addr) (n5 : Nat) (c5 : Nat) (x6 : Int) (w : World) : Prop := loopN [0, 5, 6] (codeN Go.Proofs.Tryd.prog (sub (codeOf Go.Proofs.Tryd.f22) [1, 1, 0, 1, 0, 0]) (nsub thicketlaw13_under.an [1, 1, 0, 1, 0, 0])) (thicketlaw13_under.q8 R) k ⟨#[.slice a0 n0 c0, undef, undef, undef, undef, .slice a5 n5 c5, .int .i64 x6, undef, undef, undef, undef, undef, undef, undef, undef, undef, undef, undef, undef, undef, undef, undef, undef, undef, undef, undef, undef, undef, undef, undef, undef, undef, undef, undef, undef, undef, undef, undef, undef, undef, undef, undef, undef, undef, undef, undef, undef, undef, undef, undef, undef, undef, undef, undef, undef, undef, undef, undef, undef, undef, undef, undef, undef, undef, undef, undef, undef, undef, undef, undef, undef, undef, undef, undef, undef, undef, undef, undef, undef, undef, undef, undef, undef, undef, undef, undef], []⟩ w
def thicketlaw13_under.re8 (R : Value → World → Prop) (a0 : Option Addr) (n0 : Nat) (c0 : Nat) (a5 : Option Addr) (n5 : Nat) (c5 : Nat) (x6 : Int) (w : World) : Prop := ∃ k, thicketlaw13_under.rl8 R k a0 n0 c0 a5 n5 c5 x6 w
def thicketlaw13_under.q25 (R : Value → World → Prop) : Exit → Act → World → Prop := (thicketlaw13_under.q4 R)
def thicketlaw13_under.q27 (R : Value → World → Prop) : Exit → Act → World → Prop := (thicketlaw13_under.q25 R)
def thicketlaw13_under.q28 (R : Value → World → Prop) : Exit → Act → World → Prop := Exit.then (startN none (codeN Go.Proofs.Tryd.prog (sub (codeOf Go.Proofs.Tryd.f22) [1, 1, 1, 1, 1]) (nsub thicketlaw13_under.an [1, 1, 1, 1, 1]) (thicketlaw13_under.q27 R))) (thicketlaw13_under.q27 R)
def thicketlaw13_under.q30 (R : Value → World → Prop) : Exit → Act → World → Prop := (thicketlaw13_under.q28 R)
def thicketlaw13_under.q31 (R : Value → World → Prop) : Exit → Act → World → Prop := Exit.inBlock 2 (thicketlaw13_under.q30 R)
def thicketlaw13_under.rl31 (R : Value → World → Prop) (k : Nat) (a0 : Option Addr) (n0 : Nat) (c0 : Nat) (a5 : Option Addr) (n5 : Nat) (c5 : Nat) (a8 : Option Addr) (n8 : Nat) (c8 : Nat) (a43 : Option Addr) (n43 : Nat) (c43 : Nat) (x44 : Int) (x45 : Int) (w : World) : Prop := loopN [0, 5, 8, 43, 44, 45] (codeN Go.Proofs.Tryd.prog (sub (codeOf Go.Proofs.Tryd.f22) [1, 1, 1, 1, 0, 1, 0, 0]) (nsub thicketlaw13_under.an [1, 1, 1, 1, 0, 1, 0, 0])) (thicketlaw13_under.q31 R) k ⟨#[.slice a0 n0 c0, undef, undef, undef, undef, .slice a5 n5 c5, undef, undef, .slice a8 n8 c8, undef, undef, undef, undef, undef, undef, undef, undef, undef, undef, undef, undef, undef, undef, undef, undef, undef, undef, undef, undef, undef, undef, undef, undef, undef, undef, undef, undef, undef, undef, undef, undef, undef, undef, .slice a43 n43 c43, .int .i64 x44, .int .i64 x45, undef, undef, undef, undef, undef, undef, undef, undef, undef, undef, undef, undef, undef, undef, undef, undef, undef, undef, undef, undef, undef, undef, undef, undef, undef, undef, undef, undef, undef, undef, undef, undef, undef, undef, undef, undef, undef, undef, undef, undef], []⟩ w
def thicketlaw13_under.re31 (R : Value → World → Prop) (a0 : Option Addr) (n0 : Nat) (c0 : Nat) (a5 : Option Addr) (n5 : Nat) (c5 : Nat) (a8 : Option Addr) (n8 : Nat) (c8 : Nat) (a43 : Option Addr) (n43 : Nat) (c43 : Nat) (x44 : Int) (x45 : Int) (w : World) : Prop := ∃ k, thicketlaw13_under.rl31 R k a0 n0 c0 a5 n5 c5 a8 n8 c8 a43 n43 c43 x44 x45 w
def thicketlaw13_under.q44 (R : Value → World → Prop) : Exit → Act → World → Prop := (thicketlaw13_under.q27 R)
def thicketlaw13_under.q46 (R : Value → World → Prop) : Exit → Act → World → Prop := (thicketlaw13_under.q44 R)
def thicketlaw13_under.q47 (R : Value → World → Prop) : Exit → Act → World → Prop := Exit.then (startN none (codeN Go.Proofs.Tryd.prog (sub (codeOf Go.Proofs.Tryd.f22) [1, 1, 1, 1, 1, 1, 1]) (nsub thicketlaw13_under.an [1, 1, 1, 1, 1, 1, 1]) (thicketlaw13_under.q46 R))) (thicketlaw13_under.q46 R)
def thicketlaw13_under.q49 (R : Value → World → Prop) : Exit → Act → World → Prop := (thicketlaw13_under.q47 R)
def thicketlaw13_under.q50 (R : Value → World → Prop) : Exit → Act → World → Prop := Exit.inBlock 4 (thicketlaw13_under.q49 R)
def thicketlaw13_under.rl50 (R : Value → World → Prop) (k : Nat) (a0 : Option Addr) (n0 : Nat) (c0 : Nat) (a8 : Option Addr) (n8 : Nat) (c8 : Nat) (a11 : Option Addr) (n11 : Nat) (c11 : Nat) (a55 : Option Addr) (n55 : Nat) (c55 : Nat) (x56 : Int) (x57 : Int) (w : World) : Prop := loopN [0, 8, 11, 55, 56, 57] (codeN Go.Proofs.Tryd.prog (sub (codeOf Go.Proofs.Tryd.f22) [1, 1, 1, 1, 1, 1, 0, 1, 0, 0]) (nsub thicketlaw13_under.an [1, 1, 1, 1, 1, 1, 0, 1, 0, 0])) (thicketlaw13_under.q50 R) k ⟨#[.slice a0 n0 c0, undef, undef, undef, undef, undef, undef, undef, .slice a8 n8 c8, undef, undef, .slice a11 n11 c11, undef, undef, undef, undef, undef, undef, undef, undef, undef, undef, undef, undef, undef, undef, undef, undef, undef, undef, undef, undef, undef, undef, undef, undef, undef, undef, undef, undef, undef, undef, undef, undef, undef, undef, undef, undef, undef, undef, undef, undef, undef, undef, undef, .slice a55 n55 c55, .int .i64 x56, .int .i64 x57, undef, undef, undef, undef, undef, undef, undef, undef, undef, undef, undef, undef, undef, undef, undef, undef, undef, undef, undef, undef, undef, undef, undef, undef, undef, undef, undef, undef], []⟩ w
def thicketlaw13_under.re50 (R : Value → World → Prop) (a0 : Option Addr) (n0 : Nat) (c0 : Nat) (a8 : Option Addr) (n8 : Nat) (c8 : Nat) (a11 : Option Addr) (n11 : Nat) (c11 : Nat) (a55 : Option Addr) (n55 : Nat) (c55 : Nat) (x56 : Int) (x57 : Int) (w : World) : Prop := ∃ k, thicketlaw13_under.rl50 R k a0 n0 c0 a8 n8 c8 a11 n11 c11 a55 n55 c55 x56 x57 w
def thicketlaw13_under.l50 (R : Value → World → Prop) : Nat → (Option Addr) → Nat → Nat → (Option Addr) → Nat → Nat → (Option Addr) → Nat → Nat → (Option Addr) → Nat → Nat → Int → Int → World → Prop
  | 0, _, _, _, _, _, _, _, _, _, _, _, _, _, _, _ => False
  | k + 1, a0, n0, c0, a8, n8, c8, a11, n11, c11, a55, n55, c55, x56, x57, w => thicketlaw13_under.g50 R (thicketlaw13_under.l50 R k) a0 n0 c0 a8 n8 c8 a11 n11 c11 a55 n55 c55 x56 x57 w
def thicketlaw13_under.e50 (R : Value → World → Prop) (a0 : Option Addr) (n0 : Nat) (c0 : Nat) (a8 : Option Addr) (n8 : Nat) (c8 : Nat) (a11 : Option Addr) (n11 : Nat) (c11 : Nat) (a55 : Option Addr) (n55 : Nat) (c55 : Nat) (x56 : Int) (x57 : Int) (w : World) : Prop := ∃ k, thicketlaw13_under.l50 R k a0 n0 c0 a8 n8 c8 a11 n11 c11 a55 n55 c55 x56 x57 w
theorem thicketlaw13_under.s50 (R : Value → World → Prop) (k : Nat) (a0 : Option Addr) (n0 : Nat) (c0 : Nat) (a8 : Option Addr) (n8 : Nat) (c8 : Nat) (a11 : Option Addr) (n11 : Nat) (c11 : Nat) (a55 : Option Addr) (n55 : Nat) (c55 : Nat) (x56 : Int) (x57 : Int) (w : World) : thicketlaw13_under.rl50 R (k + 1) a0 n0 c0 a8 n8 c8 a11 n11 c11 a55 n55 c55 x56 x57 w = ∀ _ : Nat → Value, thicketlaw13_under.g50 R (thicketlaw13_under.rl50 R k) a0 n0 c0 a8 n8 c8 a11 n11 c11 a55 n55 c55 x56 x57 w := by kernel_rfl
theorem thicketlaw13_under.lq50 (R : Value → World → Prop) : ∀ k, thicketlaw13_under.l50 R k = thicketlaw13_under.rl50 R k
  | 0 => by funext a0 n0 c0 a8 n8 c8 a11 n11 c11 a55 n55 c55 x56 x57 w; first | rfl | kernel_rfl
  | k + 1 => by
    funext a0 n0 c0 a8 n8 c8 a11 n11 c11 a55 n55 c55 x56 x57 w
    rw [thicketlaw13_under.s50, forall_const]
    unfold thicketlaw13_under.l50
    have ih := thicketlaw13_under.lq50 R k
    rw [ih]
    all_goals rfl
theorem thicketlaw13_under.eq50 (R : Value → World → Prop) : thicketlaw13_under.e50 R = thicketlaw13_under.re50 R := by
  funext a0 n0 c0 a8 n8 c8 a11 n11 c11 a55 n55 c55 x56 x57 w
  unfold thicketlaw13_under.e50 thicketlaw13_under.re50
  simp only [thicketlaw13_under.lq50 R]
def thicketlaw13_under.l31 (R : Value → World → Prop) : Nat → (Option Addr) → Nat → Nat → (Option Addr) → Nat → Nat → (Option Addr) → Nat → Nat → (Option Addr) → Nat → Nat → Int → Int → World → Prop
  | 0, _, _, _, _, _, _, _, _, _, _, _, _, _, _, _ => False
  | k + 1, a0, n0, c0, a5, n5, c5, a8, n8, c8, a43, n43, c43, x44, x45, w => thicketlaw13_under.g31 R (thicketlaw13_under.l31 R k) (thicketlaw13_under.e50 R) a0 n0 c0 a5 n5 c5 a8 n8 c8 a43 n43 c43 x44 x45 w
def thicketlaw13_under.e31 (R : Value → World → Prop) (a0 : Option Addr) (n0 : Nat) (c0 : Nat) (a5 : Option Addr) (n5 : Nat) (c5 : Nat) (a8 : Option Addr) (n8 : Nat) (c8 : Nat) (a43 : Option Addr) (n43 : Nat) (c43 : Nat) (x44 : Int) (x45 : Int) (w : World) : Prop := ∃ k, thicketlaw13_under.l31 R k a0 n0 c0 a5 n5 c5 a8 n8 c8 a43 n43 c43 x44 x45 w
theorem thicketlaw13_under.s31 (R : Value → World → Prop) (k : Nat) (a0 : Option Addr) (n0 : Nat) (c0 : Nat) (a5 : Option Addr) (n5 : Nat) (c5 : Nat) (a8 : Option Addr) (n8 : Nat) (c8 : Nat) (a43 : Option Addr) (n43 : Nat) (c43 : Nat) (x44 : Int) (x45 : Int) (w : World) : thicketlaw13_under.rl31 R (k + 1) a0 n0 c0 a5 n5 c5 a8 n8 c8 a43 n43 c43 x44 x45 w = ∀ _ : Nat → Value, thicketlaw13_under.g31 R (thicketlaw13_under.rl31 R k) (thicketlaw13_under.re50 R) a0 n0 c0 a5 n5 c5 a8 n8 c8 a43 n43 c43 x44 x45 w := by kernel_rfl
theorem thicketlaw13_under.lq31 (R : Value → World → Prop) : ∀ k, thicketlaw13_under.l31 R k = thicketlaw13_under.rl31 R k
  | 0 => by funext a0 n0 c0 a5 n5 c5 a8 n8 c8 a43 n43 c43 x44 x45 w; first | rfl | kernel_rfl
  | k + 1 => by
    funext a0 n0 c0 a5 n5 c5 a8 n8 c8 a43 n43 c43 x44 x45 w
    rw [thicketlaw13_under.s31, forall_const]
    unfold thicketlaw13_under.l31
    have ih := thicketlaw13_under.lq31 R k
    rw [thicketlaw13_under.eq50 R]
    rw [ih]
    all_goals rfl
theorem thicketlaw13_under.eq31 (R : Value → World → Prop) : thicketlaw13_under.e31 R = thicketlaw13_under.re31 R := by
  funext a0 n0 c0 a5 n5 c5 a8 n8 c8 a43 n43 c43 x44 x45 w
  unfold thicketlaw13_under.e31 thicketlaw13_under.re31
  simp only [thicketlaw13_under.lq31 R]
def thicketlaw13_under.l8 (R : Value → World → Prop) : Nat → (Option Addr) → Nat → Nat → (Option Addr) → Nat → Nat → Int → World → Prop
  | 0, _, _, _, _, _, _, _, _ => False
  | k + 1, a0, n0, c0, a5, n5, c5, x6, w => thicketlaw13_under.g8 R (thicketlaw13_under.l8 R k) (thicketlaw13_under.e31 R) a0 n0 c0 a5 n5 c5 x6 w
def thicketlaw13_under.e8 (R : Value → World → Prop) (a0 : Option Addr) (n0 : Nat) (c0 : Nat) (a5 : Option Addr) (n5 : Nat) (c5 : Nat) (x6 : Int) (w : World) : Prop := ∃ k, thicketlaw13_under.l8 R k a0 n0 c0 a5 n5 c5 x6 w
theorem thicketlaw13_under.s8 (R : Value → World → Prop) (k : Nat) (a0 : Option Addr) (n0 : Nat) (c0 : Nat) (a5 : Option Addr) (n5 : Nat) (c5 : Nat) (x6 : Int) (w : World) : thicketlaw13_under.rl8 R (k + 1) a0 n0 c0 a5 n5 c5 x6 w = ∀ _ : Nat → Value, thicketlaw13_under.g8 R (thicketlaw13_under.rl8 R k) (thicketlaw13_under.re31 R) a0 n0 c0 a5 n5 c5 x6 w := by kernel_rfl
theorem thicketlaw13_under.lq8 (R : Value → World → Prop) : ∀ k, thicketlaw13_under.l8 R k = thicketlaw13_under.rl8 R k
  | 0 => by funext a0 n0 c0 a5 n5 c5 x6 w; first | rfl | kernel_rfl
  | k + 1 => by
    funext a0 n0 c0 a5 n5 c5 x6 w
    rw [thicketlaw13_under.s8, forall_const]
    unfold thicketlaw13_under.l8
    have ih := thicketlaw13_under.lq8 R k
    rw [thicketlaw13_under.eq31 R]
    rw [ih]
    all_goals rfl
theorem thicketlaw13_under.eq8 (R : Value → World → Prop) : thicketlaw13_under.e8 R = thicketlaw13_under.re8 R := by
  funext a0 n0 c0 a5 n5 c5 x6 w
  unfold thicketlaw13_under.e8 thicketlaw13_under.re8
  simp only [thicketlaw13_under.lq8 R]
def thicketlaw13_under (R : Value → World → Prop) (a0 : Option Addr) (n0 : Nat) (c0 : Nat) (x1 : Int) (w : World) : Prop := thicketlaw13_under.g0 R (thicketlaw13_under.e8 R) a0 n0 c0 x1 w
theorem thicketlaw13_under.root0 (R : Value → World → Prop) (a0 : Option Addr) (n0 : Nat) (c0 : Nat) (x1 : Int) (w : World) : fnN Go.Proofs.Tryd.prog Go.Proofs.Tryd.f22 thicketlaw13_under.an #[.slice a0 n0 c0, .int .i64 x1] w R = thicketlaw13_under.g0 R (thicketlaw13_under.re8 R) a0 n0 c0 x1 w := by kernel_rfl
theorem thicketlaw13_under.calls {R : Value → World → Prop} {a0 : Option Addr} {n0 : Nat} {c0 : Nat} {x1 : Int} {w : World} (h : thicketlaw13_under R a0 n0 c0 x1 w) : Go.E.CallsD Go.Proofs.Tryd.prog 22 #[.slice a0 n0 c0, .int .i64 x1] w R := by
  refine callsD_of (n := thicketlaw13_under.an) M_follows M_sizes Go.Proofs.Tryd.func22 (by rfl) ?_
  rw [thicketlaw13_under.root0]
  unfold thicketlaw13_under at h
  rw [thicketlaw13_under.eq8 R] at h
  exact h
-- thicket/thicketref13.Marks
def thicketref13_Marks.an : An := (.mk none .nil (.mk none .nil (.mk none .nil (.mk none .nil (.mk none .nil (.mk none (.mk none .nil (.mk none (.mk (some [1, 6, 7, 25, 26, 27]) .nil .nil) .nil)) .nil))))))
def thicketref13_Marks.g0 (R : Value → World → Prop) (e20 : (Option Addr) → (Option Addr) → Nat → Nat → (Option Addr) → Nat → Nat → (Option Addr) → Nat → Nat → Int → Int → World → Prop) (x0_0 : Int) (a0_1 : Option Addr) (n0_1 : Nat) (c0_1 : Nat) (w : World) : Prop :=
 nw (w.alloc (.cells #[.int .i64 x0_0, .slice a0_1 n0_1 c0_1] 24)) fun w68 =>
 ∃ yx_69 : Int, w68.cell? ((na w).add 0) = some (.int .i64 yx_69) ∧
 (∃ ya_70 : Option Addr, ∃ yn_70 : Nat, ∃ yc_70 : Nat, w68.cell? ((na w).add 1) = some (.slice ya_70 yn_70 yc_70) ∧
 (Go.E.CallsD Go.Proofs.Tryd.prog 38 #[.agg #[.int .i64 yx_69, .slice ya_70 yn_70 yc_70]] w68 fun yv71 u72 =>
 ∃ yx_73_0 : Int, ∃ yx_73_1 : Int, yv71 = .tuple #[.int .i64 yx_73_0, .int .i64 yx_73_1] ∧
 (onBool (yx_73_1 != 0)
 (R (.tuple #[.slice none 0 0, .int .i64 yx_73_1]) u72)
 (∃ ya_74 : Option Addr, ∃ yn_74 : Nat, ∃ yc_74 : Nat, u72.cell? ((na w).add 1) = some (.slice ya_74 yn_74 yc_74) ∧
 (chk ((0 : Int) ≤ (yn_74 : Int) ∧ (yn_74 : Int) ≤ (yn_74 : Int) ∧ ((8 : Nat) : Int) * (yn_74 : Int) ≤ 281474976710656 ∧ (yn_74 : Int) ≤ 9223372036854775807)
 (nw (u72.alloc (.cells (madeCells #[.int .i64 0] (((yn_74 : Int)).toNat * 1)) 3)) fun w75 =>
 ∃ yx_76 : Int, w75.cell? ((na w).add 0) = some (.int .i64 yx_76) ∧
 (∃ ya_77 : Option Addr, ∃ yn_77 : Nat, ∃ yc_77 : Nat, w75.cell? ((na w).add 1) = some (.slice ya_77 yn_77 yc_77) ∧
 (Go.E.CallsD Go.Proofs.Tryd.prog 46 #[.agg #[.int .i64 yx_76, .slice ya_77 yn_77 yc_77]] w75 fun yv78 u79 =>
 ∃ ya_80 : Option Addr, ∃ yn_80 : Nat, ∃ yc_80 : Nat, yv78 = .slice ya_80 yn_80 yc_80 ∧
 (e20 (some (na w)) (some (na u72)) (((yn_74 : Int)).toNat) (((yn_74 : Int)).toNat) none 0 0 ya_80 yn_80 yc_80 (yn_80 : Int) 0 u79)))))))))
def thicketref13_Marks.g20 (R : Value → World → Prop) (b20 : (Option Addr) → (Option Addr) → Nat → Nat → (Option Addr) → Nat → Nat → (Option Addr) → Nat → Nat → Int → Int → World → Prop) (p1 : Option Addr) (a6 : Option Addr) (n6 : Nat) (c6 : Nat) (a7 : Option Addr) (n7 : Nat) (c7 : Nat) (a25 : Option Addr) (n25 : Nat) (c25 : Nat) (x26 : Int) (x27 : Int) (w : World) : Prop :=
 onBool (decide (x27 < x26))
 (optN a25 fun q81 =>
 chk ((0 : Int) ≤ x27 ∧ x27 < (n25 : Int))
 (∃ yx_82 : Int, w.cell? (q81.add (x27.toNat * 1)) = some (.int .i64 yx_82) ∧
 (optN p1 fun q83 =>
 ∃ ya_84 : Option Addr, ∃ yn_84 : Nat, ∃ yc_84 : Nat, w.cell? (q83.add 1) = some (.slice ya_84 yn_84 yc_84) ∧
 (optN ya_84 fun q85 =>
 chk ((0 : Int) ≤ yx_82 ∧ yx_82 < (yn_84 : Int))
 (∃ yx_86 : Int, w.cell? ((q85.add (yx_82.toNat * 8)).add 0) = some (.int .u8 yx_86) ∧
 (∃ yx_87 : Int, w.cell? ((q85.add (yx_82.toNat * 8)).add 1) = some (.int .i64 yx_87) ∧
 (∃ yx_88 : Int, w.cell? ((q85.add (yx_82.toNat * 8)).add 2) = some (.int .i64 yx_88) ∧
 (∃ yf_89 : Nat, w.cell? ((q85.add (yx_82.toNat * 8)).add 3) = some (.float .f64 yf_89) ∧
 (∃ ya_90 : Option Addr, ∃ yn_90 : Nat, ∃ yc_90 : Nat, w.cell? ((q85.add (yx_82.toNat * 8)).add 4) = some (.slice ya_90 yn_90 yc_90) ∧
 (∃ yx_91 : Int, w.cell? ((q85.add (yx_82.toNat * 8)).add 5) = some (.int .u8 yx_91) ∧
 (∃ yx_92 : Int, w.cell? ((q85.add (yx_82.toNat * 8)).add 6) = some (.int .i64 yx_92) ∧
 (∃ yx_93 : Int, w.cell? ((q85.add (yx_82.toNat * 8)).add 7) = some (.int .i64 yx_93) ∧
 (nw (w.alloc (.cells #[.int .u8 0, .int .i64 0, .int .i64 0, .float .f64 0, .slice none 0 0, .int .u8 0, .int .i64 0, .int .i64 0] 49)) fun w94 =>
 okSt w94 ((na w).add 0) ∧
 (nw (w94.setCell ((na w).add 0) (.int .u8 yx_86)) fun w95 =>
 okSt w95 ((na w).add 1) ∧
 (nw (w95.setCell ((na w).add 1) (.int .i64 yx_87)) fun w96 =>
 okSt w96 ((na w).add 2) ∧
 (nw (w96.setCell ((na w).add 2) (.int .i64 yx_88)) fun w97 =>
 okSt w97 ((na w).add 3) ∧
 (nw (w97.setCell ((na w).add 3) (.float .f64 yf_89)) fun w98 =>
 okSt w98 ((na w).add 4) ∧
 (nw (w98.setCell ((na w).add 4) (.slice ya_90 yn_90 yc_90)) fun w99 =>
 okSt w99 ((na w).add 5) ∧
 (nw (w99.setCell ((na w).add 5) (.int .u8 yx_91)) fun w100 =>
 okSt w100 ((na w).add 6) ∧
 (nw (w100.setCell ((na w).add 6) (.int .i64 yx_92)) fun w101 =>
 okSt w101 ((na w).add 7) ∧
 (nw (w101.setCell ((na w).add 7) (.int .i64 yx_93)) fun w102 =>
 ∃ yx_103 : Int, w102.cell? ((na w).add 0) = some (.int .u8 yx_103) ∧
 (onBool (yx_103 == 1)
 (nv (IntKind.i64.wrap (x27 + 1)) fun t104 =>
 b20 p1 a6 n6 c6 a7 n7 c7 a25 n25 c25 x26 t104 w102)
 (optN p1 fun q105 =>
 ∃ yx_106 : Int, w102.cell? (q105.add 0) = some (.int .i64 yx_106) ∧
 (∃ ya_107 : Option Addr, ∃ yn_107 : Nat, ∃ yc_107 : Nat, w102.cell? (q105.add 1) = some (.slice ya_107 yn_107 yc_107) ∧
 (∃ yx_108 : Int, w102.cell? ((na w).add 6) = some (.int .i64 yx_108) ∧
 (Go.E.CallsD Go.Proofs.Tryd.prog 47 #[.agg #[.int .i64 yx_106, .slice ya_107 yn_107 yc_107], .int .i64 yx_108] w102 fun yv109 u110 =>
 ∃ yx_111 : Int, yv109 = .int .i64 yx_111 ∧
 (∃ F112 : Nat → Value → World → Prop, (∀ i v u u', F112 i v u → Below u.heap.size u u' → F112 i v u') ∧
 (optN a6 fun q113 =>
 chk ((0 : Int) ≤ yx_82 ∧ yx_82 < (n6 : Int))
 (∃ yx_114 : Int, u110.cell? (q113.add (yx_82.toNat * 1)) = some (.int .i64 yx_114) ∧
 (optN a6 fun q115 =>
 chk ((0 : Int) ≤ yx_82 ∧ yx_82 < (n6 : Int))
 (∃ yx_116 : Int, u110.cell? (q115.add (yx_82.toNat * 1)) = some (.int .i64 yx_116) ∧
 (nv (IntKind.i64.wrap (yx_116 + yx_111)) fun t117 =>
 (∀ u118 : World, Below u110.heap.size u110 u118 → F112 13 (.slice (some (na u118)) 1 1) (u118.alloc (.cells #[.int .i64 yx_82, .int .i64 yx_114, .int .i64 t117] 44))) ∧
 (∀ q119 : Addr, (∃ u, Below u110.heap.size u110 u ∧ F112 13 (.slice (some q119) 1 1) u) →
 ∀ u120 : World, Below u110.heap.size u110 u120 → F112 13 (.slice (some q119) 1 1) u120 → 
 rawN Go.Proofs.Tryd.prog (Builtin.append_ #[26, 26] 26 #[.slice a7 n7 c7, .slice (some q119) 1 1]) u120 fun yv121 u122 =>
 ∃ ya_123 : Option Addr, ∃ yn_123 : Nat, ∃ yc_123 : Nat, yv121 = .slice ya_123 yn_123 yc_123 ∧
 (∃ yx_124 : Int, u122.cell? ((na w).add 6) = some (.int .i64 yx_124) ∧
 (optN a6 fun q125 =>
 chk ((0 : Int) ≤ yx_82 ∧ yx_82 < (n6 : Int))
 (∃ yx_126 : Int, u122.cell? (q125.add (yx_82.toNat * 1)) = some (.int .i64 yx_126) ∧
 (optN a6 fun q127 =>
 chk ((0 : Int) ≤ yx_124 ∧ yx_124 < (n6 : Int))
 (okSt u122 ((q127.add (yx_124.toNat * 1)).add 0) ∧
 (nw (u122.setCell ((q127.add (yx_124.toNat * 1)).add 0) (.int .i64 yx_126)) fun w128 =>
 ∃ yx_129 : Int, w128.cell? ((na w).add 7) = some (.int .i64 yx_129) ∧
 (optN a6 fun q130 =>
 chk ((0 : Int) ≤ yx_82 ∧ yx_82 < (n6 : Int))
 (∃ yx_131 : Int, w128.cell? (q130.add (yx_82.toNat * 1)) = some (.int .i64 yx_131) ∧
 (nv (IntKind.i64.wrap (yx_131 + yx_111)) fun t132 =>
 optN a6 fun q133 =>
 chk ((0 : Int) ≤ yx_129 ∧ yx_129 < (n6 : Int))
 (okSt w128 ((q133.add (yx_129.toNat * 1)).add 0) ∧
 (nw (w128.setCell ((q133.add (yx_129.toNat * 1)).add 0) (.int .i64 t132)) fun w134 =>
 nv (IntKind.i64.wrap (x27 + 1)) fun t135 =>
 b20 p1 a6 n6 c6 ya_123 yn_123 yc_123 a25 n25 c25 x26 t135 w134))))))))))))))))))))))))))))))))))))))))))))
 (R (.tuple #[.slice a7 n7 c7, .int .i64 0]) w)
def thicketref13_Marks.q2 (R : Value → World → Prop) : Exit → Act → World → Prop := (fin Go.Proofs.Tryd.prog Go.Proofs.Tryd.f23 R)
def thicketref13_Marks.q4 (R : Value → World → Prop) : Exit → Act → World → Prop := (thicketref13_Marks.q2 R)
def thicketref13_Marks.q12 (R : Value → World → Prop) : Exit → Act → World → Prop := (thicketref13_Marks.q4 R)
def thicketref13_Marks.q14 (R : Value → World → Prop) : Exit → Act → World → Prop := (thicketref13_Marks.q12 R)
def thicketref13_Marks.q16 (R : Value → World → Prop) : Exit → Act → World → Prop := (thicketref13_Marks.q14 R)
def thicketref13_Marks.q17 (R : Value → World → Prop) : Exit → Act → World → Prop := Exit.then (startN none (codeN Go.Proofs.Tryd.prog (sub (codeOf Go.Proofs.Tryd.f23) [1, 1, 1, 1, 1, 1]) (nsub thicketref13_Marks.an [1, 1, 1, 1, 1, 1]) (thicketref13_Marks.q16 R))) (thicketref13_Marks.q16 R)
def thicketref13_Marks.q19 (R : Value → World → Prop) : Exit → Act → World → Prop := (thicketref13_Marks.q17 R)
def thicketref13_Marks.q20 (R : Value → World → Prop) : Exit → Act → World → Prop := Exit.inBlock 0 (thicketref13_Marks.q19 R)
def thicketref13_Marks.rl20 (R : Value → World → Prop) (k : Nat) (p1 : Option Addr) (a6 : Option Addr) (n6 : Nat) (c6 : Nat) (a7 : Option Addr) (n7 : Nat) (c7 : Nat) (a25 : Option Addr) (n25 : Nat) (c25 : Nat) (x26 : Int) (x27 : Int) (w : World) : Prop := loopN [1, 6, 7, 25, 26, 27] (codeN Go.Proofs.Tryd.prog (sub (codeOf Go.Proofs.Tryd.f23) [1, 1, 1, 1, 1, 0, 1, 0, 0]) (nsub thicketref13_Marks.an [1, 1, 1, 1, 1, 0, 1, 0, 0])) (thicketref13_Marks.q20 R) k ⟨#[undef, .pointer p1, undef, undef, undef, undef, .slice a6 n6 c6, .slice a7 n7 c7, undef, undef, undef, undef, undef, undef, undef, undef, undef, undef, undef, undef, undef, undef, undef, undef, undef, .slice a25 n25 c25, .int .i64 x26, .int .i64 x27, undef, undef, undef, undef, undef, undef, undef, undef, undef, undef, undef, undef, undef, undef, undef, undef, undef, undef, undef, undef, undef, undef, undef, undef, undef, undef, undef, undef, undef, undef, undef, undef, undef, undef, undef, undef, undef, undef, undef, undef, undef, undef, undef, undef, undef, undef, undef, undef, undef, undef], []⟩ w
def thicketref13_Marks.re20 (R : Value → World → Prop) (p1 : Option Addr) (a6 : Option Addr) (n6 : Nat) (c6 : Nat) (a7 : Option Addr) (n7 : Nat) (c7 : Nat) (a25 : Option Addr) (n25 : Nat) (c25 : Nat) (x26 : Int) (x27 : Int) (w : World) : Prop := ∃ k, thicketref13_Marks.rl20 R k p1 a6 n6 c6 a7 n7 c7 a25 n25 c25 x26 x27 w
def thicketref13_Marks.l20 (R : Value → World → Prop) : Nat → (Option Addr) → (Option Addr) → Nat → Nat → (Option Addr) → Nat → Nat → (Option Addr) → Nat → Nat → Int → Int → World → Prop
  | 0, _, _, _, _, _, _, _, _, _, _, _, _, _ => False
  | k + 1, p1, a6, n6, c6, a7, n7, c7, a25, n25, c25, x26, x27, w => thicketref13_Marks.g20 R (thicketref13_Marks.l20 R k) p1 a6 n6 c6 a7 n7 c7 a25 n25 c25 x26 x27 w
def thicketref13_Marks.e20 (R : Value → World → Prop) (p1 : Option Addr) (a6 : Option Addr) (n6 : Nat) (c6 : Nat) (a7 : Option Addr) (n7 : Nat) (c7 : Nat) (a25 : Option Addr) (n25 : Nat) (c25 : Nat) (x26 : Int) (x27 : Int) (w : World) : Prop := ∃ k, thicketref13_Marks.l20 R k p1 a6 n6 c6 a7 n7 c7 a25 n25 c25 x26 x27 w
theorem thicketref13_Marks.s20 (R : Value → World → Prop) (k : Nat) (p1 : Option Addr) (a6 : Option Addr) (n6 : Nat) (c6 : Nat) (a7 : Option Addr) (n7 : Nat) (c7 : Nat) (a25 : Option Addr) (n25 : Nat) (c25 : Nat) (x26 : Int) (x27 : Int) (w : World) : thicketref13_Marks.rl20 R (k + 1) p1 a6 n6 c6 a7 n7 c7 a25 n25 c25 x26 x27 w = ∀ _ : Nat → Value, thicketref13_Marks.g20 R (thicketref13_Marks.rl20 R k) p1 a6 n6 c6 a7 n7 c7 a25 n25 c25 x26 x27 w := by kernel_rfl
theorem thicketref13_Marks.lq20 (R : Value → World → Prop) : ∀ k, thicketref13_Marks.l20 R k = thicketref13_Marks.rl20 R k
  | 0 => by funext p1 a6 n6 c6 a7 n7 c7 a25 n25 c25 x26 x27 w; first | rfl | kernel_rfl
  | k + 1 => by
    funext p1 a6 n6 c6 a7 n7 c7 a25 n25 c25 x26 x27 w
    rw [thicketref13_Marks.s20, forall_const]
    unfold thicketref13_Marks.l20
    have ih := thicketref13_Marks.lq20 R k
    rw [ih]
    all_goals rfl
theorem thicketref13_Marks.eq20 (R : Value → World → Prop) : thicketref13_Marks.e20 R = thicketref13_Marks.re20 R := by
  funext p1 a6 n6 c6 a7 n7 c7 a25 n25 c25 x26 x27 w
  unfold thicketref13_Marks.e20 thicketref13_Marks.re20
  simp only [thicketref13_Marks.lq20 R]
def thicketref13_Marks (R : Value → World → Prop) (x0_0 : Int) (a0_1 : Option Addr) (n0_1 : Nat) (c0_1 : Nat) (w : World) : Prop := thicketref13_Marks.g0 R (thicketref13_Marks.e20 R) x0_0 a0_1 n0_1 c0_1 w
theorem thicketref13_Marks.root0 (R : Value → World → Prop) (x0_0 : Int) (a0_1 : Option Addr) (n0_1 : Nat) (c0_1 : Nat) (w : World) : fnN Go.Proofs.Tryd.prog Go.Proofs.Tryd.f23 thicketref13_Marks.an #[.agg #[.int .i64 x0_0, .slice a0_1 n0_1 c0_1]] w R = thicketref13_Marks.g0 R (thicketref13_Marks.re20 R) x0_0 a0_1 n0_1 c0_1 w := by kernel_rfl
theorem thicketref13_Marks.calls {R : Value → World → Prop} {x0_0 : Int} {a0_1 : Option Addr} {n0_1 : Nat} {c0_1 : Nat} {w : World} (h : thicketref13_Marks R x0_0 a0_1 n0_1 c0_1 w) : Go.E.CallsD Go.Proofs.Tryd.prog 23 #[.agg #[.int .i64 x0_0, .slice a0_1 n0_1 c0_1]] w R := by
  refine callsD_of (n := thicketref13_Marks.an) M_follows M_sizes Go.Proofs.Tryd.func23 (by rfl) ?_
  rw [thicketref13_Marks.root0]
  unfold thicketref13_Marks at h
  rw [thicketref13_Marks.eq20 R] at h
  exact h
-- thicket/masks.Masks
def masks_Masks.an : An := (.mk none .nil (.mk none .nil (.mk none .nil (.mk none .nil (.mk none .nil (.mk none (.mk none .nil (.mk none (.mk (some [4, 8, 26, 27, 28]) .nil .nil) .nil)) .nil))))))
def masks_Masks.g0 (R : Value → World → Prop) (e20 : Int → (Option Addr) → Nat → Nat → (Option Addr) → Nat → Nat → Int → Int → World → Prop) (x0_0 : Int) (a0_1 : Option Addr) (n0_1 : Nat) (c0_1 : Nat) (w : World) : Prop :=
 nw (w.alloc (.cells #[.int .i64 x0_0, .slice a0_1 n0_1 c0_1] 24)) fun w30 =>
 ∃ yx_31 : Int, w30.cell? ((na w).add 0) = some (.int .i64 yx_31) ∧
 (∃ ya_32 : Option Addr, ∃ yn_32 : Nat, ∃ yc_32 : Nat, w30.cell? ((na w).add 1) = some (.slice ya_32 yn_32 yc_32) ∧
 (Go.E.CallsD Go.Proofs.Tryd.prog 37 #[.agg #[.int .i64 yx_31, .slice ya_32 yn_32 yc_32]] w30 fun yv33 u34 =>
 ∃ yx_35_0 : Int, ∃ yx_35_1 : Int, yv33 = .tuple #[.int .i64 yx_35_0, .int .i64 yx_35_1] ∧
 (onBool (yx_35_1 != 0)
 (R (.tuple #[.slice none 0 0, .int .i64 yx_35_1]) u34)
 (∃ yx_36 : Int, u34.cell? ((na w).add 0) = some (.int .i64 yx_36) ∧
 (∃ ya_37 : Option Addr, ∃ yn_37 : Nat, ∃ yc_37 : Nat, u34.cell? ((na w).add 1) = some (.slice ya_37 yn_37 yc_37) ∧
 (Go.E.CallsD Go.Proofs.Tryd.prog 18 #[.agg #[.int .i64 yx_36, .slice ya_37 yn_37 yc_37]] u34 fun yv38 u39 =>
 ∃ ya_40_0 : Option Addr, ∃ yn_40_0 : Nat, ∃ yc_40_0 : Nat, ∃ yx_40_1 : Int, yv38 = .tuple #[.slice ya_40_0 yn_40_0 yc_40_0, .int .i64 yx_40_1] ∧
 (e20 yx_35_0 none 0 0 ya_40_0 yn_40_0 yc_40_0 (yn_40_0 : Int) 0 u39)))))))
def masks_Masks.g20 (R : Value → World → Prop) (b20 : Int → (Option Addr) → Nat → Nat → (Option Addr) → Nat → Nat → Int → Int → World → Prop) (x4 : Int) (a8 : Option Addr) (n8 : Nat) (c8 : Nat) (a26 : Option Addr) (n26 : Nat) (c26 : Nat) (x27 : Int) (x28 : Int) (w : World) : Prop :=
 onBool (decide (x28 < x27))
 (optN a26 fun q41 =>
 chk ((0 : Int) ≤ x28 ∧ x28 < (n26 : Int))
 (∃ yx_42 : Int, w.cell? ((q41.add (x28.toNat * 3)).add 0) = some (.int .i64 yx_42) ∧
 (∃ yx_43 : Int, w.cell? ((q41.add (x28.toNat * 3)).add 1) = some (.int .i64 yx_43) ∧
 (∃ yx_44 : Int, w.cell? ((q41.add (x28.toNat * 3)).add 2) = some (.int .i64 yx_44) ∧
 (nw (w.alloc (.cells #[.int .i64 0, .int .i64 0, .int .i64 0] 44)) fun w45 =>
 okSt w45 ((na w).add 0) ∧
 (nw (w45.setCell ((na w).add 0) (.int .i64 yx_42)) fun w46 =>
 okSt w46 ((na w).add 1) ∧
 (nw (w46.setCell ((na w).add 1) (.int .i64 yx_43)) fun w47 =>
 okSt w47 ((na w).add 2) ∧
 (nw (w47.setCell ((na w).add 2) (.int .i64 yx_44)) fun w48 =>
 ∃ yx_49 : Int, w48.cell? ((na w).add 1) = some (.int .i64 yx_49) ∧
 (∃ yx_50 : Int, w48.cell? ((na w).add 2) = some (.int .i64 yx_50) ∧
 (Go.E.CallsD Go.Proofs.Tryd.prog 30 #[.int .i64 x4, .int .i64 yx_49, .int .i64 yx_50] w48 fun yv51 u52 =>
 ∃ ya_53_0 : Option Addr, ∃ yn_53_0 : Nat, ∃ yc_53_0 : Nat, ∃ yx_53_1 : Int, yv51 = .tuple #[.slice ya_53_0 yn_53_0 yc_53_0, .int .i64 yx_53_1] ∧
 (nw (u52.alloc (.cells #[.slice ya_53_0 yn_53_0 yc_53_0] 30)) fun w54 =>
 rawN Go.Proofs.Tryd.prog (Builtin.append_ #[53, 53] 53 #[.slice a8 n8 c8, .slice (some (na u52)) 1 1]) w54 fun yv55 u56 =>
 ∃ ya_57 : Option Addr, ∃ yn_57 : Nat, ∃ yc_57 : Nat, yv55 = .slice ya_57 yn_57 yc_57 ∧
 (nv (IntKind.i64.wrap (x28 + 1)) fun t58 =>
 b20 x4 ya_57 yn_57 yc_57 a26 n26 c26 x27 t58 u56))))))))))))
 (R (.tuple #[.slice a8 n8 c8, .int .i64 0]) w)
def masks_Masks.q2 (R : Value → World → Prop) : Exit → Act → World → Prop := (fin Go.Proofs.Tryd.prog Go.Proofs.Tryd.f24 R)
def masks_Masks.q4 (R : Value → World → Prop) : Exit → Act → World → Prop := (masks_Masks.q2 R)
def masks_Masks.q12 (R : Value → World → Prop) : Exit → Act → World → Prop := (masks_Masks.q4 R)
def masks_Masks.q14 (R : Value → World → Prop) : Exit → Act → World → Prop := (masks_Masks.q12 R)
def masks_Masks.q16 (R : Value → World → Prop) : Exit → Act → World → Prop := (masks_Masks.q14 R)
def masks_Masks.q17 (R : Value → World → Prop) : Exit → Act → World → Prop := Exit.then (startN none (codeN Go.Proofs.Tryd.prog (sub (codeOf Go.Proofs.Tryd.f24) [1, 1, 1, 1, 1, 1]) (nsub masks_Masks.an [1, 1, 1, 1, 1, 1]) (masks_Masks.q16 R))) (masks_Masks.q16 R)
def masks_Masks.q19 (R : Value → World → Prop) : Exit → Act → World → Prop := (masks_Masks.q17 R)
def masks_Masks.q20 (R : Value → World → Prop) : Exit → Act → World → Prop := Exit.inBlock 0 (masks_Masks.q19 R)
def masks_Masks.rl20 (R : Value → World → Prop) (k : Nat) (x4 : Int) (a8 : Option Addr) (n8 : Nat) (c8 : Nat) (a26 : Option Addr) (n26 : Nat) (c26 : Nat) (x27 : Int) (x28 : Int) (w : World) : Prop := loopN [4, 8, 26, 27, 28] (codeN Go.Proofs.Tryd.prog (sub (codeOf Go.Proofs.Tryd.f24) [1, 1, 1, 1, 1, 0, 1, 0, 0]) (nsub masks_Masks.an [1, 1, 1, 1, 1, 0, 1, 0, 0])) (masks_Masks.q20 R) k ⟨#[undef, undef, undef, undef, .int .i64 x4, undef, undef, undef, .slice a8 n8 c8, undef, undef, undef, undef, undef, undef, undef, undef, undef, undef, undef, undef, undef, undef, undef, undef, undef, .slice a26 n26 c26, .int .i64 x27, .int .i64 x28, undef, undef, undef, undef, undef, undef, undef, undef, undef, undef, undef, undef, undef, undef, undef, undef, undef, undef], []⟩ w
def masks_Masks.re20 (R : Value → World → Prop) (x4 : Int) (a8 : Option Addr) (n8 : Nat) (c8 : Nat) (a26 : Option Addr) (n26 : Nat) (c26 : Nat) (x27 : Int) (x28 : Int) (w : World) : Prop := ∃ k, masks_Masks.rl20 R k x4 a8 n8 c8 a26 n26 c26 x27 x28 w
def masks_Masks.l20 (R : Value → World → Prop) : Nat → Int → (Option Addr) → Nat → Nat → (Option Addr) → Nat → Nat → Int → Int → World → Prop
  | 0, _, _, _, _, _, _, _, _, _, _ => False
  | k + 1, x4, a8, n8, c8, a26, n26, c26, x27, x28, w => masks_Masks.g20 R (masks_Masks.l20 R k) x4 a8 n8 c8 a26 n26 c26 x27 x28 w
def masks_Masks.e20 (R : Value → World → Prop) (x4 : Int) (a8 : Option Addr) (n8 : Nat) (c8 : Nat) (a26 : Option Addr) (n26 : Nat) (c26 : Nat) (x27 : Int) (x28 : Int) (w : World) : Prop := ∃ k, masks_Masks.l20 R k x4 a8 n8 c8 a26 n26 c26 x27 x28 w
theorem masks_Masks.s20 (R : Value → World → Prop) (k : Nat) (x4 : Int) (a8 : Option Addr) (n8 : Nat) (c8 : Nat) (a26 : Option Addr) (n26 : Nat) (c26 : Nat) (x27 : Int) (x28 : Int) (w : World) : masks_Masks.rl20 R (k + 1) x4 a8 n8 c8 a26 n26 c26 x27 x28 w = ∀ _ : Nat → Value, masks_Masks.g20 R (masks_Masks.rl20 R k) x4 a8 n8 c8 a26 n26 c26 x27 x28 w := by kernel_rfl
theorem masks_Masks.lq20 (R : Value → World → Prop) : ∀ k, masks_Masks.l20 R k = masks_Masks.rl20 R k
  | 0 => by funext x4 a8 n8 c8 a26 n26 c26 x27 x28 w; first | rfl | kernel_rfl
  | k + 1 => by
    funext x4 a8 n8 c8 a26 n26 c26 x27 x28 w
    rw [masks_Masks.s20, forall_const]
    unfold masks_Masks.l20
    have ih := masks_Masks.lq20 R k
    rw [ih]
    all_goals rfl
theorem masks_Masks.eq20 (R : Value → World → Prop) : masks_Masks.e20 R = masks_Masks.re20 R := by
  funext x4 a8 n8 c8 a26 n26 c26 x27 x28 w
  unfold masks_Masks.e20 masks_Masks.re20
  simp only [masks_Masks.lq20 R]
def masks_Masks (R : Value → World → Prop) (x0_0 : Int) (a0_1 : Option Addr) (n0_1 : Nat) (c0_1 : Nat) (w : World) : Prop := masks_Masks.g0 R (masks_Masks.e20 R) x0_0 a0_1 n0_1 c0_1 w
theorem masks_Masks.root0 (R : Value → World → Prop) (x0_0 : Int) (a0_1 : Option Addr) (n0_1 : Nat) (c0_1 : Nat) (w : World) : fnN Go.Proofs.Tryd.prog Go.Proofs.Tryd.f24 masks_Masks.an #[.agg #[.int .i64 x0_0, .slice a0_1 n0_1 c0_1]] w R = masks_Masks.g0 R (masks_Masks.re20 R) x0_0 a0_1 n0_1 c0_1 w := by kernel_rfl
theorem masks_Masks.calls {R : Value → World → Prop} {x0_0 : Int} {a0_1 : Option Addr} {n0_1 : Nat} {c0_1 : Nat} {w : World} (h : masks_Masks R x0_0 a0_1 n0_1 c0_1 w) : Go.E.CallsD Go.Proofs.Tryd.prog 24 #[.agg #[.int .i64 x0_0, .slice a0_1 n0_1 c0_1]] w R := by
  refine callsD_of (n := masks_Masks.an) M_follows M_sizes Go.Proofs.Tryd.func24 (by rfl) ?_
  rw [masks_Masks.root0]
  unfold masks_Masks at h
  rw [masks_Masks.eq20 R] at h
  exact h
-- thicket/thicketref13.Masks
def thicketref13_Masks.an : An := (.mk none .nil (.mk none .nil (.mk none .nil (.mk none .nil (.mk none .nil (.mk none (.mk none .nil (.mk none (.mk (some [6, 8, 26, 27, 28]) .nil .nil) .nil)) .nil))))))
def thicketref13_Masks.g0 (R : Value → World → Prop) (e20 : Int → (Option Addr) → Nat → Nat → (Option Addr) → Nat → Nat → Int → Int → World → Prop) (x0_0 : Int) (a0_1 : Option Addr) (n0_1 : Nat) (c0_1 : Nat) (w : World) : Prop :=
 nw (w.alloc (.cells #[.int .i64 x0_0, .slice a0_1 n0_1 c0_1] 24)) fun w30 =>
 ∃ yx_31 : Int, w30.cell? ((na w).add 0) = some (.int .i64 yx_31) ∧
 (∃ ya_32 : Option Addr, ∃ yn_32 : Nat, ∃ yc_32 : Nat, w30.cell? ((na w).add 1) = some (.slice ya_32 yn_32 yc_32) ∧
 (Go.E.CallsD Go.Proofs.Tryd.prog 23 #[.agg #[.int .i64 yx_31, .slice ya_32 yn_32 yc_32]] w30 fun yv33 u34 =>
 ∃ ya_35_0 : Option Addr, ∃ yn_35_0 : Nat, ∃ yc_35_0 : Nat, ∃ yx_35_1 : Int, yv33 = .tuple #[.slice ya_35_0 yn_35_0 yc_35_0, .int .i64 yx_35_1] ∧
 (onBool (yx_35_1 != 0)
 (R (.tuple #[.slice none 0 0, .int .i64 yx_35_1]) u34)
 (∃ yx_36 : Int, u34.cell? ((na w).add 0) = some (.int .i64 yx_36) ∧
 (∃ ya_37 : Option Addr, ∃ yn_37 : Nat, ∃ yc_37 : Nat, u34.cell? ((na w).add 1) = some (.slice ya_37 yn_37 yc_37) ∧
 (Go.E.CallsD Go.Proofs.Tryd.prog 38 #[.agg #[.int .i64 yx_36, .slice ya_37 yn_37 yc_37]] u34 fun yv38 u39 =>
 ∃ yx_40_0 : Int, ∃ yx_40_1 : Int, yv38 = .tuple #[.int .i64 yx_40_0, .int .i64 yx_40_1] ∧
 (e20 yx_40_0 none 0 0 ya_35_0 yn_35_0 yc_35_0 (yn_35_0 : Int) 0 u39)))))))
def thicketref13_Masks.g20 (R : Value → World → Prop) (b20 : Int → (Option Addr) → Nat → Nat → (Option Addr) → Nat → Nat → Int → Int → World → Prop) (x6 : Int) (a8 : Option Addr) (n8 : Nat) (c8 : Nat) (a26 : Option Addr) (n26 : Nat) (c26 : Nat) (x27 : Int) (x28 : Int) (w : World) : Prop :=
 onBool (decide (x28 < x27))
 (optN a26 fun q41 =>
 chk ((0 : Int) ≤ x28 ∧ x28 < (n26 : Int))
 (∃ yx_42 : Int, w.cell? ((q41.add (x28.toNat * 3)).add 0) = some (.int .i64 yx_42) ∧
 (∃ yx_43 : Int, w.cell? ((q41.add (x28.toNat * 3)).add 1) = some (.int .i64 yx_43) ∧
 (∃ yx_44 : Int, w.cell? ((q41.add (x28.toNat * 3)).add 2) = some (.int .i64 yx_44) ∧
 (nw (w.alloc (.cells #[.int .i64 0, .int .i64 0, .int .i64 0] 44)) fun w45 =>
 okSt w45 ((na w).add 0) ∧
 (nw (w45.setCell ((na w).add 0) (.int .i64 yx_42)) fun w46 =>
 okSt w46 ((na w).add 1) ∧
 (nw (w46.setCell ((na w).add 1) (.int .i64 yx_43)) fun w47 =>
 okSt w47 ((na w).add 2) ∧
 (nw (w47.setCell ((na w).add 2) (.int .i64 yx_44)) fun w48 =>
 ∃ yx_49 : Int, w48.cell? ((na w).add 1) = some (.int .i64 yx_49) ∧
 (∃ yx_50 : Int, w48.cell? ((na w).add 2) = some (.int .i64 yx_50) ∧
 (Go.E.CallsD Go.Proofs.Tryd.prog 48 #[.int .i64 x6, .int .i64 yx_49, .int .i64 yx_50] w48 fun yv51 u52 =>
 ∃ ya_53_0 : Option Addr, ∃ yn_53_0 : Nat, ∃ yc_53_0 : Nat, ∃ yx_53_1 : Int, yv51 = .tuple #[.slice ya_53_0 yn_53_0 yc_53_0, .int .i64 yx_53_1] ∧
 (nw (u52.alloc (.cells #[.slice ya_53_0 yn_53_0 yc_53_0] 30)) fun w54 =>
 rawN Go.Proofs.Tryd.prog (Builtin.append_ #[53, 53] 53 #[.slice a8 n8 c8, .slice (some (na u52)) 1 1]) w54 fun yv55 u56 =>
 ∃ ya_57 : Option Addr, ∃ yn_57 : Nat, ∃ yc_57 : Nat, yv55 = .slice ya_57 yn_57 yc_57 ∧
 (nv (IntKind.i64.wrap (x28 + 1)) fun t58 =>
 b20 x6 ya_57 yn_57 yc_57 a26 n26 c26 x27 t58 u56))))))))))))
 (R (.tuple #[.slice a8 n8 c8, .int .i64 0]) w)
def thicketref13_Masks.q2 (R : Value → World → Prop) : Exit → Act → World → Prop := (fin Go.Proofs.Tryd.prog Go.Proofs.Tryd.f25 R)
def thicketref13_Masks.q4 (R : Value → World → Prop) : Exit → Act → World → Prop := (thicketref13_Masks.q2 R)
def thicketref13_Masks.q12 (R : Value → World → Prop) : Exit → Act → World → Prop := (thicketref13_Masks.q4 R)
def thicketref13_Masks.q14 (R : Value → World → Prop) : Exit → Act → World → Prop := (thicketref13_Masks.q12 R)
def thicketref13_Masks.q16 (R : Value → World → Prop) : Exit → Act → World → Prop := (thicketref13_Masks.q14 R)
def thicketref13_Masks.q17 (R : Value → World → Prop) : Exit → Act → World → Prop := Exit.then (startN none (codeN Go.Proofs.Tryd.prog (sub (codeOf Go.Proofs.Tryd.f25) [1, 1, 1, 1, 1, 1]) (nsub thicketref13_Masks.an [1, 1, 1, 1, 1, 1]) (thicketref13_Masks.q16 R))) (thicketref13_Masks.q16 R)
def thicketref13_Masks.q19 (R : Value → World → Prop) : Exit → Act → World → Prop := (thicketref13_Masks.q17 R)
def thicketref13_Masks.q20 (R : Value → World → Prop) : Exit → Act → World → Prop := Exit.inBlock 0 (thicketref13_Masks.q19 R)
def thicketref13_Masks.rl20 (R : Value → World → Prop) (k : Nat) (x6 : Int) (a8 : Option Addr) (n8 : Nat) (c8 : Nat) (a26 : Option Addr) (n26 : Nat) (c26 : Nat) (x27 : Int) (x28 : Int) (w : World) : Prop := loopN [6, 8, 26, 27, 28] (codeN Go.Proofs.Tryd.prog (sub (codeOf Go.Proofs.Tryd.f25) [1, 1, 1, 1, 1, 0, 1, 0, 0]) (nsub thicketref13_Masks.an [1, 1, 1, 1, 1, 0, 1, 0, 0])) (thicketref13_Masks.q20 R) k ⟨#[undef, undef, undef, undef, undef, undef, .int .i64 x6, undef, .slice a8 n8 c8, undef, undef, undef, undef, undef, undef, undef, undef, undef, undef, undef, undef, undef, undef, undef, undef, undef, .slice a26 n26 c26, .int .i64 x27, .int .i64 x28, undef, undef, undef, undef, undef, undef, undef, undef, undef, undef, undef, undef, undef, undef, undef, undef, undef, undef], []⟩ w
def thicketref13_Masks.re20 (R : Value → World → Prop) (x6 : Int) (a8 : Option Addr) (n8 : Nat) (c8 : Nat) (a26 : Option Addr) (n26 : Nat) (c26 : Nat) (x27 : Int) (x28 : Int) (w : World) : Prop := ∃ k, thicketref13_Masks.rl20 R k x6 a8 n8 c8 a26 n26 c26 x27 x28 w
def thicketref13_Masks.l20 (R : Value → World → Prop) : Nat → Int → (Option Addr) → Nat → Nat → (Option Addr) → Nat → Nat → Int → Int → World → Prop
  | 0, _, _, _, _, _, _, _, _, _, _ => False
  | k + 1, x6, a8, n8, c8, a26, n26, c26, x27, x28, w => thicketref13_Masks.g20 R (thicketref13_Masks.l20 R k) x6 a8 n8 c8 a26 n26 c26 x27 x28 w
def thicketref13_Masks.e20 (R : Value → World → Prop) (x6 : Int) (a8 : Option Addr) (n8 : Nat) (c8 : Nat) (a26 : Option Addr) (n26 : Nat) (c26 : Nat) (x27 : Int) (x28 : Int) (w : World) : Prop := ∃ k, thicketref13_Masks.l20 R k x6 a8 n8 c8 a26 n26 c26 x27 x28 w
theorem thicketref13_Masks.s20 (R : Value → World → Prop) (k : Nat) (x6 : Int) (a8 : Option Addr) (n8 : Nat) (c8 : Nat) (a26 : Option Addr) (n26 : Nat) (c26 : Nat) (x27 : Int) (x28 : Int) (w : World) : thicketref13_Masks.rl20 R (k + 1) x6 a8 n8 c8 a26 n26 c26 x27 x28 w = ∀ _ : Nat → Value, thicketref13_Masks.g20 R (thicketref13_Masks.rl20 R k) x6 a8 n8 c8 a26 n26 c26 x27 x28 w := by kernel_rfl
theorem thicketref13_Masks.lq20 (R : Value → World → Prop) : ∀ k, thicketref13_Masks.l20 R k = thicketref13_Masks.rl20 R k
  | 0 => by funext x6 a8 n8 c8 a26 n26 c26 x27 x28 w; first | rfl | kernel_rfl
  | k + 1 => by
    funext x6 a8 n8 c8 a26 n26 c26 x27 x28 w
    rw [thicketref13_Masks.s20, forall_const]
    unfold thicketref13_Masks.l20
    have ih := thicketref13_Masks.lq20 R k
    rw [ih]
    all_goals rfl
theorem thicketref13_Masks.eq20 (R : Value → World → Prop) : thicketref13_Masks.e20 R = thicketref13_Masks.re20 R := by
  funext x6 a8 n8 c8 a26 n26 c26 x27 x28 w
  unfold thicketref13_Masks.e20 thicketref13_Masks.re20
  simp only [thicketref13_Masks.lq20 R]
def thicketref13_Masks (R : Value → World → Prop) (x0_0 : Int) (a0_1 : Option Addr) (n0_1 : Nat) (c0_1 : Nat) (w : World) : Prop := thicketref13_Masks.g0 R (thicketref13_Masks.e20 R) x0_0 a0_1 n0_1 c0_1 w
theorem thicketref13_Masks.root0 (R : Value → World → Prop) (x0_0 : Int) (a0_1 : Option Addr) (n0_1 : Nat) (c0_1 : Nat) (w : World) : fnN Go.Proofs.Tryd.prog Go.Proofs.Tryd.f25 thicketref13_Masks.an #[.agg #[.int .i64 x0_0, .slice a0_1 n0_1 c0_1]] w R = thicketref13_Masks.g0 R (thicketref13_Masks.re20 R) x0_0 a0_1 n0_1 c0_1 w := by kernel_rfl
theorem thicketref13_Masks.calls {R : Value → World → Prop} {x0_0 : Int} {a0_1 : Option Addr} {n0_1 : Nat} {c0_1 : Nat} {w : World} (h : thicketref13_Masks R x0_0 a0_1 n0_1 c0_1 w) : Go.E.CallsD Go.Proofs.Tryd.prog 25 #[.agg #[.int .i64 x0_0, .slice a0_1 n0_1 c0_1]] w R := by
  refine callsD_of (n := thicketref13_Masks.an) M_follows M_sizes Go.Proofs.Tryd.func25 (by rfl) ?_
  rw [thicketref13_Masks.root0]
  unfold thicketref13_Masks at h
  rw [thicketref13_Masks.eq20 R] at h
  exact h
end Go.Mir
