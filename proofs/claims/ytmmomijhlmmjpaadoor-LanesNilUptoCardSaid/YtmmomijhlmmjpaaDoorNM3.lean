/- Part of a proof of laws of the seat YtmmomijhlmmjpaaDoor: functions' weakest preconditions, each checked by the kernel, contracts out of them, plain lemmas; no conditions. -/
import Derived.Test.YtmmomijhlmmjpaaDoorNM0
set_option linter.unusedVariables false
set_option linter.unusedSimpArgs false
set_option linter.unusedVariables false
set_option maxRecDepth 100000
namespace Go.Mir
open Go Go.E Go.RowKit
-- thicket/lists.First
def lists_First.an : An := (.mk none .nil (.mk none (.mk none .nil (.mk none (.mk (some [1, 2, 8, 9, 10]) .nil .nil) .nil)) .nil))
def lists_First.g0 (R : Value → World → Prop) (e6 : Nat → (Option Addr) → (Option Addr) → Nat → Nat → Int → Int → World → Prop) (x0_0 : Int) (a0_1 : Option Addr) (n0_1 : Nat) (c0_1 : Nat) (a0_2 : Option Addr) (n0_2 : Nat) (c0_2 : Nat) (a0_3 : Option Addr) (n0_3 : Nat) (c0_3 : Nat) (f1 : Nat) (w : World) : Prop :=
 nw (w.alloc (.cells #[.int .i64 x0_0, .slice a0_1 n0_1 c0_1, .slice a0_2 n0_2 c0_2, .slice a0_3 n0_3 c0_3] 53)) fun w19 =>
 ∃ ya_20 : Option Addr, ∃ yn_20 : Nat, ∃ yc_20 : Nat, w19.cell? ((na w).add 1) = some (.slice ya_20 yn_20 yc_20) ∧
 (e6 f1 (some (na w)) ya_20 yn_20 yc_20 (yn_20 : Int) 0 w19)
def lists_First.g6 (R : Value → World → Prop) (b6 : Nat → (Option Addr) → (Option Addr) → Nat → Nat → Int → Int → World → Prop) (f1 : Nat) (p2 : Option Addr) (a8 : Option Addr) (n8 : Nat) (c8 : Nat) (x9 : Int) (x10 : Int) (w : World) : Prop :=
 onBool (decide (x10 < x9))
 (optN a8 fun q21 =>
 chk ((0 : Int) ≤ x10 ∧ x10 < (n8 : Int))
 (∃ yf_22 : Nat, w.cell? ((q21.add (x10.toNat * 5)).add 0) = some (.float .f64 yf_22) ∧
 (∃ ya_23 : Option Addr, ∃ yn_23 : Nat, ∃ yc_23 : Nat, w.cell? ((q21.add (x10.toNat * 5)).add 1) = some (.slice ya_23 yn_23 yc_23) ∧
 (∃ yx_24 : Int, w.cell? ((q21.add (x10.toNat * 5)).add 2) = some (.int .i64 yx_24) ∧
 (∃ yx_25 : Int, w.cell? ((q21.add (x10.toNat * 5)).add 3) = some (.int .i64 yx_25) ∧
 (∃ yx_26 : Int, w.cell? ((q21.add (x10.toNat * 5)).add 4) = some (.int .i64 yx_26) ∧
 (nw (w.alloc (.cells #[.float .f64 0, .slice none 0 0, .int .i64 0, .int .i64 0, .int .i64 0] 76)) fun w27 =>
 okSt w27 ((na w).add 0) ∧
 (nw (w27.setCell ((na w).add 0) (.float .f64 yf_22)) fun w28 =>
 okSt w28 ((na w).add 1) ∧
 (nw (w28.setCell ((na w).add 1) (.slice ya_23 yn_23 yc_23)) fun w29 =>
 okSt w29 ((na w).add 2) ∧
 (nw (w29.setCell ((na w).add 2) (.int .i64 yx_24)) fun w30 =>
 okSt w30 ((na w).add 3) ∧
 (nw (w30.setCell ((na w).add 3) (.int .i64 yx_25)) fun w31 =>
 okSt w31 ((na w).add 4) ∧
 (nw (w31.setCell ((na w).add 4) (.int .i64 yx_26)) fun w32 =>
 ∃ yf_33 : Nat, w32.cell? ((na w).add 0) = some (.float .f64 yf_33) ∧
 (onBool (!(FloatKind.f64.format.order f1 yf_33 == some .gt))
 (R (.int .i64 x10) w32)
 (nv (IntKind.i64.wrap (x10 + 1)) fun t34 =>
 b6 f1 p2 a8 n8 c8 x9 t34 w32))))))))))))))
 (onBool (FloatKind.f64.format.order f1 f1 != some .eq)
 (R (.int .i64 0) w)
 (optN p2 fun q35 =>
 ∃ ya_36 : Option Addr, ∃ yn_36 : Nat, ∃ yc_36 : Nat, w.cell? (q35.add 1) = some (.slice ya_36 yn_36 yc_36) ∧
 (R (.int .i64 (yn_36 : Int)) w)))
def lists_First.q2 (R : Value → World → Prop) : Exit → Act → World → Prop := (fin Go.Proofs.Tryd.prog Go.Proofs.Tryd.f19 R)
def lists_First.q3 (R : Value → World → Prop) : Exit → Act → World → Prop := Exit.then (startN none (codeN Go.Proofs.Tryd.prog (sub (codeOf Go.Proofs.Tryd.f19) [1, 1]) (nsub lists_First.an [1, 1]) (lists_First.q2 R))) (lists_First.q2 R)
def lists_First.q5 (R : Value → World → Prop) : Exit → Act → World → Prop := (lists_First.q3 R)
def lists_First.q6 (R : Value → World → Prop) : Exit → Act → World → Prop := Exit.inBlock 0 (lists_First.q5 R)
def lists_First.rl6 (R : Value → World → Prop) (k : Nat) (f1 : Nat) (p2 : Option Addr) (a8 : Option Addr) (n8 : Nat) (c8 : Nat) (x9 : Int) (x10 : Int) (w : World) : Prop := loopN [1, 2, 8, 9, 10] (codeN Go.Proofs.Tryd.prog (sub (codeOf Go.Proofs.Tryd.f19) [1, 0, 1, 0, 0]) (nsub lists_First.an [1, 0, 1, 0, 0])) (lists_First.q6 R) k ⟨#[undef, .float .f64 f1, .pointer p2, undef, undef, undef, undef, undef, .slice a8 n8 c8, .int .i64 x9, .int .i64 x10, undef, undef, undef, undef, undef, undef, undef, undef, undef, undef, undef, undef, undef, undef, undef, undef, undef], []⟩ w
def lists_First.re6 (R : Value → World → Prop) (f1 : Nat) (p2 : Option Addr) (a8 : Option Addr) (n8 : Nat) (c8 : Nat) (x9 : Int) (x10 : Int) (w : World) : Prop := ∃ k, lists_First.rl6 R k f1 p2 a8 n8 c8 x9 x10 w
def lists_First.l6 (R : Value → World → Prop) : Nat → Nat → (Option Addr) → (Option Addr) → Nat → Nat → Int → Int → World → Prop
  | 0, _, _, _, _, _, _, _, _ => False
  | k + 1, f1, p2, a8, n8, c8, x9, x10, w => lists_First.g6 R (lists_First.l6 R k) f1 p2 a8 n8 c8 x9 x10 w
def lists_First.e6 (R : Value → World → Prop) (f1 : Nat) (p2 : Option Addr) (a8 : Option Addr) (n8 : Nat) (c8 : Nat) (x9 : Int) (x10 : Int) (w : World) : Prop := ∃ k, lists_First.l6 R k f1 p2 a8 n8 c8 x9 x10 w
theorem lists_First.s6 (R : Value → World → Prop) (k : Nat) (f1 : Nat) (p2 : Option Addr) (a8 : Option Addr) (n8 : Nat) (c8 : Nat) (x9 : Int) (x10 : Int) (w : World) : lists_First.rl6 R (k + 1) f1 p2 a8 n8 c8 x9 x10 w = ∀ _ : Nat → Value, lists_First.g6 R (lists_First.rl6 R k) f1 p2 a8 n8 c8 x9 x10 w := by kernel_rfl
theorem lists_First.lq6 (R : Value → World → Prop) : ∀ k, lists_First.l6 R k = lists_First.rl6 R k
  | 0 => by funext f1 p2 a8 n8 c8 x9 x10 w; first | rfl | kernel_rfl
  | k + 1 => by
    funext f1 p2 a8 n8 c8 x9 x10 w
    rw [lists_First.s6, forall_const]
    unfold lists_First.l6
    have ih := lists_First.lq6 R k
    rw [ih]
    all_goals rfl
theorem lists_First.eq6 (R : Value → World → Prop) : lists_First.e6 R = lists_First.re6 R := by
  funext f1 p2 a8 n8 c8 x9 x10 w
  unfold lists_First.e6 lists_First.re6
  simp only [lists_First.lq6 R]
def lists_First (R : Value → World → Prop) (x0_0 : Int) (a0_1 : Option Addr) (n0_1 : Nat) (c0_1 : Nat) (a0_2 : Option Addr) (n0_2 : Nat) (c0_2 : Nat) (a0_3 : Option Addr) (n0_3 : Nat) (c0_3 : Nat) (f1 : Nat) (w : World) : Prop := lists_First.g0 R (lists_First.e6 R) x0_0 a0_1 n0_1 c0_1 a0_2 n0_2 c0_2 a0_3 n0_3 c0_3 f1 w
theorem lists_First.root0 (R : Value → World → Prop) (x0_0 : Int) (a0_1 : Option Addr) (n0_1 : Nat) (c0_1 : Nat) (a0_2 : Option Addr) (n0_2 : Nat) (c0_2 : Nat) (a0_3 : Option Addr) (n0_3 : Nat) (c0_3 : Nat) (f1 : Nat) (w : World) : fnN Go.Proofs.Tryd.prog Go.Proofs.Tryd.f19 lists_First.an #[.agg #[.int .i64 x0_0, .slice a0_1 n0_1 c0_1, .slice a0_2 n0_2 c0_2, .slice a0_3 n0_3 c0_3], .float .f64 f1] w R = lists_First.g0 R (lists_First.re6 R) x0_0 a0_1 n0_1 c0_1 a0_2 n0_2 c0_2 a0_3 n0_3 c0_3 f1 w := by kernel_rfl
theorem lists_First.calls {R : Value → World → Prop} {x0_0 : Int} {a0_1 : Option Addr} {n0_1 : Nat} {c0_1 : Nat} {a0_2 : Option Addr} {n0_2 : Nat} {c0_2 : Nat} {a0_3 : Option Addr} {n0_3 : Nat} {c0_3 : Nat} {f1 : Nat} {w : World} (h : lists_First R x0_0 a0_1 n0_1 c0_1 a0_2 n0_2 c0_2 a0_3 n0_3 c0_3 f1 w) : Go.E.CallsD Go.Proofs.Tryd.prog 19 #[.agg #[.int .i64 x0_0, .slice a0_1 n0_1 c0_1, .slice a0_2 n0_2 c0_2, .slice a0_3 n0_3 c0_3], .float .f64 f1] w R := by
  refine callsD_of (n := lists_First.an) M_follows M_sizes Go.Proofs.Tryd.func19 (by rfl) ?_
  rw [lists_First.root0]
  unfold lists_First at h
  rw [lists_First.eq6 R] at h
  exact h
-- thicket/lanes.groups
def lanes_groups.an : An := An.nil
def lanes_groups.g0 (R : Value → World → Prop) (x0 : Int) (w : World) : Prop :=
 onBool (x0 == 0)
 (R (.int .i64 0) w)
 (nv (IntKind.i64.wrap (x0 - 1)) fun t4 =>
 nv (IntKind.i64.wrap (Int.tdiv t4 8)) fun t5 =>
 nv (IntKind.i64.wrap (t5 + 1)) fun t6 =>
 R (.int .i64 t6) w)
def lanes_groups (R : Value → World → Prop) (x0 : Int) (w : World) : Prop := lanes_groups.g0 R x0 w
theorem lanes_groups.root0 (R : Value → World → Prop) (x0 : Int) (w : World) : fnN Go.Proofs.Tryd.prog Go.Proofs.Tryd.f20 lanes_groups.an #[.int .i64 x0] w R = lanes_groups.g0 R x0 w := by kernel_rfl
theorem lanes_groups.calls {R : Value → World → Prop} {x0 : Int} {w : World} (h : lanes_groups R x0 w) : Go.E.CallsD Go.Proofs.Tryd.prog 20 #[.int .i64 x0] w R := by
  refine callsD_of (n := lanes_groups.an) M_follows M_sizes Go.Proofs.Tryd.func20 (by rfl) ?_
  rw [lanes_groups.root0]
  unfold lanes_groups at h
  exact h
-- thicket/lanes.gathered
def lanes_gathered_a.an : An := (.mk none .nil (.mk none .nil (.mk none (.mk none .nil (.mk none (.mk (some [1, 5, 8, 9]) .nil .nil) .nil)) .nil)))
def lanes_gathered_a.g0 (R : Value → World → Prop) (e8 : Addr → Int → Nat → Nat → Nat → Nat → Nat → Nat → Nat → Nat → Int → World → Prop) (f0_0 : Nat) (f0_1 : Nat) (f0_2 : Nat) (f0_3 : Nat) (f0_4 : Nat) (f0_5 : Nat) (f0_6 : Nat) (f0_7 : Nat) (p1_0 : Addr) (w : World) : Prop :=
 nw (w.alloc (.cells #[.float .f64 f0_0, .float .f64 f0_1, .float .f64 f0_2, .float .f64 f0_3, .float .f64 f0_4, .float .f64 f0_5, .float .f64 f0_6, .float .f64 f0_7] 57)) fun w18 =>
 ∃ yf_19 : Nat, w18.cell? ((na w).add 0) = some (.float .f64 yf_19) ∧
 (∃ yf_20 : Nat, w18.cell? ((na w).add 1) = some (.float .f64 yf_20) ∧
 (∃ yf_21 : Nat, w18.cell? ((na w).add 2) = some (.float .f64 yf_21) ∧
 (∃ yf_22 : Nat, w18.cell? ((na w).add 3) = some (.float .f64 yf_22) ∧
 (∃ yf_23 : Nat, w18.cell? ((na w).add 4) = some (.float .f64 yf_23) ∧
 (∃ yf_24 : Nat, w18.cell? ((na w).add 5) = some (.float .f64 yf_24) ∧
 (∃ yf_25 : Nat, w18.cell? ((na w).add 6) = some (.float .f64 yf_25) ∧
 (∃ yf_26 : Nat, w18.cell? ((na w).add 7) = some (.float .f64 yf_26) ∧
 (e8 p1_0 0 yf_19 yf_20 yf_21 yf_22 yf_23 yf_24 yf_25 yf_26 0 w18))))))))
def lanes_gathered_a.g8 (R : Value → World → Prop) (b8 : Addr → Int → Nat → Nat → Nat → Nat → Nat → Nat → Nat → Nat → Int → World → Prop) (p1_0 : Addr) (x5 : Int) (f8_0 : Nat) (f8_1 : Nat) (f8_2 : Nat) (f8_3 : Nat) (f8_4 : Nat) (f8_5 : Nat) (f8_6 : Nat) (f8_7 : Nat) (x9 : Int) (w : World) : Prop :=
 onBool (decide (x9 < 8))
 (chk ((0 : Int) ≤ x9 ∧ x9 < (8 : Int))
 (∃ yf_27 : Nat, (#[.float .f64 f8_0, .float .f64 f8_1, .float .f64 f8_2, .float .f64 f8_3, .float .f64 f8_4, .float .f64 f8_5, .float .f64 f8_6, .float .f64 f8_7] : Array Value)[x9.toNat * 1]? = some (.float .f64 yf_27) ∧
 (Go.E.CallsD Go.Proofs.Tryd.prog 22 #[.float .f64 yf_27, .pointer (some p1_0)] w fun yv28 u29 =>
 ∃ yb_30 : Bool, yv28 = .bool yb_30 ∧
 (onBool yb_30
 (nv (IntKind.u64.wrap x9) fun t31 =>
 nchk (t31 < 0)
 (nv (IntKind.u8.wrap (1 * 2 ^ (min t31.toNat 8))) fun t32 =>
 nv (bitsI .or .u8 x5 t32) fun t33 =>
 nv (IntKind.i64.wrap (x9 + 1)) fun t34 =>
 b8 p1_0 t33 f8_0 f8_1 f8_2 f8_3 f8_4 f8_5 f8_6 f8_7 t34 u29))
 (nv (IntKind.i64.wrap (x9 + 1)) fun t35 =>
 b8 p1_0 x5 f8_0 f8_1 f8_2 f8_3 f8_4 f8_5 f8_6 f8_7 t35 u29)))))
 (R (.int .u8 x5) w)
def lanes_gathered_a.q2 (R : Value → World → Prop) : Exit → Act → World → Prop := (fin Go.Proofs.Tryd.prog Go.Proofs.Tryd.f21 R)
def lanes_gathered_a.q4 (R : Value → World → Prop) : Exit → Act → World → Prop := (lanes_gathered_a.q2 R)
def lanes_gathered_a.q5 (R : Value → World → Prop) : Exit → Act → World → Prop := Exit.then (startN none (codeN Go.Proofs.Tryd.prog (sub (codeOf Go.Proofs.Tryd.f21) [1, 1, 1]) (nsub lanes_gathered_a.an [1, 1, 1]) (lanes_gathered_a.q4 R))) (lanes_gathered_a.q4 R)
def lanes_gathered_a.q7 (R : Value → World → Prop) : Exit → Act → World → Prop := (lanes_gathered_a.q5 R)
def lanes_gathered_a.q8 (R : Value → World → Prop) : Exit → Act → World → Prop := Exit.inBlock 0 (lanes_gathered_a.q7 R)
def lanes_gathered_a.rl8 (R : Value → World → Prop) (k : Nat) (p1_0 : Addr) (x5 : Int) (f8_0 : Nat) (f8_1 : Nat) (f8_2 : Nat) (f8_3 : Nat) (f8_4 : Nat) (f8_5 : Nat) (f8_6 : Nat) (f8_7 : Nat) (x9 : Int) (w : World) : Prop := loopN [1, 5, 8, 9] (codeN Go.Proofs.Tryd.prog (sub (codeOf Go.Proofs.Tryd.f21) [1, 1, 0, 1, 0, 0]) (nsub lanes_gathered_a.an [1, 1, 0, 1, 0, 0])) (lanes_gathered_a.q8 R) k ⟨#[undef, .func (.func 22) #[] #[.pointer (some p1_0)], undef, undef, undef, .int .u8 x5, undef, undef, .agg #[.float .f64 f8_0, .float .f64 f8_1, .float .f64 f8_2, .float .f64 f8_3, .float .f64 f8_4, .float .f64 f8_5, .float .f64 f8_6, .float .f64 f8_7], .int .i64 x9, undef, undef, undef, undef, undef, undef, undef, undef, undef, undef, undef, undef, undef], []⟩ w
def lanes_gathered_a.re8 (R : Value → World → Prop) (p1_0 : Addr) (x5 : Int) (f8_0 : Nat) (f8_1 : Nat) (f8_2 : Nat) (f8_3 : Nat) (f8_4 : Nat) (f8_5 : Nat) (f8_6 : Nat) (f8_7 : Nat) (x9 : Int) (w : World) : Prop := ∃ k, lanes_gathered_a.rl8 R k p1_0 x5 f8_0 f8_1 f8_2 f8_3 f8_4 f8_5 f8_6 f8_7 x9 w
def lanes_gathered_a.l8 (R : Value → World → Prop) : Nat → Addr → Int → Nat → Nat → Nat → Nat → Nat → Nat → Nat → Nat → Int → World → Prop
  | 0, _, _, _, _, _, _, _, _, _, _, _, _ => False
  | k + 1, p1_0, x5, f8_0, f8_1, f8_2, f8_3, f8_4, f8_5, f8_6, f8_7, x9, w => lanes_gathered_a.g8 R (lanes_gathered_a.l8 R k) p1_0 x5 f8_0 f8_1 f8_2 f8_3 f8_4 f8_5 f8_6 f8_7 x9 w
def lanes_gathered_a.e8 (R : Value → World → Prop) (p1_0 : Addr) (x5 : Int) (f8_0 : Nat) (f8_1 : Nat) (f8_2 : Nat) (f8_3 : Nat) (f8_4 : Nat) (f8_5 : Nat) (f8_6 : Nat) (f8_7 : Nat) (x9 : Int) (w : World) : Prop := ∃ k, lanes_gathered_a.l8 R k p1_0 x5 f8_0 f8_1 f8_2 f8_3 f8_4 f8_5 f8_6 f8_7 x9 w
theorem lanes_gathered_a.s8 (R : Value → World → Prop) (k : Nat) (p1_0 : Addr) (x5 : Int) (f8_0 : Nat) (f8_1 : Nat) (f8_2 : Nat) (f8_3 : Nat) (f8_4 : Nat) (f8_5 : Nat) (f8_6 : Nat) (f8_7 : Nat) (x9 : Int) (w : World) : lanes_gathered_a.rl8 R (k + 1) p1_0 x5 f8_0 f8_1 f8_2 f8_3 f8_4 f8_5 f8_6 f8_7 x9 w = ∀ _ : Nat → Value, lanes_gathered_a.g8 R (lanes_gathered_a.rl8 R k) p1_0 x5 f8_0 f8_1 f8_2 f8_3 f8_4 f8_5 f8_6 f8_7 x9 w := by kernel_rfl
theorem lanes_gathered_a.lq8 (R : Value → World → Prop) : ∀ k, lanes_gathered_a.l8 R k = lanes_gathered_a.rl8 R k
  | 0 => by funext p1_0 x5 f8_0 f8_1 f8_2 f8_3 f8_4 f8_5 f8_6 f8_7 x9 w; first | rfl | kernel_rfl
  | k + 1 => by
    funext p1_0 x5 f8_0 f8_1 f8_2 f8_3 f8_4 f8_5 f8_6 f8_7 x9 w
    rw [lanes_gathered_a.s8, forall_const]
    unfold lanes_gathered_a.l8
    have ih := lanes_gathered_a.lq8 R k
    rw [ih]
    all_goals rfl
theorem lanes_gathered_a.eq8 (R : Value → World → Prop) : lanes_gathered_a.e8 R = lanes_gathered_a.re8 R := by
  funext p1_0 x5 f8_0 f8_1 f8_2 f8_3 f8_4 f8_5 f8_6 f8_7 x9 w
  unfold lanes_gathered_a.e8 lanes_gathered_a.re8
  simp only [lanes_gathered_a.lq8 R]
def lanes_gathered_a (R : Value → World → Prop) (f0_0 : Nat) (f0_1 : Nat) (f0_2 : Nat) (f0_3 : Nat) (f0_4 : Nat) (f0_5 : Nat) (f0_6 : Nat) (f0_7 : Nat) (p1_0 : Addr) (w : World) : Prop := lanes_gathered_a.g0 R (lanes_gathered_a.e8 R) f0_0 f0_1 f0_2 f0_3 f0_4 f0_5 f0_6 f0_7 p1_0 w
theorem lanes_gathered_a.root0 (R : Value → World → Prop) (f0_0 : Nat) (f0_1 : Nat) (f0_2 : Nat) (f0_3 : Nat) (f0_4 : Nat) (f0_5 : Nat) (f0_6 : Nat) (f0_7 : Nat) (p1_0 : Addr) (w : World) : fnN Go.Proofs.Tryd.prog Go.Proofs.Tryd.f21 lanes_gathered_a.an #[.agg #[.float .f64 f0_0, .float .f64 f0_1, .float .f64 f0_2, .float .f64 f0_3, .float .f64 f0_4, .float .f64 f0_5, .float .f64 f0_6, .float .f64 f0_7], .func (.func 22) #[] #[.pointer (some p1_0)]] w R = lanes_gathered_a.g0 R (lanes_gathered_a.re8 R) f0_0 f0_1 f0_2 f0_3 f0_4 f0_5 f0_6 f0_7 p1_0 w := by kernel_rfl
theorem lanes_gathered_a.calls {R : Value → World → Prop} {f0_0 : Nat} {f0_1 : Nat} {f0_2 : Nat} {f0_3 : Nat} {f0_4 : Nat} {f0_5 : Nat} {f0_6 : Nat} {f0_7 : Nat} {p1_0 : Addr} {w : World} (h : lanes_gathered_a R f0_0 f0_1 f0_2 f0_3 f0_4 f0_5 f0_6 f0_7 p1_0 w) : Go.E.CallsD Go.Proofs.Tryd.prog 21 #[.agg #[.float .f64 f0_0, .float .f64 f0_1, .float .f64 f0_2, .float .f64 f0_3, .float .f64 f0_4, .float .f64 f0_5, .float .f64 f0_6, .float .f64 f0_7], .func (.func 22) #[] #[.pointer (some p1_0)]] w R := by
  refine callsD_of (n := lanes_gathered_a.an) M_follows M_sizes Go.Proofs.Tryd.func21 (by rfl) ?_
  rw [lanes_gathered_a.root0]
  unfold lanes_gathered_a at h
  rw [lanes_gathered_a.eq8 R] at h
  exact h
-- thicket/lanes.gathered
def lanes_gathered_o.an : An := (.mk none .nil (.mk none .nil (.mk none (.mk none .nil (.mk none (.mk (some [1, 5, 8, 9]) .nil .nil) .nil)) .nil)))
def lanes_gathered_o.g0 (R : Value → World → Prop) (e8 : Addr → Int → Nat → Nat → Nat → Nat → Nat → Nat → Nat → Nat → Int → World → Prop) (f0_0 : Nat) (f0_1 : Nat) (f0_2 : Nat) (f0_3 : Nat) (f0_4 : Nat) (f0_5 : Nat) (f0_6 : Nat) (f0_7 : Nat) (p1_0 : Addr) (w : World) : Prop :=
 nw (w.alloc (.cells #[.float .f64 f0_0, .float .f64 f0_1, .float .f64 f0_2, .float .f64 f0_3, .float .f64 f0_4, .float .f64 f0_5, .float .f64 f0_6, .float .f64 f0_7] 57)) fun w18 =>
 ∃ yf_19 : Nat, w18.cell? ((na w).add 0) = some (.float .f64 yf_19) ∧
 (∃ yf_20 : Nat, w18.cell? ((na w).add 1) = some (.float .f64 yf_20) ∧
 (∃ yf_21 : Nat, w18.cell? ((na w).add 2) = some (.float .f64 yf_21) ∧
 (∃ yf_22 : Nat, w18.cell? ((na w).add 3) = some (.float .f64 yf_22) ∧
 (∃ yf_23 : Nat, w18.cell? ((na w).add 4) = some (.float .f64 yf_23) ∧
 (∃ yf_24 : Nat, w18.cell? ((na w).add 5) = some (.float .f64 yf_24) ∧
 (∃ yf_25 : Nat, w18.cell? ((na w).add 6) = some (.float .f64 yf_25) ∧
 (∃ yf_26 : Nat, w18.cell? ((na w).add 7) = some (.float .f64 yf_26) ∧
 (e8 p1_0 0 yf_19 yf_20 yf_21 yf_22 yf_23 yf_24 yf_25 yf_26 0 w18))))))))
def lanes_gathered_o.g8 (R : Value → World → Prop) (b8 : Addr → Int → Nat → Nat → Nat → Nat → Nat → Nat → Nat → Nat → Int → World → Prop) (p1_0 : Addr) (x5 : Int) (f8_0 : Nat) (f8_1 : Nat) (f8_2 : Nat) (f8_3 : Nat) (f8_4 : Nat) (f8_5 : Nat) (f8_6 : Nat) (f8_7 : Nat) (x9 : Int) (w : World) : Prop :=
 onBool (decide (x9 < 8))
 (chk ((0 : Int) ≤ x9 ∧ x9 < (8 : Int))
 (∃ yf_27 : Nat, (#[.float .f64 f8_0, .float .f64 f8_1, .float .f64 f8_2, .float .f64 f8_3, .float .f64 f8_4, .float .f64 f8_5, .float .f64 f8_6, .float .f64 f8_7] : Array Value)[x9.toNat * 1]? = some (.float .f64 yf_27) ∧
 (Go.E.CallsD Go.Proofs.Tryd.prog 23 #[.float .f64 yf_27, .pointer (some p1_0)] w fun yv28 u29 =>
 ∃ yb_30 : Bool, yv28 = .bool yb_30 ∧
 (onBool yb_30
 (nv (IntKind.u64.wrap x9) fun t31 =>
 nchk (t31 < 0)
 (nv (IntKind.u8.wrap (1 * 2 ^ (min t31.toNat 8))) fun t32 =>
 nv (bitsI .or .u8 x5 t32) fun t33 =>
 nv (IntKind.i64.wrap (x9 + 1)) fun t34 =>
 b8 p1_0 t33 f8_0 f8_1 f8_2 f8_3 f8_4 f8_5 f8_6 f8_7 t34 u29))
 (nv (IntKind.i64.wrap (x9 + 1)) fun t35 =>
 b8 p1_0 x5 f8_0 f8_1 f8_2 f8_3 f8_4 f8_5 f8_6 f8_7 t35 u29)))))
 (R (.int .u8 x5) w)
def lanes_gathered_o.q2 (R : Value → World → Prop) : Exit → Act → World → Prop := (fin Go.Proofs.Tryd.prog Go.Proofs.Tryd.f21 R)
def lanes_gathered_o.q4 (R : Value → World → Prop) : Exit → Act → World → Prop := (lanes_gathered_o.q2 R)
def lanes_gathered_o.q5 (R : Value → World → Prop) : Exit → Act → World → Prop := Exit.then (startN none (codeN Go.Proofs.Tryd.prog (sub (codeOf Go.Proofs.Tryd.f21) [1, 1, 1]) (nsub lanes_gathered_o.an [1, 1, 1]) (lanes_gathered_o.q4 R))) (lanes_gathered_o.q4 R)
def lanes_gathered_o.q7 (R : Value → World → Prop) : Exit → Act → World → Prop := (lanes_gathered_o.q5 R)
def lanes_gathered_o.q8 (R : Value → World → Prop) : Exit → Act → World → Prop := Exit.inBlock 0 (lanes_gathered_o.q7 R)
def lanes_gathered_o.rl8 (R : Value → World → Prop) (k : Nat) (p1_0 : Addr) (x5 : Int) (f8_0 : Nat) (f8_1 : Nat) (f8_2 : Nat) (f8_3 : Nat) (f8_4 : Nat) (f8_5 : Nat) (f8_6 : Nat) (f8_7 : Nat) (x9 : Int) (w : World) : Prop := loopN [1, 5, 8, 9] (codeN Go.Proofs.Tryd.prog (sub (codeOf Go.Proofs.Tryd.f21) [1, 1, 0, 1, 0, 0]) (nsub lanes_gathered_o.an [1, 1, 0, 1, 0, 0])) (lanes_gathered_o.q8 R) k ⟨#[undef, .func (.func 23) #[] #[.pointer (some p1_0)], undef, undef, undef, .int .u8 x5, undef, undef, .agg #[.float .f64 f8_0, .float .f64 f8_1, .float .f64 f8_2, .float .f64 f8_3, .float .f64 f8_4, .float .f64 f8_5, .float .f64 f8_6, .float .f64 f8_7], .int .i64 x9, undef, undef, undef, undef, undef, undef, undef, undef, undef, undef, undef, undef, undef], []⟩ w
def lanes_gathered_o.re8 (R : Value → World → Prop) (p1_0 : Addr) (x5 : Int) (f8_0 : Nat) (f8_1 : Nat) (f8_2 : Nat) (f8_3 : Nat) (f8_4 : Nat) (f8_5 : Nat) (f8_6 : Nat) (f8_7 : Nat) (x9 : Int) (w : World) : Prop := ∃ k, lanes_gathered_o.rl8 R k p1_0 x5 f8_0 f8_1 f8_2 f8_3 f8_4 f8_5 f8_6 f8_7 x9 w
def lanes_gathered_o.l8 (R : Value → World → Prop) : Nat → Addr → Int → Nat → Nat → Nat → Nat → Nat → Nat → Nat → Nat → Int → World → Prop
  | 0, _, _, _, _, _, _, _, _, _, _, _, _ => False
  | k + 1, p1_0, x5, f8_0, f8_1, f8_2, f8_3, f8_4, f8_5, f8_6, f8_7, x9, w => lanes_gathered_o.g8 R (lanes_gathered_o.l8 R k) p1_0 x5 f8_0 f8_1 f8_2 f8_3 f8_4 f8_5 f8_6 f8_7 x9 w
def lanes_gathered_o.e8 (R : Value → World → Prop) (p1_0 : Addr) (x5 : Int) (f8_0 : Nat) (f8_1 : Nat) (f8_2 : Nat) (f8_3 : Nat) (f8_4 : Nat) (f8_5 : Nat) (f8_6 : Nat) (f8_7 : Nat) (x9 : Int) (w : World) : Prop := ∃ k, lanes_gathered_o.l8 R k p1_0 x5 f8_0 f8_1 f8_2 f8_3 f8_4 f8_5 f8_6 f8_7 x9 w
theorem lanes_gathered_o.s8 (R : Value → World → Prop) (k : Nat) (p1_0 : Addr) (x5 : Int) (f8_0 : Nat) (f8_1 : Nat) (f8_2 : Nat) (f8_3 : Nat) (f8_4 : Nat) (f8_5 : Nat) (f8_6 : Nat) (f8_7 : Nat) (x9 : Int) (w : World) : lanes_gathered_o.rl8 R (k + 1) p1_0 x5 f8_0 f8_1 f8_2 f8_3 f8_4 f8_5 f8_6 f8_7 x9 w = ∀ _ : Nat → Value, lanes_gathered_o.g8 R (lanes_gathered_o.rl8 R k) p1_0 x5 f8_0 f8_1 f8_2 f8_3 f8_4 f8_5 f8_6 f8_7 x9 w := by kernel_rfl
theorem lanes_gathered_o.lq8 (R : Value → World → Prop) : ∀ k, lanes_gathered_o.l8 R k = lanes_gathered_o.rl8 R k
  | 0 => by funext p1_0 x5 f8_0 f8_1 f8_2 f8_3 f8_4 f8_5 f8_6 f8_7 x9 w; first | rfl | kernel_rfl
  | k + 1 => by
    funext p1_0 x5 f8_0 f8_1 f8_2 f8_3 f8_4 f8_5 f8_6 f8_7 x9 w
    rw [lanes_gathered_o.s8, forall_const]
    unfold lanes_gathered_o.l8
    have ih := lanes_gathered_o.lq8 R k
    rw [ih]
    all_goals rfl
theorem lanes_gathered_o.eq8 (R : Value → World → Prop) : lanes_gathered_o.e8 R = lanes_gathered_o.re8 R := by
  funext p1_0 x5 f8_0 f8_1 f8_2 f8_3 f8_4 f8_5 f8_6 f8_7 x9 w
  unfold lanes_gathered_o.e8 lanes_gathered_o.re8
  simp only [lanes_gathered_o.lq8 R]
def lanes_gathered_o (R : Value → World → Prop) (f0_0 : Nat) (f0_1 : Nat) (f0_2 : Nat) (f0_3 : Nat) (f0_4 : Nat) (f0_5 : Nat) (f0_6 : Nat) (f0_7 : Nat) (p1_0 : Addr) (w : World) : Prop := lanes_gathered_o.g0 R (lanes_gathered_o.e8 R) f0_0 f0_1 f0_2 f0_3 f0_4 f0_5 f0_6 f0_7 p1_0 w
theorem lanes_gathered_o.root0 (R : Value → World → Prop) (f0_0 : Nat) (f0_1 : Nat) (f0_2 : Nat) (f0_3 : Nat) (f0_4 : Nat) (f0_5 : Nat) (f0_6 : Nat) (f0_7 : Nat) (p1_0 : Addr) (w : World) : fnN Go.Proofs.Tryd.prog Go.Proofs.Tryd.f21 lanes_gathered_o.an #[.agg #[.float .f64 f0_0, .float .f64 f0_1, .float .f64 f0_2, .float .f64 f0_3, .float .f64 f0_4, .float .f64 f0_5, .float .f64 f0_6, .float .f64 f0_7], .func (.func 23) #[] #[.pointer (some p1_0)]] w R = lanes_gathered_o.g0 R (lanes_gathered_o.re8 R) f0_0 f0_1 f0_2 f0_3 f0_4 f0_5 f0_6 f0_7 p1_0 w := by kernel_rfl
theorem lanes_gathered_o.calls {R : Value → World → Prop} {f0_0 : Nat} {f0_1 : Nat} {f0_2 : Nat} {f0_3 : Nat} {f0_4 : Nat} {f0_5 : Nat} {f0_6 : Nat} {f0_7 : Nat} {p1_0 : Addr} {w : World} (h : lanes_gathered_o R f0_0 f0_1 f0_2 f0_3 f0_4 f0_5 f0_6 f0_7 p1_0 w) : Go.E.CallsD Go.Proofs.Tryd.prog 21 #[.agg #[.float .f64 f0_0, .float .f64 f0_1, .float .f64 f0_2, .float .f64 f0_3, .float .f64 f0_4, .float .f64 f0_5, .float .f64 f0_6, .float .f64 f0_7], .func (.func 23) #[] #[.pointer (some p1_0)]] w R := by
  refine callsD_of (n := lanes_gathered_o.an) M_follows M_sizes Go.Proofs.Tryd.func21 (by rfl) ?_
  rw [lanes_gathered_o.root0]
  unfold lanes_gathered_o at h
  rw [lanes_gathered_o.eq8 R] at h
  exact h
-- thicket/lanes.gathered
def lanes_gathered_l.an : An := (.mk none .nil (.mk none .nil (.mk none (.mk none .nil (.mk none (.mk (some [1, 5, 8, 9]) .nil .nil) .nil)) .nil)))
def lanes_gathered_l.g0 (R : Value → World → Prop) (e8 : Int → Nat → Nat → Nat → Nat → Nat → Nat → Nat → Nat → Int → World → Prop) (f0_0 : Nat) (f0_1 : Nat) (f0_2 : Nat) (f0_3 : Nat) (f0_4 : Nat) (f0_5 : Nat) (f0_6 : Nat) (f0_7 : Nat) (w : World) : Prop :=
 nw (w.alloc (.cells #[.float .f64 f0_0, .float .f64 f0_1, .float .f64 f0_2, .float .f64 f0_3, .float .f64 f0_4, .float .f64 f0_5, .float .f64 f0_6, .float .f64 f0_7] 57)) fun w18 =>
 ∃ yf_19 : Nat, w18.cell? ((na w).add 0) = some (.float .f64 yf_19) ∧
 (∃ yf_20 : Nat, w18.cell? ((na w).add 1) = some (.float .f64 yf_20) ∧
 (∃ yf_21 : Nat, w18.cell? ((na w).add 2) = some (.float .f64 yf_21) ∧
 (∃ yf_22 : Nat, w18.cell? ((na w).add 3) = some (.float .f64 yf_22) ∧
 (∃ yf_23 : Nat, w18.cell? ((na w).add 4) = some (.float .f64 yf_23) ∧
 (∃ yf_24 : Nat, w18.cell? ((na w).add 5) = some (.float .f64 yf_24) ∧
 (∃ yf_25 : Nat, w18.cell? ((na w).add 6) = some (.float .f64 yf_25) ∧
 (∃ yf_26 : Nat, w18.cell? ((na w).add 7) = some (.float .f64 yf_26) ∧
 (e8 0 yf_19 yf_20 yf_21 yf_22 yf_23 yf_24 yf_25 yf_26 0 w18))))))))
def lanes_gathered_l.g8 (R : Value → World → Prop) (b8 : Int → Nat → Nat → Nat → Nat → Nat → Nat → Nat → Nat → Int → World → Prop) (x5 : Int) (f8_0 : Nat) (f8_1 : Nat) (f8_2 : Nat) (f8_3 : Nat) (f8_4 : Nat) (f8_5 : Nat) (f8_6 : Nat) (f8_7 : Nat) (x9 : Int) (w : World) : Prop :=
 onBool (decide (x9 < 8))
 (chk ((0 : Int) ≤ x9 ∧ x9 < (8 : Int))
 (∃ yf_27 : Nat, (#[.float .f64 f8_0, .float .f64 f8_1, .float .f64 f8_2, .float .f64 f8_3, .float .f64 f8_4, .float .f64 f8_5, .float .f64 f8_6, .float .f64 f8_7] : Array Value)[x9.toNat * 1]? = some (.float .f64 yf_27) ∧
 (Go.E.CallsD Go.Proofs.Tryd.prog 24 #[.float .f64 yf_27] w fun yv28 u29 =>
 ∃ yb_30 : Bool, yv28 = .bool yb_30 ∧
 (onBool yb_30
 (nv (IntKind.u64.wrap x9) fun t31 =>
 nchk (t31 < 0)
 (nv (IntKind.u8.wrap (1 * 2 ^ (min t31.toNat 8))) fun t32 =>
 nv (bitsI .or .u8 x5 t32) fun t33 =>
 nv (IntKind.i64.wrap (x9 + 1)) fun t34 =>
 b8 t33 f8_0 f8_1 f8_2 f8_3 f8_4 f8_5 f8_6 f8_7 t34 u29))
 (nv (IntKind.i64.wrap (x9 + 1)) fun t35 =>
 b8 x5 f8_0 f8_1 f8_2 f8_3 f8_4 f8_5 f8_6 f8_7 t35 u29)))))
 (R (.int .u8 x5) w)
def lanes_gathered_l.q2 (R : Value → World → Prop) : Exit → Act → World → Prop := (fin Go.Proofs.Tryd.prog Go.Proofs.Tryd.f21 R)
def lanes_gathered_l.q4 (R : Value → World → Prop) : Exit → Act → World → Prop := (lanes_gathered_l.q2 R)
def lanes_gathered_l.q5 (R : Value → World → Prop) : Exit → Act → World → Prop := Exit.then (startN none (codeN Go.Proofs.Tryd.prog (sub (codeOf Go.Proofs.Tryd.f21) [1, 1, 1]) (nsub lanes_gathered_l.an [1, 1, 1]) (lanes_gathered_l.q4 R))) (lanes_gathered_l.q4 R)
def lanes_gathered_l.q7 (R : Value → World → Prop) : Exit → Act → World → Prop := (lanes_gathered_l.q5 R)
def lanes_gathered_l.q8 (R : Value → World → Prop) : Exit → Act → World → Prop := Exit.inBlock 0 (lanes_gathered_l.q7 R)
def lanes_gathered_l.rl8 (R : Value → World → Prop) (k : Nat) (x5 : Int) (f8_0 : Nat) (f8_1 : Nat) (f8_2 : Nat) (f8_3 : Nat) (f8_4 : Nat) (f8_5 : Nat) (f8_6 : Nat) (f8_7 : Nat) (x9 : Int) (w : World) : Prop := loopN [1, 5, 8, 9] (codeN Go.Proofs.Tryd.prog (sub (codeOf Go.Proofs.Tryd.f21) [1, 1, 0, 1, 0, 0]) (nsub lanes_gathered_l.an [1, 1, 0, 1, 0, 0])) (lanes_gathered_l.q8 R) k ⟨#[undef, .func (.func 24) #[] #[], undef, undef, undef, .int .u8 x5, undef, undef, .agg #[.float .f64 f8_0, .float .f64 f8_1, .float .f64 f8_2, .float .f64 f8_3, .float .f64 f8_4, .float .f64 f8_5, .float .f64 f8_6, .float .f64 f8_7], .int .i64 x9, undef, undef, undef, undef, undef, undef, undef, undef, undef, undef, undef, undef, undef], []⟩ w
def lanes_gathered_l.re8 (R : Value → World → Prop) (x5 : Int) (f8_0 : Nat) (f8_1 : Nat) (f8_2 : Nat) (f8_3 : Nat) (f8_4 : Nat) (f8_5 : Nat) (f8_6 : Nat) (f8_7 : Nat) (x9 : Int) (w : World) : Prop := ∃ k, lanes_gathered_l.rl8 R k x5 f8_0 f8_1 f8_2 f8_3 f8_4 f8_5 f8_6 f8_7 x9 w
def lanes_gathered_l.l8 (R : Value → World → Prop) : Nat → Int → Nat → Nat → Nat → Nat → Nat → Nat → Nat → Nat → Int → World → Prop
  | 0, _, _, _, _, _, _, _, _, _, _, _ => False
  | k + 1, x5, f8_0, f8_1, f8_2, f8_3, f8_4, f8_5, f8_6, f8_7, x9, w => lanes_gathered_l.g8 R (lanes_gathered_l.l8 R k) x5 f8_0 f8_1 f8_2 f8_3 f8_4 f8_5 f8_6 f8_7 x9 w
def lanes_gathered_l.e8 (R : Value → World → Prop) (x5 : Int) (f8_0 : Nat) (f8_1 : Nat) (f8_2 : Nat) (f8_3 : Nat) (f8_4 : Nat) (f8_5 : Nat) (f8_6 : Nat) (f8_7 : Nat) (x9 : Int) (w : World) : Prop := ∃ k, lanes_gathered_l.l8 R k x5 f8_0 f8_1 f8_2 f8_3 f8_4 f8_5 f8_6 f8_7 x9 w
theorem lanes_gathered_l.s8 (R : Value → World → Prop) (k : Nat) (x5 : Int) (f8_0 : Nat) (f8_1 : Nat) (f8_2 : Nat) (f8_3 : Nat) (f8_4 : Nat) (f8_5 : Nat) (f8_6 : Nat) (f8_7 : Nat) (x9 : Int) (w : World) : lanes_gathered_l.rl8 R (k + 1) x5 f8_0 f8_1 f8_2 f8_3 f8_4 f8_5 f8_6 f8_7 x9 w = ∀ _ : Nat → Value, lanes_gathered_l.g8 R (lanes_gathered_l.rl8 R k) x5 f8_0 f8_1 f8_2 f8_3 f8_4 f8_5 f8_6 f8_7 x9 w := by kernel_rfl
theorem lanes_gathered_l.lq8 (R : Value → World → Prop) : ∀ k, lanes_gathered_l.l8 R k = lanes_gathered_l.rl8 R k
  | 0 => by funext x5 f8_0 f8_1 f8_2 f8_3 f8_4 f8_5 f8_6 f8_7 x9 w; first | rfl | kernel_rfl
  | k + 1 => by
    funext x5 f8_0 f8_1 f8_2 f8_3 f8_4 f8_5 f8_6 f8_7 x9 w
    rw [lanes_gathered_l.s8, forall_const]
    unfold lanes_gathered_l.l8
    have ih := lanes_gathered_l.lq8 R k
    rw [ih]
    all_goals rfl
theorem lanes_gathered_l.eq8 (R : Value → World → Prop) : lanes_gathered_l.e8 R = lanes_gathered_l.re8 R := by
  funext x5 f8_0 f8_1 f8_2 f8_3 f8_4 f8_5 f8_6 f8_7 x9 w
  unfold lanes_gathered_l.e8 lanes_gathered_l.re8
  simp only [lanes_gathered_l.lq8 R]
def lanes_gathered_l (R : Value → World → Prop) (f0_0 : Nat) (f0_1 : Nat) (f0_2 : Nat) (f0_3 : Nat) (f0_4 : Nat) (f0_5 : Nat) (f0_6 : Nat) (f0_7 : Nat) (w : World) : Prop := lanes_gathered_l.g0 R (lanes_gathered_l.e8 R) f0_0 f0_1 f0_2 f0_3 f0_4 f0_5 f0_6 f0_7 w
theorem lanes_gathered_l.root0 (R : Value → World → Prop) (f0_0 : Nat) (f0_1 : Nat) (f0_2 : Nat) (f0_3 : Nat) (f0_4 : Nat) (f0_5 : Nat) (f0_6 : Nat) (f0_7 : Nat) (w : World) : fnN Go.Proofs.Tryd.prog Go.Proofs.Tryd.f21 lanes_gathered_l.an #[.agg #[.float .f64 f0_0, .float .f64 f0_1, .float .f64 f0_2, .float .f64 f0_3, .float .f64 f0_4, .float .f64 f0_5, .float .f64 f0_6, .float .f64 f0_7], .func (.func 24) #[] #[]] w R = lanes_gathered_l.g0 R (lanes_gathered_l.re8 R) f0_0 f0_1 f0_2 f0_3 f0_4 f0_5 f0_6 f0_7 w := by kernel_rfl
theorem lanes_gathered_l.calls {R : Value → World → Prop} {f0_0 : Nat} {f0_1 : Nat} {f0_2 : Nat} {f0_3 : Nat} {f0_4 : Nat} {f0_5 : Nat} {f0_6 : Nat} {f0_7 : Nat} {w : World} (h : lanes_gathered_l R f0_0 f0_1 f0_2 f0_3 f0_4 f0_5 f0_6 f0_7 w) : Go.E.CallsD Go.Proofs.Tryd.prog 21 #[.agg #[.float .f64 f0_0, .float .f64 f0_1, .float .f64 f0_2, .float .f64 f0_3, .float .f64 f0_4, .float .f64 f0_5, .float .f64 f0_6, .float .f64 f0_7], .func (.func 24) #[] #[]] w R := by
  refine callsD_of (n := lanes_gathered_l.an) M_follows M_sizes Go.Proofs.Tryd.func21 (by rfl) ?_
  rw [lanes_gathered_l.root0]
  unfold lanes_gathered_l at h
  rw [lanes_gathered_l.eq8 R] at h
  exact h
-- thicket/lanes.Above$1
def lanes_Above_1.an : An := An.nil
def lanes_Above_1.g0 (R : Value → World → Prop) (f0 : Nat) (p1 : Addr) (w : World) : Prop :=
 ∃ yf_2 : Nat, w.cell? p1 = some (.float .f64 yf_2) ∧
 (R (.bool (FloatKind.f64.format.order f0 yf_2 == some .gt)) w)
def lanes_Above_1 (R : Value → World → Prop) (f0 : Nat) (p1 : Addr) (w : World) : Prop := lanes_Above_1.g0 R f0 p1 w
theorem lanes_Above_1.root0 (R : Value → World → Prop) (f0 : Nat) (p1 : Addr) (w : World) : fnN Go.Proofs.Tryd.prog Go.Proofs.Tryd.f22 lanes_Above_1.an #[.float .f64 f0, .pointer (some p1)] w R = lanes_Above_1.g0 R f0 p1 w := by kernel_rfl
theorem lanes_Above_1.calls {R : Value → World → Prop} {f0 : Nat} {p1 : Addr} {w : World} (h : lanes_Above_1 R f0 p1 w) : Go.E.CallsD Go.Proofs.Tryd.prog 22 #[.float .f64 f0, .pointer (some p1)] w R := by
  refine callsD_of (n := lanes_Above_1.an) M_follows M_sizes Go.Proofs.Tryd.func22 (by rfl) ?_
  rw [lanes_Above_1.root0]
  unfold lanes_Above_1 at h
  exact h
-- thicket/lanes.Outside$1
def lanes_Outside_1.an : An := (.mk none .nil (.mk none .nil (.mk none (.mk none .nil (.mk none (.mk (some [0, 9, 10, 11]) .nil .nil) .nil)) .nil)))
def lanes_Outside_1.g0 (R : Value → World → Prop) (e14 : Nat → (Option Addr) → Nat → Nat → Int → Int → World → Prop) (f0 : Nat) (p1 : Addr) (w : World) : Prop :=
 onBool (FloatKind.f64.format.order f0 f0 != some .eq)
 (R (.bool false) w)
 (∃ ya_6 : Option Addr, ∃ yn_6 : Nat, ∃ yc_6 : Nat, w.cell? p1 = some (.slice ya_6 yn_6 yc_6) ∧
 (e14 f0 ya_6 yn_6 yc_6 (yn_6 : Int) 0 w))
def lanes_Outside_1.g14 (R : Value → World → Prop) (b14 : Nat → (Option Addr) → Nat → Nat → Int → Int → World → Prop) (f0 : Nat) (a9 : Option Addr) (n9 : Nat) (c9 : Nat) (x10 : Int) (x11 : Int) (w : World) : Prop :=
 onBool (decide (x11 < x10))
 (optN a9 fun q7 =>
 chk ((0 : Int) ≤ x11 ∧ x11 < (n9 : Int))
 (∃ yx_8 : Int, w.cell? (q7.add (x11.toNat * 1)) = some (.int .i64 yx_8) ∧
 (nv (FloatKind.f64.nearest yx_8) fun t9 =>
 onBool (FloatKind.f64.format.order t9 f0 == some .eq)
 (R (.bool false) w)
 (nv (IntKind.i64.wrap (x11 + 1)) fun t10 =>
 b14 f0 a9 n9 c9 x10 t10 w))))
 (R (.bool true) w)
def lanes_Outside_1.q2 (R : Value → World → Prop) : Exit → Act → World → Prop := (fin Go.Proofs.Tryd.prog Go.Proofs.Tryd.f23 R)
def lanes_Outside_1.q10 (R : Value → World → Prop) : Exit → Act → World → Prop := (lanes_Outside_1.q2 R)
def lanes_Outside_1.q11 (R : Value → World → Prop) : Exit → Act → World → Prop := Exit.then (startN none (codeN Go.Proofs.Tryd.prog (sub (codeOf Go.Proofs.Tryd.f23) [1, 1, 1]) (nsub lanes_Outside_1.an [1, 1, 1]) (lanes_Outside_1.q10 R))) (lanes_Outside_1.q10 R)
def lanes_Outside_1.q13 (R : Value → World → Prop) : Exit → Act → World → Prop := (lanes_Outside_1.q11 R)
def lanes_Outside_1.q14 (R : Value → World → Prop) : Exit → Act → World → Prop := Exit.inBlock 0 (lanes_Outside_1.q13 R)
def lanes_Outside_1.rl14 (R : Value → World → Prop) (k : Nat) (f0 : Nat) (a9 : Option Addr) (n9 : Nat) (c9 : Nat) (x10 : Int) (x11 : Int) (w : World) : Prop := loopN [0, 9, 10, 11] (codeN Go.Proofs.Tryd.prog (sub (codeOf Go.Proofs.Tryd.f23) [1, 1, 0, 1, 0, 0]) (nsub lanes_Outside_1.an [1, 1, 0, 1, 0, 0])) (lanes_Outside_1.q14 R) k ⟨#[.float .f64 f0, undef, undef, undef, undef, undef, undef, undef, undef, .slice a9 n9 c9, .int .i64 x10, .int .i64 x11, undef, undef, undef, undef, undef, undef, undef, undef], []⟩ w
def lanes_Outside_1.re14 (R : Value → World → Prop) (f0 : Nat) (a9 : Option Addr) (n9 : Nat) (c9 : Nat) (x10 : Int) (x11 : Int) (w : World) : Prop := ∃ k, lanes_Outside_1.rl14 R k f0 a9 n9 c9 x10 x11 w
def lanes_Outside_1.l14 (R : Value → World → Prop) : Nat → Nat → (Option Addr) → Nat → Nat → Int → Int → World → Prop
  | 0, _, _, _, _, _, _, _ => False
  | k + 1, f0, a9, n9, c9, x10, x11, w => lanes_Outside_1.g14 R (lanes_Outside_1.l14 R k) f0 a9 n9 c9 x10 x11 w
def lanes_Outside_1.e14 (R : Value → World → Prop) (f0 : Nat) (a9 : Option Addr) (n9 : Nat) (c9 : Nat) (x10 : Int) (x11 : Int) (w : World) : Prop := ∃ k, lanes_Outside_1.l14 R k f0 a9 n9 c9 x10 x11 w
theorem lanes_Outside_1.s14 (R : Value → World → Prop) (k : Nat) (f0 : Nat) (a9 : Option Addr) (n9 : Nat) (c9 : Nat) (x10 : Int) (x11 : Int) (w : World) : lanes_Outside_1.rl14 R (k + 1) f0 a9 n9 c9 x10 x11 w = ∀ _ : Nat → Value, lanes_Outside_1.g14 R (lanes_Outside_1.rl14 R k) f0 a9 n9 c9 x10 x11 w := by kernel_rfl
theorem lanes_Outside_1.lq14 (R : Value → World → Prop) : ∀ k, lanes_Outside_1.l14 R k = lanes_Outside_1.rl14 R k
  | 0 => by funext f0 a9 n9 c9 x10 x11 w; first | rfl | kernel_rfl
  | k + 1 => by
    funext f0 a9 n9 c9 x10 x11 w
    rw [lanes_Outside_1.s14, forall_const]
    unfold lanes_Outside_1.l14
    have ih := lanes_Outside_1.lq14 R k
    rw [ih]
    all_goals rfl
theorem lanes_Outside_1.eq14 (R : Value → World → Prop) : lanes_Outside_1.e14 R = lanes_Outside_1.re14 R := by
  funext f0 a9 n9 c9 x10 x11 w
  unfold lanes_Outside_1.e14 lanes_Outside_1.re14
  simp only [lanes_Outside_1.lq14 R]
def lanes_Outside_1 (R : Value → World → Prop) (f0 : Nat) (p1 : Addr) (w : World) : Prop := lanes_Outside_1.g0 R (lanes_Outside_1.e14 R) f0 p1 w
theorem lanes_Outside_1.root0 (R : Value → World → Prop) (f0 : Nat) (p1 : Addr) (w : World) : fnN Go.Proofs.Tryd.prog Go.Proofs.Tryd.f23 lanes_Outside_1.an #[.float .f64 f0, .pointer (some p1)] w R = lanes_Outside_1.g0 R (lanes_Outside_1.re14 R) f0 p1 w := by kernel_rfl
theorem lanes_Outside_1.calls {R : Value → World → Prop} {f0 : Nat} {p1 : Addr} {w : World} (h : lanes_Outside_1 R f0 p1 w) : Go.E.CallsD Go.Proofs.Tryd.prog 23 #[.float .f64 f0, .pointer (some p1)] w R := by
  refine callsD_of (n := lanes_Outside_1.an) M_follows M_sizes Go.Proofs.Tryd.func23 (by rfl) ?_
  rw [lanes_Outside_1.root0]
  unfold lanes_Outside_1 at h
  rw [lanes_Outside_1.eq14 R] at h
  exact h
-- thicket/lanes.Lost$1
def lanes_Lost_1.an : An := An.nil
def lanes_Lost_1.g0 (R : Value → World → Prop) (f0 : Nat) (w : World) : Prop :=
 R (.bool (FloatKind.f64.format.order f0 f0 != some .eq)) w
def lanes_Lost_1 (R : Value → World → Prop) (f0 : Nat) (w : World) : Prop := lanes_Lost_1.g0 R f0 w
theorem lanes_Lost_1.root0 (R : Value → World → Prop) (f0 : Nat) (w : World) : fnN Go.Proofs.Tryd.prog Go.Proofs.Tryd.f24 lanes_Lost_1.an #[.float .f64 f0] w R = lanes_Lost_1.g0 R f0 w := by kernel_rfl
theorem lanes_Lost_1.calls {R : Value → World → Prop} {f0 : Nat} {w : World} (h : lanes_Lost_1 R f0 w) : Go.E.CallsD Go.Proofs.Tryd.prog 24 #[.float .f64 f0] w R := by
  refine callsD_of (n := lanes_Lost_1.an) M_follows M_sizes Go.Proofs.Tryd.func24 (by rfl) ?_
  rw [lanes_Lost_1.root0]
  unfold lanes_Lost_1 at h
  exact h
end Go.Mir
