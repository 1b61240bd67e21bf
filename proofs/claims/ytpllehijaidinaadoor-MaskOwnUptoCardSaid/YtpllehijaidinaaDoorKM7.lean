/- Part of a proof of laws of the seat YtpllehijaidinaaDoor: functions' weakest preconditions, each checked by the kernel, contracts out of them, plain lemmas; no conditions. -/
import Derived.Test.YtpllehijaidinaaDoorKM0
set_option linter.unusedVariables false
set_option linter.unusedSimpArgs false
set_option linter.unusedVariables false
set_option maxRecDepth 100000
namespace Go.Mir
open Go Go.E Go.RowKit
-- thicket/thicketref07.kind
def thicketref07_kind.an : An := (.mk none .nil (.mk none .nil (.mk none .nil (.mk none .nil (.mk none (.mk none .nil (.mk none (.mk (some [1, 2, 8, 20, 21, 22]) .nil .nil) .nil)) .nil)))))
def thicketref07_kind.g0 (R : Value → World → Prop) (e18 : Bool → (Option Addr) → (Option Addr) → Nat → Nat → (Option Addr) → Nat → Nat → Int → Int → World → Prop) (x0_0 : Int) (a0_1 : Option Addr) (n0_1 : Nat) (c0_1 : Nat) (b1 : Bool) (w : World) : Prop :=
 nw (w.alloc (.cells #[.int .i64 x0_0, .slice a0_1 n0_1 c0_1] 24)) fun w23 =>
 ∃ yx_24 : Int, w23.cell? ((na w).add 0) = some (.int .i64 yx_24) ∧
 (∃ ya_25 : Option Addr, ∃ yn_25 : Nat, ∃ yc_25 : Nat, w23.cell? ((na w).add 1) = some (.slice ya_25 yn_25 yc_25) ∧
 (Go.E.CallsD Go.Proofs.Tryd.prog 68 #[.agg #[.int .i64 yx_24, .slice ya_25 yn_25 yc_25]] w23 fun yv26 u27 =>
 ∃ yx_28_0 : Int, ∃ yx_28_1 : Int, yv26 = .tuple #[.int .i64 yx_28_0, .int .i64 yx_28_1] ∧
 (onBool (yx_28_0 != 0)
 (R (.tuple #[.slice none 0 0, .int .i64 yx_28_0]) u27)
 (∃ yx_29 : Int, u27.cell? ((na w).add 0) = some (.int .i64 yx_29) ∧
 (∃ ya_30 : Option Addr, ∃ yn_30 : Nat, ∃ yc_30 : Nat, u27.cell? ((na w).add 1) = some (.slice ya_30 yn_30 yc_30) ∧
 (Go.E.CallsD Go.Proofs.Tryd.prog 46 #[.agg #[.int .i64 yx_29, .slice ya_30 yn_30 yc_30]] u27 fun yv31 u32 =>
 ∃ ya_33 : Option Addr, ∃ yn_33 : Nat, ∃ yc_33 : Nat, yv31 = .slice ya_33 yn_33 yc_33 ∧
 (e18 b1 (some (na w)) none 0 0 ya_33 yn_33 yc_33 (yn_33 : Int) 0 u32)))))))
def thicketref07_kind.g18 (R : Value → World → Prop) (b18 : Bool → (Option Addr) → (Option Addr) → Nat → Nat → (Option Addr) → Nat → Nat → Int → Int → World → Prop) (b1 : Bool) (p2 : Option Addr) (a8 : Option Addr) (n8 : Nat) (c8 : Nat) (a20 : Option Addr) (n20 : Nat) (c20 : Nat) (x21 : Int) (x22 : Int) (w : World) : Prop :=
 onBool (decide (x22 < x21))
 (optN a20 fun q34 =>
 chk ((0 : Int) ≤ x22 ∧ x22 < (n20 : Int))
 (∃ yx_35 : Int, w.cell? (q34.add (x22.toNat * 1)) = some (.int .i64 yx_35) ∧
 (optN p2 fun q36 =>
 ∃ ya_37 : Option Addr, ∃ yn_37 : Nat, ∃ yc_37 : Nat, w.cell? (q36.add 1) = some (.slice ya_37 yn_37 yc_37) ∧
 (optN ya_37 fun q38 =>
 chk ((0 : Int) ≤ yx_35 ∧ yx_35 < (yn_37 : Int))
 (∃ yx_39 : Int, w.cell? ((q38.add (yx_35.toNat * 8)).add 0) = some (.int .u8 yx_39) ∧
 (onBool ((yx_39 == 1) == b1)
 (nw (w.alloc (.cells #[.int .i64 yx_35] 3)) fun w40 =>
 rawN Go.Proofs.Tryd.prog (Builtin.append_ #[40, 40] 40 #[.slice a8 n8 c8, .slice (some (na w)) 1 1]) w40 fun yv41 u42 =>
 ∃ ya_43 : Option Addr, ∃ yn_43 : Nat, ∃ yc_43 : Nat, yv41 = .slice ya_43 yn_43 yc_43 ∧
 (nv (IntKind.i64.wrap (x22 + 1)) fun t44 =>
 b18 b1 p2 ya_43 yn_43 yc_43 a20 n20 c20 x21 t44 u42))
 (nv (IntKind.i64.wrap (x22 + 1)) fun t45 =>
 b18 b1 p2 a8 n8 c8 a20 n20 c20 x21 t45 w)))))))
 (R (.tuple #[.slice a8 n8 c8, .int .i64 0]) w)
def thicketref07_kind.q2 (R : Value → World → Prop) : Exit → Act → World → Prop := (fin Go.Proofs.Tryd.prog Go.Proofs.Tryd.f62 R)
def thicketref07_kind.q4 (R : Value → World → Prop) : Exit → Act → World → Prop := (thicketref07_kind.q2 R)
def thicketref07_kind.q12 (R : Value → World → Prop) : Exit → Act → World → Prop := (thicketref07_kind.q4 R)
def thicketref07_kind.q14 (R : Value → World → Prop) : Exit → Act → World → Prop := (thicketref07_kind.q12 R)
def thicketref07_kind.q15 (R : Value → World → Prop) : Exit → Act → World → Prop := Exit.then (startN none (codeN Go.Proofs.Tryd.prog (sub (codeOf Go.Proofs.Tryd.f62) [1, 1, 1, 1, 1]) (nsub thicketref07_kind.an [1, 1, 1, 1, 1]) (thicketref07_kind.q14 R))) (thicketref07_kind.q14 R)
def thicketref07_kind.q17 (R : Value → World → Prop) : Exit → Act → World → Prop := (thicketref07_kind.q15 R)
def thicketref07_kind.q18 (R : Value → World → Prop) : Exit → Act → World → Prop := Exit.inBlock 0 (thicketref07_kind.q17 R)
def thicketref07_kind.rl18 (R : Value → World → Prop) (k : Nat) (b1 : Bool) (p2 : Option Addr) (a8 : Option Addr) (n8 : Nat) (c8 : Nat) (a20 : Option Addr) (n20 : Nat) (c20 : Nat) (x21 : Int) (x22 : Int) (w : World) : Prop := loopN [1, 2, 8, 20, 21, 22] (codeN Go.Proofs.Tryd.prog (sub (codeOf Go.Proofs.Tryd.f62) [1, 1, 1, 1, 0, 1, 0, 0]) (nsub thicketref07_kind.an [1, 1, 1, 1, 0, 1, 0, 0])) (thicketref07_kind.q18 R) k ⟨#[undef, .bool b1, .pointer p2, undef, undef, undef, undef, undef, .slice a8 n8 c8, undef, undef, undef, undef, undef, undef, undef, undef, undef, undef, undef, .slice a20 n20 c20, .int .i64 x21, .int .i64 x22, undef, undef, undef, undef, undef, undef, undef, undef, undef, undef, undef, undef, undef, undef, undef, undef, undef, undef], []⟩ w
def thicketref07_kind.re18 (R : Value → World → Prop) (b1 : Bool) (p2 : Option Addr) (a8 : Option Addr) (n8 : Nat) (c8 : Nat) (a20 : Option Addr) (n20 : Nat) (c20 : Nat) (x21 : Int) (x22 : Int) (w : World) : Prop := ∃ k, thicketref07_kind.rl18 R k b1 p2 a8 n8 c8 a20 n20 c20 x21 x22 w
def thicketref07_kind.l18 (R : Value → World → Prop) : Nat → Bool → (Option Addr) → (Option Addr) → Nat → Nat → (Option Addr) → Nat → Nat → Int → Int → World → Prop
  | 0, _, _, _, _, _, _, _, _, _, _, _ => False
  | k + 1, b1, p2, a8, n8, c8, a20, n20, c20, x21, x22, w => thicketref07_kind.g18 R (thicketref07_kind.l18 R k) b1 p2 a8 n8 c8 a20 n20 c20 x21 x22 w
def thicketref07_kind.e18 (R : Value → World → Prop) (b1 : Bool) (p2 : Option Addr) (a8 : Option Addr) (n8 : Nat) (c8 : Nat) (a20 : Option Addr) (n20 : Nat) (c20 : Nat) (x21 : Int) (x22 : Int) (w : World) : Prop := ∃ k, thicketref07_kind.l18 R k b1 p2 a8 n8 c8 a20 n20 c20 x21 x22 w
theorem thicketref07_kind.s18 (R : Value → World → Prop) (k : Nat) (b1 : Bool) (p2 : Option Addr) (a8 : Option Addr) (n8 : Nat) (c8 : Nat) (a20 : Option Addr) (n20 : Nat) (c20 : Nat) (x21 : Int) (x22 : Int) (w : World) : thicketref07_kind.rl18 R (k + 1) b1 p2 a8 n8 c8 a20 n20 c20 x21 x22 w = ∀ _ : Nat → Value, thicketref07_kind.g18 R (thicketref07_kind.rl18 R k) b1 p2 a8 n8 c8 a20 n20 c20 x21 x22 w := by kernel_rfl
theorem thicketref07_kind.lq18 (R : Value → World → Prop) : ∀ k, thicketref07_kind.l18 R k = thicketref07_kind.rl18 R k
  | 0 => by funext b1 p2 a8 n8 c8 a20 n20 c20 x21 x22 w; first | rfl | kernel_rfl
  | k + 1 => by
    funext b1 p2 a8 n8 c8 a20 n20 c20 x21 x22 w
    rw [thicketref07_kind.s18, forall_const]
    unfold thicketref07_kind.l18
    have ih := thicketref07_kind.lq18 R k
    rw [ih]
    all_goals rfl
theorem thicketref07_kind.eq18 (R : Value → World → Prop) : thicketref07_kind.e18 R = thicketref07_kind.re18 R := by
  funext b1 p2 a8 n8 c8 a20 n20 c20 x21 x22 w
  unfold thicketref07_kind.e18 thicketref07_kind.re18
  simp only [thicketref07_kind.lq18 R]
def thicketref07_kind (R : Value → World → Prop) (x0_0 : Int) (a0_1 : Option Addr) (n0_1 : Nat) (c0_1 : Nat) (b1 : Bool) (w : World) : Prop := thicketref07_kind.g0 R (thicketref07_kind.e18 R) x0_0 a0_1 n0_1 c0_1 b1 w
theorem thicketref07_kind.root0 (R : Value → World → Prop) (x0_0 : Int) (a0_1 : Option Addr) (n0_1 : Nat) (c0_1 : Nat) (b1 : Bool) (w : World) : fnN Go.Proofs.Tryd.prog Go.Proofs.Tryd.f62 thicketref07_kind.an #[.agg #[.int .i64 x0_0, .slice a0_1 n0_1 c0_1], .bool b1] w R = thicketref07_kind.g0 R (thicketref07_kind.re18 R) x0_0 a0_1 n0_1 c0_1 b1 w := by kernel_rfl
theorem thicketref07_kind.calls {R : Value → World → Prop} {x0_0 : Int} {a0_1 : Option Addr} {n0_1 : Nat} {c0_1 : Nat} {b1 : Bool} {w : World} (h : thicketref07_kind R x0_0 a0_1 n0_1 c0_1 b1 w) : Go.E.CallsD Go.Proofs.Tryd.prog 62 #[.agg #[.int .i64 x0_0, .slice a0_1 n0_1 c0_1], .bool b1] w R := by
  refine callsD_of (n := thicketref07_kind.an) M_follows M_sizes Go.Proofs.Tryd.func62 (by rfl) ?_
  rw [thicketref07_kind.root0]
  unfold thicketref07_kind at h
  rw [thicketref07_kind.eq18 R] at h
  exact h
-- thicket/thicketref05.All
def thicketref05_All.an : An := (.mk none .nil (.mk none .nil (.mk none (.mk none .nil (.mk none (.mk (some [0, 3, 4]) .nil .nil) .nil)) .nil)))
def thicketref05_All.g0 (R : Value → World → Prop) (e8 : (Option Addr) → Nat → Nat → (Option Addr) → Nat → Nat → Int → World → Prop) (a0 : Option Addr) (n0 : Nat) (c0 : Nat) (w : World) : Prop :=
 e8 a0 n0 c0 none 0 0 0 w
def thicketref05_All.g8 (R : Value → World → Prop) (b8 : (Option Addr) → Nat → Nat → (Option Addr) → Nat → Nat → Int → World → Prop) (a0 : Option Addr) (n0 : Nat) (c0 : Nat) (a3 : Option Addr) (n3 : Nat) (c3 : Nat) (x4 : Int) (w : World) : Prop :=
 nv (IntKind.i64.wrap (64 * (n0 : Int))) fun t16 =>
 onBool (decide (x4 < t16))
 (nv (IntKind.i64.wrap (Int.tdiv x4 64)) fun t17 =>
 optN a0 fun q18 =>
 chk ((0 : Int) ≤ t17 ∧ t17 < (n0 : Int))
 (∃ yx_19 : Int, w.cell? (q18.add (t17.toNat * 1)) = some (.int .u64 yx_19) ∧
 (onBool (yx_19 == 0)
 (nv (Int.tmod x4 64) fun t20 =>
 nv (IntKind.i64.wrap (63 - t20)) fun t21 =>
 nv (IntKind.i64.wrap (x4 + t21)) fun t22 =>
 nv (IntKind.i64.wrap (t22 + 1)) fun t23 =>
 b8 a0 n0 c0 a3 n3 c3 t23 w)
 (Go.E.CallsD Go.Proofs.Tryd.prog 69 #[.slice a0 n0 c0, .int .i64 x4] w fun yv24 u25 =>
 ∃ yb_26 : Bool, yv24 = .bool yb_26 ∧
 (onBool yb_26
 (nw (u25.alloc (.cells #[.int .i64 x4] 3)) fun w27 =>
 rawN Go.Proofs.Tryd.prog (Builtin.append_ #[40, 40] 40 #[.slice a3 n3 c3, .slice (some (na u25)) 1 1]) w27 fun yv28 u29 =>
 ∃ ya_30 : Option Addr, ∃ yn_30 : Nat, ∃ yc_30 : Nat, yv28 = .slice ya_30 yn_30 yc_30 ∧
 (nv (IntKind.i64.wrap (x4 + 1)) fun t31 =>
 b8 a0 n0 c0 ya_30 yn_30 yc_30 t31 u29))
 (nv (IntKind.i64.wrap (x4 + 1)) fun t32 =>
 b8 a0 n0 c0 a3 n3 c3 t32 u25))))))
 (R (.slice a3 n3 c3) w)
def thicketref05_All.q2 (R : Value → World → Prop) : Exit → Act → World → Prop := (fin Go.Proofs.Tryd.prog Go.Proofs.Tryd.f63 R)
def thicketref05_All.q4 (R : Value → World → Prop) : Exit → Act → World → Prop := (thicketref05_All.q2 R)
def thicketref05_All.q5 (R : Value → World → Prop) : Exit → Act → World → Prop := Exit.then (startN none (codeN Go.Proofs.Tryd.prog (sub (codeOf Go.Proofs.Tryd.f63) [1, 1, 1]) (nsub thicketref05_All.an [1, 1, 1]) (thicketref05_All.q4 R))) (thicketref05_All.q4 R)
def thicketref05_All.q7 (R : Value → World → Prop) : Exit → Act → World → Prop := (thicketref05_All.q5 R)
def thicketref05_All.q8 (R : Value → World → Prop) : Exit → Act → World → Prop := Exit.inBlock 0 (thicketref05_All.q7 R)
def thicketref05_All.rl8 (R : Value → World → Prop) (k : Nat) (a0 : Option Addr) (n0 : Nat) (c0 : Nat) (a3 : Option Addr) (n3 : Nat) (c3 : Nat) (x4 : Int) (w : World) : Prop := loopN [0, 3, 4] (codeN Go.Proofs.Tryd.prog (sub (codeOf Go.Proofs.Tryd.f63) [1, 1, 0, 1, 0, 0]) (nsub thicketref05_All.an [1, 1, 0, 1, 0, 0])) (thicketref05_All.q8 R) k ⟨#[.slice a0 n0 c0, undef, undef, .slice a3 n3 c3, .int .i64 x4, undef, undef, undef, undef, undef, undef, undef, undef, undef, undef, undef, undef, undef, undef, undef, undef, undef, undef, undef, undef, undef, undef, undef, undef, undef, undef], []⟩ w
def thicketref05_All.re8 (R : Value → World → Prop) (a0 : Option Addr) (n0 : Nat) (c0 : Nat) (a3 : Option Addr) (n3 : Nat) (c3 : Nat) (x4 : Int) (w : World) : Prop := ∃ k, thicketref05_All.rl8 R k a0 n0 c0 a3 n3 c3 x4 w
def thicketref05_All.l8 (R : Value → World → Prop) : Nat → (Option Addr) → Nat → Nat → (Option Addr) → Nat → Nat → Int → World → Prop
  | 0, _, _, _, _, _, _, _, _ => False
  | k + 1, a0, n0, c0, a3, n3, c3, x4, w => thicketref05_All.g8 R (thicketref05_All.l8 R k) a0 n0 c0 a3 n3 c3 x4 w
def thicketref05_All.e8 (R : Value → World → Prop) (a0 : Option Addr) (n0 : Nat) (c0 : Nat) (a3 : Option Addr) (n3 : Nat) (c3 : Nat) (x4 : Int) (w : World) : Prop := ∃ k, thicketref05_All.l8 R k a0 n0 c0 a3 n3 c3 x4 w
theorem thicketref05_All.s8 (R : Value → World → Prop) (k : Nat) (a0 : Option Addr) (n0 : Nat) (c0 : Nat) (a3 : Option Addr) (n3 : Nat) (c3 : Nat) (x4 : Int) (w : World) : thicketref05_All.rl8 R (k + 1) a0 n0 c0 a3 n3 c3 x4 w = ∀ _ : Nat → Value, thicketref05_All.g8 R (thicketref05_All.rl8 R k) a0 n0 c0 a3 n3 c3 x4 w := by kernel_rfl
theorem thicketref05_All.lq8 (R : Value → World → Prop) : ∀ k, thicketref05_All.l8 R k = thicketref05_All.rl8 R k
  | 0 => by funext a0 n0 c0 a3 n3 c3 x4 w; first | rfl | kernel_rfl
  | k + 1 => by
    funext a0 n0 c0 a3 n3 c3 x4 w
    rw [thicketref05_All.s8, forall_const]
    unfold thicketref05_All.l8
    have ih := thicketref05_All.lq8 R k
    rw [ih]
    all_goals rfl
theorem thicketref05_All.eq8 (R : Value → World → Prop) : thicketref05_All.e8 R = thicketref05_All.re8 R := by
  funext a0 n0 c0 a3 n3 c3 x4 w
  unfold thicketref05_All.e8 thicketref05_All.re8
  simp only [thicketref05_All.lq8 R]
def thicketref05_All (R : Value → World → Prop) (a0 : Option Addr) (n0 : Nat) (c0 : Nat) (w : World) : Prop := thicketref05_All.g0 R (thicketref05_All.e8 R) a0 n0 c0 w
theorem thicketref05_All.root0 (R : Value → World → Prop) (a0 : Option Addr) (n0 : Nat) (c0 : Nat) (w : World) : fnN Go.Proofs.Tryd.prog Go.Proofs.Tryd.f63 thicketref05_All.an #[.slice a0 n0 c0] w R = thicketref05_All.g0 R (thicketref05_All.re8 R) a0 n0 c0 w := by kernel_rfl
theorem thicketref05_All.calls {R : Value → World → Prop} {a0 : Option Addr} {n0 : Nat} {c0 : Nat} {w : World} (h : thicketref05_All R a0 n0 c0 w) : Go.E.CallsD Go.Proofs.Tryd.prog 63 #[.slice a0 n0 c0] w R := by
  refine callsD_of (n := thicketref05_All.an) M_follows M_sizes Go.Proofs.Tryd.func63 (by rfl) ?_
  rw [thicketref05_All.root0]
  unfold thicketref05_All at h
  rw [thicketref05_All.eq8 R] at h
  exact h
-- thicket/trees.Shape
def trees_Shape.an : An := (.mk none .nil (.mk none .nil (.mk none .nil (.mk none (.mk none .nil (.mk none (.mk (some [1, 4, 22, 23, 24]) .nil .nil) .nil)) (.mk none .nil (.mk none .nil (.mk none (.mk none (.mk (some [1, 4, 7, 8]) .nil .nil) .nil) (.mk none (.mk none .nil (.mk none (.mk (some [4, 7, 95, 96]) .nil .nil) .nil)) .nil))))))))
def trees_Shape.g0 (R : Value → World → Prop) (e16 : (Option Addr) → (Option Addr) → Nat → Nat → (Option Addr) → Nat → Nat → Int → Int → World → Prop) (x0_0 : Int) (a0_1 : Option Addr) (n0_1 : Nat) (c0_1 : Nat) (w : World) : Prop :=
 nw (w.alloc (.cells #[.int .i64 x0_0, .slice a0_1 n0_1 c0_1] 24)) fun w117 =>
 ∃ ya_118 : Option Addr, ∃ yn_118 : Nat, ∃ yc_118 : Nat, w117.cell? ((na w).add 1) = some (.slice ya_118 yn_118 yc_118) ∧
 (onBool ((yn_118 : Int) == 0)
 (R (.tuple #[.int .i64 70, .int .i64 0]) w117)
 (∃ ya_119 : Option Addr, ∃ yn_119 : Nat, ∃ yc_119 : Nat, w117.cell? ((na w).add 1) = some (.slice ya_119 yn_119 yc_119) ∧
 (chk ((0 : Int) ≤ (yn_119 : Int) ∧ (yn_119 : Int) ≤ (yn_119 : Int) ∧ ((8 : Nat) : Int) * (yn_119 : Int) ≤ 281474976710656 ∧ (yn_119 : Int) ≤ 9223372036854775807)
 (nw (w117.alloc (.cells (madeCells #[.int .i64 0] (((yn_119 : Int)).toNat * 1)) 3)) fun w120 =>
 ∃ ya_121 : Option Addr, ∃ yn_121 : Nat, ∃ yc_121 : Nat, w120.cell? ((na w).add 1) = some (.slice ya_121 yn_121 yc_121) ∧
 (e16 (some (na w)) (some (na w117)) (((yn_119 : Int)).toNat) (((yn_119 : Int)).toNat) ya_121 yn_121 yc_121 (yn_121 : Int) 0 w120)))))
def trees_Shape.g16 (R : Value → World → Prop) (b16 : (Option Addr) → (Option Addr) → Nat → Nat → (Option Addr) → Nat → Nat → Int → Int → World → Prop) (e49 : (Option Addr) → (Option Addr) → Nat → Nat → (Option Addr) → Nat → Nat → (Option Addr) → Nat → Nat → World → Prop) (p1 : Option Addr) (a4 : Option Addr) (n4 : Nat) (c4 : Nat) (a22 : Option Addr) (n22 : Nat) (c22 : Nat) (x23 : Int) (x24 : Int) (w : World) : Prop :=
 onBool (decide (x24 < x23))
 (optN a22 fun q122 =>
 chk ((0 : Int) ≤ x24 ∧ x24 < (n22 : Int))
 (∃ yx_123 : Int, w.cell? ((q122.add (x24.toNat * 8)).add 0) = some (.int .u8 yx_123) ∧
 (∃ yx_124 : Int, w.cell? ((q122.add (x24.toNat * 8)).add 1) = some (.int .i64 yx_124) ∧
 (∃ yx_125 : Int, w.cell? ((q122.add (x24.toNat * 8)).add 2) = some (.int .i64 yx_125) ∧
 (∃ yf_126 : Nat, w.cell? ((q122.add (x24.toNat * 8)).add 3) = some (.float .f64 yf_126) ∧
 (∃ ya_127 : Option Addr, ∃ yn_127 : Nat, ∃ yc_127 : Nat, w.cell? ((q122.add (x24.toNat * 8)).add 4) = some (.slice ya_127 yn_127 yc_127) ∧
 (∃ yx_128 : Int, w.cell? ((q122.add (x24.toNat * 8)).add 5) = some (.int .u8 yx_128) ∧
 (∃ yx_129 : Int, w.cell? ((q122.add (x24.toNat * 8)).add 6) = some (.int .i64 yx_129) ∧
 (∃ yx_130 : Int, w.cell? ((q122.add (x24.toNat * 8)).add 7) = some (.int .i64 yx_130) ∧
 (nw (w.alloc (.cells #[.int .u8 0, .int .i64 0, .int .i64 0, .float .f64 0, .slice none 0 0, .int .u8 0, .int .i64 0, .int .i64 0] 49)) fun w131 =>
 okSt w131 ((na w).add 0) ∧
 (nw (w131.setCell ((na w).add 0) (.int .u8 yx_123)) fun w132 =>
 okSt w132 ((na w).add 1) ∧
 (nw (w132.setCell ((na w).add 1) (.int .i64 yx_124)) fun w133 =>
 okSt w133 ((na w).add 2) ∧
 (nw (w133.setCell ((na w).add 2) (.int .i64 yx_125)) fun w134 =>
 okSt w134 ((na w).add 3) ∧
 (nw (w134.setCell ((na w).add 3) (.float .f64 yf_126)) fun w135 =>
 okSt w135 ((na w).add 4) ∧
 (nw (w135.setCell ((na w).add 4) (.slice ya_127 yn_127 yc_127)) fun w136 =>
 okSt w136 ((na w).add 5) ∧
 (nw (w136.setCell ((na w).add 5) (.int .u8 yx_128)) fun w137 =>
 okSt w137 ((na w).add 6) ∧
 (nw (w137.setCell ((na w).add 6) (.int .i64 yx_129)) fun w138 =>
 okSt w138 ((na w).add 7) ∧
 (nw (w138.setCell ((na w).add 7) (.int .i64 yx_130)) fun w139 =>
 ∃ yx_140 : Int, w139.cell? ((na w).add 0) = some (.int .u8 yx_140) ∧
 (∃ yx_141 : Int, w139.cell? ((na w).add 1) = some (.int .i64 yx_141) ∧
 (∃ yx_142 : Int, w139.cell? ((na w).add 2) = some (.int .i64 yx_142) ∧
 (∃ yf_143 : Nat, w139.cell? ((na w).add 3) = some (.float .f64 yf_143) ∧
 (∃ ya_144 : Option Addr, ∃ yn_144 : Nat, ∃ yc_144 : Nat, w139.cell? ((na w).add 4) = some (.slice ya_144 yn_144 yc_144) ∧
 (∃ yx_145 : Int, w139.cell? ((na w).add 5) = some (.int .u8 yx_145) ∧
 (∃ yx_146 : Int, w139.cell? ((na w).add 6) = some (.int .i64 yx_146) ∧
 (∃ yx_147 : Int, w139.cell? ((na w).add 7) = some (.int .i64 yx_147) ∧
 (optN p1 fun q148 =>
 ∃ ya_149 : Option Addr, ∃ yn_149 : Nat, ∃ yc_149 : Nat, w139.cell? (q148.add 1) = some (.slice ya_149 yn_149 yc_149) ∧
 (Go.E.CallsD Go.Proofs.Tryd.prog 70 #[.agg #[.int .u8 yx_140, .int .i64 yx_141, .int .i64 yx_142, .float .f64 yf_143, .slice ya_144 yn_144 yc_144, .int .u8 yx_145, .int .i64 yx_146, .int .i64 yx_147], .int .i64 (yn_149 : Int)] w139 fun yv150 u151 =>
 ∃ yb_152 : Bool, yv150 = .bool yb_152 ∧
 (onBool (!yb_152)
 (R (.tuple #[.int .i64 71, .int .i64 x24]) u151)
 (∃ yx_153 : Int, u151.cell? ((na w).add 0) = some (.int .u8 yx_153) ∧
 (∃ yx_154 : Int, u151.cell? ((na w).add 1) = some (.int .i64 yx_154) ∧
 (∃ yx_155 : Int, u151.cell? ((na w).add 2) = some (.int .i64 yx_155) ∧
 (∃ yf_156 : Nat, u151.cell? ((na w).add 3) = some (.float .f64 yf_156) ∧
 (∃ ya_157 : Option Addr, ∃ yn_157 : Nat, ∃ yc_157 : Nat, u151.cell? ((na w).add 4) = some (.slice ya_157 yn_157 yc_157) ∧
 (∃ yx_158 : Int, u151.cell? ((na w).add 5) = some (.int .u8 yx_158) ∧
 (∃ yx_159 : Int, u151.cell? ((na w).add 6) = some (.int .i64 yx_159) ∧
 (∃ yx_160 : Int, u151.cell? ((na w).add 7) = some (.int .i64 yx_160) ∧
 (Go.E.CallsD Go.Proofs.Tryd.prog 66 #[.agg #[.int .u8 yx_153, .int .i64 yx_154, .int .i64 yx_155, .float .f64 yf_156, .slice ya_157 yn_157 yc_157, .int .u8 yx_158, .int .i64 yx_159, .int .i64 yx_160]] u151 fun yv161 u162 =>
 ∃ yb_163 : Bool, yv161 = .bool yb_163 ∧
 (onBool yb_163
 (∃ yx_164 : Int, u162.cell? ((na w).add 6) = some (.int .i64 yx_164) ∧
 (optN a4 fun q165 =>
 chk ((0 : Int) ≤ yx_164 ∧ yx_164 < (n4 : Int))
 (∃ yx_166 : Int, u162.cell? (q165.add (yx_164.toNat * 1)) = some (.int .i64 yx_166) ∧
 (nv (IntKind.i64.wrap (yx_166 + 1)) fun t167 =>
 optN a4 fun q168 =>
 chk ((0 : Int) ≤ yx_164 ∧ yx_164 < (n4 : Int))
 (okSt u162 ((q168.add (yx_164.toNat * 1)).add 0) ∧
 (nw (u162.setCell ((q168.add (yx_164.toNat * 1)).add 0) (.int .i64 t167)) fun w169 =>
 ∃ yx_170 : Int, w169.cell? ((na w).add 7) = some (.int .i64 yx_170) ∧
 (optN a4 fun q171 =>
 chk ((0 : Int) ≤ yx_170 ∧ yx_170 < (n4 : Int))
 (∃ yx_172 : Int, w169.cell? (q171.add (yx_170.toNat * 1)) = some (.int .i64 yx_172) ∧
 (nv (IntKind.i64.wrap (yx_172 + 1)) fun t173 =>
 optN a4 fun q174 =>
 chk ((0 : Int) ≤ yx_170 ∧ yx_170 < (n4 : Int))
 (okSt w169 ((q174.add (yx_170.toNat * 1)).add 0) ∧
 (nw (w169.setCell ((q174.add (yx_170.toNat * 1)).add 0) (.int .i64 t173)) fun w175 =>
 nv (IntKind.i64.wrap (x24 + 1)) fun t176 =>
 b16 p1 a4 n4 c4 a22 n22 c22 x23 t176 w175)))))))))))
 (nv (IntKind.i64.wrap (x24 + 1)) fun t177 =>
 b16 p1 a4 n4 c4 a22 n22 c22 x23 t177 u162)))))))))))))))))))))))))))))))))))))))
 (optN p1 fun q178 =>
 ∃ ya_179 : Option Addr, ∃ yn_179 : Nat, ∃ yc_179 : Nat, w.cell? (q178.add 1) = some (.slice ya_179 yn_179 yc_179) ∧
 (chk ((0 : Int) ≤ (yn_179 : Int) ∧ (yn_179 : Int) ≤ (yn_179 : Int) ∧ ((1 : Nat) : Int) * (yn_179 : Int) ≤ 281474976710656 ∧ (yn_179 : Int) ≤ 9223372036854775807)
 (nw (w.alloc (.cells (madeCells #[.bool false] (((yn_179 : Int)).toNat * 1)) 4)) fun w180 =>
 nw (w180.alloc (.cells #[.int .i64 0] 3)) fun w181 =>
 e49 p1 a4 n4 c4 (some (na w)) (((yn_179 : Int)).toNat) (((yn_179 : Int)).toNat) (some (na w180)) 1 1 w181)))
def trees_Shape.g49 (R : Value → World → Prop) (b49 : (Option Addr) → (Option Addr) → Nat → Nat → (Option Addr) → Nat → Nat → (Option Addr) → Nat → Nat → World → Prop) (e80 : (Option Addr) → Nat → Nat → (Option Addr) → Nat → Nat → Int → Int → World → Prop) (p1 : Option Addr) (a4 : Option Addr) (n4 : Nat) (c4 : Nat) (a7 : Option Addr) (n7 : Nat) (c7 : Nat) (a8 : Option Addr) (n8 : Nat) (c8 : Nat) (w : World) : Prop :=
 onBool (decide ((n8 : Int) > 0))
 (nv (IntKind.i64.wrap ((n8 : Int) - 1)) fun t182 =>
 optN a8 fun q183 =>
 chk ((0 : Int) ≤ t182 ∧ t182 < (n8 : Int))
 (∃ yx_184 : Int, w.cell? (q183.add (t182.toNat * 1)) = some (.int .i64 yx_184) ∧
 (nv (IntKind.i64.wrap ((n8 : Int) - 1)) fun t185 =>
 chk ((0 : Int) ≤ t185 ∧ t185 ≤ (c8 : Int))
 (optN a7 fun q186 =>
 chk ((0 : Int) ≤ yx_184 ∧ yx_184 < (n7 : Int))
 (∃ yb_187 : Bool, w.cell? (q186.add (yx_184.toNat * 1)) = some (.bool yb_187) ∧
 (onBool yb_187
 (b49 p1 a4 n4 c4 a7 n7 c7 (slA a8 c8 0 1) t185.toNat c8 w)
 (optN a7 fun q188 =>
 chk ((0 : Int) ≤ yx_184 ∧ yx_184 < (n7 : Int))
 (okSt w ((q188.add (yx_184.toNat * 1)).add 0) ∧
 (nw (w.setCell ((q188.add (yx_184.toNat * 1)).add 0) (.bool true)) fun w189 =>
 optN p1 fun q190 =>
 ∃ ya_191 : Option Addr, ∃ yn_191 : Nat, ∃ yc_191 : Nat, w189.cell? (q190.add 1) = some (.slice ya_191 yn_191 yc_191) ∧
 (optN ya_191 fun q192 =>
 chk ((0 : Int) ≤ yx_184 ∧ yx_184 < (yn_191 : Int))
 (∃ yx_193 : Int, w189.cell? ((q192.add (yx_184.toNat * 8)).add 0) = some (.int .u8 yx_193) ∧
 (∃ yx_194 : Int, w189.cell? ((q192.add (yx_184.toNat * 8)).add 1) = some (.int .i64 yx_194) ∧
 (∃ yx_195 : Int, w189.cell? ((q192.add (yx_184.toNat * 8)).add 2) = some (.int .i64 yx_195) ∧
 (∃ yf_196 : Nat, w189.cell? ((q192.add (yx_184.toNat * 8)).add 3) = some (.float .f64 yf_196) ∧
 (∃ ya_197 : Option Addr, ∃ yn_197 : Nat, ∃ yc_197 : Nat, w189.cell? ((q192.add (yx_184.toNat * 8)).add 4) = some (.slice ya_197 yn_197 yc_197) ∧
 (∃ yx_198 : Int, w189.cell? ((q192.add (yx_184.toNat * 8)).add 5) = some (.int .u8 yx_198) ∧
 (∃ yx_199 : Int, w189.cell? ((q192.add (yx_184.toNat * 8)).add 6) = some (.int .i64 yx_199) ∧
 (∃ yx_200 : Int, w189.cell? ((q192.add (yx_184.toNat * 8)).add 7) = some (.int .i64 yx_200) ∧
 (nw (w189.alloc (.cells #[.int .u8 0, .int .i64 0, .int .i64 0, .float .f64 0, .slice none 0 0, .int .u8 0, .int .i64 0, .int .i64 0] 49)) fun w201 =>
 okSt w201 ((na w189).add 0) ∧
 (nw (w201.setCell ((na w189).add 0) (.int .u8 yx_193)) fun w202 =>
 okSt w202 ((na w189).add 1) ∧
 (nw (w202.setCell ((na w189).add 1) (.int .i64 yx_194)) fun w203 =>
 okSt w203 ((na w189).add 2) ∧
 (nw (w203.setCell ((na w189).add 2) (.int .i64 yx_195)) fun w204 =>
 okSt w204 ((na w189).add 3) ∧
 (nw (w204.setCell ((na w189).add 3) (.float .f64 yf_196)) fun w205 =>
 okSt w205 ((na w189).add 4) ∧
 (nw (w205.setCell ((na w189).add 4) (.slice ya_197 yn_197 yc_197)) fun w206 =>
 okSt w206 ((na w189).add 5) ∧
 (nw (w206.setCell ((na w189).add 5) (.int .u8 yx_198)) fun w207 =>
 okSt w207 ((na w189).add 6) ∧
 (nw (w207.setCell ((na w189).add 6) (.int .i64 yx_199)) fun w208 =>
 okSt w208 ((na w189).add 7) ∧
 (nw (w208.setCell ((na w189).add 7) (.int .i64 yx_200)) fun w209 =>
 ∃ yx_210 : Int, w209.cell? ((na w189).add 0) = some (.int .u8 yx_210) ∧
 (∃ yx_211 : Int, w209.cell? ((na w189).add 1) = some (.int .i64 yx_211) ∧
 (∃ yx_212 : Int, w209.cell? ((na w189).add 2) = some (.int .i64 yx_212) ∧
 (∃ yf_213 : Nat, w209.cell? ((na w189).add 3) = some (.float .f64 yf_213) ∧
 (∃ ya_214 : Option Addr, ∃ yn_214 : Nat, ∃ yc_214 : Nat, w209.cell? ((na w189).add 4) = some (.slice ya_214 yn_214 yc_214) ∧
 (∃ yx_215 : Int, w209.cell? ((na w189).add 5) = some (.int .u8 yx_215) ∧
 (∃ yx_216 : Int, w209.cell? ((na w189).add 6) = some (.int .i64 yx_216) ∧
 (∃ yx_217 : Int, w209.cell? ((na w189).add 7) = some (.int .i64 yx_217) ∧
 (Go.E.CallsD Go.Proofs.Tryd.prog 66 #[.agg #[.int .u8 yx_210, .int .i64 yx_211, .int .i64 yx_212, .float .f64 yf_213, .slice ya_214 yn_214 yc_214, .int .u8 yx_215, .int .i64 yx_216, .int .i64 yx_217]] w209 fun yv218 u219 =>
 ∃ yb_220 : Bool, yv218 = .bool yb_220 ∧
 (onBool yb_220
 (∃ yx_221 : Int, u219.cell? ((na w189).add 6) = some (.int .i64 yx_221) ∧
 (∃ yx_222 : Int, u219.cell? ((na w189).add 7) = some (.int .i64 yx_222) ∧
 (nw (u219.alloc (.cells #[.int .i64 yx_221, .int .i64 yx_222] 3)) fun w223 =>
 rawN Go.Proofs.Tryd.prog (Builtin.append_ #[40, 40] 40 #[.slice (slA a8 c8 0 1) t185.toNat c8, .slice (some (na u219)) 2 2]) w223 fun yv224 u225 =>
 ∃ ya_226 : Option Addr, ∃ yn_226 : Nat, ∃ yc_226 : Nat, yv224 = .slice ya_226 yn_226 yc_226 ∧
 (b49 p1 a4 n4 c4 a7 n7 c7 ya_226 yn_226 yc_226 u225))))
 (b49 p1 a4 n4 c4 a7 n7 c7 (slA a8 c8 0 1) t185.toNat c8 u219)))))))))))))))))))))))))))))))))))))
 (optN p1 fun q227 =>
 ∃ ya_228 : Option Addr, ∃ yn_228 : Nat, ∃ yc_228 : Nat, w.cell? (q227.add 1) = some (.slice ya_228 yn_228 yc_228) ∧
 (e80 a4 n4 c4 a7 n7 c7 (yn_228 : Int) 0 w))
def trees_Shape.g80 (R : Value → World → Prop) (b80 : (Option Addr) → Nat → Nat → (Option Addr) → Nat → Nat → Int → Int → World → Prop) (a4 : Option Addr) (n4 : Nat) (c4 : Nat) (a7 : Option Addr) (n7 : Nat) (c7 : Nat) (x95 : Int) (x96 : Int) (w : World) : Prop :=
 onBool (decide (x96 < x95))
 (nv ((if 1 < x96 then 1 else x96)) fun t229 =>
 optN a4 fun q230 =>
 chk ((0 : Int) ≤ x96 ∧ x96 < (n4 : Int))
 (∃ yx_231 : Int, w.cell? (q230.add (x96.toNat * 1)) = some (.int .i64 yx_231) ∧
 (onBool (yx_231 != t229)
 (R (.tuple #[.int .i64 70, .int .i64 x96]) w)
 (optN a7 fun q232 =>
 chk ((0 : Int) ≤ x96 ∧ x96 < (n7 : Int))
 (∃ yb_233 : Bool, w.cell? (q232.add (x96.toNat * 1)) = some (.bool yb_233) ∧
 (onBool (!yb_233)
 (R (.tuple #[.int .i64 70, .int .i64 x96]) w)
 (nv (IntKind.i64.wrap (x96 + 1)) fun t234 =>
 b80 a4 n4 c4 a7 n7 c7 x95 t234 w)))))))
 (R (.tuple #[.int .i64 0, .int .i64 0]) w)
def trees_Shape.q2 (R : Value → World → Prop) : Exit → Act → World → Prop := (fin Go.Proofs.Tryd.prog Go.Proofs.Tryd.f64 R)
def trees_Shape.q10 (R : Value → World → Prop) : Exit → Act → World → Prop := (trees_Shape.q2 R)
def trees_Shape.q12 (R : Value → World → Prop) : Exit → Act → World → Prop := (trees_Shape.q10 R)
def trees_Shape.q13 (R : Value → World → Prop) : Exit → Act → World → Prop := Exit.then (startN none (codeN Go.Proofs.Tryd.prog (sub (codeOf Go.Proofs.Tryd.f64) [1, 1, 1, 1]) (nsub trees_Shape.an [1, 1, 1, 1]) (trees_Shape.q12 R))) (trees_Shape.q12 R)
def trees_Shape.q15 (R : Value → World → Prop) : Exit → Act → World → Prop := (trees_Shape.q13 R)
def trees_Shape.q16 (R : Value → World → Prop) : Exit → Act → World → Prop := Exit.inBlock 0 (trees_Shape.q15 R)
def trees_Shape.rl16 (R : Value → World → Prop) (k : Nat) (p1 : Option Addr) (a4 : Option Addr) (n4 : Nat) (c4 : Nat) (a22 : Option Addr) (n22 : Nat) (c22 : Nat) (x23 : Int) (x24 : Int) (w : World) : Prop := loopN [1, 4, 22, 23, 24] (codeN Go.Proofs.Tryd.prog (sub (codeOf Go.Proofs.Tryd.f64) [1, 1, 1, 0, 1, 0, 0]) (nsub trees_Shape.an [1, 1, 1, 0, 1, 0, 0])) (trees_Shape.q16 R) k ⟨#[undef, .pointer p1, undef, undef, .slice a4 n4 c4, undef, undef, undef, undef, undef, undef, undef, undef, undef, undef, undef, undef, undef, undef, undef, undef, undef, .slice a22 n22 c22, .int .i64 x23, .int .i64 x24, undef, undef, undef, undef, undef, undef, undef, undef, undef, undef, undef, undef, undef, undef, undef, undef, undef, undef, undef, undef, undef, undef, undef, undef, undef, undef, undef, undef, undef, undef, undef, undef, undef, undef, undef, undef, undef, undef, undef, undef, undef, undef, undef, undef, undef, undef, undef, undef, undef, undef, undef, undef, undef, undef, undef, undef, undef, undef, undef, undef, undef, undef, undef, undef, undef, undef, undef, undef, undef, undef, undef, undef, undef, undef, undef, undef, undef, undef, undef, undef, undef, undef, undef, undef, undef, undef, undef, undef, undef, undef, undef], []⟩ w
def trees_Shape.re16 (R : Value → World → Prop) (p1 : Option Addr) (a4 : Option Addr) (n4 : Nat) (c4 : Nat) (a22 : Option Addr) (n22 : Nat) (c22 : Nat) (x23 : Int) (x24 : Int) (w : World) : Prop := ∃ k, trees_Shape.rl16 R k p1 a4 n4 c4 a22 n22 c22 x23 x24 w
def trees_Shape.q43 (R : Value → World → Prop) : Exit → Act → World → Prop := (trees_Shape.q12 R)
def trees_Shape.q45 (R : Value → World → Prop) : Exit → Act → World → Prop := (trees_Shape.q43 R)
def trees_Shape.q47 (R : Value → World → Prop) : Exit → Act → World → Prop := (trees_Shape.q45 R)
def trees_Shape.q48 (R : Value → World → Prop) : Exit → Act → World → Prop := Exit.then (startN none (codeN Go.Proofs.Tryd.prog (sub (codeOf Go.Proofs.Tryd.f64) [1, 1, 1, 1, 1, 1, 1]) (nsub trees_Shape.an [1, 1, 1, 1, 1, 1, 1]) (trees_Shape.q47 R))) (trees_Shape.q47 R)
def trees_Shape.q49 (R : Value → World → Prop) : Exit → Act → World → Prop := Exit.inBlock 2 (trees_Shape.q48 R)
def trees_Shape.rl49 (R : Value → World → Prop) (k : Nat) (p1 : Option Addr) (a4 : Option Addr) (n4 : Nat) (c4 : Nat) (a7 : Option Addr) (n7 : Nat) (c7 : Nat) (a8 : Option Addr) (n8 : Nat) (c8 : Nat) (w : World) : Prop := loopN [1, 4, 7, 8] (codeN Go.Proofs.Tryd.prog (sub (codeOf Go.Proofs.Tryd.f64) [1, 1, 1, 1, 1, 1, 0, 0, 0]) (nsub trees_Shape.an [1, 1, 1, 1, 1, 1, 0, 0, 0])) (trees_Shape.q49 R) k ⟨#[undef, .pointer p1, undef, undef, .slice a4 n4 c4, undef, undef, .slice a7 n7 c7, .slice a8 n8 c8, undef, undef, undef, undef, undef, undef, undef, undef, undef, undef, undef, undef, undef, undef, undef, undef, undef, undef, undef, undef, undef, undef, undef, undef, undef, undef, undef, undef, undef, undef, undef, undef, undef, undef, undef, undef, undef, undef, undef, undef, undef, undef, undef, undef, undef, undef, undef, undef, undef, undef, undef, undef, undef, undef, undef, undef, undef, undef, undef, undef, undef, undef, undef, undef, undef, undef, undef, undef, undef, undef, undef, undef, undef, undef, undef, undef, undef, undef, undef, undef, undef, undef, undef, undef, undef, undef, undef, undef, undef, undef, undef, undef, undef, undef, undef, undef, undef, undef, undef, undef, undef, undef, undef, undef, undef, undef, undef], []⟩ w
def trees_Shape.re49 (R : Value → World → Prop) (p1 : Option Addr) (a4 : Option Addr) (n4 : Nat) (c4 : Nat) (a7 : Option Addr) (n7 : Nat) (c7 : Nat) (a8 : Option Addr) (n8 : Nat) (c8 : Nat) (w : World) : Prop := ∃ k, trees_Shape.rl49 R k p1 a4 n4 c4 a7 n7 c7 a8 n8 c8 w
def trees_Shape.q76 (R : Value → World → Prop) : Exit → Act → World → Prop := (trees_Shape.q47 R)
def trees_Shape.q77 (R : Value → World → Prop) : Exit → Act → World → Prop := Exit.then (startN none (codeN Go.Proofs.Tryd.prog (sub (codeOf Go.Proofs.Tryd.f64) [1, 1, 1, 1, 1, 1, 1, 1]) (nsub trees_Shape.an [1, 1, 1, 1, 1, 1, 1, 1]) (trees_Shape.q76 R))) (trees_Shape.q76 R)
def trees_Shape.q79 (R : Value → World → Prop) : Exit → Act → World → Prop := (trees_Shape.q77 R)
def trees_Shape.q80 (R : Value → World → Prop) : Exit → Act → World → Prop := Exit.inBlock 4 (trees_Shape.q79 R)
def trees_Shape.rl80 (R : Value → World → Prop) (k : Nat) (a4 : Option Addr) (n4 : Nat) (c4 : Nat) (a7 : Option Addr) (n7 : Nat) (c7 : Nat) (x95 : Int) (x96 : Int) (w : World) : Prop := loopN [4, 7, 95, 96] (codeN Go.Proofs.Tryd.prog (sub (codeOf Go.Proofs.Tryd.f64) [1, 1, 1, 1, 1, 1, 1, 0, 1, 0, 0]) (nsub trees_Shape.an [1, 1, 1, 1, 1, 1, 1, 0, 1, 0, 0])) (trees_Shape.q80 R) k ⟨#[undef, undef, undef, undef, .slice a4 n4 c4, undef, undef, .slice a7 n7 c7, undef, undef, undef, undef, undef, undef, undef, undef, undef, undef, undef, undef, undef, undef, undef, undef, undef, undef, undef, undef, undef, undef, undef, undef, undef, undef, undef, undef, undef, undef, undef, undef, undef, undef, undef, undef, undef, undef, undef, undef, undef, undef, undef, undef, undef, undef, undef, undef, undef, undef, undef, undef, undef, undef, undef, undef, undef, undef, undef, undef, undef, undef, undef, undef, undef, undef, undef, undef, undef, undef, undef, undef, undef, undef, undef, undef, undef, undef, undef, undef, undef, undef, undef, undef, undef, undef, undef, .int .i64 x95, .int .i64 x96, undef, undef, undef, undef, undef, undef, undef, undef, undef, undef, undef, undef, undef, undef, undef, undef, undef, undef, undef], []⟩ w
def trees_Shape.re80 (R : Value → World → Prop) (a4 : Option Addr) (n4 : Nat) (c4 : Nat) (a7 : Option Addr) (n7 : Nat) (c7 : Nat) (x95 : Int) (x96 : Int) (w : World) : Prop := ∃ k, trees_Shape.rl80 R k a4 n4 c4 a7 n7 c7 x95 x96 w
def trees_Shape.l80 (R : Value → World → Prop) : Nat → (Option Addr) → Nat → Nat → (Option Addr) → Nat → Nat → Int → Int → World → Prop
  | 0, _, _, _, _, _, _, _, _, _ => False
  | k + 1, a4, n4, c4, a7, n7, c7, x95, x96, w => trees_Shape.g80 R (trees_Shape.l80 R k) a4 n4 c4 a7 n7 c7 x95 x96 w
def trees_Shape.e80 (R : Value → World → Prop) (a4 : Option Addr) (n4 : Nat) (c4 : Nat) (a7 : Option Addr) (n7 : Nat) (c7 : Nat) (x95 : Int) (x96 : Int) (w : World) : Prop := ∃ k, trees_Shape.l80 R k a4 n4 c4 a7 n7 c7 x95 x96 w
theorem trees_Shape.s80 (R : Value → World → Prop) (k : Nat) (a4 : Option Addr) (n4 : Nat) (c4 : Nat) (a7 : Option Addr) (n7 : Nat) (c7 : Nat) (x95 : Int) (x96 : Int) (w : World) : trees_Shape.rl80 R (k + 1) a4 n4 c4 a7 n7 c7 x95 x96 w = ∀ _ : Nat → Value, trees_Shape.g80 R (trees_Shape.rl80 R k) a4 n4 c4 a7 n7 c7 x95 x96 w := by kernel_rfl
theorem trees_Shape.lq80 (R : Value → World → Prop) : ∀ k, trees_Shape.l80 R k = trees_Shape.rl80 R k
  | 0 => by funext a4 n4 c4 a7 n7 c7 x95 x96 w; first | rfl | kernel_rfl
  | k + 1 => by
    funext a4 n4 c4 a7 n7 c7 x95 x96 w
    rw [trees_Shape.s80, forall_const]
    unfold trees_Shape.l80
    have ih := trees_Shape.lq80 R k
    rw [ih]
    all_goals rfl
theorem trees_Shape.eq80 (R : Value → World → Prop) : trees_Shape.e80 R = trees_Shape.re80 R := by
  funext a4 n4 c4 a7 n7 c7 x95 x96 w
  unfold trees_Shape.e80 trees_Shape.re80
  simp only [trees_Shape.lq80 R]
def trees_Shape.l49 (R : Value → World → Prop) : Nat → (Option Addr) → (Option Addr) → Nat → Nat → (Option Addr) → Nat → Nat → (Option Addr) → Nat → Nat → World → Prop
  | 0, _, _, _, _, _, _, _, _, _, _, _ => False
  | k + 1, p1, a4, n4, c4, a7, n7, c7, a8, n8, c8, w => trees_Shape.g49 R (trees_Shape.l49 R k) (trees_Shape.e80 R) p1 a4 n4 c4 a7 n7 c7 a8 n8 c8 w
def trees_Shape.e49 (R : Value → World → Prop) (p1 : Option Addr) (a4 : Option Addr) (n4 : Nat) (c4 : Nat) (a7 : Option Addr) (n7 : Nat) (c7 : Nat) (a8 : Option Addr) (n8 : Nat) (c8 : Nat) (w : World) : Prop := ∃ k, trees_Shape.l49 R k p1 a4 n4 c4 a7 n7 c7 a8 n8 c8 w
theorem trees_Shape.s49 (R : Value → World → Prop) (k : Nat) (p1 : Option Addr) (a4 : Option Addr) (n4 : Nat) (c4 : Nat) (a7 : Option Addr) (n7 : Nat) (c7 : Nat) (a8 : Option Addr) (n8 : Nat) (c8 : Nat) (w : World) : trees_Shape.rl49 R (k + 1) p1 a4 n4 c4 a7 n7 c7 a8 n8 c8 w = ∀ _ : Nat → Value, trees_Shape.g49 R (trees_Shape.rl49 R k) (trees_Shape.re80 R) p1 a4 n4 c4 a7 n7 c7 a8 n8 c8 w := by kernel_rfl
theorem trees_Shape.lq49 (R : Value → World → Prop) : ∀ k, trees_Shape.l49 R k = trees_Shape.rl49 R k
  | 0 => by funext p1 a4 n4 c4 a7 n7 c7 a8 n8 c8 w; first | rfl | kernel_rfl
  | k + 1 => by
    funext p1 a4 n4 c4 a7 n7 c7 a8 n8 c8 w
    rw [trees_Shape.s49, forall_const]
    unfold trees_Shape.l49
    have ih := trees_Shape.lq49 R k
    rw [trees_Shape.eq80 R]
    rw [ih]
    all_goals rfl
theorem trees_Shape.eq49 (R : Value → World → Prop) : trees_Shape.e49 R = trees_Shape.re49 R := by
  funext p1 a4 n4 c4 a7 n7 c7 a8 n8 c8 w
  unfold trees_Shape.e49 trees_Shape.re49
  simp only [trees_Shape.lq49 R]
def trees_Shape.l16 (R : Value → World → Prop) : Nat → (Option Addr) → (Option Addr) → Nat → Nat → (Option Addr) → Nat → Nat → Int → Int → World → Prop
  | 0, _, _, _, _, _, _, _, _, _, _ => False
  | k + 1, p1, a4, n4, c4, a22, n22, c22, x23, x24, w => trees_Shape.g16 R (trees_Shape.l16 R k) (trees_Shape.e49 R) p1 a4 n4 c4 a22 n22 c22 x23 x24 w
def trees_Shape.e16 (R : Value → World → Prop) (p1 : Option Addr) (a4 : Option Addr) (n4 : Nat) (c4 : Nat) (a22 : Option Addr) (n22 : Nat) (c22 : Nat) (x23 : Int) (x24 : Int) (w : World) : Prop := ∃ k, trees_Shape.l16 R k p1 a4 n4 c4 a22 n22 c22 x23 x24 w
theorem trees_Shape.s16 (R : Value → World → Prop) (k : Nat) (p1 : Option Addr) (a4 : Option Addr) (n4 : Nat) (c4 : Nat) (a22 : Option Addr) (n22 : Nat) (c22 : Nat) (x23 : Int) (x24 : Int) (w : World) : trees_Shape.rl16 R (k + 1) p1 a4 n4 c4 a22 n22 c22 x23 x24 w = ∀ _ : Nat → Value, trees_Shape.g16 R (trees_Shape.rl16 R k) (trees_Shape.re49 R) p1 a4 n4 c4 a22 n22 c22 x23 x24 w := by kernel_rfl
theorem trees_Shape.lq16 (R : Value → World → Prop) : ∀ k, trees_Shape.l16 R k = trees_Shape.rl16 R k
  | 0 => by funext p1 a4 n4 c4 a22 n22 c22 x23 x24 w; first | rfl | kernel_rfl
  | k + 1 => by
    funext p1 a4 n4 c4 a22 n22 c22 x23 x24 w
    rw [trees_Shape.s16, forall_const]
    unfold trees_Shape.l16
    have ih := trees_Shape.lq16 R k
    rw [trees_Shape.eq49 R]
    rw [ih]
    all_goals rfl
theorem trees_Shape.eq16 (R : Value → World → Prop) : trees_Shape.e16 R = trees_Shape.re16 R := by
  funext p1 a4 n4 c4 a22 n22 c22 x23 x24 w
  unfold trees_Shape.e16 trees_Shape.re16
  simp only [trees_Shape.lq16 R]
def trees_Shape (R : Value → World → Prop) (x0_0 : Int) (a0_1 : Option Addr) (n0_1 : Nat) (c0_1 : Nat) (w : World) : Prop := trees_Shape.g0 R (trees_Shape.e16 R) x0_0 a0_1 n0_1 c0_1 w
theorem trees_Shape.root0 (R : Value → World → Prop) (x0_0 : Int) (a0_1 : Option Addr) (n0_1 : Nat) (c0_1 : Nat) (w : World) : fnN Go.Proofs.Tryd.prog Go.Proofs.Tryd.f64 trees_Shape.an #[.agg #[.int .i64 x0_0, .slice a0_1 n0_1 c0_1]] w R = trees_Shape.g0 R (trees_Shape.re16 R) x0_0 a0_1 n0_1 c0_1 w := by kernel_rfl
theorem trees_Shape.calls {R : Value → World → Prop} {x0_0 : Int} {a0_1 : Option Addr} {n0_1 : Nat} {c0_1 : Nat} {w : World} (h : trees_Shape R x0_0 a0_1 n0_1 c0_1 w) : Go.E.CallsD Go.Proofs.Tryd.prog 64 #[.agg #[.int .i64 x0_0, .slice a0_1 n0_1 c0_1]] w R := by
  refine callsD_of (n := trees_Shape.an) M_follows M_sizes Go.Proofs.Tryd.func64 (by rfl) ?_
  rw [trees_Shape.root0]
  unfold trees_Shape at h
  rw [trees_Shape.eq16 R] at h
  exact h
-- thicket/trees.all
def trees_all.an : An := An.nil
def trees_all.g0 (R : Value → World → Prop) (x0_0 : Int) (a0_1 : Option Addr) (n0_1 : Nat) (c0_1 : Nat) (w : World) : Prop :=
 nw (w.alloc (.cells #[.int .i64 x0_0, .slice a0_1 n0_1 c0_1] 24)) fun w2 =>
 R (.func (.func 71) #[] #[.pointer (some (na w))]) w2
def trees_all (R : Value → World → Prop) (x0_0 : Int) (a0_1 : Option Addr) (n0_1 : Nat) (c0_1 : Nat) (w : World) : Prop := trees_all.g0 R x0_0 a0_1 n0_1 c0_1 w
theorem trees_all.root0 (R : Value → World → Prop) (x0_0 : Int) (a0_1 : Option Addr) (n0_1 : Nat) (c0_1 : Nat) (w : World) : fnN Go.Proofs.Tryd.prog Go.Proofs.Tryd.f65 trees_all.an #[.agg #[.int .i64 x0_0, .slice a0_1 n0_1 c0_1]] w R = trees_all.g0 R x0_0 a0_1 n0_1 c0_1 w := by kernel_rfl
theorem trees_all.calls {R : Value → World → Prop} {x0_0 : Int} {a0_1 : Option Addr} {n0_1 : Nat} {c0_1 : Nat} {w : World} (h : trees_all R x0_0 a0_1 n0_1 c0_1 w) : Go.E.CallsD Go.Proofs.Tryd.prog 65 #[.agg #[.int .i64 x0_0, .slice a0_1 n0_1 c0_1]] w R := by
  refine callsD_of (n := trees_all.an) M_follows M_sizes Go.Proofs.Tryd.func65 (by rfl) ?_
  rw [trees_all.root0]
  unfold trees_all at h
  exact h
-- thicket/trees.inner
def trees_inner.an : An := An.nil
def trees_inner.g0 (R : Value → World → Prop) (x0_0 : Int) (x0_1 : Int) (x0_2 : Int) (f0_3 : Nat) (a0_4 : Option Addr) (n0_4 : Nat) (c0_4 : Nat) (x0_5 : Int) (x0_6 : Int) (x0_7 : Int) (w : World) : Prop :=
 nw (w.alloc (.cells #[.int .u8 x0_0, .int .i64 x0_1, .int .i64 x0_2, .float .f64 f0_3, .slice a0_4 n0_4 c0_4, .int .u8 x0_5, .int .i64 x0_6, .int .i64 x0_7] 49)) fun w4 =>
 ∃ yx_5 : Int, w4.cell? ((na w).add 0) = some (.int .u8 yx_5) ∧
 (onBool (yx_5 == 2)
 (R (.bool true) w4)
 (∃ yx_6 : Int, w4.cell? ((na w).add 0) = some (.int .u8 yx_6) ∧
 (R (.bool (yx_6 == 3)) w4)))
def trees_inner (R : Value → World → Prop) (x0_0 : Int) (x0_1 : Int) (x0_2 : Int) (f0_3 : Nat) (a0_4 : Option Addr) (n0_4 : Nat) (c0_4 : Nat) (x0_5 : Int) (x0_6 : Int) (x0_7 : Int) (w : World) : Prop := trees_inner.g0 R x0_0 x0_1 x0_2 f0_3 a0_4 n0_4 c0_4 x0_5 x0_6 x0_7 w
theorem trees_inner.root0 (R : Value → World → Prop) (x0_0 : Int) (x0_1 : Int) (x0_2 : Int) (f0_3 : Nat) (a0_4 : Option Addr) (n0_4 : Nat) (c0_4 : Nat) (x0_5 : Int) (x0_6 : Int) (x0_7 : Int) (w : World) : fnN Go.Proofs.Tryd.prog Go.Proofs.Tryd.f66 trees_inner.an #[.agg #[.int .u8 x0_0, .int .i64 x0_1, .int .i64 x0_2, .float .f64 f0_3, .slice a0_4 n0_4 c0_4, .int .u8 x0_5, .int .i64 x0_6, .int .i64 x0_7]] w R = trees_inner.g0 R x0_0 x0_1 x0_2 f0_3 a0_4 n0_4 c0_4 x0_5 x0_6 x0_7 w := by kernel_rfl
theorem trees_inner.calls {R : Value → World → Prop} {x0_0 : Int} {x0_1 : Int} {x0_2 : Int} {f0_3 : Nat} {a0_4 : Option Addr} {n0_4 : Nat} {c0_4 : Nat} {x0_5 : Int} {x0_6 : Int} {x0_7 : Int} {w : World} (h : trees_inner R x0_0 x0_1 x0_2 f0_3 a0_4 n0_4 c0_4 x0_5 x0_6 x0_7 w) : Go.E.CallsD Go.Proofs.Tryd.prog 66 #[.agg #[.int .u8 x0_0, .int .i64 x0_1, .int .i64 x0_2, .float .f64 f0_3, .slice a0_4 n0_4 c0_4, .int .u8 x0_5, .int .i64 x0_6, .int .i64 x0_7]] w R := by
  refine callsD_of (n := trees_inner.an) M_follows M_sizes Go.Proofs.Tryd.func66 (by rfl) ?_
  rw [trees_inner.root0]
  unfold trees_inner at h
  exact h
-- thicket/bits.Words
def bits_Words.an : An := An.nil
def bits_Words.g0 (R : Value → World → Prop) (x0 : Int) (w : World) : Prop :=
 onBool (decide (x0 < 0))
 (R (.tuple #[.int .i64 0, .int .i64 2]) w)
 (onBool (decide (x0 > 1048576))
 (R (.tuple #[.int .i64 0, .int .i64 2]) w)
 (nv (IntKind.i64.wrap (x0 + 63)) fun t1 =>
 nv (IntKind.i64.wrap (Int.tdiv t1 64)) fun t2 =>
 R (.tuple #[.int .i64 t2, .int .i64 0]) w))
def bits_Words (R : Value → World → Prop) (x0 : Int) (w : World) : Prop := bits_Words.g0 R x0 w
theorem bits_Words.root0 (R : Value → World → Prop) (x0 : Int) (w : World) : fnN Go.Proofs.Tryd.prog Go.Proofs.Tryd.f67 bits_Words.an #[.int .i64 x0] w R = bits_Words.g0 R x0 w := by kernel_rfl
theorem bits_Words.calls {R : Value → World → Prop} {x0 : Int} {w : World} (h : bits_Words R x0 w) : Go.E.CallsD Go.Proofs.Tryd.prog 67 #[.int .i64 x0] w R := by
  refine callsD_of (n := bits_Words.an) M_follows M_sizes Go.Proofs.Tryd.func67 (by rfl) ?_
  rw [bits_Words.root0]
  unfold bits_Words at h
  exact h
-- thicket/thicketref07.Shape
def thicketref07_Shape.an : An := (.mk none .nil (.mk none .nil (.mk none .nil (.mk none .nil (.mk none (.mk none .nil (.mk none (.mk (some [1, 4, 5, 21, 22, 23]) .nil .nil) .nil)) (.mk none .nil (.mk none .nil (.mk none (.mk none (.mk (some [1, 5, 8, 9]) .nil .nil) .nil) (.mk none (.mk none .nil (.mk none (.mk (some [5, 8, 92, 93]) .nil .nil) .nil)) .nil)))))))))
def thicketref07_Shape.g0 (R : Value → World → Prop) (e18 : (Option Addr) → Int → (Option Addr) → Nat → Nat → (Option Addr) → Nat → Nat → Int → Int → World → Prop) (x0_0 : Int) (a0_1 : Option Addr) (n0_1 : Nat) (c0_1 : Nat) (w : World) : Prop :=
 nw (w.alloc (.cells #[.int .i64 x0_0, .slice a0_1 n0_1 c0_1] 24)) fun w101 =>
 ∃ ya_102 : Option Addr, ∃ yn_102 : Nat, ∃ yc_102 : Nat, w101.cell? ((na w).add 1) = some (.slice ya_102 yn_102 yc_102) ∧
 (onBool ((yn_102 : Int) == 0)
 (R (.tuple #[.int .i64 70, .int .i64 0]) w101)
 (chk ((0 : Int) ≤ (yn_102 : Int) ∧ (yn_102 : Int) ≤ (yn_102 : Int) ∧ ((8 : Nat) : Int) * (yn_102 : Int) ≤ 281474976710656 ∧ (yn_102 : Int) ≤ 9223372036854775807)
 (nw (w101.alloc (.cells (madeCells #[.int .i64 0] (((yn_102 : Int)).toNat * 1)) 3)) fun w103 =>
 ∃ ya_104 : Option Addr, ∃ yn_104 : Nat, ∃ yc_104 : Nat, w103.cell? ((na w).add 1) = some (.slice ya_104 yn_104 yc_104) ∧
 (e18 (some (na w)) (yn_102 : Int) (some (na w101)) (((yn_102 : Int)).toNat) (((yn_102 : Int)).toNat) ya_104 yn_104 yc_104 (yn_104 : Int) 0 w103))))
def thicketref07_Shape.g18 (R : Value → World → Prop) (b18 : (Option Addr) → Int → (Option Addr) → Nat → Nat → (Option Addr) → Nat → Nat → Int → Int → World → Prop) (e51 : (Option Addr) → (Option Addr) → Nat → Nat → (Option Addr) → Nat → Nat → (Option Addr) → Nat → Nat → World → Prop) (p1 : Option Addr) (x4 : Int) (a5 : Option Addr) (n5 : Nat) (c5 : Nat) (a21 : Option Addr) (n21 : Nat) (c21 : Nat) (x22 : Int) (x23 : Int) (w : World) : Prop :=
 onBool (decide (x23 < x22))
 (optN a21 fun q105 =>
 chk ((0 : Int) ≤ x23 ∧ x23 < (n21 : Int))
 (∃ yx_106 : Int, w.cell? ((q105.add (x23.toNat * 8)).add 0) = some (.int .u8 yx_106) ∧
 (∃ yx_107 : Int, w.cell? ((q105.add (x23.toNat * 8)).add 1) = some (.int .i64 yx_107) ∧
 (∃ yx_108 : Int, w.cell? ((q105.add (x23.toNat * 8)).add 2) = some (.int .i64 yx_108) ∧
 (∃ yf_109 : Nat, w.cell? ((q105.add (x23.toNat * 8)).add 3) = some (.float .f64 yf_109) ∧
 (∃ ya_110 : Option Addr, ∃ yn_110 : Nat, ∃ yc_110 : Nat, w.cell? ((q105.add (x23.toNat * 8)).add 4) = some (.slice ya_110 yn_110 yc_110) ∧
 (∃ yx_111 : Int, w.cell? ((q105.add (x23.toNat * 8)).add 5) = some (.int .u8 yx_111) ∧
 (∃ yx_112 : Int, w.cell? ((q105.add (x23.toNat * 8)).add 6) = some (.int .i64 yx_112) ∧
 (∃ yx_113 : Int, w.cell? ((q105.add (x23.toNat * 8)).add 7) = some (.int .i64 yx_113) ∧
 (nw (w.alloc (.cells #[.int .u8 0, .int .i64 0, .int .i64 0, .float .f64 0, .slice none 0 0, .int .u8 0, .int .i64 0, .int .i64 0] 49)) fun w114 =>
 okSt w114 ((na w).add 0) ∧
 (nw (w114.setCell ((na w).add 0) (.int .u8 yx_106)) fun w115 =>
 okSt w115 ((na w).add 1) ∧
 (nw (w115.setCell ((na w).add 1) (.int .i64 yx_107)) fun w116 =>
 okSt w116 ((na w).add 2) ∧
 (nw (w116.setCell ((na w).add 2) (.int .i64 yx_108)) fun w117 =>
 okSt w117 ((na w).add 3) ∧
 (nw (w117.setCell ((na w).add 3) (.float .f64 yf_109)) fun w118 =>
 okSt w118 ((na w).add 4) ∧
 (nw (w118.setCell ((na w).add 4) (.slice ya_110 yn_110 yc_110)) fun w119 =>
 okSt w119 ((na w).add 5) ∧
 (nw (w119.setCell ((na w).add 5) (.int .u8 yx_111)) fun w120 =>
 okSt w120 ((na w).add 6) ∧
 (nw (w120.setCell ((na w).add 6) (.int .i64 yx_112)) fun w121 =>
 okSt w121 ((na w).add 7) ∧
 (nw (w121.setCell ((na w).add 7) (.int .i64 yx_113)) fun w122 =>
 ∃ yx_123 : Int, w122.cell? ((na w).add 0) = some (.int .u8 yx_123) ∧
 (∃ yx_124 : Int, w122.cell? ((na w).add 1) = some (.int .i64 yx_124) ∧
 (∃ yx_125 : Int, w122.cell? ((na w).add 2) = some (.int .i64 yx_125) ∧
 (∃ yf_126 : Nat, w122.cell? ((na w).add 3) = some (.float .f64 yf_126) ∧
 (∃ ya_127 : Option Addr, ∃ yn_127 : Nat, ∃ yc_127 : Nat, w122.cell? ((na w).add 4) = some (.slice ya_127 yn_127 yc_127) ∧
 (∃ yx_128 : Int, w122.cell? ((na w).add 5) = some (.int .u8 yx_128) ∧
 (∃ yx_129 : Int, w122.cell? ((na w).add 6) = some (.int .i64 yx_129) ∧
 (∃ yx_130 : Int, w122.cell? ((na w).add 7) = some (.int .i64 yx_130) ∧
 (Go.E.CallsD Go.Proofs.Tryd.prog 72 #[.agg #[.int .u8 yx_123, .int .i64 yx_124, .int .i64 yx_125, .float .f64 yf_126, .slice ya_127 yn_127 yc_127, .int .u8 yx_128, .int .i64 yx_129, .int .i64 yx_130], .int .i64 x4] w122 fun yv131 u132 =>
 ∃ yb_133 : Bool, yv131 = .bool yb_133 ∧
 (onBool (!yb_133)
 (R (.tuple #[.int .i64 71, .int .i64 x23]) u132)
 (∃ yx_134 : Int, u132.cell? ((na w).add 0) = some (.int .u8 yx_134) ∧
 (onBool (yx_134 != 1)
 (∃ yx_135 : Int, u132.cell? ((na w).add 6) = some (.int .i64 yx_135) ∧
 (optN a5 fun q136 =>
 chk ((0 : Int) ≤ yx_135 ∧ yx_135 < (n5 : Int))
 (∃ yx_137 : Int, u132.cell? (q136.add (yx_135.toNat * 1)) = some (.int .i64 yx_137) ∧
 (nv (IntKind.i64.wrap (yx_137 + 1)) fun t138 =>
 optN a5 fun q139 =>
 chk ((0 : Int) ≤ yx_135 ∧ yx_135 < (n5 : Int))
 (okSt u132 ((q139.add (yx_135.toNat * 1)).add 0) ∧
 (nw (u132.setCell ((q139.add (yx_135.toNat * 1)).add 0) (.int .i64 t138)) fun w140 =>
 ∃ yx_141 : Int, w140.cell? ((na w).add 7) = some (.int .i64 yx_141) ∧
 (optN a5 fun q142 =>
 chk ((0 : Int) ≤ yx_141 ∧ yx_141 < (n5 : Int))
 (∃ yx_143 : Int, w140.cell? (q142.add (yx_141.toNat * 1)) = some (.int .i64 yx_143) ∧
 (nv (IntKind.i64.wrap (yx_143 + 1)) fun t144 =>
 optN a5 fun q145 =>
 chk ((0 : Int) ≤ yx_141 ∧ yx_141 < (n5 : Int))
 (okSt w140 ((q145.add (yx_141.toNat * 1)).add 0) ∧
 (nw (w140.setCell ((q145.add (yx_141.toNat * 1)).add 0) (.int .i64 t144)) fun w146 =>
 nv (IntKind.i64.wrap (x23 + 1)) fun t147 =>
 b18 p1 x4 a5 n5 c5 a21 n21 c21 x22 t147 w146)))))))))))
 (nv (IntKind.i64.wrap (x23 + 1)) fun t148 =>
 b18 p1 x4 a5 n5 c5 a21 n21 c21 x22 t148 u132))))))))))))))))))))))))))))))
 (chk ((0 : Int) ≤ x4 ∧ x4 ≤ x4 ∧ ((1 : Nat) : Int) * x4 ≤ 281474976710656 ∧ x4 ≤ 9223372036854775807)
 (nw (w.alloc (.cells (madeCells #[.bool false] ((x4).toNat * 1)) 4)) fun w149 =>
 nw (w149.alloc (.cells #[.int .i64 0] 3)) fun w150 =>
 e51 p1 a5 n5 c5 (some (na w)) ((x4).toNat) ((x4).toNat) (some (na w149)) 1 1 w150))
def thicketref07_Shape.g51 (R : Value → World → Prop) (b51 : (Option Addr) → (Option Addr) → Nat → Nat → (Option Addr) → Nat → Nat → (Option Addr) → Nat → Nat → World → Prop) (e82 : (Option Addr) → Nat → Nat → (Option Addr) → Nat → Nat → Int → Int → World → Prop) (p1 : Option Addr) (a5 : Option Addr) (n5 : Nat) (c5 : Nat) (a8 : Option Addr) (n8 : Nat) (c8 : Nat) (a9 : Option Addr) (n9 : Nat) (c9 : Nat) (w : World) : Prop :=
 onBool (decide ((n9 : Int) > 0))
 (nv (IntKind.i64.wrap ((n9 : Int) - 1)) fun t151 =>
 optN a9 fun q152 =>
 chk ((0 : Int) ≤ t151 ∧ t151 < (n9 : Int))
 (∃ yx_153 : Int, w.cell? (q152.add (t151.toNat * 1)) = some (.int .i64 yx_153) ∧
 (nv (IntKind.i64.wrap ((n9 : Int) - 1)) fun t154 =>
 chk ((0 : Int) ≤ t154 ∧ t154 ≤ (c9 : Int))
 (optN a8 fun q155 =>
 chk ((0 : Int) ≤ yx_153 ∧ yx_153 < (n8 : Int))
 (∃ yb_156 : Bool, w.cell? (q155.add (yx_153.toNat * 1)) = some (.bool yb_156) ∧
 (onBool yb_156
 (b51 p1 a5 n5 c5 a8 n8 c8 (slA a9 c9 0 1) t154.toNat c9 w)
 (optN a8 fun q157 =>
 chk ((0 : Int) ≤ yx_153 ∧ yx_153 < (n8 : Int))
 (okSt w ((q157.add (yx_153.toNat * 1)).add 0) ∧
 (nw (w.setCell ((q157.add (yx_153.toNat * 1)).add 0) (.bool true)) fun w158 =>
 optN p1 fun q159 =>
 ∃ ya_160 : Option Addr, ∃ yn_160 : Nat, ∃ yc_160 : Nat, w158.cell? (q159.add 1) = some (.slice ya_160 yn_160 yc_160) ∧
 (optN ya_160 fun q161 =>
 chk ((0 : Int) ≤ yx_153 ∧ yx_153 < (yn_160 : Int))
 (∃ yx_162 : Int, w158.cell? ((q161.add (yx_153.toNat * 8)).add 0) = some (.int .u8 yx_162) ∧
 (∃ yx_163 : Int, w158.cell? ((q161.add (yx_153.toNat * 8)).add 1) = some (.int .i64 yx_163) ∧
 (∃ yx_164 : Int, w158.cell? ((q161.add (yx_153.toNat * 8)).add 2) = some (.int .i64 yx_164) ∧
 (∃ yf_165 : Nat, w158.cell? ((q161.add (yx_153.toNat * 8)).add 3) = some (.float .f64 yf_165) ∧
 (∃ ya_166 : Option Addr, ∃ yn_166 : Nat, ∃ yc_166 : Nat, w158.cell? ((q161.add (yx_153.toNat * 8)).add 4) = some (.slice ya_166 yn_166 yc_166) ∧
 (∃ yx_167 : Int, w158.cell? ((q161.add (yx_153.toNat * 8)).add 5) = some (.int .u8 yx_167) ∧
 (∃ yx_168 : Int, w158.cell? ((q161.add (yx_153.toNat * 8)).add 6) = some (.int .i64 yx_168) ∧
 (∃ yx_169 : Int, w158.cell? ((q161.add (yx_153.toNat * 8)).add 7) = some (.int .i64 yx_169) ∧
 (nw (w158.alloc (.cells #[.int .u8 0, .int .i64 0, .int .i64 0, .float .f64 0, .slice none 0 0, .int .u8 0, .int .i64 0, .int .i64 0] 49)) fun w170 =>
 okSt w170 ((na w158).add 0) ∧
 (nw (w170.setCell ((na w158).add 0) (.int .u8 yx_162)) fun w171 =>
 okSt w171 ((na w158).add 1) ∧
 (nw (w171.setCell ((na w158).add 1) (.int .i64 yx_163)) fun w172 =>
 okSt w172 ((na w158).add 2) ∧
 (nw (w172.setCell ((na w158).add 2) (.int .i64 yx_164)) fun w173 =>
 okSt w173 ((na w158).add 3) ∧
 (nw (w173.setCell ((na w158).add 3) (.float .f64 yf_165)) fun w174 =>
 okSt w174 ((na w158).add 4) ∧
 (nw (w174.setCell ((na w158).add 4) (.slice ya_166 yn_166 yc_166)) fun w175 =>
 okSt w175 ((na w158).add 5) ∧
 (nw (w175.setCell ((na w158).add 5) (.int .u8 yx_167)) fun w176 =>
 okSt w176 ((na w158).add 6) ∧
 (nw (w176.setCell ((na w158).add 6) (.int .i64 yx_168)) fun w177 =>
 okSt w177 ((na w158).add 7) ∧
 (nw (w177.setCell ((na w158).add 7) (.int .i64 yx_169)) fun w178 =>
 ∃ yx_179 : Int, w178.cell? ((na w158).add 0) = some (.int .u8 yx_179) ∧
 (onBool (yx_179 != 1)
 (∃ yx_180 : Int, w178.cell? ((na w158).add 6) = some (.int .i64 yx_180) ∧
 (∃ yx_181 : Int, w178.cell? ((na w158).add 7) = some (.int .i64 yx_181) ∧
 (nw (w178.alloc (.cells #[.int .i64 yx_180, .int .i64 yx_181] 3)) fun w182 =>
 rawN Go.Proofs.Tryd.prog (Builtin.append_ #[40, 40] 40 #[.slice (slA a9 c9 0 1) t154.toNat c9, .slice (some (na w178)) 2 2]) w182 fun yv183 u184 =>
 ∃ ya_185 : Option Addr, ∃ yn_185 : Nat, ∃ yc_185 : Nat, yv183 = .slice ya_185 yn_185 yc_185 ∧
 (b51 p1 a5 n5 c5 a8 n8 c8 ya_185 yn_185 yc_185 u184))))
 (b51 p1 a5 n5 c5 a8 n8 c8 (slA a9 c9 0 1) t154.toNat c9 w178)))))))))))))))))))))))))))))
 (optN p1 fun q186 =>
 ∃ ya_187 : Option Addr, ∃ yn_187 : Nat, ∃ yc_187 : Nat, w.cell? (q186.add 1) = some (.slice ya_187 yn_187 yc_187) ∧
 (e82 a5 n5 c5 a8 n8 c8 (yn_187 : Int) 0 w))
def thicketref07_Shape.g82 (R : Value → World → Prop) (b82 : (Option Addr) → Nat → Nat → (Option Addr) → Nat → Nat → Int → Int → World → Prop) (a5 : Option Addr) (n5 : Nat) (c5 : Nat) (a8 : Option Addr) (n8 : Nat) (c8 : Nat) (x92 : Int) (x93 : Int) (w : World) : Prop :=
 onBool (decide (x93 < x92))
 (onBool (x93 == 0)
 (optN a5 fun q188 =>
 chk ((0 : Int) ≤ x93 ∧ x93 < (n5 : Int))
 (∃ yx_189 : Int, w.cell? (q188.add (x93.toNat * 1)) = some (.int .i64 yx_189) ∧
 (onBool (yx_189 != 0)
 (R (.tuple #[.int .i64 70, .int .i64 x93]) w)
 (onBool (decide (x93 > 0))
 (optN a5 fun q190 =>
 chk ((0 : Int) ≤ x93 ∧ x93 < (n5 : Int))
 (∃ yx_191 : Int, w.cell? (q190.add (x93.toNat * 1)) = some (.int .i64 yx_191) ∧
 (onBool (yx_191 != 1)
 (R (.tuple #[.int .i64 70, .int .i64 x93]) w)
 (optN a8 fun q192 =>
 chk ((0 : Int) ≤ x93 ∧ x93 < (n8 : Int))
 (∃ yb_193 : Bool, w.cell? (q192.add (x93.toNat * 1)) = some (.bool yb_193) ∧
 (onBool (!yb_193)
 (R (.tuple #[.int .i64 70, .int .i64 x93]) w)
 (nv (IntKind.i64.wrap (x93 + 1)) fun t194 =>
 b82 a5 n5 c5 a8 n8 c8 x92 t194 w)))))))
 (optN a8 fun q195 =>
 chk ((0 : Int) ≤ x93 ∧ x93 < (n8 : Int))
 (∃ yb_196 : Bool, w.cell? (q195.add (x93.toNat * 1)) = some (.bool yb_196) ∧
 (onBool (!yb_196)
 (R (.tuple #[.int .i64 70, .int .i64 x93]) w)
 (nv (IntKind.i64.wrap (x93 + 1)) fun t197 =>
 b82 a5 n5 c5 a8 n8 c8 x92 t197 w))))))))
 (onBool (decide (x93 > 0))
 (optN a5 fun q198 =>
 chk ((0 : Int) ≤ x93 ∧ x93 < (n5 : Int))
 (∃ yx_199 : Int, w.cell? (q198.add (x93.toNat * 1)) = some (.int .i64 yx_199) ∧
 (onBool (yx_199 != 1)
 (R (.tuple #[.int .i64 70, .int .i64 x93]) w)
 (optN a8 fun q200 =>
 chk ((0 : Int) ≤ x93 ∧ x93 < (n8 : Int))
 (∃ yb_201 : Bool, w.cell? (q200.add (x93.toNat * 1)) = some (.bool yb_201) ∧
 (onBool (!yb_201)
 (R (.tuple #[.int .i64 70, .int .i64 x93]) w)
 (nv (IntKind.i64.wrap (x93 + 1)) fun t202 =>
 b82 a5 n5 c5 a8 n8 c8 x92 t202 w)))))))
 (optN a8 fun q203 =>
 chk ((0 : Int) ≤ x93 ∧ x93 < (n8 : Int))
 (∃ yb_204 : Bool, w.cell? (q203.add (x93.toNat * 1)) = some (.bool yb_204) ∧
 (onBool (!yb_204)
 (R (.tuple #[.int .i64 70, .int .i64 x93]) w)
 (nv (IntKind.i64.wrap (x93 + 1)) fun t205 =>
 b82 a5 n5 c5 a8 n8 c8 x92 t205 w))))))
 (R (.tuple #[.int .i64 0, .int .i64 0]) w)
def thicketref07_Shape.q2 (R : Value → World → Prop) : Exit → Act → World → Prop := (fin Go.Proofs.Tryd.prog Go.Proofs.Tryd.f68 R)
def thicketref07_Shape.q4 (R : Value → World → Prop) : Exit → Act → World → Prop := (thicketref07_Shape.q2 R)
def thicketref07_Shape.q12 (R : Value → World → Prop) : Exit → Act → World → Prop := (thicketref07_Shape.q4 R)
def thicketref07_Shape.q14 (R : Value → World → Prop) : Exit → Act → World → Prop := (thicketref07_Shape.q12 R)
def thicketref07_Shape.q15 (R : Value → World → Prop) : Exit → Act → World → Prop := Exit.then (startN none (codeN Go.Proofs.Tryd.prog (sub (codeOf Go.Proofs.Tryd.f68) [1, 1, 1, 1, 1]) (nsub thicketref07_Shape.an [1, 1, 1, 1, 1]) (thicketref07_Shape.q14 R))) (thicketref07_Shape.q14 R)
def thicketref07_Shape.q17 (R : Value → World → Prop) : Exit → Act → World → Prop := (thicketref07_Shape.q15 R)
def thicketref07_Shape.q18 (R : Value → World → Prop) : Exit → Act → World → Prop := Exit.inBlock 0 (thicketref07_Shape.q17 R)
def thicketref07_Shape.rl18 (R : Value → World → Prop) (k : Nat) (p1 : Option Addr) (x4 : Int) (a5 : Option Addr) (n5 : Nat) (c5 : Nat) (a21 : Option Addr) (n21 : Nat) (c21 : Nat) (x22 : Int) (x23 : Int) (w : World) : Prop := loopN [1, 4, 5, 21, 22, 23] (codeN Go.Proofs.Tryd.prog (sub (codeOf Go.Proofs.Tryd.f68) [1, 1, 1, 1, 0, 1, 0, 0]) (nsub thicketref07_Shape.an [1, 1, 1, 1, 0, 1, 0, 0])) (thicketref07_Shape.q18 R) k ⟨#[undef, .pointer p1, undef, undef, .int .i64 x4, .slice a5 n5 c5, undef, undef, undef, undef, undef, undef, undef, undef, undef, undef, undef, undef, undef, undef, undef, .slice a21 n21 c21, .int .i64 x22, .int .i64 x23, undef, undef, undef, undef, undef, undef, undef, undef, undef, undef, undef, undef, undef, undef, undef, undef, undef, undef, undef, undef, undef, undef, undef, undef, undef, undef, undef, undef, undef, undef, undef, undef, undef, undef, undef, undef, undef, undef, undef, undef, undef, undef, undef, undef, undef, undef, undef, undef, undef, undef, undef, undef, undef, undef, undef, undef, undef, undef, undef, undef, undef, undef, undef, undef, undef, undef, undef, undef, undef, undef, undef, undef, undef, undef, undef, undef, undef, undef, undef, undef, undef, undef, undef, undef, undef, undef, undef, undef, undef, undef, undef, undef, undef, undef, undef, undef, undef, undef, undef, undef, undef], []⟩ w
def thicketref07_Shape.re18 (R : Value → World → Prop) (p1 : Option Addr) (x4 : Int) (a5 : Option Addr) (n5 : Nat) (c5 : Nat) (a21 : Option Addr) (n21 : Nat) (c21 : Nat) (x22 : Int) (x23 : Int) (w : World) : Prop := ∃ k, thicketref07_Shape.rl18 R k p1 x4 a5 n5 c5 a21 n21 c21 x22 x23 w
def thicketref07_Shape.q45 (R : Value → World → Prop) : Exit → Act → World → Prop := (thicketref07_Shape.q14 R)
def thicketref07_Shape.q47 (R : Value → World → Prop) : Exit → Act → World → Prop := (thicketref07_Shape.q45 R)
def thicketref07_Shape.q49 (R : Value → World → Prop) : Exit → Act → World → Prop := (thicketref07_Shape.q47 R)
def thicketref07_Shape.q50 (R : Value → World → Prop) : Exit → Act → World → Prop := Exit.then (startN none (codeN Go.Proofs.Tryd.prog (sub (codeOf Go.Proofs.Tryd.f68) [1, 1, 1, 1, 1, 1, 1, 1]) (nsub thicketref07_Shape.an [1, 1, 1, 1, 1, 1, 1, 1]) (thicketref07_Shape.q49 R))) (thicketref07_Shape.q49 R)
def thicketref07_Shape.q51 (R : Value → World → Prop) : Exit → Act → World → Prop := Exit.inBlock 2 (thicketref07_Shape.q50 R)
def thicketref07_Shape.rl51 (R : Value → World → Prop) (k : Nat) (p1 : Option Addr) (a5 : Option Addr) (n5 : Nat) (c5 : Nat) (a8 : Option Addr) (n8 : Nat) (c8 : Nat) (a9 : Option Addr) (n9 : Nat) (c9 : Nat) (w : World) : Prop := loopN [1, 5, 8, 9] (codeN Go.Proofs.Tryd.prog (sub (codeOf Go.Proofs.Tryd.f68) [1, 1, 1, 1, 1, 1, 1, 0, 0, 0]) (nsub thicketref07_Shape.an [1, 1, 1, 1, 1, 1, 1, 0, 0, 0])) (thicketref07_Shape.q51 R) k ⟨#[undef, .pointer p1, undef, undef, undef, .slice a5 n5 c5, undef, undef, .slice a8 n8 c8, .slice a9 n9 c9, undef, undef, undef, undef, undef, undef, undef, undef, undef, undef, undef, undef, undef, undef, undef, undef, undef, undef, undef, undef, undef, undef, undef, undef, undef, undef, undef, undef, undef, undef, undef, undef, undef, undef, undef, undef, undef, undef, undef, undef, undef, undef, undef, undef, undef, undef, undef, undef, undef, undef, undef, undef, undef, undef, undef, undef, undef, undef, undef, undef, undef, undef, undef, undef, undef, undef, undef, undef, undef, undef, undef, undef, undef, undef, undef, undef, undef, undef, undef, undef, undef, undef, undef, undef, undef, undef, undef, undef, undef, undef, undef, undef, undef, undef, undef, undef, undef, undef, undef, undef, undef, undef, undef, undef, undef, undef, undef, undef, undef, undef, undef, undef, undef, undef, undef], []⟩ w
def thicketref07_Shape.re51 (R : Value → World → Prop) (p1 : Option Addr) (a5 : Option Addr) (n5 : Nat) (c5 : Nat) (a8 : Option Addr) (n8 : Nat) (c8 : Nat) (a9 : Option Addr) (n9 : Nat) (c9 : Nat) (w : World) : Prop := ∃ k, thicketref07_Shape.rl51 R k p1 a5 n5 c5 a8 n8 c8 a9 n9 c9 w
def thicketref07_Shape.q78 (R : Value → World → Prop) : Exit → Act → World → Prop := (thicketref07_Shape.q49 R)
def thicketref07_Shape.q79 (R : Value → World → Prop) : Exit → Act → World → Prop := Exit.then (startN none (codeN Go.Proofs.Tryd.prog (sub (codeOf Go.Proofs.Tryd.f68) [1, 1, 1, 1, 1, 1, 1, 1, 1]) (nsub thicketref07_Shape.an [1, 1, 1, 1, 1, 1, 1, 1, 1]) (thicketref07_Shape.q78 R))) (thicketref07_Shape.q78 R)
def thicketref07_Shape.q81 (R : Value → World → Prop) : Exit → Act → World → Prop := (thicketref07_Shape.q79 R)
def thicketref07_Shape.q82 (R : Value → World → Prop) : Exit → Act → World → Prop := Exit.inBlock 4 (thicketref07_Shape.q81 R)
def thicketref07_Shape.rl82 (R : Value → World → Prop) (k : Nat) (a5 : Option Addr) (n5 : Nat) (c5 : Nat) (a8 : Option Addr) (n8 : Nat) (c8 : Nat) (x92 : Int) (x93 : Int) (w : World) : Prop := loopN [5, 8, 92, 93] (codeN Go.Proofs.Tryd.prog (sub (codeOf Go.Proofs.Tryd.f68) [1, 1, 1, 1, 1, 1, 1, 1, 0, 1, 0, 0]) (nsub thicketref07_Shape.an [1, 1, 1, 1, 1, 1, 1, 1, 0, 1, 0, 0])) (thicketref07_Shape.q82 R) k ⟨#[undef, undef, undef, undef, undef, .slice a5 n5 c5, undef, undef, .slice a8 n8 c8, undef, undef, undef, undef, undef, undef, undef, undef, undef, undef, undef, undef, undef, undef, undef, undef, undef, undef, undef, undef, undef, undef, undef, undef, undef, undef, undef, undef, undef, undef, undef, undef, undef, undef, undef, undef, undef, undef, undef, undef, undef, undef, undef, undef, undef, undef, undef, undef, undef, undef, undef, undef, undef, undef, undef, undef, undef, undef, undef, undef, undef, undef, undef, undef, undef, undef, undef, undef, undef, undef, undef, undef, undef, undef, undef, undef, undef, undef, undef, undef, undef, undef, undef, .int .i64 x92, .int .i64 x93, undef, undef, undef, undef, undef, undef, undef, undef, undef, undef, undef, undef, undef, undef, undef, undef, undef, undef, undef, undef, undef, undef, undef, undef, undef, undef, undef, undef, undef, undef, undef], []⟩ w
def thicketref07_Shape.re82 (R : Value → World → Prop) (a5 : Option Addr) (n5 : Nat) (c5 : Nat) (a8 : Option Addr) (n8 : Nat) (c8 : Nat) (x92 : Int) (x93 : Int) (w : World) : Prop := ∃ k, thicketref07_Shape.rl82 R k a5 n5 c5 a8 n8 c8 x92 x93 w
def thicketref07_Shape.l82 (R : Value → World → Prop) : Nat → (Option Addr) → Nat → Nat → (Option Addr) → Nat → Nat → Int → Int → World → Prop
  | 0, _, _, _, _, _, _, _, _, _ => False
  | k + 1, a5, n5, c5, a8, n8, c8, x92, x93, w => thicketref07_Shape.g82 R (thicketref07_Shape.l82 R k) a5 n5 c5 a8 n8 c8 x92 x93 w
def thicketref07_Shape.e82 (R : Value → World → Prop) (a5 : Option Addr) (n5 : Nat) (c5 : Nat) (a8 : Option Addr) (n8 : Nat) (c8 : Nat) (x92 : Int) (x93 : Int) (w : World) : Prop := ∃ k, thicketref07_Shape.l82 R k a5 n5 c5 a8 n8 c8 x92 x93 w
theorem thicketref07_Shape.s82 (R : Value → World → Prop) (k : Nat) (a5 : Option Addr) (n5 : Nat) (c5 : Nat) (a8 : Option Addr) (n8 : Nat) (c8 : Nat) (x92 : Int) (x93 : Int) (w : World) : thicketref07_Shape.rl82 R (k + 1) a5 n5 c5 a8 n8 c8 x92 x93 w = ∀ _ : Nat → Value, thicketref07_Shape.g82 R (thicketref07_Shape.rl82 R k) a5 n5 c5 a8 n8 c8 x92 x93 w := by kernel_rfl
theorem thicketref07_Shape.lq82 (R : Value → World → Prop) : ∀ k, thicketref07_Shape.l82 R k = thicketref07_Shape.rl82 R k
  | 0 => by funext a5 n5 c5 a8 n8 c8 x92 x93 w; first | rfl | kernel_rfl
  | k + 1 => by
    funext a5 n5 c5 a8 n8 c8 x92 x93 w
    rw [thicketref07_Shape.s82, forall_const]
    unfold thicketref07_Shape.l82
    have ih := thicketref07_Shape.lq82 R k
    rw [ih]
    all_goals rfl
theorem thicketref07_Shape.eq82 (R : Value → World → Prop) : thicketref07_Shape.e82 R = thicketref07_Shape.re82 R := by
  funext a5 n5 c5 a8 n8 c8 x92 x93 w
  unfold thicketref07_Shape.e82 thicketref07_Shape.re82
  simp only [thicketref07_Shape.lq82 R]
def thicketref07_Shape.l51 (R : Value → World → Prop) : Nat → (Option Addr) → (Option Addr) → Nat → Nat → (Option Addr) → Nat → Nat → (Option Addr) → Nat → Nat → World → Prop
  | 0, _, _, _, _, _, _, _, _, _, _, _ => False
  | k + 1, p1, a5, n5, c5, a8, n8, c8, a9, n9, c9, w => thicketref07_Shape.g51 R (thicketref07_Shape.l51 R k) (thicketref07_Shape.e82 R) p1 a5 n5 c5 a8 n8 c8 a9 n9 c9 w
def thicketref07_Shape.e51 (R : Value → World → Prop) (p1 : Option Addr) (a5 : Option Addr) (n5 : Nat) (c5 : Nat) (a8 : Option Addr) (n8 : Nat) (c8 : Nat) (a9 : Option Addr) (n9 : Nat) (c9 : Nat) (w : World) : Prop := ∃ k, thicketref07_Shape.l51 R k p1 a5 n5 c5 a8 n8 c8 a9 n9 c9 w
theorem thicketref07_Shape.s51 (R : Value → World → Prop) (k : Nat) (p1 : Option Addr) (a5 : Option Addr) (n5 : Nat) (c5 : Nat) (a8 : Option Addr) (n8 : Nat) (c8 : Nat) (a9 : Option Addr) (n9 : Nat) (c9 : Nat) (w : World) : thicketref07_Shape.rl51 R (k + 1) p1 a5 n5 c5 a8 n8 c8 a9 n9 c9 w = ∀ _ : Nat → Value, thicketref07_Shape.g51 R (thicketref07_Shape.rl51 R k) (thicketref07_Shape.re82 R) p1 a5 n5 c5 a8 n8 c8 a9 n9 c9 w := by kernel_rfl
theorem thicketref07_Shape.lq51 (R : Value → World → Prop) : ∀ k, thicketref07_Shape.l51 R k = thicketref07_Shape.rl51 R k
  | 0 => by funext p1 a5 n5 c5 a8 n8 c8 a9 n9 c9 w; first | rfl | kernel_rfl
  | k + 1 => by
    funext p1 a5 n5 c5 a8 n8 c8 a9 n9 c9 w
    rw [thicketref07_Shape.s51, forall_const]
    unfold thicketref07_Shape.l51
    have ih := thicketref07_Shape.lq51 R k
    rw [thicketref07_Shape.eq82 R]
    rw [ih]
    all_goals rfl
theorem thicketref07_Shape.eq51 (R : Value → World → Prop) : thicketref07_Shape.e51 R = thicketref07_Shape.re51 R := by
  funext p1 a5 n5 c5 a8 n8 c8 a9 n9 c9 w
  unfold thicketref07_Shape.e51 thicketref07_Shape.re51
  simp only [thicketref07_Shape.lq51 R]
def thicketref07_Shape.l18 (R : Value → World → Prop) : Nat → (Option Addr) → Int → (Option Addr) → Nat → Nat → (Option Addr) → Nat → Nat → Int → Int → World → Prop
  | 0, _, _, _, _, _, _, _, _, _, _, _ => False
  | k + 1, p1, x4, a5, n5, c5, a21, n21, c21, x22, x23, w => thicketref07_Shape.g18 R (thicketref07_Shape.l18 R k) (thicketref07_Shape.e51 R) p1 x4 a5 n5 c5 a21 n21 c21 x22 x23 w
def thicketref07_Shape.e18 (R : Value → World → Prop) (p1 : Option Addr) (x4 : Int) (a5 : Option Addr) (n5 : Nat) (c5 : Nat) (a21 : Option Addr) (n21 : Nat) (c21 : Nat) (x22 : Int) (x23 : Int) (w : World) : Prop := ∃ k, thicketref07_Shape.l18 R k p1 x4 a5 n5 c5 a21 n21 c21 x22 x23 w
theorem thicketref07_Shape.s18 (R : Value → World → Prop) (k : Nat) (p1 : Option Addr) (x4 : Int) (a5 : Option Addr) (n5 : Nat) (c5 : Nat) (a21 : Option Addr) (n21 : Nat) (c21 : Nat) (x22 : Int) (x23 : Int) (w : World) : thicketref07_Shape.rl18 R (k + 1) p1 x4 a5 n5 c5 a21 n21 c21 x22 x23 w = ∀ _ : Nat → Value, thicketref07_Shape.g18 R (thicketref07_Shape.rl18 R k) (thicketref07_Shape.re51 R) p1 x4 a5 n5 c5 a21 n21 c21 x22 x23 w := by kernel_rfl
theorem thicketref07_Shape.lq18 (R : Value → World → Prop) : ∀ k, thicketref07_Shape.l18 R k = thicketref07_Shape.rl18 R k
  | 0 => by funext p1 x4 a5 n5 c5 a21 n21 c21 x22 x23 w; first | rfl | kernel_rfl
  | k + 1 => by
    funext p1 x4 a5 n5 c5 a21 n21 c21 x22 x23 w
    rw [thicketref07_Shape.s18, forall_const]
    unfold thicketref07_Shape.l18
    have ih := thicketref07_Shape.lq18 R k
    rw [thicketref07_Shape.eq51 R]
    rw [ih]
    all_goals rfl
theorem thicketref07_Shape.eq18 (R : Value → World → Prop) : thicketref07_Shape.e18 R = thicketref07_Shape.re18 R := by
  funext p1 x4 a5 n5 c5 a21 n21 c21 x22 x23 w
  unfold thicketref07_Shape.e18 thicketref07_Shape.re18
  simp only [thicketref07_Shape.lq18 R]
def thicketref07_Shape (R : Value → World → Prop) (x0_0 : Int) (a0_1 : Option Addr) (n0_1 : Nat) (c0_1 : Nat) (w : World) : Prop := thicketref07_Shape.g0 R (thicketref07_Shape.e18 R) x0_0 a0_1 n0_1 c0_1 w
theorem thicketref07_Shape.root0 (R : Value → World → Prop) (x0_0 : Int) (a0_1 : Option Addr) (n0_1 : Nat) (c0_1 : Nat) (w : World) : fnN Go.Proofs.Tryd.prog Go.Proofs.Tryd.f68 thicketref07_Shape.an #[.agg #[.int .i64 x0_0, .slice a0_1 n0_1 c0_1]] w R = thicketref07_Shape.g0 R (thicketref07_Shape.re18 R) x0_0 a0_1 n0_1 c0_1 w := by kernel_rfl
theorem thicketref07_Shape.calls {R : Value → World → Prop} {x0_0 : Int} {a0_1 : Option Addr} {n0_1 : Nat} {c0_1 : Nat} {w : World} (h : thicketref07_Shape R x0_0 a0_1 n0_1 c0_1 w) : Go.E.CallsD Go.Proofs.Tryd.prog 68 #[.agg #[.int .i64 x0_0, .slice a0_1 n0_1 c0_1]] w R := by
  refine callsD_of (n := thicketref07_Shape.an) M_follows M_sizes Go.Proofs.Tryd.func68 (by rfl) ?_
  rw [thicketref07_Shape.root0]
  unfold thicketref07_Shape at h
  rw [thicketref07_Shape.eq18 R] at h
  exact h
-- thicket/thicketref05.Has
def thicketref05_Has.an : An := An.nil
def thicketref05_Has.g0 (R : Value → World → Prop) (a0 : Option Addr) (n0 : Nat) (c0 : Nat) (x1 : Int) (w : World) : Prop :=
 onBool (decide (x1 ≥ 0))
 (nv (IntKind.i64.wrap (Int.tdiv x1 64)) fun t9 =>
 onBool (decide (t9 < (n0 : Int)))
 (nv (IntKind.i64.wrap (Int.tdiv x1 64)) fun t10 =>
 optN a0 fun q11 =>
 chk ((0 : Int) ≤ t10 ∧ t10 < (n0 : Int))
 (∃ yx_12 : Int, w.cell? (q11.add (t10.toNat * 1)) = some (.int .u64 yx_12) ∧
 (nv (Int.tmod x1 64) fun t13 =>
 nv (IntKind.u64.wrap t13) fun t14 =>
 nchk (t14 < 0)
 (nv (Int.fdiv yx_12 (2 ^ (min t14.toNat 64))) fun t15 =>
 nv (bitsI .and .u64 t15 1) fun t16 =>
 R (.bool (t16 == 1)) w))))
 (R (.bool false) w))
 (R (.bool false) w)
def thicketref05_Has (R : Value → World → Prop) (a0 : Option Addr) (n0 : Nat) (c0 : Nat) (x1 : Int) (w : World) : Prop := thicketref05_Has.g0 R a0 n0 c0 x1 w
theorem thicketref05_Has.root0 (R : Value → World → Prop) (a0 : Option Addr) (n0 : Nat) (c0 : Nat) (x1 : Int) (w : World) : fnN Go.Proofs.Tryd.prog Go.Proofs.Tryd.f69 thicketref05_Has.an #[.slice a0 n0 c0, .int .i64 x1] w R = thicketref05_Has.g0 R a0 n0 c0 x1 w := by kernel_rfl
theorem thicketref05_Has.calls {R : Value → World → Prop} {a0 : Option Addr} {n0 : Nat} {c0 : Nat} {x1 : Int} {w : World} (h : thicketref05_Has R a0 n0 c0 x1 w) : Go.E.CallsD Go.Proofs.Tryd.prog 69 #[.slice a0 n0 c0, .int .i64 x1] w R := by
  refine callsD_of (n := thicketref05_Has.an) M_follows M_sizes Go.Proofs.Tryd.func69 (by rfl) ?_
  rw [thicketref05_Has.root0]
  unfold thicketref05_Has at h
  exact h
-- thicket/trees.right
def trees_right.an : An := (.mk none .nil (.mk none .nil (.mk none .nil (.mk none .nil (.mk none .nil (.mk none .nil (.mk none (.mk none .nil (.mk none (.mk (some [5, 6, 108, 109, 110]) .nil .nil) .nil)) .nil)))))))
def trees_right.g0 (R : Value → World → Prop) (e34 : Bool → Int → (Option Addr) → Nat → Nat → Int → Int → World → Prop) (x0_0 : Int) (x0_1 : Int) (x0_2 : Int) (f0_3 : Nat) (a0_4 : Option Addr) (n0_4 : Nat) (c0_4 : Nat) (x0_5 : Int) (x0_6 : Int) (x0_7 : Int) (x1 : Int) (w : World) : Prop :=
 nw (w.alloc (.cells #[.int .u8 x0_0, .int .i64 x0_1, .int .i64 x0_2, .float .f64 f0_3, .slice a0_4 n0_4 c0_4, .int .u8 x0_5, .int .i64 x0_6, .int .i64 x0_7] 49)) fun w36 =>
 ∃ yf_37 : Nat, w36.cell? ((na w).add 3) = some (.float .f64 yf_37) ∧
 (∃ yx_38 : Int, RunV Go.Proofs.Tryd.prog (callFunc 49 #[.float .f64 yf_37]) w36 (.int .u64 yx_38) ∧
 (∃ yx_39 : Int, w36.cell? ((na w).add 0) = some (.int .u8 yx_39) ∧
 (onBool (yx_39 == 1)
 (∃ yx_40 : Int, w36.cell? ((na w).add 2) = some (.int .i64 yx_40) ∧
 (onBool (yx_40 == 0)
 (onBool (yx_38 == 0)
 (∃ ya_41 : Option Addr, ∃ yn_41 : Nat, ∃ yc_41 : Nat, w36.cell? ((na w).add 4) = some (.slice ya_41 yn_41 yc_41) ∧
 (onBool ((yn_41 : Int) == 0)
 (∃ yx_42 : Int, w36.cell? ((na w).add 5) = some (.int .u8 yx_42) ∧
 (onBool (yx_42 == 0)
 (∃ yx_43 : Int, w36.cell? ((na w).add 6) = some (.int .i64 yx_43) ∧
 (onBool (yx_43 == 0)
 (∃ yx_44 : Int, w36.cell? ((na w).add 7) = some (.int .i64 yx_44) ∧
 (R (.bool (yx_44 == 0)) w36))
 (R (.bool false) w36)))
 (R (.bool false) w36)))
 (R (.bool false) w36)))
 (R (.bool false) w36))
 (R (.bool false) w36)))
 (∃ yx_45 : Int, w36.cell? ((na w).add 0) = some (.int .u8 yx_45) ∧
 (∃ yx_46 : Int, w36.cell? ((na w).add 1) = some (.int .i64 yx_46) ∧
 (∃ yx_47 : Int, w36.cell? ((na w).add 2) = some (.int .i64 yx_47) ∧
 (∃ yf_48 : Nat, w36.cell? ((na w).add 3) = some (.float .f64 yf_48) ∧
 (∃ ya_49 : Option Addr, ∃ yn_49 : Nat, ∃ yc_49 : Nat, w36.cell? ((na w).add 4) = some (.slice ya_49 yn_49 yc_49) ∧
 (∃ yx_50 : Int, w36.cell? ((na w).add 5) = some (.int .u8 yx_50) ∧
 (∃ yx_51 : Int, w36.cell? ((na w).add 6) = some (.int .i64 yx_51) ∧
 (∃ yx_52 : Int, w36.cell? ((na w).add 7) = some (.int .i64 yx_52) ∧
 (Go.E.CallsD Go.Proofs.Tryd.prog 66 #[.agg #[.int .u8 yx_45, .int .i64 yx_46, .int .i64 yx_47, .float .f64 yf_48, .slice ya_49 yn_49 yc_49, .int .u8 yx_50, .int .i64 yx_51, .int .i64 yx_52]] w36 fun yv53 u54 =>
 ∃ yb_55 : Bool, yv53 = .bool yb_55 ∧
 (onBool (!yb_55)
 (R (.bool false) u54)
 (∃ yx_56 : Int, u54.cell? ((na w).add 1) = some (.int .i64 yx_56) ∧
 (onBool (yx_56 != 0)
 (R (.bool false) u54)
 (∃ yx_57 : Int, u54.cell? ((na w).add 2) = some (.int .i64 yx_57) ∧
 (onBool (decide (yx_57 < 0))
 (R (.bool false) u54)
 (∃ yx_58 : Int, u54.cell? ((na w).add 2) = some (.int .i64 yx_58) ∧
 (onBool (decide (yx_58 ≥ 65536))
 (R (.bool false) u54)
 (∃ yx_59 : Int, u54.cell? ((na w).add 5) = some (.int .u8 yx_59) ∧
 (onBool (yx_59 != 1)
 (∃ yx_60 : Int, u54.cell? ((na w).add 5) = some (.int .u8 yx_60) ∧
 (onBool (yx_60 != 2)
 (R (.bool false) u54)
 (∃ yx_61 : Int, u54.cell? ((na w).add 6) = some (.int .i64 yx_61) ∧
 (onBool (decide (yx_61 < 1))
 (R (.bool false) u54)
 (∃ yx_62 : Int, u54.cell? ((na w).add 6) = some (.int .i64 yx_62) ∧
 (onBool (decide (yx_62 ≥ x1))
 (R (.bool false) u54)
 (∃ yx_63 : Int, u54.cell? ((na w).add 7) = some (.int .i64 yx_63) ∧
 (onBool (decide (yx_63 < 1))
 (R (.bool false) u54)
 (∃ yx_64 : Int, u54.cell? ((na w).add 7) = some (.int .i64 yx_64) ∧
 (onBool (decide (yx_64 ≥ x1))
 (R (.bool false) u54)
 (∃ yx_65 : Int, u54.cell? ((na w).add 0) = some (.int .u8 yx_65) ∧
 (onBool (yx_65 == 2)
 (∃ yf_66 : Nat, u54.cell? ((na w).add 3) = some (.float .f64 yf_66) ∧
 (∃ yf_67 : Nat, u54.cell? ((na w).add 3) = some (.float .f64 yf_67) ∧
 (onBool (FloatKind.f64.format.order yf_66 yf_67 == some .eq)
 (∃ ya_68 : Option Addr, ∃ yn_68 : Nat, ∃ yc_68 : Nat, u54.cell? ((na w).add 4) = some (.slice ya_68 yn_68 yc_68) ∧
 (R (.bool ((yn_68 : Int) == 0)) u54))
 (R (.bool false) u54))))
 (∃ ya_69 : Option Addr, ∃ yn_69 : Nat, ∃ yc_69 : Nat, u54.cell? ((na w).add 4) = some (.slice ya_69 yn_69 yc_69) ∧
 (e34 (yx_38 == 0) (-1) ya_69 yn_69 yc_69 (yn_69 : Int) 0 u54))))))))))))))
 (∃ yx_70 : Int, u54.cell? ((na w).add 6) = some (.int .i64 yx_70) ∧
 (onBool (decide (yx_70 < 1))
 (R (.bool false) u54)
 (∃ yx_71 : Int, u54.cell? ((na w).add 6) = some (.int .i64 yx_71) ∧
 (onBool (decide (yx_71 ≥ x1))
 (R (.bool false) u54)
 (∃ yx_72 : Int, u54.cell? ((na w).add 7) = some (.int .i64 yx_72) ∧
 (onBool (decide (yx_72 < 1))
 (R (.bool false) u54)
 (∃ yx_73 : Int, u54.cell? ((na w).add 7) = some (.int .i64 yx_73) ∧
 (onBool (decide (yx_73 ≥ x1))
 (R (.bool false) u54)
 (∃ yx_74 : Int, u54.cell? ((na w).add 0) = some (.int .u8 yx_74) ∧
 (onBool (yx_74 == 2)
 (∃ yf_75 : Nat, u54.cell? ((na w).add 3) = some (.float .f64 yf_75) ∧
 (∃ yf_76 : Nat, u54.cell? ((na w).add 3) = some (.float .f64 yf_76) ∧
 (onBool (FloatKind.f64.format.order yf_75 yf_76 == some .eq)
 (∃ ya_77 : Option Addr, ∃ yn_77 : Nat, ∃ yc_77 : Nat, u54.cell? ((na w).add 4) = some (.slice ya_77 yn_77 yc_77) ∧
 (R (.bool ((yn_77 : Int) == 0)) u54))
 (R (.bool false) u54))))
 (∃ ya_78 : Option Addr, ∃ yn_78 : Nat, ∃ yc_78 : Nat, u54.cell? ((na w).add 4) = some (.slice ya_78 yn_78 yc_78) ∧
 (e34 (yx_38 == 0) (-1) ya_78 yn_78 yc_78 (yn_78 : Int) 0 u54)))))))))))))))))))))))))))))))))
def trees_right.g34 (R : Value → World → Prop) (b34 : Bool → Int → (Option Addr) → Nat → Nat → Int → Int → World → Prop) (b5 : Bool) (x6 : Int) (a108 : Option Addr) (n108 : Nat) (c108 : Nat) (x109 : Int) (x110 : Int) (w : World) : Prop :=
 onBool (decide (x110 < x109))
 (optN a108 fun q79 =>
 chk ((0 : Int) ≤ x110 ∧ x110 < (n108 : Int))
 (∃ yx_80 : Int, w.cell? (q79.add (x110.toNat * 1)) = some (.int .i64 yx_80) ∧
 (onBool (decide (yx_80 ≤ x6))
 (R (.bool false) w)
 (onBool (decide (yx_80 ≥ 1024))
 (R (.bool false) w)
 (nv (IntKind.i64.wrap (x110 + 1)) fun t81 =>
 b34 b5 yx_80 a108 n108 c108 x109 t81 w)))))
 (onBool b5
 (R (.bool (decide (x6 ≥ 0))) w)
 (R (.bool false) w))
def trees_right.q2 (R : Value → World → Prop) : Exit → Act → World → Prop := (fin Go.Proofs.Tryd.prog Go.Proofs.Tryd.f70 R)
def trees_right.q4 (R : Value → World → Prop) : Exit → Act → World → Prop := (trees_right.q2 R)
def trees_right.q12 (R : Value → World → Prop) : Exit → Act → World → Prop := (trees_right.q4 R)
def trees_right.q20 (R : Value → World → Prop) : Exit → Act → World → Prop := (trees_right.q12 R)
def trees_right.q28 (R : Value → World → Prop) : Exit → Act → World → Prop := (trees_right.q20 R)
def trees_right.q30 (R : Value → World → Prop) : Exit → Act → World → Prop := (trees_right.q28 R)
def trees_right.q31 (R : Value → World → Prop) : Exit → Act → World → Prop := Exit.then (startN none (codeN Go.Proofs.Tryd.prog (sub (codeOf Go.Proofs.Tryd.f70) [1, 1, 1, 1, 1, 1, 1]) (nsub trees_right.an [1, 1, 1, 1, 1, 1, 1]) (trees_right.q30 R))) (trees_right.q30 R)
def trees_right.q33 (R : Value → World → Prop) : Exit → Act → World → Prop := (trees_right.q31 R)
def trees_right.q34 (R : Value → World → Prop) : Exit → Act → World → Prop := Exit.inBlock 0 (trees_right.q33 R)
def trees_right.rl34 (R : Value → World → Prop) (k : Nat) (b5 : Bool) (x6 : Int) (a108 : Option Addr) (n108 : Nat) (c108 : Nat) (x109 : Int) (x110 : Int) (w : World) : Prop := loopN [5, 6, 108, 109, 110] (codeN Go.Proofs.Tryd.prog (sub (codeOf Go.Proofs.Tryd.f70) [1, 1, 1, 1, 1, 1, 0, 1, 0, 0]) (nsub trees_right.an [1, 1, 1, 1, 1, 1, 0, 1, 0, 0])) (trees_right.q34 R) k ⟨#[undef, undef, undef, undef, undef, .bool b5, .int .i64 x6, undef, undef, undef, undef, undef, undef, undef, undef, undef, undef, undef, undef, undef, undef, undef, undef, undef, undef, undef, undef, undef, undef, undef, undef, undef, undef, undef, undef, undef, undef, undef, undef, undef, undef, undef, undef, undef, undef, undef, undef, undef, undef, undef, undef, undef, undef, undef, undef, undef, undef, undef, undef, undef, undef, undef, undef, undef, undef, undef, undef, undef, undef, undef, undef, undef, undef, undef, undef, undef, undef, undef, undef, undef, undef, undef, undef, undef, undef, undef, undef, undef, undef, undef, undef, undef, undef, undef, undef, undef, undef, undef, undef, undef, undef, undef, undef, undef, undef, undef, undef, undef, .slice a108 n108 c108, .int .i64 x109, .int .i64 x110, undef, undef, undef, undef, undef, undef, undef, undef, undef, undef, undef, undef, undef, undef, undef, undef, undef], []⟩ w
def trees_right.re34 (R : Value → World → Prop) (b5 : Bool) (x6 : Int) (a108 : Option Addr) (n108 : Nat) (c108 : Nat) (x109 : Int) (x110 : Int) (w : World) : Prop := ∃ k, trees_right.rl34 R k b5 x6 a108 n108 c108 x109 x110 w
def trees_right.l34 (R : Value → World → Prop) : Nat → Bool → Int → (Option Addr) → Nat → Nat → Int → Int → World → Prop
  | 0, _, _, _, _, _, _, _, _ => False
  | k + 1, b5, x6, a108, n108, c108, x109, x110, w => trees_right.g34 R (trees_right.l34 R k) b5 x6 a108 n108 c108 x109 x110 w
def trees_right.e34 (R : Value → World → Prop) (b5 : Bool) (x6 : Int) (a108 : Option Addr) (n108 : Nat) (c108 : Nat) (x109 : Int) (x110 : Int) (w : World) : Prop := ∃ k, trees_right.l34 R k b5 x6 a108 n108 c108 x109 x110 w
theorem trees_right.s34 (R : Value → World → Prop) (k : Nat) (b5 : Bool) (x6 : Int) (a108 : Option Addr) (n108 : Nat) (c108 : Nat) (x109 : Int) (x110 : Int) (w : World) : trees_right.rl34 R (k + 1) b5 x6 a108 n108 c108 x109 x110 w = ∀ _ : Nat → Value, trees_right.g34 R (trees_right.rl34 R k) b5 x6 a108 n108 c108 x109 x110 w := by kernel_rfl
theorem trees_right.lq34 (R : Value → World → Prop) : ∀ k, trees_right.l34 R k = trees_right.rl34 R k
  | 0 => by funext b5 x6 a108 n108 c108 x109 x110 w; first | rfl | kernel_rfl
  | k + 1 => by
    funext b5 x6 a108 n108 c108 x109 x110 w
    rw [trees_right.s34, forall_const]
    unfold trees_right.l34
    have ih := trees_right.lq34 R k
    rw [ih]
    all_goals rfl
theorem trees_right.eq34 (R : Value → World → Prop) : trees_right.e34 R = trees_right.re34 R := by
  funext b5 x6 a108 n108 c108 x109 x110 w
  unfold trees_right.e34 trees_right.re34
  simp only [trees_right.lq34 R]
def trees_right (R : Value → World → Prop) (x0_0 : Int) (x0_1 : Int) (x0_2 : Int) (f0_3 : Nat) (a0_4 : Option Addr) (n0_4 : Nat) (c0_4 : Nat) (x0_5 : Int) (x0_6 : Int) (x0_7 : Int) (x1 : Int) (w : World) : Prop := trees_right.g0 R (trees_right.e34 R) x0_0 x0_1 x0_2 f0_3 a0_4 n0_4 c0_4 x0_5 x0_6 x0_7 x1 w
theorem trees_right.root0 (R : Value → World → Prop) (x0_0 : Int) (x0_1 : Int) (x0_2 : Int) (f0_3 : Nat) (a0_4 : Option Addr) (n0_4 : Nat) (c0_4 : Nat) (x0_5 : Int) (x0_6 : Int) (x0_7 : Int) (x1 : Int) (w : World) : fnN Go.Proofs.Tryd.prog Go.Proofs.Tryd.f70 trees_right.an #[.agg #[.int .u8 x0_0, .int .i64 x0_1, .int .i64 x0_2, .float .f64 f0_3, .slice a0_4 n0_4 c0_4, .int .u8 x0_5, .int .i64 x0_6, .int .i64 x0_7], .int .i64 x1] w R = trees_right.g0 R (trees_right.re34 R) x0_0 x0_1 x0_2 f0_3 a0_4 n0_4 c0_4 x0_5 x0_6 x0_7 x1 w := by kernel_rfl
theorem trees_right.calls {R : Value → World → Prop} {x0_0 : Int} {x0_1 : Int} {x0_2 : Int} {f0_3 : Nat} {a0_4 : Option Addr} {n0_4 : Nat} {c0_4 : Nat} {x0_5 : Int} {x0_6 : Int} {x0_7 : Int} {x1 : Int} {w : World} (h : trees_right R x0_0 x0_1 x0_2 f0_3 a0_4 n0_4 c0_4 x0_5 x0_6 x0_7 x1 w) : Go.E.CallsD Go.Proofs.Tryd.prog 70 #[.agg #[.int .u8 x0_0, .int .i64 x0_1, .int .i64 x0_2, .float .f64 f0_3, .slice a0_4 n0_4 c0_4, .int .u8 x0_5, .int .i64 x0_6, .int .i64 x0_7], .int .i64 x1] w R := by
  refine callsD_of (n := trees_right.an) M_follows M_sizes Go.Proofs.Tryd.func70 (by rfl) ?_
  rw [trees_right.root0]
  unfold trees_right at h
  rw [trees_right.eq34 R] at h
  exact h
end Go.Mir
