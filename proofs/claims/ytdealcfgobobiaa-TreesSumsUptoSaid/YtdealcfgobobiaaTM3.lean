/- Part of a proof of laws of the seat Ytdealcfgobobiaa: functions' weakest preconditions, each checked by the kernel, contracts out of them, plain lemmas; no conditions. -/
import Derived.Test.YtdealcfgobobiaaTM0
set_option linter.unusedVariables false
set_option linter.unusedSimpArgs false
set_option linter.unusedVariables false
set_option maxRecDepth 100000
namespace Go.Mir
open Go Go.E Go.RowKit
-- thicket/thicketref07.kind
def thicketref07_kind.an : An := (.mk none .nil (.mk none .nil (.mk none .nil (.mk none .nil (.mk none (.mk none .nil (.mk none (.mk (some [1, 2, 8, 20, 21, 22]) .nil .nil) .nil)) .nil)))))
def thicketref07_kind.g0 (R : Value → World → Prop) (e18 : Bool → (Option Addr) → (Option Addr) → Nat → Nat → (Option Addr) → Nat → Nat → Int → Int → World → Prop) (x0_0 : Int) (a0_1 : Option Addr) (n0_1 : Nat) (c0_1 : Nat) (b1 : Bool) (w : World) : Prop :=
 nw (w.alloc (.cells #[.int .i64 x0_0, .slice a0_1 n0_1 c0_1] 33)) fun w23 =>
 ∃ yx_24 : Int, w23.cell? ((na w).add 0) = some (.int .i64 yx_24) ∧
 (∃ ya_25 : Option Addr, ∃ yn_25 : Nat, ∃ yc_25 : Nat, w23.cell? ((na w).add 1) = some (.slice ya_25 yn_25 yc_25) ∧
 (Go.E.CallsD Go.Proofs.Try.prog 26 #[.agg #[.int .i64 yx_24, .slice ya_25 yn_25 yc_25]] w23 fun yv26 u27 =>
 ∃ yx_28_0 : Int, ∃ yx_28_1 : Int, yv26 = .tuple #[.int .i64 yx_28_0, .int .i64 yx_28_1] ∧
 (onBool (yx_28_0 != 0)
 (R (.tuple #[.slice none 0 0, .int .i64 yx_28_0]) u27)
 (∃ yx_29 : Int, u27.cell? ((na w).add 0) = some (.int .i64 yx_29) ∧
 (∃ ya_30 : Option Addr, ∃ yn_30 : Nat, ∃ yc_30 : Nat, u27.cell? ((na w).add 1) = some (.slice ya_30 yn_30 yc_30) ∧
 (Go.E.CallsD Go.Proofs.Try.prog 57 #[.agg #[.int .i64 yx_29, .slice ya_30 yn_30 yc_30]] u27 fun yv31 u32 =>
 ∃ ya_33 : Option Addr, ∃ yn_33 : Nat, ∃ yc_33 : Nat, yv31 = .slice ya_33 yn_33 yc_33 ∧
 (e18 b1 (some (na w)) none 0 0 ya_33 yn_33 yc_33 (yn_33 : Int) 0 u32)))))))
def thicketref07_kind.g18 (R : Value → World → Prop) (b18 : Bool → (Option Addr) → (Option Addr) → Nat → Nat → (Option Addr) → Nat → Nat → Int → Int → World → Prop) (b1 : Bool) (p2 : Option Addr) (a8 : Option Addr) (n8 : Nat) (c8 : Nat) (a20 : Option Addr) (n20 : Nat) (c20 : Nat) (x21 : Int) (x22 : Int) (w : World) : Prop :=
 onBool (decide (x22 < x21))
 (optN a20 fun q34 =>
 chk ((0 : Int) ≤ x22 ∧ x22 < (n20 : Int))
 (∃ yx_35 : Int, w.cell? (q34.add (x22.toNat * 1)) = some (.int .i64 yx_35) ∧
 (optN p2 fun q36 =>
 ∃ ya_37 : Option Addr, ∃ yn_37 : Nat, ∃ yc_37 : Nat, w.cell? (q36.add 1) = some (.slice ya_37 yn_37 yc_37) ∧
 (optN ya_37 fun q38 =>
 chk ((0 : Int) ≤ yx_35 ∧ yx_35 < (yn_37 : Int))
 (∃ yx_39 : Int, w.cell? ((q38.add (yx_35.toNat * 8)).add 0) = some (.int .u8 yx_39) ∧
 (onBool ((yx_39 == 1) == b1)
 (nw (w.alloc (.cells #[.int .i64 yx_35] 3)) fun w40 =>
 rawN Go.Proofs.Try.prog (Builtin.append_ #[24, 24] 24 #[.slice a8 n8 c8, .slice (some (na w)) 1 1]) w40 fun yv41 u42 =>
 ∃ ya_43 : Option Addr, ∃ yn_43 : Nat, ∃ yc_43 : Nat, yv41 = .slice ya_43 yn_43 yc_43 ∧
 (nv (IntKind.i64.wrap (x22 + 1)) fun t44 =>
 b18 b1 p2 ya_43 yn_43 yc_43 a20 n20 c20 x21 t44 u42))
 (nv (IntKind.i64.wrap (x22 + 1)) fun t45 =>
 b18 b1 p2 a8 n8 c8 a20 n20 c20 x21 t45 w)))))))
 (R (.tuple #[.slice a8 n8 c8, .int .i64 0]) w)
def thicketref07_kind.q2 (R : Value → World → Prop) : Exit → Act → World → Prop := (fin Go.Proofs.Try.prog Go.Proofs.Try.f56 R)
def thicketref07_kind.q4 (R : Value → World → Prop) : Exit → Act → World → Prop := (thicketref07_kind.q2 R)
def thicketref07_kind.q12 (R : Value → World → Prop) : Exit → Act → World → Prop := (thicketref07_kind.q4 R)
def thicketref07_kind.q14 (R : Value → World → Prop) : Exit → Act → World → Prop := (thicketref07_kind.q12 R)
def thicketref07_kind.q15 (R : Value → World → Prop) : Exit → Act → World → Prop := Exit.then (startN none (codeN Go.Proofs.Try.prog (sub (codeOf Go.Proofs.Try.f56) [1, 1, 1, 1, 1]) (nsub thicketref07_kind.an [1, 1, 1, 1, 1]) (thicketref07_kind.q14 R))) (thicketref07_kind.q14 R)
def thicketref07_kind.q17 (R : Value → World → Prop) : Exit → Act → World → Prop := (thicketref07_kind.q15 R)
def thicketref07_kind.q18 (R : Value → World → Prop) : Exit → Act → World → Prop := Exit.inBlock 0 (thicketref07_kind.q17 R)
def thicketref07_kind.rl18 (R : Value → World → Prop) (k : Nat) (b1 : Bool) (p2 : Option Addr) (a8 : Option Addr) (n8 : Nat) (c8 : Nat) (a20 : Option Addr) (n20 : Nat) (c20 : Nat) (x21 : Int) (x22 : Int) (w : World) : Prop := loopN [1, 2, 8, 20, 21, 22] (codeN Go.Proofs.Try.prog (sub (codeOf Go.Proofs.Try.f56) [1, 1, 1, 1, 0, 1, 0, 0]) (nsub thicketref07_kind.an [1, 1, 1, 1, 0, 1, 0, 0])) (thicketref07_kind.q18 R) k ⟨#[undef, .bool b1, .pointer p2, undef, undef, undef, undef, undef, .slice a8 n8 c8, undef, undef, undef, undef, undef, undef, undef, undef, undef, undef, undef, .slice a20 n20 c20, .int .i64 x21, .int .i64 x22, undef, undef, undef, undef, undef, undef, undef, undef, undef, undef, undef, undef, undef, undef, undef, undef, undef, undef], []⟩ w
def thicketref07_kind.re18 (R : Value → World → Prop) (b1 : Bool) (p2 : Option Addr) (a8 : Option Addr) (n8 : Nat) (c8 : Nat) (a20 : Option Addr) (n20 : Nat) (c20 : Nat) (x21 : Int) (x22 : Int) (w : World) : Prop := ∃ k, thicketref07_kind.rl18 R k b1 p2 a8 n8 c8 a20 n20 c20 x21 x22 w
def thicketref07_kind.l18 (R : Value → World → Prop) : Nat → Bool → (Option Addr) → (Option Addr) → Nat → Nat → (Option Addr) → Nat → Nat → Int → Int → World → Prop
  | 0, _, _, _, _, _, _, _, _, _, _, _ => False
  | k + 1, b1, p2, a8, n8, c8, a20, n20, c20, x21, x22, w => thicketref07_kind.g18 R (thicketref07_kind.l18 R k) b1 p2 a8 n8 c8 a20 n20 c20 x21 x22 w
def thicketref07_kind.e18 (R : Value → World → Prop) (b1 : Bool) (p2 : Option Addr) (a8 : Option Addr) (n8 : Nat) (c8 : Nat) (a20 : Option Addr) (n20 : Nat) (c20 : Nat) (x21 : Int) (x22 : Int) (w : World) : Prop := ∃ k, thicketref07_kind.l18 R k b1 p2 a8 n8 c8 a20 n20 c20 x21 x22 w
theorem thicketref07_kind.s18 (R : Value → World → Prop) (k : Nat) (b1 : Bool) (p2 : Option Addr) (a8 : Option Addr) (n8 : Nat) (c8 : Nat) (a20 : Option Addr) (n20 : Nat) (c20 : Nat) (x21 : Int) (x22 : Int) (w : World) : thicketref07_kind.rl18 R (k + 1) b1 p2 a8 n8 c8 a20 n20 c20 x21 x22 w = ∀ _ : Nat → Value, thicketref07_kind.g18 R (thicketref07_kind.rl18 R k) b1 p2 a8 n8 c8 a20 n20 c20 x21 x22 w := by kernel_rfl
theorem thicketref07_kind.lq18 (R : Value → World → Prop) : ∀ k, thicketref07_kind.l18 R k = thicketref07_kind.rl18 R k
  | 0 => by funext b1 p2 a8 n8 c8 a20 n20 c20 x21 x22 w; first | rfl | kernel_rfl
  | k + 1 => by
    funext b1 p2 a8 n8 c8 a20 n20 c20 x21 x22 w
    rw [thicketref07_kind.s18, forall_const]
    unfold thicketref07_kind.l18
    have ih := thicketref07_kind.lq18 R k
    rw [ih]
    all_goals rfl
theorem thicketref07_kind.eq18 (R : Value → World → Prop) : thicketref07_kind.e18 R = thicketref07_kind.re18 R := by
  funext b1 p2 a8 n8 c8 a20 n20 c20 x21 x22 w
  unfold thicketref07_kind.e18 thicketref07_kind.re18
  simp only [thicketref07_kind.lq18 R]
def thicketref07_kind (R : Value → World → Prop) (x0_0 : Int) (a0_1 : Option Addr) (n0_1 : Nat) (c0_1 : Nat) (b1 : Bool) (w : World) : Prop := thicketref07_kind.g0 R (thicketref07_kind.e18 R) x0_0 a0_1 n0_1 c0_1 b1 w
theorem thicketref07_kind.root0 (R : Value → World → Prop) (x0_0 : Int) (a0_1 : Option Addr) (n0_1 : Nat) (c0_1 : Nat) (b1 : Bool) (w : World) : fnN Go.Proofs.Try.prog Go.Proofs.Try.f56 thicketref07_kind.an #[.agg #[.int .i64 x0_0, .slice a0_1 n0_1 c0_1], .bool b1] w R = thicketref07_kind.g0 R (thicketref07_kind.re18 R) x0_0 a0_1 n0_1 c0_1 b1 w := by kernel_rfl
theorem thicketref07_kind.calls {R : Value → World → Prop} {x0_0 : Int} {a0_1 : Option Addr} {n0_1 : Nat} {c0_1 : Nat} {b1 : Bool} {w : World} (h : thicketref07_kind R x0_0 a0_1 n0_1 c0_1 b1 w) : Go.E.CallsD Go.Proofs.Try.prog 56 #[.agg #[.int .i64 x0_0, .slice a0_1 n0_1 c0_1], .bool b1] w R := by
  refine callsD_of (n := thicketref07_kind.an) M_follows M_sizes Go.Proofs.Try.func56 (by rfl) ?_
  rw [thicketref07_kind.root0]
  unfold thicketref07_kind at h
  rw [thicketref07_kind.eq18 R] at h
  exact h
-- thicket/thicketref07.Leaves
def thicketref07_Leaves.an : An := An.nil
def thicketref07_Leaves.g0 (R : Value → World → Prop) (x0_0 : Int) (a0_1 : Option Addr) (n0_1 : Nat) (c0_1 : Nat) (w : World) : Prop :=
 nw (w.alloc (.cells #[.int .i64 x0_0, .slice a0_1 n0_1 c0_1] 33)) fun w7 =>
 ∃ yx_8 : Int, w7.cell? ((na w).add 0) = some (.int .i64 yx_8) ∧
 (∃ ya_9 : Option Addr, ∃ yn_9 : Nat, ∃ yc_9 : Nat, w7.cell? ((na w).add 1) = some (.slice ya_9 yn_9 yc_9) ∧
 (Go.E.CallsD Go.Proofs.Try.prog 56 #[.agg #[.int .i64 yx_8, .slice ya_9 yn_9 yc_9], .bool true] w7 fun yv10 u11 =>
 ∃ ya_12_0 : Option Addr, ∃ yn_12_0 : Nat, ∃ yc_12_0 : Nat, ∃ yx_12_1 : Int, yv10 = .tuple #[.slice ya_12_0 yn_12_0 yc_12_0, .int .i64 yx_12_1] ∧
 (R (.tuple #[.slice ya_12_0 yn_12_0 yc_12_0, .int .i64 yx_12_1]) u11)))
def thicketref07_Leaves (R : Value → World → Prop) (x0_0 : Int) (a0_1 : Option Addr) (n0_1 : Nat) (c0_1 : Nat) (w : World) : Prop := thicketref07_Leaves.g0 R x0_0 a0_1 n0_1 c0_1 w
theorem thicketref07_Leaves.root0 (R : Value → World → Prop) (x0_0 : Int) (a0_1 : Option Addr) (n0_1 : Nat) (c0_1 : Nat) (w : World) : fnN Go.Proofs.Try.prog Go.Proofs.Try.f30 thicketref07_Leaves.an #[.agg #[.int .i64 x0_0, .slice a0_1 n0_1 c0_1]] w R = thicketref07_Leaves.g0 R x0_0 a0_1 n0_1 c0_1 w := by kernel_rfl
theorem thicketref07_Leaves.calls {R : Value → World → Prop} {x0_0 : Int} {a0_1 : Option Addr} {n0_1 : Nat} {c0_1 : Nat} {w : World} (h : thicketref07_Leaves R x0_0 a0_1 n0_1 c0_1 w) : Go.E.CallsD Go.Proofs.Try.prog 30 #[.agg #[.int .i64 x0_0, .slice a0_1 n0_1 c0_1]] w R := by
  refine callsD_of (n := thicketref07_Leaves.an) M_follows M_sizes Go.Proofs.Try.func30 (by rfl) ?_
  rw [thicketref07_Leaves.root0]
  unfold thicketref07_Leaves at h
  exact h
-- thicket/thicketref07.Inner
def thicketref07_Inner.an : An := An.nil
def thicketref07_Inner.g0 (R : Value → World → Prop) (x0_0 : Int) (a0_1 : Option Addr) (n0_1 : Nat) (c0_1 : Nat) (w : World) : Prop :=
 nw (w.alloc (.cells #[.int .i64 x0_0, .slice a0_1 n0_1 c0_1] 33)) fun w7 =>
 ∃ yx_8 : Int, w7.cell? ((na w).add 0) = some (.int .i64 yx_8) ∧
 (∃ ya_9 : Option Addr, ∃ yn_9 : Nat, ∃ yc_9 : Nat, w7.cell? ((na w).add 1) = some (.slice ya_9 yn_9 yc_9) ∧
 (Go.E.CallsD Go.Proofs.Try.prog 56 #[.agg #[.int .i64 yx_8, .slice ya_9 yn_9 yc_9], .bool false] w7 fun yv10 u11 =>
 ∃ ya_12_0 : Option Addr, ∃ yn_12_0 : Nat, ∃ yc_12_0 : Nat, ∃ yx_12_1 : Int, yv10 = .tuple #[.slice ya_12_0 yn_12_0 yc_12_0, .int .i64 yx_12_1] ∧
 (R (.tuple #[.slice ya_12_0 yn_12_0 yc_12_0, .int .i64 yx_12_1]) u11)))
def thicketref07_Inner (R : Value → World → Prop) (x0_0 : Int) (a0_1 : Option Addr) (n0_1 : Nat) (c0_1 : Nat) (w : World) : Prop := thicketref07_Inner.g0 R x0_0 a0_1 n0_1 c0_1 w
theorem thicketref07_Inner.root0 (R : Value → World → Prop) (x0_0 : Int) (a0_1 : Option Addr) (n0_1 : Nat) (c0_1 : Nat) (w : World) : fnN Go.Proofs.Try.prog Go.Proofs.Try.f31 thicketref07_Inner.an #[.agg #[.int .i64 x0_0, .slice a0_1 n0_1 c0_1]] w R = thicketref07_Inner.g0 R x0_0 a0_1 n0_1 c0_1 w := by kernel_rfl
theorem thicketref07_Inner.calls {R : Value → World → Prop} {x0_0 : Int} {a0_1 : Option Addr} {n0_1 : Nat} {c0_1 : Nat} {w : World} (h : thicketref07_Inner R x0_0 a0_1 n0_1 c0_1 w) : Go.E.CallsD Go.Proofs.Try.prog 31 #[.agg #[.int .i64 x0_0, .slice a0_1 n0_1 c0_1]] w R := by
  refine callsD_of (n := thicketref07_Inner.an) M_follows M_sizes Go.Proofs.Try.func31 (by rfl) ?_
  rw [thicketref07_Inner.root0]
  unfold thicketref07_Inner at h
  exact h
-- thicket/thicketref07.Depth
def thicketref07_Depth.an : An := (.mk none .nil (.mk none .nil (.mk none .nil (.mk none .nil (.mk none .nil (.mk none (.mk none .nil (.mk none (.mk (some [1, 6, 7, 24, 25, 26]) .nil .nil) .nil)) .nil))))))
def thicketref07_Depth.g0 (R : Value → World → Prop) (e20 : (Option Addr) → (Option Addr) → Nat → Nat → Int → (Option Addr) → Nat → Nat → Int → Int → World → Prop) (x0_0 : Int) (a0_1 : Option Addr) (n0_1 : Nat) (c0_1 : Nat) (w : World) : Prop :=
 nw (w.alloc (.cells #[.int .i64 x0_0, .slice a0_1 n0_1 c0_1] 33)) fun w54 =>
 ∃ yx_55 : Int, w54.cell? ((na w).add 0) = some (.int .i64 yx_55) ∧
 (∃ ya_56 : Option Addr, ∃ yn_56 : Nat, ∃ yc_56 : Nat, w54.cell? ((na w).add 1) = some (.slice ya_56 yn_56 yc_56) ∧
 (Go.E.CallsD Go.Proofs.Try.prog 26 #[.agg #[.int .i64 yx_55, .slice ya_56 yn_56 yc_56]] w54 fun yv57 u58 =>
 ∃ yx_59_0 : Int, ∃ yx_59_1 : Int, yv57 = .tuple #[.int .i64 yx_59_0, .int .i64 yx_59_1] ∧
 (onBool (yx_59_0 != 0)
 (R (.tuple #[.int .i64 0, .int .i64 yx_59_0]) u58)
 (∃ ya_60 : Option Addr, ∃ yn_60 : Nat, ∃ yc_60 : Nat, u58.cell? ((na w).add 1) = some (.slice ya_60 yn_60 yc_60) ∧
 (chk ((0 : Int) ≤ (yn_60 : Int) ∧ (yn_60 : Int) ≤ (yn_60 : Int) ∧ ((8 : Nat) : Int) * (yn_60 : Int) ≤ 281474976710656 ∧ (yn_60 : Int) ≤ 9223372036854775807)
 (nw (u58.alloc (.cells (madeCells #[.int .i64 0] (((yn_60 : Int)).toNat * 1)) 3)) fun w61 =>
 ∃ yx_62 : Int, w61.cell? ((na w).add 0) = some (.int .i64 yx_62) ∧
 (∃ ya_63 : Option Addr, ∃ yn_63 : Nat, ∃ yc_63 : Nat, w61.cell? ((na w).add 1) = some (.slice ya_63 yn_63 yc_63) ∧
 (Go.E.CallsD Go.Proofs.Try.prog 57 #[.agg #[.int .i64 yx_62, .slice ya_63 yn_63 yc_63]] w61 fun yv64 u65 =>
 ∃ ya_66 : Option Addr, ∃ yn_66 : Nat, ∃ yc_66 : Nat, yv64 = .slice ya_66 yn_66 yc_66 ∧
 (e20 (some (na w)) (some (na u58)) (((yn_60 : Int)).toNat) (((yn_60 : Int)).toNat) 0 ya_66 yn_66 yc_66 (yn_66 : Int) 0 u65)))))))))
def thicketref07_Depth.g20 (R : Value → World → Prop) (b20 : (Option Addr) → (Option Addr) → Nat → Nat → Int → (Option Addr) → Nat → Nat → Int → Int → World → Prop) (p1 : Option Addr) (a6 : Option Addr) (n6 : Nat) (c6 : Nat) (x7 : Int) (a24 : Option Addr) (n24 : Nat) (c24 : Nat) (x25 : Int) (x26 : Int) (w : World) : Prop :=
 onBool (decide (x26 < x25))
 (optN a24 fun q67 =>
 chk ((0 : Int) ≤ x26 ∧ x26 < (n24 : Int))
 (∃ yx_68 : Int, w.cell? (q67.add (x26.toNat * 1)) = some (.int .i64 yx_68) ∧
 (optN p1 fun q69 =>
 ∃ ya_70 : Option Addr, ∃ yn_70 : Nat, ∃ yc_70 : Nat, w.cell? (q69.add 1) = some (.slice ya_70 yn_70 yc_70) ∧
 (optN ya_70 fun q71 =>
 chk ((0 : Int) ≤ yx_68 ∧ yx_68 < (yn_70 : Int))
 (∃ yx_72 : Int, w.cell? ((q71.add (yx_68.toNat * 8)).add 0) = some (.int .u8 yx_72) ∧
 (∃ yx_73 : Int, w.cell? ((q71.add (yx_68.toNat * 8)).add 1) = some (.int .i64 yx_73) ∧
 (∃ yx_74 : Int, w.cell? ((q71.add (yx_68.toNat * 8)).add 2) = some (.int .i64 yx_74) ∧
 (∃ yf_75 : Nat, w.cell? ((q71.add (yx_68.toNat * 8)).add 3) = some (.float .f64 yf_75) ∧
 (∃ ya_76 : Option Addr, ∃ yn_76 : Nat, ∃ yc_76 : Nat, w.cell? ((q71.add (yx_68.toNat * 8)).add 4) = some (.slice ya_76 yn_76 yc_76) ∧
 (∃ yx_77 : Int, w.cell? ((q71.add (yx_68.toNat * 8)).add 5) = some (.int .u8 yx_77) ∧
 (∃ yx_78 : Int, w.cell? ((q71.add (yx_68.toNat * 8)).add 6) = some (.int .i64 yx_78) ∧
 (∃ yx_79 : Int, w.cell? ((q71.add (yx_68.toNat * 8)).add 7) = some (.int .i64 yx_79) ∧
 (nw (w.alloc (.cells #[.int .u8 0, .int .i64 0, .int .i64 0, .float .f64 0, .slice none 0 0, .int .u8 0, .int .i64 0, .int .i64 0] 27)) fun w80 =>
 okSt w80 ((na w).add 0) ∧
 (nw (w80.setCell ((na w).add 0) (.int .u8 yx_72)) fun w81 =>
 okSt w81 ((na w).add 1) ∧
 (nw (w81.setCell ((na w).add 1) (.int .i64 yx_73)) fun w82 =>
 okSt w82 ((na w).add 2) ∧
 (nw (w82.setCell ((na w).add 2) (.int .i64 yx_74)) fun w83 =>
 okSt w83 ((na w).add 3) ∧
 (nw (w83.setCell ((na w).add 3) (.float .f64 yf_75)) fun w84 =>
 okSt w84 ((na w).add 4) ∧
 (nw (w84.setCell ((na w).add 4) (.slice ya_76 yn_76 yc_76)) fun w85 =>
 okSt w85 ((na w).add 5) ∧
 (nw (w85.setCell ((na w).add 5) (.int .u8 yx_77)) fun w86 =>
 okSt w86 ((na w).add 6) ∧
 (nw (w86.setCell ((na w).add 6) (.int .i64 yx_78)) fun w87 =>
 okSt w87 ((na w).add 7) ∧
 (nw (w87.setCell ((na w).add 7) (.int .i64 yx_79)) fun w88 =>
 ∃ yx_89 : Int, w88.cell? ((na w).add 0) = some (.int .u8 yx_89) ∧
 (onBool (yx_89 != 1)
 (∃ yx_90 : Int, w88.cell? ((na w).add 6) = some (.int .i64 yx_90) ∧
 (optN a6 fun q91 =>
 chk ((0 : Int) ≤ yx_68 ∧ yx_68 < (n6 : Int))
 (∃ yx_92 : Int, w88.cell? (q91.add (yx_68.toNat * 1)) = some (.int .i64 yx_92) ∧
 (nv (IntKind.i64.wrap (yx_92 + 1)) fun t93 =>
 optN a6 fun q94 =>
 chk ((0 : Int) ≤ yx_90 ∧ yx_90 < (n6 : Int))
 (okSt w88 ((q94.add (yx_90.toNat * 1)).add 0) ∧
 (nw (w88.setCell ((q94.add (yx_90.toNat * 1)).add 0) (.int .i64 t93)) fun w95 =>
 ∃ yx_96 : Int, w95.cell? ((na w).add 7) = some (.int .i64 yx_96) ∧
 (optN a6 fun q97 =>
 chk ((0 : Int) ≤ yx_68 ∧ yx_68 < (n6 : Int))
 (∃ yx_98 : Int, w95.cell? (q97.add (yx_68.toNat * 1)) = some (.int .i64 yx_98) ∧
 (nv (IntKind.i64.wrap (yx_98 + 1)) fun t99 =>
 optN a6 fun q100 =>
 chk ((0 : Int) ≤ yx_96 ∧ yx_96 < (n6 : Int))
 (okSt w95 ((q100.add (yx_96.toNat * 1)).add 0) ∧
 (nw (w95.setCell ((q100.add (yx_96.toNat * 1)).add 0) (.int .i64 t99)) fun w101 =>
 nv (IntKind.i64.wrap (x26 + 1)) fun t102 =>
 b20 p1 a6 n6 c6 x7 a24 n24 c24 x25 t102 w101)))))))))))
 (optN a6 fun q103 =>
 chk ((0 : Int) ≤ yx_68 ∧ yx_68 < (n6 : Int))
 (∃ yx_104 : Int, w88.cell? (q103.add (yx_68.toNat * 1)) = some (.int .i64 yx_104) ∧
 (onBool (decide (yx_104 > x7))
 (optN a6 fun q105 =>
 chk ((0 : Int) ≤ yx_68 ∧ yx_68 < (n6 : Int))
 (∃ yx_106 : Int, w88.cell? (q105.add (yx_68.toNat * 1)) = some (.int .i64 yx_106) ∧
 (nv (IntKind.i64.wrap (x26 + 1)) fun t107 =>
 b20 p1 a6 n6 c6 yx_106 a24 n24 c24 x25 t107 w88)))
 (nv (IntKind.i64.wrap (x26 + 1)) fun t108 =>
 b20 p1 a6 n6 c6 x7 a24 n24 c24 x25 t108 w88))))))))))))))))))))))))))
 (R (.tuple #[.int .i64 x7, .int .i64 0]) w)
def thicketref07_Depth.q2 (R : Value → World → Prop) : Exit → Act → World → Prop := (fin Go.Proofs.Try.prog Go.Proofs.Try.f32 R)
def thicketref07_Depth.q4 (R : Value → World → Prop) : Exit → Act → World → Prop := (thicketref07_Depth.q2 R)
def thicketref07_Depth.q12 (R : Value → World → Prop) : Exit → Act → World → Prop := (thicketref07_Depth.q4 R)
def thicketref07_Depth.q14 (R : Value → World → Prop) : Exit → Act → World → Prop := (thicketref07_Depth.q12 R)
def thicketref07_Depth.q16 (R : Value → World → Prop) : Exit → Act → World → Prop := (thicketref07_Depth.q14 R)
def thicketref07_Depth.q17 (R : Value → World → Prop) : Exit → Act → World → Prop := Exit.then (startN none (codeN Go.Proofs.Try.prog (sub (codeOf Go.Proofs.Try.f32) [1, 1, 1, 1, 1, 1]) (nsub thicketref07_Depth.an [1, 1, 1, 1, 1, 1]) (thicketref07_Depth.q16 R))) (thicketref07_Depth.q16 R)
def thicketref07_Depth.q19 (R : Value → World → Prop) : Exit → Act → World → Prop := (thicketref07_Depth.q17 R)
def thicketref07_Depth.q20 (R : Value → World → Prop) : Exit → Act → World → Prop := Exit.inBlock 0 (thicketref07_Depth.q19 R)
def thicketref07_Depth.rl20 (R : Value → World → Prop) (k : Nat) (p1 : Option Addr) (a6 : Option Addr) (n6 : Nat) (c6 : Nat) (x7 : Int) (a24 : Option Addr) (n24 : Nat) (c24 : Nat) (x25 : Int) (x26 : Int) (w : World) : Prop := loopN [1, 6, 7, 24, 25, 26] (codeN Go.Proofs.Try.prog (sub (codeOf Go.Proofs.Try.f32) [1, 1, 1, 1, 1, 0, 1, 0, 0]) (nsub thicketref07_Depth.an [1, 1, 1, 1, 1, 0, 1, 0, 0])) (thicketref07_Depth.q20 R) k ⟨#[undef, .pointer p1, undef, undef, undef, undef, .slice a6 n6 c6, .int .i64 x7, undef, undef, undef, undef, undef, undef, undef, undef, undef, undef, undef, undef, undef, undef, undef, undef, .slice a24 n24 c24, .int .i64 x25, .int .i64 x26, undef, undef, undef, undef, undef, undef, undef, undef, undef, undef, undef, undef, undef, undef, undef, undef, undef, undef, undef, undef, undef, undef, undef, undef, undef, undef, undef, undef, undef, undef, undef, undef, undef, undef, undef, undef, undef, undef, undef, undef, undef], []⟩ w
def thicketref07_Depth.re20 (R : Value → World → Prop) (p1 : Option Addr) (a6 : Option Addr) (n6 : Nat) (c6 : Nat) (x7 : Int) (a24 : Option Addr) (n24 : Nat) (c24 : Nat) (x25 : Int) (x26 : Int) (w : World) : Prop := ∃ k, thicketref07_Depth.rl20 R k p1 a6 n6 c6 x7 a24 n24 c24 x25 x26 w
def thicketref07_Depth.l20 (R : Value → World → Prop) : Nat → (Option Addr) → (Option Addr) → Nat → Nat → Int → (Option Addr) → Nat → Nat → Int → Int → World → Prop
  | 0, _, _, _, _, _, _, _, _, _, _, _ => False
  | k + 1, p1, a6, n6, c6, x7, a24, n24, c24, x25, x26, w => thicketref07_Depth.g20 R (thicketref07_Depth.l20 R k) p1 a6 n6 c6 x7 a24 n24 c24 x25 x26 w
def thicketref07_Depth.e20 (R : Value → World → Prop) (p1 : Option Addr) (a6 : Option Addr) (n6 : Nat) (c6 : Nat) (x7 : Int) (a24 : Option Addr) (n24 : Nat) (c24 : Nat) (x25 : Int) (x26 : Int) (w : World) : Prop := ∃ k, thicketref07_Depth.l20 R k p1 a6 n6 c6 x7 a24 n24 c24 x25 x26 w
theorem thicketref07_Depth.s20 (R : Value → World → Prop) (k : Nat) (p1 : Option Addr) (a6 : Option Addr) (n6 : Nat) (c6 : Nat) (x7 : Int) (a24 : Option Addr) (n24 : Nat) (c24 : Nat) (x25 : Int) (x26 : Int) (w : World) : thicketref07_Depth.rl20 R (k + 1) p1 a6 n6 c6 x7 a24 n24 c24 x25 x26 w = ∀ _ : Nat → Value, thicketref07_Depth.g20 R (thicketref07_Depth.rl20 R k) p1 a6 n6 c6 x7 a24 n24 c24 x25 x26 w := by kernel_rfl
theorem thicketref07_Depth.lq20 (R : Value → World → Prop) : ∀ k, thicketref07_Depth.l20 R k = thicketref07_Depth.rl20 R k
  | 0 => by funext p1 a6 n6 c6 x7 a24 n24 c24 x25 x26 w; first | rfl | kernel_rfl
  | k + 1 => by
    funext p1 a6 n6 c6 x7 a24 n24 c24 x25 x26 w
    rw [thicketref07_Depth.s20, forall_const]
    unfold thicketref07_Depth.l20
    have ih := thicketref07_Depth.lq20 R k
    rw [ih]
    all_goals rfl
theorem thicketref07_Depth.eq20 (R : Value → World → Prop) : thicketref07_Depth.e20 R = thicketref07_Depth.re20 R := by
  funext p1 a6 n6 c6 x7 a24 n24 c24 x25 x26 w
  unfold thicketref07_Depth.e20 thicketref07_Depth.re20
  simp only [thicketref07_Depth.lq20 R]
def thicketref07_Depth (R : Value → World → Prop) (x0_0 : Int) (a0_1 : Option Addr) (n0_1 : Nat) (c0_1 : Nat) (w : World) : Prop := thicketref07_Depth.g0 R (thicketref07_Depth.e20 R) x0_0 a0_1 n0_1 c0_1 w
theorem thicketref07_Depth.root0 (R : Value → World → Prop) (x0_0 : Int) (a0_1 : Option Addr) (n0_1 : Nat) (c0_1 : Nat) (w : World) : fnN Go.Proofs.Try.prog Go.Proofs.Try.f32 thicketref07_Depth.an #[.agg #[.int .i64 x0_0, .slice a0_1 n0_1 c0_1]] w R = thicketref07_Depth.g0 R (thicketref07_Depth.re20 R) x0_0 a0_1 n0_1 c0_1 w := by kernel_rfl
theorem thicketref07_Depth.calls {R : Value → World → Prop} {x0_0 : Int} {a0_1 : Option Addr} {n0_1 : Nat} {c0_1 : Nat} {w : World} (h : thicketref07_Depth R x0_0 a0_1 n0_1 c0_1 w) : Go.E.CallsD Go.Proofs.Try.prog 32 #[.agg #[.int .i64 x0_0, .slice a0_1 n0_1 c0_1]] w R := by
  refine callsD_of (n := thicketref07_Depth.an) M_follows M_sizes Go.Proofs.Try.func32 (by rfl) ?_
  rw [thicketref07_Depth.root0]
  unfold thicketref07_Depth at h
  rw [thicketref07_Depth.eq20 R] at h
  exact h
-- thicket/trees.all
def trees_all.an : An := An.nil
def trees_all.g0 (R : Value → World → Prop) (x0_0 : Int) (a0_1 : Option Addr) (n0_1 : Nat) (c0_1 : Nat) (w : World) : Prop :=
 nw (w.alloc (.cells #[.int .i64 x0_0, .slice a0_1 n0_1 c0_1] 33)) fun w2 =>
 R (.func (.func 70) #[] #[.pointer (some (na w))]) w2
def trees_all (R : Value → World → Prop) (x0_0 : Int) (a0_1 : Option Addr) (n0_1 : Nat) (c0_1 : Nat) (w : World) : Prop := trees_all.g0 R x0_0 a0_1 n0_1 c0_1 w
theorem trees_all.root0 (R : Value → World → Prop) (x0_0 : Int) (a0_1 : Option Addr) (n0_1 : Nat) (c0_1 : Nat) (w : World) : fnN Go.Proofs.Try.prog Go.Proofs.Try.f55 trees_all.an #[.agg #[.int .i64 x0_0, .slice a0_1 n0_1 c0_1]] w R = trees_all.g0 R x0_0 a0_1 n0_1 c0_1 w := by kernel_rfl
theorem trees_all.calls {R : Value → World → Prop} {x0_0 : Int} {a0_1 : Option Addr} {n0_1 : Nat} {c0_1 : Nat} {w : World} (h : trees_all R x0_0 a0_1 n0_1 c0_1 w) : Go.E.CallsD Go.Proofs.Try.prog 55 #[.agg #[.int .i64 x0_0, .slice a0_1 n0_1 c0_1]] w R := by
  refine callsD_of (n := trees_all.an) M_follows M_sizes Go.Proofs.Try.func55 (by rfl) ?_
  rw [trees_all.root0]
  unfold trees_all at h
  exact h
-- thicket/trees.all$1
def trees_all_1.an : An := (.mk none .nil (.mk none (.mk (some [0, 1, 3]) .nil .nil) .nil))
def trees_all_1.g0 (R : Value → World → Prop) (e3 : Nat → Addr → (Option Addr) → Nat → Nat → World → Prop) (l0 : Nat) (p1 : Addr) (w : World) : Prop :=
 nw (w.alloc (.cells #[.int .i64 0, .int .i64 0] 103)) fun w56 =>
 e3 l0 p1 (some (na w)) 1 1 w56
def trees_all_1.g3 (R : Value → World → Prop) (b3 : Nat → Addr → (Option Addr) → Nat → Nat → World → Prop) (l0 : Nat) (p1 : Addr) (a3 : Option Addr) (n3 : Nat) (c3 : Nat) (w : World) : Prop :=
 onBool (decide ((n3 : Int) > 0))
 (nv (IntKind.i64.wrap ((n3 : Int) - 1)) fun t57 =>
 optN a3 fun q58 =>
 chk ((0 : Int) ≤ t57 ∧ t57 < (n3 : Int))
 (∃ yx_59 : Int, w.cell? ((q58.add (t57.toNat * 2)).add 0) = some (.int .i64 yx_59) ∧
 (∃ yx_60 : Int, w.cell? ((q58.add (t57.toNat * 2)).add 1) = some (.int .i64 yx_60) ∧
 (nw (w.alloc (.cells #[.int .i64 0, .int .i64 0] 103)) fun w61 =>
 okSt w61 ((na w).add 0) ∧
 (nw (w61.setCell ((na w).add 0) (.int .i64 yx_59)) fun w62 =>
 okSt w62 ((na w).add 1) ∧
 (nw (w62.setCell ((na w).add 1) (.int .i64 yx_60)) fun w63 =>
 nv (IntKind.i64.wrap ((n3 : Int) - 1)) fun t64 =>
 chk ((0 : Int) ≤ t64 ∧ t64 ≤ (c3 : Int))
 (∃ yx_65 : Int, w63.cell? ((na w).add 0) = some (.int .i64 yx_65) ∧
 (∃ yx_66 : Int, w63.cell? ((na w).add 1) = some (.int .i64 yx_66) ∧
 (YieldD Go.Proofs.Try.prog l0 #[.int .i64 yx_65, .int .i64 yx_66] w63 fun yv67 u68 =>
 ∃ yb_69 : Bool, yv67 = .bool yb_69 ∧
 (onBool (!yb_69)
 (R (.tuple #[]) u68)
 (∃ ya_70 : Option Addr, ∃ yn_70 : Nat, ∃ yc_70 : Nat, u68.cell? (p1.add 1) = some (.slice ya_70 yn_70 yc_70) ∧
 (∃ yx_71 : Int, u68.cell? ((na w).add 0) = some (.int .i64 yx_71) ∧
 (optN ya_70 fun q72 =>
 chk ((0 : Int) ≤ yx_71 ∧ yx_71 < (yn_70 : Int))
 (∃ yx_73 : Int, u68.cell? ((q72.add (yx_71.toNat * 8)).add 0) = some (.int .u8 yx_73) ∧
 (∃ yx_74 : Int, u68.cell? ((q72.add (yx_71.toNat * 8)).add 1) = some (.int .i64 yx_74) ∧
 (∃ yx_75 : Int, u68.cell? ((q72.add (yx_71.toNat * 8)).add 2) = some (.int .i64 yx_75) ∧
 (∃ yf_76 : Nat, u68.cell? ((q72.add (yx_71.toNat * 8)).add 3) = some (.float .f64 yf_76) ∧
 (∃ ya_77 : Option Addr, ∃ yn_77 : Nat, ∃ yc_77 : Nat, u68.cell? ((q72.add (yx_71.toNat * 8)).add 4) = some (.slice ya_77 yn_77 yc_77) ∧
 (∃ yx_78 : Int, u68.cell? ((q72.add (yx_71.toNat * 8)).add 5) = some (.int .u8 yx_78) ∧
 (∃ yx_79 : Int, u68.cell? ((q72.add (yx_71.toNat * 8)).add 6) = some (.int .i64 yx_79) ∧
 (∃ yx_80 : Int, u68.cell? ((q72.add (yx_71.toNat * 8)).add 7) = some (.int .i64 yx_80) ∧
 (nw (u68.alloc (.cells #[.int .u8 0, .int .i64 0, .int .i64 0, .float .f64 0, .slice none 0 0, .int .u8 0, .int .i64 0, .int .i64 0] 27)) fun w81 =>
 okSt w81 ((na u68).add 0) ∧
 (nw (w81.setCell ((na u68).add 0) (.int .u8 yx_73)) fun w82 =>
 okSt w82 ((na u68).add 1) ∧
 (nw (w82.setCell ((na u68).add 1) (.int .i64 yx_74)) fun w83 =>
 okSt w83 ((na u68).add 2) ∧
 (nw (w83.setCell ((na u68).add 2) (.int .i64 yx_75)) fun w84 =>
 okSt w84 ((na u68).add 3) ∧
 (nw (w84.setCell ((na u68).add 3) (.float .f64 yf_76)) fun w85 =>
 okSt w85 ((na u68).add 4) ∧
 (nw (w85.setCell ((na u68).add 4) (.slice ya_77 yn_77 yc_77)) fun w86 =>
 okSt w86 ((na u68).add 5) ∧
 (nw (w86.setCell ((na u68).add 5) (.int .u8 yx_78)) fun w87 =>
 okSt w87 ((na u68).add 6) ∧
 (nw (w87.setCell ((na u68).add 6) (.int .i64 yx_79)) fun w88 =>
 okSt w88 ((na u68).add 7) ∧
 (nw (w88.setCell ((na u68).add 7) (.int .i64 yx_80)) fun w89 =>
 ∃ yx_90 : Int, w89.cell? ((na u68).add 0) = some (.int .u8 yx_90) ∧
 (∃ yx_91 : Int, w89.cell? ((na u68).add 1) = some (.int .i64 yx_91) ∧
 (∃ yx_92 : Int, w89.cell? ((na u68).add 2) = some (.int .i64 yx_92) ∧
 (∃ yf_93 : Nat, w89.cell? ((na u68).add 3) = some (.float .f64 yf_93) ∧
 (∃ ya_94 : Option Addr, ∃ yn_94 : Nat, ∃ yc_94 : Nat, w89.cell? ((na u68).add 4) = some (.slice ya_94 yn_94 yc_94) ∧
 (∃ yx_95 : Int, w89.cell? ((na u68).add 5) = some (.int .u8 yx_95) ∧
 (∃ yx_96 : Int, w89.cell? ((na u68).add 6) = some (.int .i64 yx_96) ∧
 (∃ yx_97 : Int, w89.cell? ((na u68).add 7) = some (.int .i64 yx_97) ∧
 (Go.E.CallsD Go.Proofs.Try.prog 47 #[.agg #[.int .u8 yx_90, .int .i64 yx_91, .int .i64 yx_92, .float .f64 yf_93, .slice ya_94 yn_94 yc_94, .int .u8 yx_95, .int .i64 yx_96, .int .i64 yx_97]] w89 fun yv98 u99 =>
 ∃ yb_100 : Bool, yv98 = .bool yb_100 ∧
 (onBool yb_100
 (∃ yx_101 : Int, u99.cell? ((na u68).add 7) = some (.int .i64 yx_101) ∧
 (∃ yx_102 : Int, u99.cell? ((na w).add 1) = some (.int .i64 yx_102) ∧
 (nv (IntKind.i64.wrap (yx_102 + 1)) fun t103 =>
 ∃ yx_104 : Int, u99.cell? ((na u68).add 6) = some (.int .i64 yx_104) ∧
 (∃ yx_105 : Int, u99.cell? ((na w).add 1) = some (.int .i64 yx_105) ∧
 (nv (IntKind.i64.wrap (yx_105 + 1)) fun t106 =>
 nw (u99.alloc (.cells #[.int .i64 yx_101, .int .i64 t103, .int .i64 yx_104, .int .i64 t106] 103)) fun w107 =>
 rawN Go.Proofs.Try.prog (Builtin.append_ #[104, 104] 104 #[.slice (slA a3 c3 0 2) t64.toNat c3, .slice (some (na u99)) 2 2]) w107 fun yv108 u109 =>
 ∃ ya_110 : Option Addr, ∃ yn_110 : Nat, ∃ yc_110 : Nat, yv108 = .slice ya_110 yn_110 yc_110 ∧
 (b3 l0 p1 ya_110 yn_110 yc_110 u109))))))
 (b3 l0 p1 (slA a3 c3 0 2) t64.toNat c3 u99))))))))))))))))))))))))))))))))))))))))
 (R (.tuple #[]) w)
def trees_all_1.q2 (R : Value → World → Prop) : Exit → Act → World → Prop := (fin Go.Proofs.Try.prog Go.Proofs.Try.f70 R)
def trees_all_1.q3 (R : Value → World → Prop) : Exit → Act → World → Prop := Exit.inBlock 0 (trees_all_1.q2 R)
def trees_all_1.rl3 (R : Value → World → Prop) (k : Nat) (l0 : Nat) (p1 : Addr) (a3 : Option Addr) (n3 : Nat) (c3 : Nat) (w : World) : Prop := loopN [0, 1, 3] (codeN Go.Proofs.Try.prog (sub (codeOf Go.Proofs.Try.f70) [1, 0, 0]) (nsub trees_all_1.an [1, 0, 0])) (trees_all_1.q3 R) k ⟨#[.func (.yield l0) #[] #[], .pointer (some p1), undef, .slice a3 n3 c3, undef, undef, undef, undef, undef, undef, undef, undef, undef, undef, undef, undef, undef, undef, undef, undef, undef, undef, undef, undef, undef, undef, undef, undef, undef, undef, undef, undef, undef, undef, undef, undef, undef, undef, undef, undef, undef, undef, undef, undef, undef, undef, undef, undef, undef, undef, undef, undef], []⟩ w
def trees_all_1.re3 (R : Value → World → Prop) (l0 : Nat) (p1 : Addr) (a3 : Option Addr) (n3 : Nat) (c3 : Nat) (w : World) : Prop := ∃ k, trees_all_1.rl3 R k l0 p1 a3 n3 c3 w
def trees_all_1.l3 (R : Value → World → Prop) : Nat → Nat → Addr → (Option Addr) → Nat → Nat → World → Prop
  | 0, _, _, _, _, _, _ => False
  | k + 1, l0, p1, a3, n3, c3, w => trees_all_1.g3 R (trees_all_1.l3 R k) l0 p1 a3 n3 c3 w
def trees_all_1.e3 (R : Value → World → Prop) (l0 : Nat) (p1 : Addr) (a3 : Option Addr) (n3 : Nat) (c3 : Nat) (w : World) : Prop := ∃ k, trees_all_1.l3 R k l0 p1 a3 n3 c3 w
theorem trees_all_1.s3 (R : Value → World → Prop) (k : Nat) (l0 : Nat) (p1 : Addr) (a3 : Option Addr) (n3 : Nat) (c3 : Nat) (w : World) : trees_all_1.rl3 R (k + 1) l0 p1 a3 n3 c3 w = ∀ _ : Nat → Value, trees_all_1.g3 R (trees_all_1.rl3 R k) l0 p1 a3 n3 c3 w := by kernel_rfl
theorem trees_all_1.lq3 (R : Value → World → Prop) : ∀ k, trees_all_1.l3 R k = trees_all_1.rl3 R k
  | 0 => by funext l0 p1 a3 n3 c3 w; first | rfl | kernel_rfl
  | k + 1 => by
    funext l0 p1 a3 n3 c3 w
    rw [trees_all_1.s3, forall_const]
    unfold trees_all_1.l3
    have ih := trees_all_1.lq3 R k
    rw [ih]
    all_goals rfl
theorem trees_all_1.eq3 (R : Value → World → Prop) : trees_all_1.e3 R = trees_all_1.re3 R := by
  funext l0 p1 a3 n3 c3 w
  unfold trees_all_1.e3 trees_all_1.re3
  simp only [trees_all_1.lq3 R]
def trees_all_1 (R : Value → World → Prop) (l0 : Nat) (p1 : Addr) (w : World) : Prop := trees_all_1.g0 R (trees_all_1.e3 R) l0 p1 w
theorem trees_all_1.root0 (R : Value → World → Prop) (l0 : Nat) (p1 : Addr) (w : World) : fnN Go.Proofs.Try.prog Go.Proofs.Try.f70 trees_all_1.an #[.func (.yield l0) #[] #[], .pointer (some p1)] w R = trees_all_1.g0 R (trees_all_1.re3 R) l0 p1 w := by kernel_rfl
theorem trees_all_1.calls {R : Value → World → Prop} {l0 : Nat} {p1 : Addr} {w : World} (h : trees_all_1 R l0 p1 w) : Go.E.CallsD Go.Proofs.Try.prog 70 #[.func (.yield l0) #[] #[], .pointer (some p1)] w R := by
  refine callsD_of (n := trees_all_1.an) M_follows M_sizes Go.Proofs.Try.func70 (by rfl) ?_
  rw [trees_all_1.root0]
  unfold trees_all_1 at h
  rw [trees_all_1.eq3 R] at h
  exact h
-- thicket/trees.those
def trees_those.an : An := An.nil
def trees_those.g0 (R : Value → World → Prop) (x0_0 : Int) (a0_1 : Option Addr) (n0_1 : Nat) (c0_1 : Nat) (b1 : Bool) (w : World) : Prop :=
 nw (w.alloc (.cells #[.int .i64 x0_0, .slice a0_1 n0_1 c0_1] 33)) fun w44 =>
 nw (w44.alloc (.cells #[.bool b1] 4)) fun w45 =>
 ∃ yx_46 : Int, w45.cell? ((na w).add 0) = some (.int .i64 yx_46) ∧
 (∃ ya_47 : Option Addr, ∃ yn_47 : Nat, ∃ yc_47 : Nat, w45.cell? ((na w).add 1) = some (.slice ya_47 yn_47 yc_47) ∧
 (Go.E.CallsD Go.Proofs.Try.prog 25 #[.agg #[.int .i64 yx_46, .slice ya_47 yn_47 yc_47]] w45 fun yv48 u49 =>
 ∃ yx_50_0 : Int, ∃ yx_50_1 : Int, yv48 = .tuple #[.int .i64 yx_50_0, .int .i64 yx_50_1] ∧
 (onBool (yx_50_0 != 0)
 (R (.tuple #[.slice none 0 0, .int .i64 yx_50_0]) u49)
 (nw (u49.alloc (.cells #[.slice none 0 0] 24)) fun w51 =>
 ∃ yx_52 : Int, w51.cell? ((na w).add 0) = some (.int .i64 yx_52) ∧
 (∃ ya_53 : Option Addr, ∃ yn_53 : Nat, ∃ yc_53 : Nat, w51.cell? ((na w).add 1) = some (.slice ya_53 yn_53 yc_53) ∧
 (Go.E.CallsD Go.Proofs.Try.prog 55 #[.agg #[.int .i64 yx_52, .slice ya_53 yn_53 yc_53]] w51 fun yv54 u55 =>
 ∃ yv_56 : Value, yv54 = yv_56 ∧
 (rangeI Go.Proofs.Try.prog yv_56 u55
 (fun x57 x58 u60 K59 =>
 ∃ ya_63 : Option Addr, ∃ yn_63 : Nat, ∃ yc_63 : Nat, u60.cell? ((na w).add 1) = some (.slice ya_63 yn_63 yc_63) ∧
 (optN ya_63 fun q64 =>
 chk ((0 : Int) ≤ x57 ∧ x57 < (yn_63 : Int))
 (∃ yx_65 : Int, u60.cell? ((q64.add (x57.toNat * 8)).add 0) = some (.int .u8 yx_65) ∧
 (∃ yx_66 : Int, u60.cell? ((q64.add (x57.toNat * 8)).add 1) = some (.int .i64 yx_66) ∧
 (∃ yx_67 : Int, u60.cell? ((q64.add (x57.toNat * 8)).add 2) = some (.int .i64 yx_67) ∧
 (∃ yf_68 : Nat, u60.cell? ((q64.add (x57.toNat * 8)).add 3) = some (.float .f64 yf_68) ∧
 (∃ ya_69 : Option Addr, ∃ yn_69 : Nat, ∃ yc_69 : Nat, u60.cell? ((q64.add (x57.toNat * 8)).add 4) = some (.slice ya_69 yn_69 yc_69) ∧
 (∃ yx_70 : Int, u60.cell? ((q64.add (x57.toNat * 8)).add 5) = some (.int .u8 yx_70) ∧
 (∃ yx_71 : Int, u60.cell? ((q64.add (x57.toNat * 8)).add 6) = some (.int .i64 yx_71) ∧
 (∃ yx_72 : Int, u60.cell? ((q64.add (x57.toNat * 8)).add 7) = some (.int .i64 yx_72) ∧
 (∃ yb_73 : Bool, (∀ u74 : World, Below u60.heap.size u60 u74 → Go.E.CallsD Go.Proofs.Try.prog 47 #[.agg #[.int .u8 yx_65, .int .i64 yx_66, .int .i64 yx_67, .float .f64 yf_68, .slice ya_69 yn_69 yc_69, .int .u8 yx_70, .int .i64 yx_71, .int .i64 yx_72]] u74 fun yv75 u76 => yv75 = .bool yb_73 ∧ Below u60.heap.size u60 u76) ∧
 (∃ yb_77 : Bool, u60.cell? (na w44) = some (.bool yb_77) ∧
 (∀ u78 : World, Below u60.heap.size u60 u78 →
 onBool (yb_73 == yb_77)
 (∃ ya_79 : Option Addr, ∃ yn_79 : Nat, ∃ yc_79 : Nat, u78.cell? (na u49) = some (.slice ya_79 yn_79 yc_79) ∧
 (nw (u78.alloc (.cells #[.int .i64 x57] 3)) fun w80 =>
 rawN Go.Proofs.Try.prog (Builtin.append_ #[24, 24] 24 #[.slice ya_79 yn_79 yc_79, .slice (some (na u78)) 1 1]) w80 fun yv81 u82 =>
 ∃ ya_83 : Option Addr, ∃ yn_83 : Nat, ∃ yc_83 : Nat, yv81 = .slice ya_83 yn_83 yc_83 ∧
 (okSt u82 ((na u49).add 0) ∧
 (nw (u82.setCell ((na u49).add 0) (.slice ya_83 yn_83 yc_83)) fun w84 =>
 K59 w84))))
 (K59 u78))))))))))))))
 (fun D61 u62 =>
 ∃ ya_85 : Option Addr, ∃ yn_85 : Nat, ∃ yc_85 : Nat, u62.cell? (na u49) = some (.slice ya_85 yn_85 yc_85) ∧
 (u62.heap[D61]? = some (.deferred (some [])) ∧
 nw (u62.putObj D61 (.deferred none)) fun w86 =>
 R (.tuple #[.slice ya_85 yn_85 yc_85, .int .i64 0]) w86)))))))))
def trees_those (R : Value → World → Prop) (x0_0 : Int) (a0_1 : Option Addr) (n0_1 : Nat) (c0_1 : Nat) (b1 : Bool) (w : World) : Prop := trees_those.g0 R x0_0 a0_1 n0_1 c0_1 b1 w
theorem trees_those.root0 (R : Value → World → Prop) (x0_0 : Int) (a0_1 : Option Addr) (n0_1 : Nat) (c0_1 : Nat) (b1 : Bool) (w : World) : fnN Go.Proofs.Try.prog Go.Proofs.Try.f54 trees_those.an #[.agg #[.int .i64 x0_0, .slice a0_1 n0_1 c0_1], .bool b1] w R = trees_those.g0 R x0_0 a0_1 n0_1 c0_1 b1 w := by kernel_rfl
theorem trees_those.calls {R : Value → World → Prop} {x0_0 : Int} {a0_1 : Option Addr} {n0_1 : Nat} {c0_1 : Nat} {b1 : Bool} {w : World} (h : trees_those R x0_0 a0_1 n0_1 c0_1 b1 w) : Go.E.CallsD Go.Proofs.Try.prog 54 #[.agg #[.int .i64 x0_0, .slice a0_1 n0_1 c0_1], .bool b1] w R := by
  refine callsD_of (n := trees_those.an) M_follows M_sizes Go.Proofs.Try.func54 (by rfl) ?_
  rw [trees_those.root0]
  unfold trees_those at h
  exact h
-- thicket/trees.Leaves
def trees_Leaves.an : An := An.nil
def trees_Leaves.g0 (R : Value → World → Prop) (x0_0 : Int) (a0_1 : Option Addr) (n0_1 : Nat) (c0_1 : Nat) (w : World) : Prop :=
 nw (w.alloc (.cells #[.int .i64 x0_0, .slice a0_1 n0_1 c0_1] 33)) fun w7 =>
 ∃ yx_8 : Int, w7.cell? ((na w).add 0) = some (.int .i64 yx_8) ∧
 (∃ ya_9 : Option Addr, ∃ yn_9 : Nat, ∃ yc_9 : Nat, w7.cell? ((na w).add 1) = some (.slice ya_9 yn_9 yc_9) ∧
 (Go.E.CallsD Go.Proofs.Try.prog 54 #[.agg #[.int .i64 yx_8, .slice ya_9 yn_9 yc_9], .bool false] w7 fun yv10 u11 =>
 ∃ ya_12_0 : Option Addr, ∃ yn_12_0 : Nat, ∃ yc_12_0 : Nat, ∃ yx_12_1 : Int, yv10 = .tuple #[.slice ya_12_0 yn_12_0 yc_12_0, .int .i64 yx_12_1] ∧
 (R (.tuple #[.slice ya_12_0 yn_12_0 yc_12_0, .int .i64 yx_12_1]) u11)))
def trees_Leaves (R : Value → World → Prop) (x0_0 : Int) (a0_1 : Option Addr) (n0_1 : Nat) (c0_1 : Nat) (w : World) : Prop := trees_Leaves.g0 R x0_0 a0_1 n0_1 c0_1 w
theorem trees_Leaves.root0 (R : Value → World → Prop) (x0_0 : Int) (a0_1 : Option Addr) (n0_1 : Nat) (c0_1 : Nat) (w : World) : fnN Go.Proofs.Try.prog Go.Proofs.Try.f27 trees_Leaves.an #[.agg #[.int .i64 x0_0, .slice a0_1 n0_1 c0_1]] w R = trees_Leaves.g0 R x0_0 a0_1 n0_1 c0_1 w := by kernel_rfl
theorem trees_Leaves.calls {R : Value → World → Prop} {x0_0 : Int} {a0_1 : Option Addr} {n0_1 : Nat} {c0_1 : Nat} {w : World} (h : trees_Leaves R x0_0 a0_1 n0_1 c0_1 w) : Go.E.CallsD Go.Proofs.Try.prog 27 #[.agg #[.int .i64 x0_0, .slice a0_1 n0_1 c0_1]] w R := by
  refine callsD_of (n := trees_Leaves.an) M_follows M_sizes Go.Proofs.Try.func27 (by rfl) ?_
  rw [trees_Leaves.root0]
  unfold trees_Leaves at h
  exact h
-- thicket/trees.Inner
def trees_Inner.an : An := An.nil
def trees_Inner.g0 (R : Value → World → Prop) (x0_0 : Int) (a0_1 : Option Addr) (n0_1 : Nat) (c0_1 : Nat) (w : World) : Prop :=
 nw (w.alloc (.cells #[.int .i64 x0_0, .slice a0_1 n0_1 c0_1] 33)) fun w7 =>
 ∃ yx_8 : Int, w7.cell? ((na w).add 0) = some (.int .i64 yx_8) ∧
 (∃ ya_9 : Option Addr, ∃ yn_9 : Nat, ∃ yc_9 : Nat, w7.cell? ((na w).add 1) = some (.slice ya_9 yn_9 yc_9) ∧
 (Go.E.CallsD Go.Proofs.Try.prog 54 #[.agg #[.int .i64 yx_8, .slice ya_9 yn_9 yc_9], .bool true] w7 fun yv10 u11 =>
 ∃ ya_12_0 : Option Addr, ∃ yn_12_0 : Nat, ∃ yc_12_0 : Nat, ∃ yx_12_1 : Int, yv10 = .tuple #[.slice ya_12_0 yn_12_0 yc_12_0, .int .i64 yx_12_1] ∧
 (R (.tuple #[.slice ya_12_0 yn_12_0 yc_12_0, .int .i64 yx_12_1]) u11)))
def trees_Inner (R : Value → World → Prop) (x0_0 : Int) (a0_1 : Option Addr) (n0_1 : Nat) (c0_1 : Nat) (w : World) : Prop := trees_Inner.g0 R x0_0 a0_1 n0_1 c0_1 w
theorem trees_Inner.root0 (R : Value → World → Prop) (x0_0 : Int) (a0_1 : Option Addr) (n0_1 : Nat) (c0_1 : Nat) (w : World) : fnN Go.Proofs.Try.prog Go.Proofs.Try.f28 trees_Inner.an #[.agg #[.int .i64 x0_0, .slice a0_1 n0_1 c0_1]] w R = trees_Inner.g0 R x0_0 a0_1 n0_1 c0_1 w := by kernel_rfl
theorem trees_Inner.calls {R : Value → World → Prop} {x0_0 : Int} {a0_1 : Option Addr} {n0_1 : Nat} {c0_1 : Nat} {w : World} (h : trees_Inner R x0_0 a0_1 n0_1 c0_1 w) : Go.E.CallsD Go.Proofs.Try.prog 28 #[.agg #[.int .i64 x0_0, .slice a0_1 n0_1 c0_1]] w R := by
  refine callsD_of (n := trees_Inner.an) M_follows M_sizes Go.Proofs.Try.func28 (by rfl) ?_
  rw [trees_Inner.root0]
  unfold trees_Inner at h
  exact h
end Go.Mir
