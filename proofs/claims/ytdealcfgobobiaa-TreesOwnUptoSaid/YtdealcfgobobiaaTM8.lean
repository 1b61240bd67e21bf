/- Part of a proof of laws of the seat Ytdealcfgobobiaa: functions' weakest preconditions, each checked by the kernel, contracts out of them, plain lemmas; no conditions. -/
import Derived.Test.YtdealcfgobobiaaTM0
set_option linter.unusedVariables false
set_option linter.unusedSimpArgs false
set_option linter.unusedVariables false
set_option maxRecDepth 100000
namespace Go.Mir
open Go Go.E Go.RowKit
-- thicket/thicketref07.Cats
def thicketref07_Cats.an : An := (.mk none .nil (.mk none (.mk none .nil (.mk none (.mk (some [0, 5, 6, 7]) .nil .nil) .nil)) .nil))
def thicketref07_Cats.g0 (R : Value → World → Prop) (e6 : (Option Addr) → Nat → Nat → (Option Addr) → Nat → Nat → Int → Int → World → Prop) (a0 : Option Addr) (n0 : Nat) (c0 : Nat) (w : World) : Prop :=
 e6 a0 n0 c0 a0 n0 c0 (n0 : Int) 0 w
def thicketref07_Cats.g6 (R : Value → World → Prop) (b6 : (Option Addr) → Nat → Nat → (Option Addr) → Nat → Nat → Int → Int → World → Prop) (a0 : Option Addr) (n0 : Nat) (c0 : Nat) (a5 : Option Addr) (n5 : Nat) (c5 : Nat) (x6 : Int) (x7 : Int) (w : World) : Prop :=
 onBool (decide (x7 < x6))
 (optN a5 fun q6 =>
 chk ((0 : Int) ≤ x7 ∧ x7 < (n5 : Int))
 (∃ yx_7 : Int, w.cell? (q6.add (x7.toNat * 1)) = some (.int .i64 yx_7) ∧
 (onBool (decide (yx_7 < 0))
 (R (.bool false) w)
 (onBool (decide (yx_7 ≥ 1024))
 (R (.bool false) w)
 (onBool (decide (x7 > 0))
 (nv (IntKind.i64.wrap (x7 - 1)) fun t8 =>
 optN a0 fun q9 =>
 chk ((0 : Int) ≤ t8 ∧ t8 < (n0 : Int))
 (∃ yx_10 : Int, w.cell? (q9.add (t8.toNat * 1)) = some (.int .i64 yx_10) ∧
 (onBool (decide (yx_7 ≤ yx_10))
 (R (.bool false) w)
 (nv (IntKind.i64.wrap (x7 + 1)) fun t11 =>
 b6 a0 n0 c0 a5 n5 c5 x6 t11 w))))
 (nv (IntKind.i64.wrap (x7 + 1)) fun t12 =>
 b6 a0 n0 c0 a5 n5 c5 x6 t12 w))))))
 (R (.bool (decide ((n0 : Int) > 0))) w)
def thicketref07_Cats.q2 (R : Value → World → Prop) : Exit → Act → World → Prop := (fin Go.Proofs.Try.prog Go.Proofs.Try.f69 R)
def thicketref07_Cats.q3 (R : Value → World → Prop) : Exit → Act → World → Prop := Exit.then (startN none (codeN Go.Proofs.Try.prog (sub (codeOf Go.Proofs.Try.f69) [1, 1]) (nsub thicketref07_Cats.an [1, 1]) (thicketref07_Cats.q2 R))) (thicketref07_Cats.q2 R)
def thicketref07_Cats.q5 (R : Value → World → Prop) : Exit → Act → World → Prop := (thicketref07_Cats.q3 R)
def thicketref07_Cats.q6 (R : Value → World → Prop) : Exit → Act → World → Prop := Exit.inBlock 0 (thicketref07_Cats.q5 R)
def thicketref07_Cats.rl6 (R : Value → World → Prop) (k : Nat) (a0 : Option Addr) (n0 : Nat) (c0 : Nat) (a5 : Option Addr) (n5 : Nat) (c5 : Nat) (x6 : Int) (x7 : Int) (w : World) : Prop := loopN [0, 5, 6, 7] (codeN Go.Proofs.Try.prog (sub (codeOf Go.Proofs.Try.f69) [1, 0, 1, 0, 0]) (nsub thicketref07_Cats.an [1, 0, 1, 0, 0])) (thicketref07_Cats.q6 R) k ⟨#[.slice a0 n0 c0, undef, undef, undef, undef, .slice a5 n5 c5, .int .i64 x6, .int .i64 x7, undef, undef, undef, undef, undef, undef, undef, undef, undef, undef, undef, undef, undef, undef, undef, undef, undef, undef, undef, undef, undef, undef, undef, undef, undef, undef, undef], []⟩ w
def thicketref07_Cats.re6 (R : Value → World → Prop) (a0 : Option Addr) (n0 : Nat) (c0 : Nat) (a5 : Option Addr) (n5 : Nat) (c5 : Nat) (x6 : Int) (x7 : Int) (w : World) : Prop := ∃ k, thicketref07_Cats.rl6 R k a0 n0 c0 a5 n5 c5 x6 x7 w
def thicketref07_Cats.l6 (R : Value → World → Prop) : Nat → (Option Addr) → Nat → Nat → (Option Addr) → Nat → Nat → Int → Int → World → Prop
  | 0, _, _, _, _, _, _, _, _, _ => False
  | k + 1, a0, n0, c0, a5, n5, c5, x6, x7, w => thicketref07_Cats.g6 R (thicketref07_Cats.l6 R k) a0 n0 c0 a5 n5 c5 x6 x7 w
def thicketref07_Cats.e6 (R : Value → World → Prop) (a0 : Option Addr) (n0 : Nat) (c0 : Nat) (a5 : Option Addr) (n5 : Nat) (c5 : Nat) (x6 : Int) (x7 : Int) (w : World) : Prop := ∃ k, thicketref07_Cats.l6 R k a0 n0 c0 a5 n5 c5 x6 x7 w
theorem thicketref07_Cats.s6 (R : Value → World → Prop) (k : Nat) (a0 : Option Addr) (n0 : Nat) (c0 : Nat) (a5 : Option Addr) (n5 : Nat) (c5 : Nat) (x6 : Int) (x7 : Int) (w : World) : thicketref07_Cats.rl6 R (k + 1) a0 n0 c0 a5 n5 c5 x6 x7 w = ∀ _ : Nat → Value, thicketref07_Cats.g6 R (thicketref07_Cats.rl6 R k) a0 n0 c0 a5 n5 c5 x6 x7 w := by kernel_rfl
theorem thicketref07_Cats.lq6 (R : Value → World → Prop) : ∀ k, thicketref07_Cats.l6 R k = thicketref07_Cats.rl6 R k
  | 0 => by funext a0 n0 c0 a5 n5 c5 x6 x7 w; first | rfl | kernel_rfl
  | k + 1 => by
    funext a0 n0 c0 a5 n5 c5 x6 x7 w
    rw [thicketref07_Cats.s6, forall_const]
    unfold thicketref07_Cats.l6
    have ih := thicketref07_Cats.lq6 R k
    rw [ih]
    all_goals rfl
theorem thicketref07_Cats.eq6 (R : Value → World → Prop) : thicketref07_Cats.e6 R = thicketref07_Cats.re6 R := by
  funext a0 n0 c0 a5 n5 c5 x6 x7 w
  unfold thicketref07_Cats.e6 thicketref07_Cats.re6
  simp only [thicketref07_Cats.lq6 R]
def thicketref07_Cats (R : Value → World → Prop) (a0 : Option Addr) (n0 : Nat) (c0 : Nat) (w : World) : Prop := thicketref07_Cats.g0 R (thicketref07_Cats.e6 R) a0 n0 c0 w
theorem thicketref07_Cats.root0 (R : Value → World → Prop) (a0 : Option Addr) (n0 : Nat) (c0 : Nat) (w : World) : fnN Go.Proofs.Try.prog Go.Proofs.Try.f69 thicketref07_Cats.an #[.slice a0 n0 c0] w R = thicketref07_Cats.g0 R (thicketref07_Cats.re6 R) a0 n0 c0 w := by kernel_rfl
theorem thicketref07_Cats.calls {R : Value → World → Prop} {a0 : Option Addr} {n0 : Nat} {c0 : Nat} {w : World} (h : thicketref07_Cats R a0 n0 c0 w) : Go.E.CallsD Go.Proofs.Try.prog 69 #[.slice a0 n0 c0] w R := by
  refine callsD_of (n := thicketref07_Cats.an) M_follows M_sizes Go.Proofs.Try.func69 (by rfl) ?_
  rw [thicketref07_Cats.root0]
  unfold thicketref07_Cats at h
  rw [thicketref07_Cats.eq6 R] at h
  exact h
-- thicket/trees.all$1
def trees_all_1.an : An := (.mk none .nil (.mk none (.mk (some [0, 1, 3]) .nil .nil) .nil))
def trees_all_1.g0 (R : Value → World → Prop) (e3 : Nat → Addr → (Option Addr) → Nat → Nat → World → Prop) (l0 : Nat) (p1 : Addr) (w : World) : Prop :=
 nw (w.alloc (.cells #[.int .i64 0, .int .i64 0] 103)) fun w56 =>
 e3 l0 p1 (some (na w)) 1 1 w56
def trees_all_1.g3 (R : Value → World → Prop) (b3 : Nat → Addr → (Option Addr) → Nat → Nat → World → Prop) (l0 : Nat) (p1 : Addr) (a3 : Option Addr) (n3 : Nat) (c3 : Nat) (w : World) : Prop :=
 onBool (decide ((n3 : Int) > 0))
 (nv (IntKind.i64.wrap ((n3 : Int) - 1)) fun t57 =>
 optN a3 fun q58 =>
 chk ((0 : Int) ≤ t57 ∧ t57 < (n3 : Int))
 (∃ yx_59 : Int, w.cell? ((q58.add (t57.toNat * 2)).add 0) = some (.int .i64 yx_59) ∧
 (∃ yx_60 : Int, w.cell? ((q58.add (t57.toNat * 2)).add 1) = some (.int .i64 yx_60) ∧
 (nw (w.alloc (.cells #[.int .i64 0, .int .i64 0] 103)) fun w61 =>
 okSt w61 ((na w).add 0) ∧
 (nw (w61.setCell ((na w).add 0) (.int .i64 yx_59)) fun w62 =>
 okSt w62 ((na w).add 1) ∧
 (nw (w62.setCell ((na w).add 1) (.int .i64 yx_60)) fun w63 =>
 nv (IntKind.i64.wrap ((n3 : Int) - 1)) fun t64 =>
 chk ((0 : Int) ≤ t64 ∧ t64 ≤ (c3 : Int))
 (∃ yx_65 : Int, w63.cell? ((na w).add 0) = some (.int .i64 yx_65) ∧
 (∃ yx_66 : Int, w63.cell? ((na w).add 1) = some (.int .i64 yx_66) ∧
 (YieldD Go.Proofs.Try.prog l0 #[.int .i64 yx_65, .int .i64 yx_66] w63 fun yv67 u68 =>
 ∃ yb_69 : Bool, yv67 = .bool yb_69 ∧
 (onBool (!yb_69)
 (R (.tuple #[]) u68)
 (∃ ya_70 : Option Addr, ∃ yn_70 : Nat, ∃ yc_70 : Nat, u68.cell? (p1.add 1) = some (.slice ya_70 yn_70 yc_70) ∧
 (∃ yx_71 : Int, u68.cell? ((na w).add 0) = some (.int .i64 yx_71) ∧
 (optN ya_70 fun q72 =>
 chk ((0 : Int) ≤ yx_71 ∧ yx_71 < (yn_70 : Int))
 (∃ yx_73 : Int, u68.cell? ((q72.add (yx_71.toNat * 8)).add 0) = some (.int .u8 yx_73) ∧
 (∃ yx_74 : Int, u68.cell? ((q72.add (yx_71.toNat * 8)).add 1) = some (.int .i64 yx_74) ∧
 (∃ yx_75 : Int, u68.cell? ((q72.add (yx_71.toNat * 8)).add 2) = some (.int .i64 yx_75) ∧
 (∃ yf_76 : Nat, u68.cell? ((q72.add (yx_71.toNat * 8)).add 3) = some (.float .f64 yf_76) ∧
 (∃ ya_77 : Option Addr, ∃ yn_77 : Nat, ∃ yc_77 : Nat, u68.cell? ((q72.add (yx_71.toNat * 8)).add 4) = some (.slice ya_77 yn_77 yc_77) ∧
 (∃ yx_78 : Int, u68.cell? ((q72.add (yx_71.toNat * 8)).add 5) = some (.int .u8 yx_78) ∧
 (∃ yx_79 : Int, u68.cell? ((q72.add (yx_71.toNat * 8)).add 6) = some (.int .i64 yx_79) ∧
 (∃ yx_80 : Int, u68.cell? ((q72.add (yx_71.toNat * 8)).add 7) = some (.int .i64 yx_80) ∧
 (nw (u68.alloc (.cells #[.int .u8 0, .int .i64 0, .int .i64 0, .float .f64 0, .slice none 0 0, .int .u8 0, .int .i64 0, .int .i64 0] 27)) fun w81 =>
 okSt w81 ((na u68).add 0) ∧
 (nw (w81.setCell ((na u68).add 0) (.int .u8 yx_73)) fun w82 =>
 okSt w82 ((na u68).add 1) ∧
 (nw (w82.setCell ((na u68).add 1) (.int .i64 yx_74)) fun w83 =>
 okSt w83 ((na u68).add 2) ∧
 (nw (w83.setCell ((na u68).add 2) (.int .i64 yx_75)) fun w84 =>
 okSt w84 ((na u68).add 3) ∧
 (nw (w84.setCell ((na u68).add 3) (.float .f64 yf_76)) fun w85 =>
 okSt w85 ((na u68).add 4) ∧
 (nw (w85.setCell ((na u68).add 4) (.slice ya_77 yn_77 yc_77)) fun w86 =>
 okSt w86 ((na u68).add 5) ∧
 (nw (w86.setCell ((na u68).add 5) (.int .u8 yx_78)) fun w87 =>
 okSt w87 ((na u68).add 6) ∧
 (nw (w87.setCell ((na u68).add 6) (.int .i64 yx_79)) fun w88 =>
 okSt w88 ((na u68).add 7) ∧
 (nw (w88.setCell ((na u68).add 7) (.int .i64 yx_80)) fun w89 =>
 ∃ yx_90 : Int, w89.cell? ((na u68).add 0) = some (.int .u8 yx_90) ∧
 (∃ yx_91 : Int, w89.cell? ((na u68).add 1) = some (.int .i64 yx_91) ∧
 (∃ yx_92 : Int, w89.cell? ((na u68).add 2) = some (.int .i64 yx_92) ∧
 (∃ yf_93 : Nat, w89.cell? ((na u68).add 3) = some (.float .f64 yf_93) ∧
 (∃ ya_94 : Option Addr, ∃ yn_94 : Nat, ∃ yc_94 : Nat, w89.cell? ((na u68).add 4) = some (.slice ya_94 yn_94 yc_94) ∧
 (∃ yx_95 : Int, w89.cell? ((na u68).add 5) = some (.int .u8 yx_95) ∧
 (∃ yx_96 : Int, w89.cell? ((na u68).add 6) = some (.int .i64 yx_96) ∧
 (∃ yx_97 : Int, w89.cell? ((na u68).add 7) = some (.int .i64 yx_97) ∧
 (Go.E.CallsD Go.Proofs.Try.prog 47 #[.agg #[.int .u8 yx_90, .int .i64 yx_91, .int .i64 yx_92, .float .f64 yf_93, .slice ya_94 yn_94 yc_94, .int .u8 yx_95, .int .i64 yx_96, .int .i64 yx_97]] w89 fun yv98 u99 =>
 ∃ yb_100 : Bool, yv98 = .bool yb_100 ∧
 (onBool yb_100
 (∃ yx_101 : Int, u99.cell? ((na u68).add 7) = some (.int .i64 yx_101) ∧
 (∃ yx_102 : Int, u99.cell? ((na w).add 1) = some (.int .i64 yx_102) ∧
 (nv (IntKind.i64.wrap (yx_102 + 1)) fun t103 =>
 ∃ yx_104 : Int, u99.cell? ((na u68).add 6) = some (.int .i64 yx_104) ∧
 (∃ yx_105 : Int, u99.cell? ((na w).add 1) = some (.int .i64 yx_105) ∧
 (nv (IntKind.i64.wrap (yx_105 + 1)) fun t106 =>
 nw (u99.alloc (.cells #[.int .i64 yx_101, .int .i64 t103, .int .i64 yx_104, .int .i64 t106] 103)) fun w107 =>
 rawN Go.Proofs.Try.prog (Builtin.append_ #[104, 104] 104 #[.slice (slA a3 c3 0 2) t64.toNat c3, .slice (some (na u99)) 2 2]) w107 fun yv108 u109 =>
 ∃ ya_110 : Option Addr, ∃ yn_110 : Nat, ∃ yc_110 : Nat, yv108 = .slice ya_110 yn_110 yc_110 ∧
 (b3 l0 p1 ya_110 yn_110 yc_110 u109))))))
 (b3 l0 p1 (slA a3 c3 0 2) t64.toNat c3 u99))))))))))))))))))))))))))))))))))))))))
 (R (.tuple #[]) w)
def trees_all_1.q2 (R : Value → World → Prop) : Exit → Act → World → Prop := (fin Go.Proofs.Try.prog Go.Proofs.Try.f70 R)
def trees_all_1.q3 (R : Value → World → Prop) : Exit → Act → World → Prop := Exit.inBlock 0 (trees_all_1.q2 R)
def trees_all_1.rl3 (R : Value → World → Prop) (k : Nat) (l0 : Nat) (p1 : Addr) (a3 : Option Addr) (n3 : Nat) (c3 : Nat) (w : World) : Prop := loopN [0, 1, 3] (codeN Go.Proofs.Try.prog (sub (codeOf Go.Proofs.Try.f70) [1, 0, 0]) (nsub trees_all_1.an [1, 0, 0])) (trees_all_1.q3 R) k ⟨#[.func (.yield l0) #[] #[], .pointer (some p1), undef, .slice a3 n3 c3, undef, undef, undef, undef, undef, undef, undef, undef, undef, undef, undef, undef, undef, undef, undef, undef, undef, undef, undef, undef, undef, undef, undef, undef, undef, undef, undef, undef, undef, undef, undef, undef, undef, undef, undef, undef, undef, undef, undef, undef, undef, undef, undef, undef, undef, undef, undef, undef], []⟩ w
def trees_all_1.re3 (R : Value → World → Prop) (l0 : Nat) (p1 : Addr) (a3 : Option Addr) (n3 : Nat) (c3 : Nat) (w : World) : Prop := ∃ k, trees_all_1.rl3 R k l0 p1 a3 n3 c3 w
def trees_all_1.l3 (R : Value → World → Prop) : Nat → Nat → Addr → (Option Addr) → Nat → Nat → World → Prop
  | 0, _, _, _, _, _, _ => False
  | k + 1, l0, p1, a3, n3, c3, w => trees_all_1.g3 R (trees_all_1.l3 R k) l0 p1 a3 n3 c3 w
def trees_all_1.e3 (R : Value → World → Prop) (l0 : Nat) (p1 : Addr) (a3 : Option Addr) (n3 : Nat) (c3 : Nat) (w : World) : Prop := ∃ k, trees_all_1.l3 R k l0 p1 a3 n3 c3 w
theorem trees_all_1.s3 (R : Value → World → Prop) (k : Nat) (l0 : Nat) (p1 : Addr) (a3 : Option Addr) (n3 : Nat) (c3 : Nat) (w : World) : trees_all_1.rl3 R (k + 1) l0 p1 a3 n3 c3 w = ∀ _ : Nat → Value, trees_all_1.g3 R (trees_all_1.rl3 R k) l0 p1 a3 n3 c3 w := by kernel_rfl
theorem trees_all_1.lq3 (R : Value → World → Prop) : ∀ k, trees_all_1.l3 R k = trees_all_1.rl3 R k
  | 0 => by funext l0 p1 a3 n3 c3 w; first | rfl | kernel_rfl
  | k + 1 => by
    funext l0 p1 a3 n3 c3 w
    rw [trees_all_1.s3, forall_const]
    unfold trees_all_1.l3
    have ih := trees_all_1.lq3 R k
    rw [ih]
    all_goals rfl
theorem trees_all_1.eq3 (R : Value → World → Prop) : trees_all_1.e3 R = trees_all_1.re3 R := by
  funext l0 p1 a3 n3 c3 w
  unfold trees_all_1.e3 trees_all_1.re3
  simp only [trees_all_1.lq3 R]
def trees_all_1 (R : Value → World → Prop) (l0 : Nat) (p1 : Addr) (w : World) : Prop := trees_all_1.g0 R (trees_all_1.e3 R) l0 p1 w
theorem trees_all_1.root0 (R : Value → World → Prop) (l0 : Nat) (p1 : Addr) (w : World) : fnN Go.Proofs.Try.prog Go.Proofs.Try.f70 trees_all_1.an #[.func (.yield l0) #[] #[], .pointer (some p1)] w R = trees_all_1.g0 R (trees_all_1.re3 R) l0 p1 w := by kernel_rfl
theorem trees_all_1.calls {R : Value → World → Prop} {l0 : Nat} {p1 : Addr} {w : World} (h : trees_all_1 R l0 p1 w) : Go.E.CallsD Go.Proofs.Try.prog 70 #[.func (.yield l0) #[] #[], .pointer (some p1)] w R := by
  refine callsD_of (n := trees_all_1.an) M_follows M_sizes Go.Proofs.Try.func70 (by rfl) ?_
  rw [trees_all_1.root0]
  unfold trees_all_1 at h
  rw [trees_all_1.eq3 R] at h
  exact h
-- (thicket/trees.number).goes
def trees_number_goes.an : An := An.nil
def trees_number_goes.g0 (R : Value → World → Prop) (f0_0 : Nat) (x0_1 : Int) (f1 : Nat) (w : World) : Prop :=
 nw (w.alloc (.cells #[.float .f64 f0_0, .int .u8 x0_1] 95)) fun w4 =>
 onBool (FloatKind.f64.format.order f1 f1 != some .eq)
 (∃ yx_5 : Int, w4.cell? ((na w).add 1) = some (.int .u8 yx_5) ∧
 (R (.int .u8 yx_5) w4))
 (∃ yf_6 : Nat, w4.cell? ((na w).add 0) = some (.float .f64 yf_6) ∧
 (onBool ((FloatKind.f64.format.order f1 yf_6 == some .lt) || (FloatKind.f64.format.order f1 yf_6 == some .eq))
 (R (.int .u8 1) w4)
 (R (.int .u8 2) w4)))
def trees_number_goes (R : Value → World → Prop) (f0_0 : Nat) (x0_1 : Int) (f1 : Nat) (w : World) : Prop := trees_number_goes.g0 R f0_0 x0_1 f1 w
theorem trees_number_goes.root0 (R : Value → World → Prop) (f0_0 : Nat) (x0_1 : Int) (f1 : Nat) (w : World) : fnN Go.Proofs.Try.prog Go.Proofs.Try.f86 trees_number_goes.an #[.agg #[.float .f64 f0_0, .int .u8 x0_1], .float .f64 f1] w R = trees_number_goes.g0 R f0_0 x0_1 f1 w := by kernel_rfl
theorem trees_number_goes.calls {R : Value → World → Prop} {f0_0 : Nat} {x0_1 : Int} {f1 : Nat} {w : World} (h : trees_number_goes R f0_0 x0_1 f1 w) : Go.E.CallsD Go.Proofs.Try.prog 86 #[.agg #[.float .f64 f0_0, .int .u8 x0_1], .float .f64 f1] w R := by
  refine callsD_of (n := trees_number_goes.an) M_follows M_sizes Go.Proofs.Try.func86 (by rfl) ?_
  rw [trees_number_goes.root0]
  unfold trees_number_goes at h
  exact h
-- (thicket/trees.cats).goes
def trees_cats_goes.an : An := An.nil
def trees_cats_goes.g0 (R : Value → World → Prop) (a0_0 : Option Addr) (n0_0 : Nat) (c0_0 : Nat) (x0_1 : Int) (f1 : Nat) (w : World) : Prop :=
 nw (w.alloc (.cells #[.slice a0_0 n0_0 c0_0, .int .u8 x0_1] 97)) fun w10 =>
 nw (w10.alloc (.cells #[.float .f64 f1] 23)) fun w11 =>
 ∃ yf_12 : Nat, w11.cell? (na w10) = some (.float .f64 yf_12) ∧
 (∃ yf_13 : Nat, w11.cell? (na w10) = some (.float .f64 yf_13) ∧
 (onBool (FloatKind.f64.format.order yf_12 yf_13 != some .eq)
 (∃ yx_14 : Int, w11.cell? ((na w).add 1) = some (.int .u8 yx_14) ∧
 (R (.int .u8 yx_14) w11))
 (∃ ya_15 : Option Addr, ∃ yn_15 : Nat, ∃ yc_15 : Nat, w11.cell? ((na w).add 0) = some (.slice ya_15 yn_15 yc_15) ∧
 (Go.E.CallsD Go.Proofs.Try.prog 88 #[.slice ya_15 yn_15 yc_15, .func (.func 89) #[] #[.pointer (some (na w10))]] w11 fun yv16 u17 =>
 ∃ yb_18 : Bool, yv16 = .bool yb_18 ∧
 (onBool yb_18
 (R (.int .u8 1) u17)
 (R (.int .u8 2) u17))))))
def trees_cats_goes (R : Value → World → Prop) (a0_0 : Option Addr) (n0_0 : Nat) (c0_0 : Nat) (x0_1 : Int) (f1 : Nat) (w : World) : Prop := trees_cats_goes.g0 R a0_0 n0_0 c0_0 x0_1 f1 w
theorem trees_cats_goes.root0 (R : Value → World → Prop) (a0_0 : Option Addr) (n0_0 : Nat) (c0_0 : Nat) (x0_1 : Int) (f1 : Nat) (w : World) : fnN Go.Proofs.Try.prog Go.Proofs.Try.f87 trees_cats_goes.an #[.agg #[.slice a0_0 n0_0 c0_0, .int .u8 x0_1], .float .f64 f1] w R = trees_cats_goes.g0 R a0_0 n0_0 c0_0 x0_1 f1 w := by kernel_rfl
theorem trees_cats_goes.calls {R : Value → World → Prop} {a0_0 : Option Addr} {n0_0 : Nat} {c0_0 : Nat} {x0_1 : Int} {f1 : Nat} {w : World} (h : trees_cats_goes R a0_0 n0_0 c0_0 x0_1 f1 w) : Go.E.CallsD Go.Proofs.Try.prog 87 #[.agg #[.slice a0_0 n0_0 c0_0, .int .u8 x0_1], .float .f64 f1] w R := by
  refine callsD_of (n := trees_cats_goes.an) M_follows M_sizes Go.Proofs.Try.func87 (by rfl) ?_
  rw [trees_cats_goes.root0]
  unfold trees_cats_goes at h
  exact h
-- slices.ContainsFunc[[]int,int]
def slices_ContainsFunc.an : An := An.nil
def slices_ContainsFunc.g0 (R : Value → World → Prop) (a0 : Option Addr) (n0 : Nat) (c0 : Nat) (p1_0 : Addr) (w : World) : Prop :=
 Go.E.CallsD Go.Proofs.Try.prog 90 #[.slice a0 n0 c0, .func (.func 89) #[] #[.pointer (some p1_0)]] w fun yv4 u5 =>
 ∃ yx_6 : Int, yv4 = .int .i64 yx_6 ∧
 (R (.bool (decide (yx_6 ≥ 0))) u5)
def slices_ContainsFunc (R : Value → World → Prop) (a0 : Option Addr) (n0 : Nat) (c0 : Nat) (p1_0 : Addr) (w : World) : Prop := slices_ContainsFunc.g0 R a0 n0 c0 p1_0 w
theorem slices_ContainsFunc.root0 (R : Value → World → Prop) (a0 : Option Addr) (n0 : Nat) (c0 : Nat) (p1_0 : Addr) (w : World) : fnN Go.Proofs.Try.prog Go.Proofs.Try.f88 slices_ContainsFunc.an #[.slice a0 n0 c0, .func (.func 89) #[] #[.pointer (some p1_0)]] w R = slices_ContainsFunc.g0 R a0 n0 c0 p1_0 w := by kernel_rfl
theorem slices_ContainsFunc.calls {R : Value → World → Prop} {a0 : Option Addr} {n0 : Nat} {c0 : Nat} {p1_0 : Addr} {w : World} (h : slices_ContainsFunc R a0 n0 c0 p1_0 w) : Go.E.CallsD Go.Proofs.Try.prog 88 #[.slice a0 n0 c0, .func (.func 89) #[] #[.pointer (some p1_0)]] w R := by
  refine callsD_of (n := slices_ContainsFunc.an) M_follows M_sizes Go.Proofs.Try.func88 (by rfl) ?_
  rw [slices_ContainsFunc.root0]
  unfold slices_ContainsFunc at h
  exact h
-- (thicket/trees.cats).goes$1
def trees_cats_goes_1.an : An := An.nil
def trees_cats_goes_1.g0 (R : Value → World → Prop) (x0 : Int) (p1 : Addr) (w : World) : Prop :=
 nv (FloatKind.f64.nearest x0) fun t3 =>
 ∃ yf_4 : Nat, w.cell? p1 = some (.float .f64 yf_4) ∧
 (R (.bool (FloatKind.f64.format.order t3 yf_4 == some .eq)) w)
def trees_cats_goes_1 (R : Value → World → Prop) (x0 : Int) (p1 : Addr) (w : World) : Prop := trees_cats_goes_1.g0 R x0 p1 w
theorem trees_cats_goes_1.root0 (R : Value → World → Prop) (x0 : Int) (p1 : Addr) (w : World) : fnN Go.Proofs.Try.prog Go.Proofs.Try.f89 trees_cats_goes_1.an #[.int .i64 x0, .pointer (some p1)] w R = trees_cats_goes_1.g0 R x0 p1 w := by kernel_rfl
theorem trees_cats_goes_1.calls {R : Value → World → Prop} {x0 : Int} {p1 : Addr} {w : World} (h : trees_cats_goes_1 R x0 p1 w) : Go.E.CallsD Go.Proofs.Try.prog 89 #[.int .i64 x0, .pointer (some p1)] w R := by
  refine callsD_of (n := trees_cats_goes_1.an) M_follows M_sizes Go.Proofs.Try.func89 (by rfl) ?_
  rw [trees_cats_goes_1.root0]
  unfold trees_cats_goes_1 at h
  exact h
-- slices.IndexFunc[[]int,int]
def slices_IndexFunc.an : An := (.mk none .nil (.mk none (.mk none .nil (.mk none (.mk (some [0, 1, 7, 8]) .nil .nil) .nil)) .nil))
def slices_IndexFunc.g0 (R : Value → World → Prop) (e6 : (Option Addr) → Nat → Nat → Addr → Int → Int → World → Prop) (a0 : Option Addr) (n0 : Nat) (c0 : Nat) (p1_0 : Addr) (w : World) : Prop :=
 e6 a0 n0 c0 p1_0 (n0 : Int) 0 w
def slices_IndexFunc.g6 (R : Value → World → Prop) (b6 : (Option Addr) → Nat → Nat → Addr → Int → Int → World → Prop) (a0 : Option Addr) (n0 : Nat) (c0 : Nat) (p1_0 : Addr) (x7 : Int) (x8 : Int) (w : World) : Prop :=
 onBool (decide (x8 < x7))
 (optN a0 fun q7 =>
 chk ((0 : Int) ≤ x8 ∧ x8 < (n0 : Int))
 (∃ yx_8 : Int, w.cell? (q7.add (x8.toNat * 1)) = some (.int .i64 yx_8) ∧
 (Go.E.CallsD Go.Proofs.Try.prog 89 #[.int .i64 yx_8, .pointer (some p1_0)] w fun yv9 u10 =>
 ∃ yb_11 : Bool, yv9 = .bool yb_11 ∧
 (onBool yb_11
 (R (.int .i64 x8) u10)
 (nv (IntKind.i64.wrap (x8 + 1)) fun t12 =>
 b6 a0 n0 c0 p1_0 x7 t12 u10)))))
 (R (.int .i64 (-1)) w)
def slices_IndexFunc.q2 (R : Value → World → Prop) : Exit → Act → World → Prop := (fin Go.Proofs.Try.prog Go.Proofs.Try.f90 R)
def slices_IndexFunc.q3 (R : Value → World → Prop) : Exit → Act → World → Prop := Exit.then (startN none (codeN Go.Proofs.Try.prog (sub (codeOf Go.Proofs.Try.f90) [1, 1]) (nsub slices_IndexFunc.an [1, 1]) (slices_IndexFunc.q2 R))) (slices_IndexFunc.q2 R)
def slices_IndexFunc.q5 (R : Value → World → Prop) : Exit → Act → World → Prop := (slices_IndexFunc.q3 R)
def slices_IndexFunc.q6 (R : Value → World → Prop) : Exit → Act → World → Prop := Exit.inBlock 0 (slices_IndexFunc.q5 R)
def slices_IndexFunc.rl6 (R : Value → World → Prop) (k : Nat) (a0 : Option Addr) (n0 : Nat) (c0 : Nat) (p1_0 : Addr) (x7 : Int) (x8 : Int) (w : World) : Prop := loopN [0, 1, 7, 8] (codeN Go.Proofs.Try.prog (sub (codeOf Go.Proofs.Try.f90) [1, 0, 1, 0, 0]) (nsub slices_IndexFunc.an [1, 0, 1, 0, 0])) (slices_IndexFunc.q6 R) k ⟨#[.slice a0 n0 c0, .func (.func 89) #[] #[.pointer (some p1_0)], undef, undef, undef, undef, undef, .int .i64 x7, .int .i64 x8, undef, undef, undef, undef, undef, undef, undef, undef, undef, undef], []⟩ w
def slices_IndexFunc.re6 (R : Value → World → Prop) (a0 : Option Addr) (n0 : Nat) (c0 : Nat) (p1_0 : Addr) (x7 : Int) (x8 : Int) (w : World) : Prop := ∃ k, slices_IndexFunc.rl6 R k a0 n0 c0 p1_0 x7 x8 w
def slices_IndexFunc.l6 (R : Value → World → Prop) : Nat → (Option Addr) → Nat → Nat → Addr → Int → Int → World → Prop
  | 0, _, _, _, _, _, _, _ => False
  | k + 1, a0, n0, c0, p1_0, x7, x8, w => slices_IndexFunc.g6 R (slices_IndexFunc.l6 R k) a0 n0 c0 p1_0 x7 x8 w
def slices_IndexFunc.e6 (R : Value → World → Prop) (a0 : Option Addr) (n0 : Nat) (c0 : Nat) (p1_0 : Addr) (x7 : Int) (x8 : Int) (w : World) : Prop := ∃ k, slices_IndexFunc.l6 R k a0 n0 c0 p1_0 x7 x8 w
theorem slices_IndexFunc.s6 (R : Value → World → Prop) (k : Nat) (a0 : Option Addr) (n0 : Nat) (c0 : Nat) (p1_0 : Addr) (x7 : Int) (x8 : Int) (w : World) : slices_IndexFunc.rl6 R (k + 1) a0 n0 c0 p1_0 x7 x8 w = ∀ _ : Nat → Value, slices_IndexFunc.g6 R (slices_IndexFunc.rl6 R k) a0 n0 c0 p1_0 x7 x8 w := by kernel_rfl
theorem slices_IndexFunc.lq6 (R : Value → World → Prop) : ∀ k, slices_IndexFunc.l6 R k = slices_IndexFunc.rl6 R k
  | 0 => by funext a0 n0 c0 p1_0 x7 x8 w; first | rfl | kernel_rfl
  | k + 1 => by
    funext a0 n0 c0 p1_0 x7 x8 w
    rw [slices_IndexFunc.s6, forall_const]
    unfold slices_IndexFunc.l6
    have ih := slices_IndexFunc.lq6 R k
    rw [ih]
    all_goals rfl
theorem slices_IndexFunc.eq6 (R : Value → World → Prop) : slices_IndexFunc.e6 R = slices_IndexFunc.re6 R := by
  funext a0 n0 c0 p1_0 x7 x8 w
  unfold slices_IndexFunc.e6 slices_IndexFunc.re6
  simp only [slices_IndexFunc.lq6 R]
def slices_IndexFunc (R : Value → World → Prop) (a0 : Option Addr) (n0 : Nat) (c0 : Nat) (p1_0 : Addr) (w : World) : Prop := slices_IndexFunc.g0 R (slices_IndexFunc.e6 R) a0 n0 c0 p1_0 w
theorem slices_IndexFunc.root0 (R : Value → World → Prop) (a0 : Option Addr) (n0 : Nat) (c0 : Nat) (p1_0 : Addr) (w : World) : fnN Go.Proofs.Try.prog Go.Proofs.Try.f90 slices_IndexFunc.an #[.slice a0 n0 c0, .func (.func 89) #[] #[.pointer (some p1_0)]] w R = slices_IndexFunc.g0 R (slices_IndexFunc.re6 R) a0 n0 c0 p1_0 w := by kernel_rfl
theorem slices_IndexFunc.calls {R : Value → World → Prop} {a0 : Option Addr} {n0 : Nat} {c0 : Nat} {p1_0 : Addr} {w : World} (h : slices_IndexFunc R a0 n0 c0 p1_0 w) : Go.E.CallsD Go.Proofs.Try.prog 90 #[.slice a0 n0 c0, .func (.func 89) #[] #[.pointer (some p1_0)]] w R := by
  refine callsD_of (n := slices_IndexFunc.an) M_follows M_sizes Go.Proofs.Try.func90 (by rfl) ?_
  rw [slices_IndexFunc.root0]
  unfold slices_IndexFunc at h
  rw [slices_IndexFunc.eq6 R] at h
  exact h
-- (thicket/trees.leaf).goes
def trees_leaf_goes.an : An := An.nil
def trees_leaf_goes.g0 (R : Value → World → Prop) (f1 : Nat) (w : World) : Prop :=
 nw (w.alloc (.cells #[] 99)) fun w2 =>
 R (.int .u8 0) w2
def trees_leaf_goes (R : Value → World → Prop) (f1 : Nat) (w : World) : Prop := trees_leaf_goes.g0 R f1 w
theorem trees_leaf_goes.root0 (R : Value → World → Prop) (f1 : Nat) (w : World) : fnN Go.Proofs.Try.prog Go.Proofs.Try.f91 trees_leaf_goes.an #[.agg #[], .float .f64 f1] w R = trees_leaf_goes.g0 R f1 w := by kernel_rfl
theorem trees_leaf_goes.calls {R : Value → World → Prop} {f1 : Nat} {w : World} (h : trees_leaf_goes R f1 w) : Go.E.CallsD Go.Proofs.Try.prog 91 #[.agg #[], .float .f64 f1] w R := by
  refine callsD_of (n := trees_leaf_goes.an) M_follows M_sizes Go.Proofs.Try.func91 (by rfl) ?_
  rw [trees_leaf_goes.root0]
  unfold trees_leaf_goes at h
  exact h
end Go.Mir
