/- Part of a proof of laws of the seat YtmmomijhlmmjpaaDoor: functions' weakest preconditions, each checked by the kernel, contracts out of them, plain lemmas; no conditions. -/
import Derived.Test.YtmmomijhlmmjpaaDoorNM0
set_option linter.unusedVariables false
set_option linter.unusedSimpArgs false
set_option linter.unusedVariables false
set_option maxRecDepth 100000
namespace Go.Mir
open Go Go.E Go.RowKit
-- (*thicket/lanes.Scorer).Exits$1
-- thicket/lanes.work
def lanes_work.an : An := (.mk none .nil (.mk none .nil (.mk none .nil (.mk (some [2, 5, 6]) (.mk none .nil (.mk none (.mk none .nil (.mk none (.mk none .nil (.mk none (.mk (some [2, 5, 7, 14, 15]) .nil .nil) .nil)) .nil)) .nil)) .nil))))
def lanes_work.g0 (R : Value → World → Prop) (e16 : (Option Addr) → Int → Int → Nat → Nat → Nat → Nat → Nat → Nat → Nat → Nat → Int → World → Prop) (j35 : (Option Addr) → Int → Int → World → Prop) (x0_0 : Int) (a0_1 : Option Addr) (n0_1 : Nat) (c0_1 : Nat) (a0_2 : Option Addr) (n0_2 : Nat) (c0_2 : Nat) (a0_3 : Option Addr) (n0_3 : Nat) (c0_3 : Nat) (f1_0 : Nat) (f1_1 : Nat) (f1_2 : Nat) (f1_3 : Nat) (f1_4 : Nat) (f1_5 : Nat) (f1_6 : Nat) (f1_7 : Nat) (w : World) : Prop :=
 nw (w.alloc (.cells #[.int .i64 x0_0, .slice a0_1 n0_1 c0_1, .slice a0_2 n0_2 c0_2, .slice a0_3 n0_3 c0_3] 53)) fun w42 =>
 nw (w42.alloc (.cells #[.float .f64 f1_0, .float .f64 f1_1, .float .f64 f1_2, .float .f64 f1_3, .float .f64 f1_4, .float .f64 f1_5, .float .f64 f1_6, .float .f64 f1_7] 57)) fun w43 =>
 ∃ yf_44 : Nat, w43.cell? ((na w42).add 0) = some (.float .f64 yf_44) ∧
 (∃ yf_45 : Nat, w43.cell? ((na w42).add 1) = some (.float .f64 yf_45) ∧
 (∃ yf_46 : Nat, w43.cell? ((na w42).add 2) = some (.float .f64 yf_46) ∧
 (∃ yf_47 : Nat, w43.cell? ((na w42).add 3) = some (.float .f64 yf_47) ∧
 (∃ yf_48 : Nat, w43.cell? ((na w42).add 4) = some (.float .f64 yf_48) ∧
 (∃ yf_49 : Nat, w43.cell? ((na w42).add 5) = some (.float .f64 yf_49) ∧
 (∃ yf_50 : Nat, w43.cell? ((na w42).add 6) = some (.float .f64 yf_50) ∧
 (∃ yf_51 : Nat, w43.cell? ((na w42).add 7) = some (.float .f64 yf_51) ∧
 (Go.E.CallsD Go.Proofs.Tryd.prog 16 #[.agg #[.float .f64 yf_44, .float .f64 yf_45, .float .f64 yf_46, .float .f64 yf_47, .float .f64 yf_48, .float .f64 yf_49, .float .f64 yf_50, .float .f64 yf_51]] w43 fun yv52 u53 =>
 ∃ yx_54 : Int, yv52 = .int .u8 yx_54 ∧
 (onBool (yx_54 != 255)
 (∃ yf_55 : Nat, u53.cell? ((na w42).add 0) = some (.float .f64 yf_55) ∧
 (∃ yf_56 : Nat, u53.cell? ((na w42).add 1) = some (.float .f64 yf_56) ∧
 (∃ yf_57 : Nat, u53.cell? ((na w42).add 2) = some (.float .f64 yf_57) ∧
 (∃ yf_58 : Nat, u53.cell? ((na w42).add 3) = some (.float .f64 yf_58) ∧
 (∃ yf_59 : Nat, u53.cell? ((na w42).add 4) = some (.float .f64 yf_59) ∧
 (∃ yf_60 : Nat, u53.cell? ((na w42).add 5) = some (.float .f64 yf_60) ∧
 (∃ yf_61 : Nat, u53.cell? ((na w42).add 6) = some (.float .f64 yf_61) ∧
 (∃ yf_62 : Nat, u53.cell? ((na w42).add 7) = some (.float .f64 yf_62) ∧
 (e16 (some (na w)) yx_54 0 yf_55 yf_56 yf_57 yf_58 yf_59 yf_60 yf_61 yf_62 0 u53)))))))))
 (j35 (some (na w)) yx_54 0 u53))))))))))
def lanes_work.g16 (R : Value → World → Prop) (b16 : (Option Addr) → Int → Int → Nat → Nat → Nat → Nat → Nat → Nat → Nat → Nat → Int → World → Prop) (j35 : (Option Addr) → Int → Int → World → Prop) (p2 : Option Addr) (x5 : Int) (x7 : Int) (f14_0 : Nat) (f14_1 : Nat) (f14_2 : Nat) (f14_3 : Nat) (f14_4 : Nat) (f14_5 : Nat) (f14_6 : Nat) (f14_7 : Nat) (x15 : Int) (w : World) : Prop :=
 onBool (decide (x15 < 8))
 (chk ((0 : Int) ≤ x15 ∧ x15 < (8 : Int))
 (∃ yf_63 : Nat, (#[.float .f64 f14_0, .float .f64 f14_1, .float .f64 f14_2, .float .f64 f14_3, .float .f64 f14_4, .float .f64 f14_5, .float .f64 f14_6, .float .f64 f14_7] : Array Value)[x15.toNat * 1]? = some (.float .f64 yf_63) ∧
 (onBool (FloatKind.f64.format.order yf_63 yf_63 == some .eq)
 (optN p2 fun q64 =>
 ∃ yx_65 : Int, w.cell? (q64.add 0) = some (.int .i64 yx_65) ∧
 (∃ ya_66 : Option Addr, ∃ yn_66 : Nat, ∃ yc_66 : Nat, w.cell? (q64.add 1) = some (.slice ya_66 yn_66 yc_66) ∧
 (∃ ya_67 : Option Addr, ∃ yn_67 : Nat, ∃ yc_67 : Nat, w.cell? (q64.add 2) = some (.slice ya_67 yn_67 yc_67) ∧
 (∃ ya_68 : Option Addr, ∃ yn_68 : Nat, ∃ yc_68 : Nat, w.cell? (q64.add 3) = some (.slice ya_68 yn_68 yc_68) ∧
 (Go.E.CallsD Go.Proofs.Tryd.prog 19 #[.agg #[.int .i64 yx_65, .slice ya_66 yn_66 yc_66, .slice ya_67 yn_67 yc_67, .slice ya_68 yn_68 yc_68], .float .f64 yf_63] w fun yv69 u70 =>
 ∃ yx_71 : Int, yv69 = .int .i64 yx_71 ∧
 (nv ((if x7 < yx_71 then yx_71 else x7)) fun t72 =>
 nv (IntKind.i64.wrap (x15 + 1)) fun t73 =>
 b16 p2 x5 t72 f14_0 f14_1 f14_2 f14_3 f14_4 f14_5 f14_6 f14_7 t73 u70))))))
 (nv (IntKind.i64.wrap (x15 + 1)) fun t74 =>
 b16 p2 x5 x7 f14_0 f14_1 f14_2 f14_3 f14_4 f14_5 f14_6 f14_7 t74 w))))
 (nv (IntKind.i64.wrap (x7 + 1)) fun t75 =>
 optN p2 fun q76 =>
 ∃ ya_77 : Option Addr, ∃ yn_77 : Nat, ∃ yc_77 : Nat, w.cell? (q76.add 1) = some (.slice ya_77 yn_77 yc_77) ∧
 (nv ((if (yn_77 : Int) < t75 then (yn_77 : Int) else t75)) fun t78 =>
 optN p2 fun q79 =>
 ∃ ya_80 : Option Addr, ∃ yn_80 : Nat, ∃ yc_80 : Nat, w.cell? (q79.add 2) = some (.slice ya_80 yn_80 yc_80) ∧
 (nv (IntKind.i64.wrap (t78 + (yn_80 : Int))) fun t81 =>
 j35 p2 x5 t81 w)))
def lanes_work.g35 (R : Value → World → Prop) (p2 : Option Addr) (x5 : Int) (x6 : Int) (w : World) : Prop :=
 onBool (x5 != 0)
 (optN p2 fun q82 =>
 ∃ ya_83 : Option Addr, ∃ yn_83 : Nat, ∃ yc_83 : Nat, w.cell? (q82.add 3) = some (.slice ya_83 yn_83 yc_83) ∧
 (nv (IntKind.i64.wrap (x6 + (yn_83 : Int))) fun t84 =>
 R (.int .i64 t84) w))
 (R (.int .i64 x6) w)
def lanes_work.q2 (R : Value → World → Prop) : Exit → Act → World → Prop := (fin Go.Proofs.Tryd.prog Go.Proofs.Tryd.f12 R)
def lanes_work.q4 (R : Value → World → Prop) : Exit → Act → World → Prop := (lanes_work.q2 R)
def lanes_work.q6 (R : Value → World → Prop) : Exit → Act → World → Prop := (lanes_work.q4 R)
def lanes_work.q7 (R : Value → World → Prop) : Exit → Act → World → Prop := Exit.then (startN (some [2, 5, 6]) (codeN Go.Proofs.Tryd.prog (sub (codeOf Go.Proofs.Tryd.f12) [1, 1, 1, 1]) (nsub lanes_work.an [1, 1, 1, 1]) (lanes_work.q6 R))) (lanes_work.q6 R)
def lanes_work.q9 (R : Value → World → Prop) : Exit → Act → World → Prop := (lanes_work.q7 R)
def lanes_work.q10 (R : Value → World → Prop) : Exit → Act → World → Prop := (lanes_work.q9 R)
def lanes_work.q12 (R : Value → World → Prop) : Exit → Act → World → Prop := (lanes_work.q10 R)
def lanes_work.q13 (R : Value → World → Prop) : Exit → Act → World → Prop := Exit.then (startN none (codeN Go.Proofs.Tryd.prog (sub (codeOf Go.Proofs.Tryd.f12) [1, 1, 1, 0, 1, 0, 1, 1]) (nsub lanes_work.an [1, 1, 1, 0, 1, 0, 1, 1]) (lanes_work.q12 R))) (lanes_work.q12 R)
def lanes_work.q15 (R : Value → World → Prop) : Exit → Act → World → Prop := (lanes_work.q13 R)
def lanes_work.q16 (R : Value → World → Prop) : Exit → Act → World → Prop := Exit.inBlock 0 (lanes_work.q15 R)
def lanes_work.rl16 (R : Value → World → Prop) (k : Nat) (p2 : Option Addr) (x5 : Int) (x7 : Int) (f14_0 : Nat) (f14_1 : Nat) (f14_2 : Nat) (f14_3 : Nat) (f14_4 : Nat) (f14_5 : Nat) (f14_6 : Nat) (f14_7 : Nat) (x15 : Int) (w : World) : Prop := loopN [2, 5, 7, 14, 15] (codeN Go.Proofs.Tryd.prog (sub (codeOf Go.Proofs.Tryd.f12) [1, 1, 1, 0, 1, 0, 1, 0, 1, 0, 0]) (nsub lanes_work.an [1, 1, 1, 0, 1, 0, 1, 0, 1, 0, 0])) (lanes_work.q16 R) k ⟨#[undef, undef, .pointer p2, undef, undef, .int .u8 x5, undef, .int .i64 x7, undef, undef, undef, undef, undef, undef, .agg #[.float .f64 f14_0, .float .f64 f14_1, .float .f64 f14_2, .float .f64 f14_3, .float .f64 f14_4, .float .f64 f14_5, .float .f64 f14_6, .float .f64 f14_7], .int .i64 x15, undef, undef, undef, undef, undef, undef, undef, undef, undef, undef, undef, undef, undef, undef, undef, undef, undef, undef, undef, undef, undef, undef, undef, undef, undef, undef, undef, undef, undef], []⟩ w
def lanes_work.re16 (R : Value → World → Prop) (p2 : Option Addr) (x5 : Int) (x7 : Int) (f14_0 : Nat) (f14_1 : Nat) (f14_2 : Nat) (f14_3 : Nat) (f14_4 : Nat) (f14_5 : Nat) (f14_6 : Nat) (f14_7 : Nat) (x15 : Int) (w : World) : Prop := ∃ k, lanes_work.rl16 R k p2 x5 x7 f14_0 f14_1 f14_2 f14_3 f14_4 f14_5 f14_6 f14_7 x15 w
def lanes_work.q35 (R : Value → World → Prop) : Exit → Act → World → Prop := (lanes_work.q6 R)
def lanes_work.rj35 (R : Value → World → Prop) (p2 : Option Addr) (x5 : Int) (x6 : Int) (w : World) : Prop := startN (some [2, 5, 6]) (codeN Go.Proofs.Tryd.prog (sub (codeOf Go.Proofs.Tryd.f12) [1, 1, 1, 1]) (nsub lanes_work.an [1, 1, 1, 1]) (lanes_work.q35 R)) ⟨#[undef, undef, .pointer p2, undef, undef, .int .u8 x5, .int .i64 x6, undef, undef, undef, undef, undef, undef, undef, undef, undef, undef, undef, undef, undef, undef, undef, undef, undef, undef, undef, undef, undef, undef, undef, undef, undef, undef, undef, undef, undef, undef, undef, undef, undef, undef, undef, undef, undef, undef], []⟩ w
def lanes_work.j35 (R : Value → World → Prop) (p2 : Option Addr) (x5 : Int) (x6 : Int) (w : World) : Prop := lanes_work.g35 R p2 x5 x6 w
theorem lanes_work.s35 (R : Value → World → Prop) (p2 : Option Addr) (x5 : Int) (x6 : Int) (w : World) : lanes_work.rj35 R p2 x5 x6 w = ∀ _ : Nat → Value, lanes_work.g35 R p2 x5 x6 w := by kernel_rfl
theorem lanes_work.jq35 (R : Value → World → Prop) : lanes_work.j35 R = lanes_work.rj35 R := by
    funext p2 x5 x6 w
    rw [lanes_work.s35, forall_const]
    unfold lanes_work.j35
    all_goals rfl
def lanes_work.l16 (R : Value → World → Prop) : Nat → (Option Addr) → Int → Int → Nat → Nat → Nat → Nat → Nat → Nat → Nat → Nat → Int → World → Prop
  | 0, _, _, _, _, _, _, _, _, _, _, _, _, _ => False
  | k + 1, p2, x5, x7, f14_0, f14_1, f14_2, f14_3, f14_4, f14_5, f14_6, f14_7, x15, w => lanes_work.g16 R (lanes_work.l16 R k) (lanes_work.j35 R) p2 x5 x7 f14_0 f14_1 f14_2 f14_3 f14_4 f14_5 f14_6 f14_7 x15 w
def lanes_work.e16 (R : Value → World → Prop) (p2 : Option Addr) (x5 : Int) (x7 : Int) (f14_0 : Nat) (f14_1 : Nat) (f14_2 : Nat) (f14_3 : Nat) (f14_4 : Nat) (f14_5 : Nat) (f14_6 : Nat) (f14_7 : Nat) (x15 : Int) (w : World) : Prop := ∃ k, lanes_work.l16 R k p2 x5 x7 f14_0 f14_1 f14_2 f14_3 f14_4 f14_5 f14_6 f14_7 x15 w
theorem lanes_work.s16 (R : Value → World → Prop) (k : Nat) (p2 : Option Addr) (x5 : Int) (x7 : Int) (f14_0 : Nat) (f14_1 : Nat) (f14_2 : Nat) (f14_3 : Nat) (f14_4 : Nat) (f14_5 : Nat) (f14_6 : Nat) (f14_7 : Nat) (x15 : Int) (w : World) : lanes_work.rl16 R (k + 1) p2 x5 x7 f14_0 f14_1 f14_2 f14_3 f14_4 f14_5 f14_6 f14_7 x15 w = ∀ _ : Nat → Value, lanes_work.g16 R (lanes_work.rl16 R k) (lanes_work.rj35 R) p2 x5 x7 f14_0 f14_1 f14_2 f14_3 f14_4 f14_5 f14_6 f14_7 x15 w := by kernel_rfl
theorem lanes_work.lq16 (R : Value → World → Prop) : ∀ k, lanes_work.l16 R k = lanes_work.rl16 R k
  | 0 => by funext p2 x5 x7 f14_0 f14_1 f14_2 f14_3 f14_4 f14_5 f14_6 f14_7 x15 w; first | rfl | kernel_rfl
  | k + 1 => by
    funext p2 x5 x7 f14_0 f14_1 f14_2 f14_3 f14_4 f14_5 f14_6 f14_7 x15 w
    rw [lanes_work.s16, forall_const]
    unfold lanes_work.l16
    have ih := lanes_work.lq16 R k
    rw [lanes_work.jq35 R]
    rw [ih]
    all_goals rfl
theorem lanes_work.eq16 (R : Value → World → Prop) : lanes_work.e16 R = lanes_work.re16 R := by
  funext p2 x5 x7 f14_0 f14_1 f14_2 f14_3 f14_4 f14_5 f14_6 f14_7 x15 w
  unfold lanes_work.e16 lanes_work.re16
  simp only [lanes_work.lq16 R]
def lanes_work (R : Value → World → Prop) (x0_0 : Int) (a0_1 : Option Addr) (n0_1 : Nat) (c0_1 : Nat) (a0_2 : Option Addr) (n0_2 : Nat) (c0_2 : Nat) (a0_3 : Option Addr) (n0_3 : Nat) (c0_3 : Nat) (f1_0 : Nat) (f1_1 : Nat) (f1_2 : Nat) (f1_3 : Nat) (f1_4 : Nat) (f1_5 : Nat) (f1_6 : Nat) (f1_7 : Nat) (w : World) : Prop := lanes_work.g0 R (lanes_work.e16 R) (lanes_work.j35 R) x0_0 a0_1 n0_1 c0_1 a0_2 n0_2 c0_2 a0_3 n0_3 c0_3 f1_0 f1_1 f1_2 f1_3 f1_4 f1_5 f1_6 f1_7 w
theorem lanes_work.root0 (R : Value → World → Prop) (x0_0 : Int) (a0_1 : Option Addr) (n0_1 : Nat) (c0_1 : Nat) (a0_2 : Option Addr) (n0_2 : Nat) (c0_2 : Nat) (a0_3 : Option Addr) (n0_3 : Nat) (c0_3 : Nat) (f1_0 : Nat) (f1_1 : Nat) (f1_2 : Nat) (f1_3 : Nat) (f1_4 : Nat) (f1_5 : Nat) (f1_6 : Nat) (f1_7 : Nat) (w : World) : fnN Go.Proofs.Tryd.prog Go.Proofs.Tryd.f12 lanes_work.an #[.agg #[.int .i64 x0_0, .slice a0_1 n0_1 c0_1, .slice a0_2 n0_2 c0_2, .slice a0_3 n0_3 c0_3], .agg #[.float .f64 f1_0, .float .f64 f1_1, .float .f64 f1_2, .float .f64 f1_3, .float .f64 f1_4, .float .f64 f1_5, .float .f64 f1_6, .float .f64 f1_7]] w R = lanes_work.g0 R (lanes_work.re16 R) (lanes_work.rj35 R) x0_0 a0_1 n0_1 c0_1 a0_2 n0_2 c0_2 a0_3 n0_3 c0_3 f1_0 f1_1 f1_2 f1_3 f1_4 f1_5 f1_6 f1_7 w := by kernel_rfl
theorem lanes_work.calls {R : Value → World → Prop} {x0_0 : Int} {a0_1 : Option Addr} {n0_1 : Nat} {c0_1 : Nat} {a0_2 : Option Addr} {n0_2 : Nat} {c0_2 : Nat} {a0_3 : Option Addr} {n0_3 : Nat} {c0_3 : Nat} {f1_0 : Nat} {f1_1 : Nat} {f1_2 : Nat} {f1_3 : Nat} {f1_4 : Nat} {f1_5 : Nat} {f1_6 : Nat} {f1_7 : Nat} {w : World} (h : lanes_work R x0_0 a0_1 n0_1 c0_1 a0_2 n0_2 c0_2 a0_3 n0_3 c0_3 f1_0 f1_1 f1_2 f1_3 f1_4 f1_5 f1_6 f1_7 w) : Go.E.CallsD Go.Proofs.Tryd.prog 12 #[.agg #[.int .i64 x0_0, .slice a0_1 n0_1 c0_1, .slice a0_2 n0_2 c0_2, .slice a0_3 n0_3 c0_3], .agg #[.float .f64 f1_0, .float .f64 f1_1, .float .f64 f1_2, .float .f64 f1_3, .float .f64 f1_4, .float .f64 f1_5, .float .f64 f1_6, .float .f64 f1_7]] w R := by
  refine callsD_of (n := lanes_work.an) M_follows M_sizes Go.Proofs.Tryd.func12 (by rfl) ?_
  rw [lanes_work.root0]
  unfold lanes_work at h
  rw [lanes_work.eq16 R, lanes_work.jq35 R] at h
  exact h
-- thicket/lanes.Pack
def lanes_Pack.an : An := (.mk none .nil (.mk none .nil (.mk none (.mk none .nil (.mk none (.mk (some [0, 1, 21, 22, 23]) .nil .nil) .nil)) (.mk none .nil (.mk none (.mk none .nil (.mk none (.mk (some [0, 1, 8, 34, 35]) (.mk none .nil (.mk none .nil (.mk none (.mk none (.mk none .nil (.mk none .nil (.mk none (.mk none .nil (.mk none (.mk (some [0, 1, 8, 9, 10, 34, 35, 40]) (.mk none .nil (.mk none .nil (.mk none (.mk none (.mk none .nil (.mk none .nil (.mk none .nil (.mk none (.mk (some [0, 1, 8, 9, 10, 11, 34, 35, 40, 54, 55, 56]) .nil .nil) .nil)))) .nil) .nil))) .nil) .nil)) .nil))) .nil) .nil))) .nil) .nil)) .nil)))))
def lanes_Pack.g0 (R : Value → World → Prop) (e14 : (Option Addr) → Nat → Nat → Int → (Option Addr) → Nat → Nat → Int → Int → World → Prop) (a0 : Option Addr) (n0 : Nat) (c0 : Nat) (x1 : Int) (w : World) : Prop :=
 onBool (decide (x1 < 0))
 (R (.tuple #[.slice none 0 0, .int .i64 2]) w)
 (onBool (decide (x1 > 65536))
 (R (.tuple #[.slice none 0 0, .int .i64 2]) w)
 (e14 a0 n0 c0 x1 a0 n0 c0 (n0 : Int) 0 w))
def lanes_Pack.g14 (R : Value → World → Prop) (b14 : (Option Addr) → Nat → Nat → Int → (Option Addr) → Nat → Nat → Int → Int → World → Prop) (e39 : (Option Addr) → Nat → Nat → Int → (Option Addr) → Nat → Nat → Int → Int → World → Prop) (a0 : Option Addr) (n0 : Nat) (c0 : Nat) (x1 : Int) (a21 : Option Addr) (n21 : Nat) (c21 : Nat) (x22 : Int) (x23 : Int) (w : World) : Prop :=
 onBool (decide (x23 < x22))
 (optN a21 fun q25 =>
 chk ((0 : Int) ≤ x23 ∧ x23 < (n21 : Int))
 (∃ ya_26 : Option Addr, ∃ yn_26 : Nat, ∃ yc_26 : Nat, w.cell? (q25.add (x23.toNat * 1)) = some (.slice ya_26 yn_26 yc_26) ∧
 (onBool ((yn_26 : Int) != x1)
 (R (.tuple #[.slice none 0 0, .int .i64 72]) w)
 (nv (IntKind.i64.wrap (x23 + 1)) fun t27 =>
 b14 a0 n0 c0 x1 a21 n21 c21 x22 t27 w))))
 (Go.E.CallsD Go.Proofs.Tryd.prog 20 #[.int .i64 (n0 : Int)] w fun yv28 u29 =>
 ∃ yx_30 : Int, yv28 = .int .i64 yx_30 ∧
 (e39 a0 n0 c0 x1 none 0 0 yx_30 0 u29))
def lanes_Pack.g39 (R : Value → World → Prop) (e56 : (Option Addr) → Nat → Nat → Int → (Option Addr) → Nat → Nat → Int → (Option Addr) → Nat → Nat → Int → Int → Int → World → Prop) (a0 : Option Addr) (n0 : Nat) (c0 : Nat) (x1 : Int) (a8 : Option Addr) (n8 : Nat) (c8 : Nat) (x34 : Int) (x35 : Int) (w : World) : Prop :=
 onBool (decide (x35 < x34))
 (chk ((0 : Int) ≤ x1 ∧ x1 ≤ x1 ∧ ((64 : Nat) : Int) * x1 ≤ 281474976710656 ∧ x1 ≤ 9223372036854775807)
 (nw (w.alloc (.cells (madeCells #[.float .f64 0, .float .f64 0, .float .f64 0, .float .f64 0, .float .f64 0, .float .f64 0, .float .f64 0, .float .f64 0] ((x1).toNat * 8)) 57)) fun w31 =>
 e56 a0 n0 c0 x1 a8 n8 c8 x35 (some (na w)) ((x1).toNat) ((x1).toNat) x34 x35 0 w31))
 (R (.tuple #[.slice a8 n8 c8, .int .i64 0]) w)
def lanes_Pack.g56 (R : Value → World → Prop) (b39 : (Option Addr) → Nat → Nat → Int → (Option Addr) → Nat → Nat → Int → Int → World → Prop) (e72 : (Option Addr) → Nat → Nat → Int → (Option Addr) → Nat → Nat → Int → (Option Addr) → Nat → Nat → Int → Int → Int → Int → (Option Addr) → Nat → Nat → Int → Int → World → Prop) (a0 : Option Addr) (n0 : Nat) (c0 : Nat) (x1 : Int) (a8 : Option Addr) (n8 : Nat) (c8 : Nat) (x9 : Int) (a10 : Option Addr) (n10 : Nat) (c10 : Nat) (x34 : Int) (x35 : Int) (x40 : Int) (w : World) : Prop :=
 onBool (decide (x40 < 8))
 (nv (IntKind.i64.wrap (x9 * 8)) fun t32 =>
 nv (IntKind.i64.wrap (t32 + x40)) fun t33 =>
 nv (IntKind.i64.wrap ((n0 : Int) - 1)) fun t34 =>
 nv ((if t34 < t33 then t34 else t33)) fun t35 =>
 optN a0 fun q36 =>
 chk ((0 : Int) ≤ t35 ∧ t35 < (n0 : Int))
 (∃ ya_37 : Option Addr, ∃ yn_37 : Nat, ∃ yc_37 : Nat, w.cell? (q36.add (t35.toNat * 1)) = some (.slice ya_37 yn_37 yc_37) ∧
 (e72 a0 n0 c0 x1 a8 n8 c8 x9 a10 n10 c10 x40 x34 x35 x40 ya_37 yn_37 yc_37 (yn_37 : Int) 0 w)))
 (nw (w.alloc (.cells #[.slice a10 n10 c10] 50)) fun w38 =>
 rawN Go.Proofs.Tryd.prog (Builtin.append_ #[35, 35] 35 #[.slice a8 n8 c8, .slice (some (na w)) 1 1]) w38 fun yv39 u40 =>
 ∃ ya_41 : Option Addr, ∃ yn_41 : Nat, ∃ yc_41 : Nat, yv39 = .slice ya_41 yn_41 yc_41 ∧
 (nv (IntKind.i64.wrap (x35 + 1)) fun t42 =>
 b39 a0 n0 c0 x1 ya_41 yn_41 yc_41 x34 t42 u40))
def lanes_Pack.g72 (R : Value → World → Prop) (b56 : (Option Addr) → Nat → Nat → Int → (Option Addr) → Nat → Nat → Int → (Option Addr) → Nat → Nat → Int → Int → Int → World → Prop) (b72 : (Option Addr) → Nat → Nat → Int → (Option Addr) → Nat → Nat → Int → (Option Addr) → Nat → Nat → Int → Int → Int → Int → (Option Addr) → Nat → Nat → Int → Int → World → Prop) (a0 : Option Addr) (n0 : Nat) (c0 : Nat) (x1 : Int) (a8 : Option Addr) (n8 : Nat) (c8 : Nat) (x9 : Int) (a10 : Option Addr) (n10 : Nat) (c10 : Nat) (x11 : Int) (x34 : Int) (x35 : Int) (x40 : Int) (a54 : Option Addr) (n54 : Nat) (c54 : Nat) (x55 : Int) (x56 : Int) (w : World) : Prop :=
 onBool (decide (x56 < x55))
 (optN a54 fun q43 =>
 chk ((0 : Int) ≤ x56 ∧ x56 < (n54 : Int))
 (∃ yf_44 : Nat, w.cell? (q43.add (x56.toNat * 1)) = some (.float .f64 yf_44) ∧
 (optN a10 fun q45 =>
 chk ((0 : Int) ≤ x56 ∧ x56 < (n10 : Int))
 (chk ((0 : Int) ≤ x11 ∧ x11 < (8 : Int))
 (okSt w (((q45.add (x56.toNat * 8)).add (x11.toNat * 1)).add 0) ∧
 (nw (w.setCell (((q45.add (x56.toNat * 8)).add (x11.toNat * 1)).add 0) (.float .f64 yf_44)) fun w46 =>
 nv (IntKind.i64.wrap (x56 + 1)) fun t47 =>
 b72 a0 n0 c0 x1 a8 n8 c8 x9 a10 n10 c10 x11 x34 x35 x40 a54 n54 c54 x55 t47 w46))))))
 (nv (IntKind.i64.wrap (x40 + 1)) fun t48 =>
 b56 a0 n0 c0 x1 a8 n8 c8 x9 a10 n10 c10 x34 x35 t48 w)
def lanes_Pack.q2 (R : Value → World → Prop) : Exit → Act → World → Prop := (fin Go.Proofs.Tryd.prog Go.Proofs.Tryd.f13 R)
def lanes_Pack.q10 (R : Value → World → Prop) : Exit → Act → World → Prop := (lanes_Pack.q2 R)
def lanes_Pack.q11 (R : Value → World → Prop) : Exit → Act → World → Prop := Exit.then (startN none (codeN Go.Proofs.Tryd.prog (sub (codeOf Go.Proofs.Tryd.f13) [1, 1, 1]) (nsub lanes_Pack.an [1, 1, 1]) (lanes_Pack.q10 R))) (lanes_Pack.q10 R)
def lanes_Pack.q13 (R : Value → World → Prop) : Exit → Act → World → Prop := (lanes_Pack.q11 R)
def lanes_Pack.q14 (R : Value → World → Prop) : Exit → Act → World → Prop := Exit.inBlock 0 (lanes_Pack.q13 R)
def lanes_Pack.rl14 (R : Value → World → Prop) (k : Nat) (a0 : Option Addr) (n0 : Nat) (c0 : Nat) (x1 : Int) (a21 : Option Addr) (n21 : Nat) (c21 : Nat) (x22 : Int) (x23 : Int) (w : World) : Prop := loopN [0, 1, 21, 22, 23] (codeN Go.Proofs.Tryd.prog (sub (codeOf Go.Proofs.Tryd.f13) [1, 1, 0, 1, 0, 0]) (nsub lanes_Pack.an [1, 1, 0, 1, 0, 0])) (lanes_Pack.q14 R) k ⟨#[.slice a0 n0 c0, .int .i64 x1, undef, undef, undef, undef, undef, undef, undef, undef, undef, undef, undef, undef, undef, undef, undef, undef, undef, undef, undef, .slice a21 n21 c21, .int .i64 x22, .int .i64 x23, undef, undef, undef, undef, undef, undef, undef, undef, undef, undef, undef, undef, undef, undef, undef, undef, undef, undef, undef, undef, undef, undef, undef, undef, undef, undef, undef, undef, undef, undef, undef, undef, undef, undef, undef, undef, undef, undef, undef, undef, undef, undef, undef, undef, undef, undef, undef, undef, undef, undef, undef], []⟩ w
def lanes_Pack.re14 (R : Value → World → Prop) (a0 : Option Addr) (n0 : Nat) (c0 : Nat) (x1 : Int) (a21 : Option Addr) (n21 : Nat) (c21 : Nat) (x22 : Int) (x23 : Int) (w : World) : Prop := ∃ k, lanes_Pack.rl14 R k a0 n0 c0 x1 a21 n21 c21 x22 x23 w
def lanes_Pack.q33 (R : Value → World → Prop) : Exit → Act → World → Prop := (lanes_Pack.q10 R)
def lanes_Pack.q35 (R : Value → World → Prop) : Exit → Act → World → Prop := (lanes_Pack.q33 R)
def lanes_Pack.q36 (R : Value → World → Prop) : Exit → Act → World → Prop := Exit.then (startN none (codeN Go.Proofs.Tryd.prog (sub (codeOf Go.Proofs.Tryd.f13) [1, 1, 1, 1, 1]) (nsub lanes_Pack.an [1, 1, 1, 1, 1]) (lanes_Pack.q35 R))) (lanes_Pack.q35 R)
def lanes_Pack.q38 (R : Value → World → Prop) : Exit → Act → World → Prop := (lanes_Pack.q36 R)
def lanes_Pack.q39 (R : Value → World → Prop) : Exit → Act → World → Prop := Exit.inBlock 2 (lanes_Pack.q38 R)
def lanes_Pack.rl39 (R : Value → World → Prop) (k : Nat) (a0 : Option Addr) (n0 : Nat) (c0 : Nat) (x1 : Int) (a8 : Option Addr) (n8 : Nat) (c8 : Nat) (x34 : Int) (x35 : Int) (w : World) : Prop := loopN [0, 1, 8, 34, 35] (codeN Go.Proofs.Tryd.prog (sub (codeOf Go.Proofs.Tryd.f13) [1, 1, 1, 1, 0, 1, 0, 0]) (nsub lanes_Pack.an [1, 1, 1, 1, 0, 1, 0, 0])) (lanes_Pack.q39 R) k ⟨#[.slice a0 n0 c0, .int .i64 x1, undef, undef, undef, undef, undef, undef, .slice a8 n8 c8, undef, undef, undef, undef, undef, undef, undef, undef, undef, undef, undef, undef, undef, undef, undef, undef, undef, undef, undef, undef, undef, undef, undef, undef, undef, .int .i64 x34, .int .i64 x35, undef, undef, undef, undef, undef, undef, undef, undef, undef, undef, undef, undef, undef, undef, undef, undef, undef, undef, undef, undef, undef, undef, undef, undef, undef, undef, undef, undef, undef, undef, undef, undef, undef, undef, undef, undef, undef, undef, undef], []⟩ w
def lanes_Pack.re39 (R : Value → World → Prop) (a0 : Option Addr) (n0 : Nat) (c0 : Nat) (x1 : Int) (a8 : Option Addr) (n8 : Nat) (c8 : Nat) (x34 : Int) (x35 : Int) (w : World) : Prop := ∃ k, lanes_Pack.rl39 R k a0 n0 c0 x1 a8 n8 c8 x34 x35 w
def lanes_Pack.q40 (R : Value → World → Prop) (k39 : Nat) : Exit → Act → World → Prop := Exit.then (fun a w => loopN [0, 1, 8, 34, 35] (codeN Go.Proofs.Tryd.prog (sub (codeOf Go.Proofs.Tryd.f13) [1, 1, 1, 1, 0, 1, 0, 0]) (nsub lanes_Pack.an [1, 1, 1, 1, 0, 1, 0, 0])) (lanes_Pack.q39 R) k39 (clr [0, 1, 8, 34, 35] a) w) (lanes_Pack.q39 R)
def lanes_Pack.q42 (R : Value → World → Prop) (k39 : Nat) : Exit → Act → World → Prop := (lanes_Pack.q40 R k39)
def lanes_Pack.q46 (R : Value → World → Prop) (k39 : Nat) : Exit → Act → World → Prop := (lanes_Pack.q42 R k39)
def lanes_Pack.q47 (R : Value → World → Prop) (k39 : Nat) : Exit → Act → World → Prop := Exit.then (startN none (codeN Go.Proofs.Tryd.prog (sub (codeOf Go.Proofs.Tryd.f13) [1, 1, 1, 1, 0, 1, 0, 0, 1, 1, 1]) (nsub lanes_Pack.an [1, 1, 1, 1, 0, 1, 0, 0, 1, 1, 1]) (lanes_Pack.q46 R k39))) (lanes_Pack.q46 R k39)
def lanes_Pack.q48 (R : Value → World → Prop) (k39 : Nat) : Exit → Act → World → Prop := Exit.inBlock 3 (lanes_Pack.q47 R k39)
def lanes_Pack.q50 (R : Value → World → Prop) (k39 : Nat) : Exit → Act → World → Prop := (lanes_Pack.q48 R k39)
def lanes_Pack.q52 (R : Value → World → Prop) (k39 : Nat) : Exit → Act → World → Prop := (lanes_Pack.q50 R k39)
def lanes_Pack.q53 (R : Value → World → Prop) (k39 : Nat) : Exit → Act → World → Prop := Exit.then (startN none (codeN Go.Proofs.Tryd.prog (sub (codeOf Go.Proofs.Tryd.f13) [1, 1, 1, 1, 0, 1, 0, 0, 1, 1, 0, 0, 1, 1, 1]) (nsub lanes_Pack.an [1, 1, 1, 1, 0, 1, 0, 0, 1, 1, 0, 0, 1, 1, 1]) (lanes_Pack.q52 R k39))) (lanes_Pack.q52 R k39)
def lanes_Pack.q55 (R : Value → World → Prop) (k39 : Nat) : Exit → Act → World → Prop := (lanes_Pack.q53 R k39)
def lanes_Pack.q56 (R : Value → World → Prop) (k39 : Nat) : Exit → Act → World → Prop := Exit.inBlock 4 (lanes_Pack.q55 R k39)
def lanes_Pack.rl56 (R : Value → World → Prop) (k39 : Nat) (k : Nat) (a0 : Option Addr) (n0 : Nat) (c0 : Nat) (x1 : Int) (a8 : Option Addr) (n8 : Nat) (c8 : Nat) (x9 : Int) (a10 : Option Addr) (n10 : Nat) (c10 : Nat) (x34 : Int) (x35 : Int) (x40 : Int) (w : World) : Prop := loopN [0, 1, 8, 9, 10, 34, 35, 40] (codeN Go.Proofs.Tryd.prog (sub (codeOf Go.Proofs.Tryd.f13) [1, 1, 1, 1, 0, 1, 0, 0, 1, 1, 0, 0, 1, 1, 0, 1, 0, 0]) (nsub lanes_Pack.an [1, 1, 1, 1, 0, 1, 0, 0, 1, 1, 0, 0, 1, 1, 0, 1, 0, 0])) (lanes_Pack.q56 R k39) k ⟨#[.slice a0 n0 c0, .int .i64 x1, undef, undef, undef, undef, undef, undef, .slice a8 n8 c8, .int .i64 x9, .slice a10 n10 c10, undef, undef, undef, undef, undef, undef, undef, undef, undef, undef, undef, undef, undef, undef, undef, undef, undef, undef, undef, undef, undef, undef, undef, .int .i64 x34, .int .i64 x35, undef, undef, undef, undef, .int .i64 x40, undef, undef, undef, undef, undef, undef, undef, undef, undef, undef, undef, undef, undef, undef, undef, undef, undef, undef, undef, undef, undef, undef, undef, undef, undef, undef, undef, undef, undef, undef, undef, undef, undef, undef], []⟩ w
def lanes_Pack.re56 (R : Value → World → Prop) (k39 : Nat) (a0 : Option Addr) (n0 : Nat) (c0 : Nat) (x1 : Int) (a8 : Option Addr) (n8 : Nat) (c8 : Nat) (x9 : Int) (a10 : Option Addr) (n10 : Nat) (c10 : Nat) (x34 : Int) (x35 : Int) (x40 : Int) (w : World) : Prop := ∃ k, lanes_Pack.rl56 R k39 k a0 n0 c0 x1 a8 n8 c8 x9 a10 n10 c10 x34 x35 x40 w
def lanes_Pack.q57 (R : Value → World → Prop) (k39 : Nat) (k56 : Nat) : Exit → Act → World → Prop := Exit.then (fun a w => loopN [0, 1, 8, 9, 10, 34, 35, 40] (codeN Go.Proofs.Tryd.prog (sub (codeOf Go.Proofs.Tryd.f13) [1, 1, 1, 1, 0, 1, 0, 0, 1, 1, 0, 0, 1, 1, 0, 1, 0, 0]) (nsub lanes_Pack.an [1, 1, 1, 1, 0, 1, 0, 0, 1, 1, 0, 0, 1, 1, 0, 1, 0, 0])) (lanes_Pack.q56 R k39) k56 (clr [0, 1, 8, 9, 10, 34, 35, 40] a) w) (lanes_Pack.q56 R k39)
def lanes_Pack.q59 (R : Value → World → Prop) (k39 : Nat) (k56 : Nat) : Exit → Act → World → Prop := (lanes_Pack.q57 R k39 k56)
def lanes_Pack.q63 (R : Value → World → Prop) (k39 : Nat) (k56 : Nat) : Exit → Act → World → Prop := (lanes_Pack.q59 R k39 k56)
def lanes_Pack.q64 (R : Value → World → Prop) (k39 : Nat) (k56 : Nat) : Exit → Act → World → Prop := Exit.then (startN none (codeN Go.Proofs.Tryd.prog (sub (codeOf Go.Proofs.Tryd.f13) [1, 1, 1, 1, 0, 1, 0, 0, 1, 1, 0, 0, 1, 1, 0, 1, 0, 0, 1, 1, 1]) (nsub lanes_Pack.an [1, 1, 1, 1, 0, 1, 0, 0, 1, 1, 0, 0, 1, 1, 0, 1, 0, 0, 1, 1, 1]) (lanes_Pack.q63 R k39 k56))) (lanes_Pack.q63 R k39 k56)
def lanes_Pack.q65 (R : Value → World → Prop) (k39 : Nat) (k56 : Nat) : Exit → Act → World → Prop := Exit.inBlock 5 (lanes_Pack.q64 R k39 k56)
def lanes_Pack.q67 (R : Value → World → Prop) (k39 : Nat) (k56 : Nat) : Exit → Act → World → Prop := (lanes_Pack.q65 R k39 k56)
def lanes_Pack.q69 (R : Value → World → Prop) (k39 : Nat) (k56 : Nat) : Exit → Act → World → Prop := (lanes_Pack.q67 R k39 k56)
def lanes_Pack.q71 (R : Value → World → Prop) (k39 : Nat) (k56 : Nat) : Exit → Act → World → Prop := (lanes_Pack.q69 R k39 k56)
def lanes_Pack.q72 (R : Value → World → Prop) (k39 : Nat) (k56 : Nat) : Exit → Act → World → Prop := Exit.inBlock 6 (lanes_Pack.q71 R k39 k56)
def lanes_Pack.rl72 (R : Value → World → Prop) (k39 : Nat) (k56 : Nat) (k : Nat) (a0 : Option Addr) (n0 : Nat) (c0 : Nat) (x1 : Int) (a8 : Option Addr) (n8 : Nat) (c8 : Nat) (x9 : Int) (a10 : Option Addr) (n10 : Nat) (c10 : Nat) (x11 : Int) (x34 : Int) (x35 : Int) (x40 : Int) (a54 : Option Addr) (n54 : Nat) (c54 : Nat) (x55 : Int) (x56 : Int) (w : World) : Prop := loopN [0, 1, 8, 9, 10, 11, 34, 35, 40, 54, 55, 56] (codeN Go.Proofs.Tryd.prog (sub (codeOf Go.Proofs.Tryd.f13) [1, 1, 1, 1, 0, 1, 0, 0, 1, 1, 0, 0, 1, 1, 0, 1, 0, 0, 1, 1, 0, 0, 1, 1, 1, 0, 0]) (nsub lanes_Pack.an [1, 1, 1, 1, 0, 1, 0, 0, 1, 1, 0, 0, 1, 1, 0, 1, 0, 0, 1, 1, 0, 0, 1, 1, 1, 0, 0])) (lanes_Pack.q72 R k39 k56) k ⟨#[.slice a0 n0 c0, .int .i64 x1, undef, undef, undef, undef, undef, undef, .slice a8 n8 c8, .int .i64 x9, .slice a10 n10 c10, .int .i64 x11, undef, undef, undef, undef, undef, undef, undef, undef, undef, undef, undef, undef, undef, undef, undef, undef, undef, undef, undef, undef, undef, undef, .int .i64 x34, .int .i64 x35, undef, undef, undef, undef, .int .i64 x40, undef, undef, undef, undef, undef, undef, undef, undef, undef, undef, undef, undef, undef, .slice a54 n54 c54, .int .i64 x55, .int .i64 x56, undef, undef, undef, undef, undef, undef, undef, undef, undef, undef, undef, undef, undef, undef, undef, undef, undef, undef], []⟩ w
def lanes_Pack.re72 (R : Value → World → Prop) (k39 : Nat) (k56 : Nat) (a0 : Option Addr) (n0 : Nat) (c0 : Nat) (x1 : Int) (a8 : Option Addr) (n8 : Nat) (c8 : Nat) (x9 : Int) (a10 : Option Addr) (n10 : Nat) (c10 : Nat) (x11 : Int) (x34 : Int) (x35 : Int) (x40 : Int) (a54 : Option Addr) (n54 : Nat) (c54 : Nat) (x55 : Int) (x56 : Int) (w : World) : Prop := ∃ k, lanes_Pack.rl72 R k39 k56 k a0 n0 c0 x1 a8 n8 c8 x9 a10 n10 c10 x11 x34 x35 x40 a54 n54 c54 x55 x56 w
def lanes_Pack.l72 (R : Value → World → Prop) (b39 : (Option Addr) → Nat → Nat → Int → (Option Addr) → Nat → Nat → Int → Int → World → Prop) (b56 : (Option Addr) → Nat → Nat → Int → (Option Addr) → Nat → Nat → Int → (Option Addr) → Nat → Nat → Int → Int → Int → World → Prop) : Nat → (Option Addr) → Nat → Nat → Int → (Option Addr) → Nat → Nat → Int → (Option Addr) → Nat → Nat → Int → Int → Int → Int → (Option Addr) → Nat → Nat → Int → Int → World → Prop
  | 0, _, _, _, _, _, _, _, _, _, _, _, _, _, _, _, _, _, _, _, _, _ => False
  | k + 1, a0, n0, c0, x1, a8, n8, c8, x9, a10, n10, c10, x11, x34, x35, x40, a54, n54, c54, x55, x56, w => lanes_Pack.g72 R b56 (lanes_Pack.l72 R b39 b56 k) a0 n0 c0 x1 a8 n8 c8 x9 a10 n10 c10 x11 x34 x35 x40 a54 n54 c54 x55 x56 w
def lanes_Pack.e72 (R : Value → World → Prop) (b39 : (Option Addr) → Nat → Nat → Int → (Option Addr) → Nat → Nat → Int → Int → World → Prop) (b56 : (Option Addr) → Nat → Nat → Int → (Option Addr) → Nat → Nat → Int → (Option Addr) → Nat → Nat → Int → Int → Int → World → Prop) (a0 : Option Addr) (n0 : Nat) (c0 : Nat) (x1 : Int) (a8 : Option Addr) (n8 : Nat) (c8 : Nat) (x9 : Int) (a10 : Option Addr) (n10 : Nat) (c10 : Nat) (x11 : Int) (x34 : Int) (x35 : Int) (x40 : Int) (a54 : Option Addr) (n54 : Nat) (c54 : Nat) (x55 : Int) (x56 : Int) (w : World) : Prop := ∃ k, lanes_Pack.l72 R b39 b56 k a0 n0 c0 x1 a8 n8 c8 x9 a10 n10 c10 x11 x34 x35 x40 a54 n54 c54 x55 x56 w
theorem lanes_Pack.s72 (R : Value → World → Prop) (k39 : Nat) (k56 : Nat) (k : Nat) (a0 : Option Addr) (n0 : Nat) (c0 : Nat) (x1 : Int) (a8 : Option Addr) (n8 : Nat) (c8 : Nat) (x9 : Int) (a10 : Option Addr) (n10 : Nat) (c10 : Nat) (x11 : Int) (x34 : Int) (x35 : Int) (x40 : Int) (a54 : Option Addr) (n54 : Nat) (c54 : Nat) (x55 : Int) (x56 : Int) (w : World) : lanes_Pack.rl72 R k39 k56 (k + 1) a0 n0 c0 x1 a8 n8 c8 x9 a10 n10 c10 x11 x34 x35 x40 a54 n54 c54 x55 x56 w = ∀ _ : Nat → Value, lanes_Pack.g72 R (lanes_Pack.rl56 R k39 k56) (lanes_Pack.rl72 R k39 k56 k) a0 n0 c0 x1 a8 n8 c8 x9 a10 n10 c10 x11 x34 x35 x40 a54 n54 c54 x55 x56 w := by kernel_rfl
theorem lanes_Pack.lq72 (R : Value → World → Prop) (k39 : Nat) (k56 : Nat) (b39 : (Option Addr) → Nat → Nat → Int → (Option Addr) → Nat → Nat → Int → Int → World → Prop) (b56 : (Option Addr) → Nat → Nat → Int → (Option Addr) → Nat → Nat → Int → (Option Addr) → Nat → Nat → Int → Int → Int → World → Prop) (hb39 : b39 = lanes_Pack.rl39 R k39) (hb56 : b56 = lanes_Pack.rl56 R k39 k56) : ∀ k, lanes_Pack.l72 R b39 b56 k = lanes_Pack.rl72 R k39 k56 k
  | 0 => by funext a0 n0 c0 x1 a8 n8 c8 x9 a10 n10 c10 x11 x34 x35 x40 a54 n54 c54 x55 x56 w; first | rfl | kernel_rfl
  | k + 1 => by
    funext a0 n0 c0 x1 a8 n8 c8 x9 a10 n10 c10 x11 x34 x35 x40 a54 n54 c54 x55 x56 w
    rw [lanes_Pack.s72, forall_const]
    unfold lanes_Pack.l72
    have ih := lanes_Pack.lq72 R k39 k56 b39 b56 hb39 hb56 k
    subst hb39
    subst hb56
    rw [ih]
    all_goals rfl
theorem lanes_Pack.eq72 (R : Value → World → Prop) (k39 : Nat) (k56 : Nat) (b39 : (Option Addr) → Nat → Nat → Int → (Option Addr) → Nat → Nat → Int → Int → World → Prop) (b56 : (Option Addr) → Nat → Nat → Int → (Option Addr) → Nat → Nat → Int → (Option Addr) → Nat → Nat → Int → Int → Int → World → Prop) (hb39 : b39 = lanes_Pack.rl39 R k39) (hb56 : b56 = lanes_Pack.rl56 R k39 k56) : lanes_Pack.e72 R b39 b56 = lanes_Pack.re72 R k39 k56 := by
  funext a0 n0 c0 x1 a8 n8 c8 x9 a10 n10 c10 x11 x34 x35 x40 a54 n54 c54 x55 x56 w
  unfold lanes_Pack.e72 lanes_Pack.re72
  simp only [lanes_Pack.lq72 R k39 k56 b39 b56 hb39 hb56]
def lanes_Pack.l56 (R : Value → World → Prop) (b39 : (Option Addr) → Nat → Nat → Int → (Option Addr) → Nat → Nat → Int → Int → World → Prop) : Nat → (Option Addr) → Nat → Nat → Int → (Option Addr) → Nat → Nat → Int → (Option Addr) → Nat → Nat → Int → Int → Int → World → Prop
  | 0, _, _, _, _, _, _, _, _, _, _, _, _, _, _, _ => False
  | k + 1, a0, n0, c0, x1, a8, n8, c8, x9, a10, n10, c10, x34, x35, x40, w => lanes_Pack.g56 R b39 (lanes_Pack.e72 R b39 (lanes_Pack.l56 R b39 k)) a0 n0 c0 x1 a8 n8 c8 x9 a10 n10 c10 x34 x35 x40 w
def lanes_Pack.e56 (R : Value → World → Prop) (b39 : (Option Addr) → Nat → Nat → Int → (Option Addr) → Nat → Nat → Int → Int → World → Prop) (a0 : Option Addr) (n0 : Nat) (c0 : Nat) (x1 : Int) (a8 : Option Addr) (n8 : Nat) (c8 : Nat) (x9 : Int) (a10 : Option Addr) (n10 : Nat) (c10 : Nat) (x34 : Int) (x35 : Int) (x40 : Int) (w : World) : Prop := ∃ k, lanes_Pack.l56 R b39 k a0 n0 c0 x1 a8 n8 c8 x9 a10 n10 c10 x34 x35 x40 w
theorem lanes_Pack.s56 (R : Value → World → Prop) (k39 : Nat) (k : Nat) (a0 : Option Addr) (n0 : Nat) (c0 : Nat) (x1 : Int) (a8 : Option Addr) (n8 : Nat) (c8 : Nat) (x9 : Int) (a10 : Option Addr) (n10 : Nat) (c10 : Nat) (x34 : Int) (x35 : Int) (x40 : Int) (w : World) : lanes_Pack.rl56 R k39 (k + 1) a0 n0 c0 x1 a8 n8 c8 x9 a10 n10 c10 x34 x35 x40 w = ∀ _ : Nat → Value, lanes_Pack.g56 R (lanes_Pack.rl39 R k39) (lanes_Pack.re72 R k39 k) a0 n0 c0 x1 a8 n8 c8 x9 a10 n10 c10 x34 x35 x40 w := by kernel_rfl
theorem lanes_Pack.lq56 (R : Value → World → Prop) (k39 : Nat) (b39 : (Option Addr) → Nat → Nat → Int → (Option Addr) → Nat → Nat → Int → Int → World → Prop) (hb39 : b39 = lanes_Pack.rl39 R k39) : ∀ k, lanes_Pack.l56 R b39 k = lanes_Pack.rl56 R k39 k
  | 0 => by funext a0 n0 c0 x1 a8 n8 c8 x9 a10 n10 c10 x34 x35 x40 w; first | rfl | kernel_rfl
  | k + 1 => by
    funext a0 n0 c0 x1 a8 n8 c8 x9 a10 n10 c10 x34 x35 x40 w
    rw [lanes_Pack.s56, forall_const]
    unfold lanes_Pack.l56
    have ih := lanes_Pack.lq56 R k39 b39 hb39 k
    subst hb39
    rw [lanes_Pack.eq72 R k39 k _ _ rfl ih]
    all_goals rfl
theorem lanes_Pack.eq56 (R : Value → World → Prop) (k39 : Nat) (b39 : (Option Addr) → Nat → Nat → Int → (Option Addr) → Nat → Nat → Int → Int → World → Prop) (hb39 : b39 = lanes_Pack.rl39 R k39) : lanes_Pack.e56 R b39 = lanes_Pack.re56 R k39 := by
  funext a0 n0 c0 x1 a8 n8 c8 x9 a10 n10 c10 x34 x35 x40 w
  unfold lanes_Pack.e56 lanes_Pack.re56
  simp only [lanes_Pack.lq56 R k39 b39 hb39]
def lanes_Pack.l39 (R : Value → World → Prop) : Nat → (Option Addr) → Nat → Nat → Int → (Option Addr) → Nat → Nat → Int → Int → World → Prop
  | 0, _, _, _, _, _, _, _, _, _, _ => False
  | k + 1, a0, n0, c0, x1, a8, n8, c8, x34, x35, w => lanes_Pack.g39 R (lanes_Pack.e56 R (lanes_Pack.l39 R k)) a0 n0 c0 x1 a8 n8 c8 x34 x35 w
def lanes_Pack.e39 (R : Value → World → Prop) (a0 : Option Addr) (n0 : Nat) (c0 : Nat) (x1 : Int) (a8 : Option Addr) (n8 : Nat) (c8 : Nat) (x34 : Int) (x35 : Int) (w : World) : Prop := ∃ k, lanes_Pack.l39 R k a0 n0 c0 x1 a8 n8 c8 x34 x35 w
theorem lanes_Pack.s39 (R : Value → World → Prop) (k : Nat) (a0 : Option Addr) (n0 : Nat) (c0 : Nat) (x1 : Int) (a8 : Option Addr) (n8 : Nat) (c8 : Nat) (x34 : Int) (x35 : Int) (w : World) : lanes_Pack.rl39 R (k + 1) a0 n0 c0 x1 a8 n8 c8 x34 x35 w = ∀ _ : Nat → Value, lanes_Pack.g39 R (lanes_Pack.re56 R k) a0 n0 c0 x1 a8 n8 c8 x34 x35 w := by kernel_rfl
theorem lanes_Pack.lq39 (R : Value → World → Prop) : ∀ k, lanes_Pack.l39 R k = lanes_Pack.rl39 R k
  | 0 => by funext a0 n0 c0 x1 a8 n8 c8 x34 x35 w; first | rfl | kernel_rfl
  | k + 1 => by
    funext a0 n0 c0 x1 a8 n8 c8 x34 x35 w
    rw [lanes_Pack.s39, forall_const]
    unfold lanes_Pack.l39
    have ih := lanes_Pack.lq39 R k
    rw [lanes_Pack.eq56 R k _ ih]
    all_goals rfl
theorem lanes_Pack.eq39 (R : Value → World → Prop) : lanes_Pack.e39 R = lanes_Pack.re39 R := by
  funext a0 n0 c0 x1 a8 n8 c8 x34 x35 w
  unfold lanes_Pack.e39 lanes_Pack.re39
  simp only [lanes_Pack.lq39 R]
def lanes_Pack.l14 (R : Value → World → Prop) : Nat → (Option Addr) → Nat → Nat → Int → (Option Addr) → Nat → Nat → Int → Int → World → Prop
  | 0, _, _, _, _, _, _, _, _, _, _ => False
  | k + 1, a0, n0, c0, x1, a21, n21, c21, x22, x23, w => lanes_Pack.g14 R (lanes_Pack.l14 R k) (lanes_Pack.e39 R) a0 n0 c0 x1 a21 n21 c21 x22 x23 w
def lanes_Pack.e14 (R : Value → World → Prop) (a0 : Option Addr) (n0 : Nat) (c0 : Nat) (x1 : Int) (a21 : Option Addr) (n21 : Nat) (c21 : Nat) (x22 : Int) (x23 : Int) (w : World) : Prop := ∃ k, lanes_Pack.l14 R k a0 n0 c0 x1 a21 n21 c21 x22 x23 w
theorem lanes_Pack.s14 (R : Value → World → Prop) (k : Nat) (a0 : Option Addr) (n0 : Nat) (c0 : Nat) (x1 : Int) (a21 : Option Addr) (n21 : Nat) (c21 : Nat) (x22 : Int) (x23 : Int) (w : World) : lanes_Pack.rl14 R (k + 1) a0 n0 c0 x1 a21 n21 c21 x22 x23 w = ∀ _ : Nat → Value, lanes_Pack.g14 R (lanes_Pack.rl14 R k) (lanes_Pack.re39 R) a0 n0 c0 x1 a21 n21 c21 x22 x23 w := by kernel_rfl
theorem lanes_Pack.lq14 (R : Value → World → Prop) : ∀ k, lanes_Pack.l14 R k = lanes_Pack.rl14 R k
  | 0 => by funext a0 n0 c0 x1 a21 n21 c21 x22 x23 w; first | rfl | kernel_rfl
  | k + 1 => by
    funext a0 n0 c0 x1 a21 n21 c21 x22 x23 w
    rw [lanes_Pack.s14, forall_const]
    unfold lanes_Pack.l14
    have ih := lanes_Pack.lq14 R k
    rw [lanes_Pack.eq39 R]
    rw [ih]
    all_goals rfl
theorem lanes_Pack.eq14 (R : Value → World → Prop) : lanes_Pack.e14 R = lanes_Pack.re14 R := by
  funext a0 n0 c0 x1 a21 n21 c21 x22 x23 w
  unfold lanes_Pack.e14 lanes_Pack.re14
  simp only [lanes_Pack.lq14 R]
def lanes_Pack (R : Value → World → Prop) (a0 : Option Addr) (n0 : Nat) (c0 : Nat) (x1 : Int) (w : World) : Prop := lanes_Pack.g0 R (lanes_Pack.e14 R) a0 n0 c0 x1 w
theorem lanes_Pack.root0 (R : Value → World → Prop) (a0 : Option Addr) (n0 : Nat) (c0 : Nat) (x1 : Int) (w : World) : fnN Go.Proofs.Tryd.prog Go.Proofs.Tryd.f13 lanes_Pack.an #[.slice a0 n0 c0, .int .i64 x1] w R = lanes_Pack.g0 R (lanes_Pack.re14 R) a0 n0 c0 x1 w := by kernel_rfl
theorem lanes_Pack.calls {R : Value → World → Prop} {a0 : Option Addr} {n0 : Nat} {c0 : Nat} {x1 : Int} {w : World} (h : lanes_Pack R a0 n0 c0 x1 w) : Go.E.CallsD Go.Proofs.Tryd.prog 13 #[.slice a0 n0 c0, .int .i64 x1] w R := by
  refine callsD_of (n := lanes_Pack.an) M_follows M_sizes Go.Proofs.Tryd.func13 (by rfl) ?_
  rw [lanes_Pack.root0]
  unfold lanes_Pack at h
  rw [lanes_Pack.eq14 R] at h
  exact h
-- thicket/lanes.Above
def lanes_Above.an : An := An.nil
def lanes_Above.g0 (R : Value → World → Prop) (f0_0 : Nat) (f0_1 : Nat) (f0_2 : Nat) (f0_3 : Nat) (f0_4 : Nat) (f0_5 : Nat) (f0_6 : Nat) (f0_7 : Nat) (f1 : Nat) (w : World) : Prop :=
 nw (w.alloc (.cells #[.float .f64 f0_0, .float .f64 f0_1, .float .f64 f0_2, .float .f64 f0_3, .float .f64 f0_4, .float .f64 f0_5, .float .f64 f0_6, .float .f64 f0_7] 57)) fun w14 =>
 nw (w14.alloc (.cells #[.float .f64 f1] 55)) fun w15 =>
 ∃ yf_16 : Nat, w15.cell? ((na w).add 0) = some (.float .f64 yf_16) ∧
 (∃ yf_17 : Nat, w15.cell? ((na w).add 1) = some (.float .f64 yf_17) ∧
 (∃ yf_18 : Nat, w15.cell? ((na w).add 2) = some (.float .f64 yf_18) ∧
 (∃ yf_19 : Nat, w15.cell? ((na w).add 3) = some (.float .f64 yf_19) ∧
 (∃ yf_20 : Nat, w15.cell? ((na w).add 4) = some (.float .f64 yf_20) ∧
 (∃ yf_21 : Nat, w15.cell? ((na w).add 5) = some (.float .f64 yf_21) ∧
 (∃ yf_22 : Nat, w15.cell? ((na w).add 6) = some (.float .f64 yf_22) ∧
 (∃ yf_23 : Nat, w15.cell? ((na w).add 7) = some (.float .f64 yf_23) ∧
 (Go.E.CallsD Go.Proofs.Tryd.prog 21 #[.agg #[.float .f64 yf_16, .float .f64 yf_17, .float .f64 yf_18, .float .f64 yf_19, .float .f64 yf_20, .float .f64 yf_21, .float .f64 yf_22, .float .f64 yf_23], .func (.func 22) #[] #[.pointer (some (na w14))]] w15 fun yv24 u25 =>
 ∃ yx_26 : Int, yv24 = .int .u8 yx_26 ∧
 (R (.int .u8 yx_26) u25)))))))))
def lanes_Above (R : Value → World → Prop) (f0_0 : Nat) (f0_1 : Nat) (f0_2 : Nat) (f0_3 : Nat) (f0_4 : Nat) (f0_5 : Nat) (f0_6 : Nat) (f0_7 : Nat) (f1 : Nat) (w : World) : Prop := lanes_Above.g0 R f0_0 f0_1 f0_2 f0_3 f0_4 f0_5 f0_6 f0_7 f1 w
theorem lanes_Above.root0 (R : Value → World → Prop) (f0_0 : Nat) (f0_1 : Nat) (f0_2 : Nat) (f0_3 : Nat) (f0_4 : Nat) (f0_5 : Nat) (f0_6 : Nat) (f0_7 : Nat) (f1 : Nat) (w : World) : fnN Go.Proofs.Tryd.prog Go.Proofs.Tryd.f14 lanes_Above.an #[.agg #[.float .f64 f0_0, .float .f64 f0_1, .float .f64 f0_2, .float .f64 f0_3, .float .f64 f0_4, .float .f64 f0_5, .float .f64 f0_6, .float .f64 f0_7], .float .f64 f1] w R = lanes_Above.g0 R f0_0 f0_1 f0_2 f0_3 f0_4 f0_5 f0_6 f0_7 f1 w := by kernel_rfl
theorem lanes_Above.calls {R : Value → World → Prop} {f0_0 : Nat} {f0_1 : Nat} {f0_2 : Nat} {f0_3 : Nat} {f0_4 : Nat} {f0_5 : Nat} {f0_6 : Nat} {f0_7 : Nat} {f1 : Nat} {w : World} (h : lanes_Above R f0_0 f0_1 f0_2 f0_3 f0_4 f0_5 f0_6 f0_7 f1 w) : Go.E.CallsD Go.Proofs.Tryd.prog 14 #[.agg #[.float .f64 f0_0, .float .f64 f0_1, .float .f64 f0_2, .float .f64 f0_3, .float .f64 f0_4, .float .f64 f0_5, .float .f64 f0_6, .float .f64 f0_7], .float .f64 f1] w R := by
  refine callsD_of (n := lanes_Above.an) M_follows M_sizes Go.Proofs.Tryd.func14 (by rfl) ?_
  rw [lanes_Above.root0]
  unfold lanes_Above at h
  exact h
-- thicket/lanes.Outside
def lanes_Outside.an : An := An.nil
def lanes_Outside.g0 (R : Value → World → Prop) (f0_0 : Nat) (f0_1 : Nat) (f0_2 : Nat) (f0_3 : Nat) (f0_4 : Nat) (f0_5 : Nat) (f0_6 : Nat) (f0_7 : Nat) (a1 : Option Addr) (n1 : Nat) (c1 : Nat) (w : World) : Prop :=
 nw (w.alloc (.cells #[.float .f64 f0_0, .float .f64 f0_1, .float .f64 f0_2, .float .f64 f0_3, .float .f64 f0_4, .float .f64 f0_5, .float .f64 f0_6, .float .f64 f0_7] 57)) fun w14 =>
 nw (w14.alloc (.cells #[.slice a1 n1 c1] 45)) fun w15 =>
 ∃ yf_16 : Nat, w15.cell? ((na w).add 0) = some (.float .f64 yf_16) ∧
 (∃ yf_17 : Nat, w15.cell? ((na w).add 1) = some (.float .f64 yf_17) ∧
 (∃ yf_18 : Nat, w15.cell? ((na w).add 2) = some (.float .f64 yf_18) ∧
 (∃ yf_19 : Nat, w15.cell? ((na w).add 3) = some (.float .f64 yf_19) ∧
 (∃ yf_20 : Nat, w15.cell? ((na w).add 4) = some (.float .f64 yf_20) ∧
 (∃ yf_21 : Nat, w15.cell? ((na w).add 5) = some (.float .f64 yf_21) ∧
 (∃ yf_22 : Nat, w15.cell? ((na w).add 6) = some (.float .f64 yf_22) ∧
 (∃ yf_23 : Nat, w15.cell? ((na w).add 7) = some (.float .f64 yf_23) ∧
 (Go.E.CallsD Go.Proofs.Tryd.prog 21 #[.agg #[.float .f64 yf_16, .float .f64 yf_17, .float .f64 yf_18, .float .f64 yf_19, .float .f64 yf_20, .float .f64 yf_21, .float .f64 yf_22, .float .f64 yf_23], .func (.func 23) #[] #[.pointer (some (na w14))]] w15 fun yv24 u25 =>
 ∃ yx_26 : Int, yv24 = .int .u8 yx_26 ∧
 (R (.int .u8 yx_26) u25)))))))))
def lanes_Outside (R : Value → World → Prop) (f0_0 : Nat) (f0_1 : Nat) (f0_2 : Nat) (f0_3 : Nat) (f0_4 : Nat) (f0_5 : Nat) (f0_6 : Nat) (f0_7 : Nat) (a1 : Option Addr) (n1 : Nat) (c1 : Nat) (w : World) : Prop := lanes_Outside.g0 R f0_0 f0_1 f0_2 f0_3 f0_4 f0_5 f0_6 f0_7 a1 n1 c1 w
theorem lanes_Outside.root0 (R : Value → World → Prop) (f0_0 : Nat) (f0_1 : Nat) (f0_2 : Nat) (f0_3 : Nat) (f0_4 : Nat) (f0_5 : Nat) (f0_6 : Nat) (f0_7 : Nat) (a1 : Option Addr) (n1 : Nat) (c1 : Nat) (w : World) : fnN Go.Proofs.Tryd.prog Go.Proofs.Tryd.f15 lanes_Outside.an #[.agg #[.float .f64 f0_0, .float .f64 f0_1, .float .f64 f0_2, .float .f64 f0_3, .float .f64 f0_4, .float .f64 f0_5, .float .f64 f0_6, .float .f64 f0_7], .slice a1 n1 c1] w R = lanes_Outside.g0 R f0_0 f0_1 f0_2 f0_3 f0_4 f0_5 f0_6 f0_7 a1 n1 c1 w := by kernel_rfl
theorem lanes_Outside.calls {R : Value → World → Prop} {f0_0 : Nat} {f0_1 : Nat} {f0_2 : Nat} {f0_3 : Nat} {f0_4 : Nat} {f0_5 : Nat} {f0_6 : Nat} {f0_7 : Nat} {a1 : Option Addr} {n1 : Nat} {c1 : Nat} {w : World} (h : lanes_Outside R f0_0 f0_1 f0_2 f0_3 f0_4 f0_5 f0_6 f0_7 a1 n1 c1 w) : Go.E.CallsD Go.Proofs.Tryd.prog 15 #[.agg #[.float .f64 f0_0, .float .f64 f0_1, .float .f64 f0_2, .float .f64 f0_3, .float .f64 f0_4, .float .f64 f0_5, .float .f64 f0_6, .float .f64 f0_7], .slice a1 n1 c1] w R := by
  refine callsD_of (n := lanes_Outside.an) M_follows M_sizes Go.Proofs.Tryd.func15 (by rfl) ?_
  rw [lanes_Outside.root0]
  unfold lanes_Outside at h
  exact h
-- thicket/lanes.Lost
def lanes_Lost.an : An := An.nil
def lanes_Lost.g0 (R : Value → World → Prop) (f0_0 : Nat) (f0_1 : Nat) (f0_2 : Nat) (f0_3 : Nat) (f0_4 : Nat) (f0_5 : Nat) (f0_6 : Nat) (f0_7 : Nat) (w : World) : Prop :=
 nw (w.alloc (.cells #[.float .f64 f0_0, .float .f64 f0_1, .float .f64 f0_2, .float .f64 f0_3, .float .f64 f0_4, .float .f64 f0_5, .float .f64 f0_6, .float .f64 f0_7] 57)) fun w13 =>
 ∃ yf_14 : Nat, w13.cell? ((na w).add 0) = some (.float .f64 yf_14) ∧
 (∃ yf_15 : Nat, w13.cell? ((na w).add 1) = some (.float .f64 yf_15) ∧
 (∃ yf_16 : Nat, w13.cell? ((na w).add 2) = some (.float .f64 yf_16) ∧
 (∃ yf_17 : Nat, w13.cell? ((na w).add 3) = some (.float .f64 yf_17) ∧
 (∃ yf_18 : Nat, w13.cell? ((na w).add 4) = some (.float .f64 yf_18) ∧
 (∃ yf_19 : Nat, w13.cell? ((na w).add 5) = some (.float .f64 yf_19) ∧
 (∃ yf_20 : Nat, w13.cell? ((na w).add 6) = some (.float .f64 yf_20) ∧
 (∃ yf_21 : Nat, w13.cell? ((na w).add 7) = some (.float .f64 yf_21) ∧
 (Go.E.CallsD Go.Proofs.Tryd.prog 21 #[.agg #[.float .f64 yf_14, .float .f64 yf_15, .float .f64 yf_16, .float .f64 yf_17, .float .f64 yf_18, .float .f64 yf_19, .float .f64 yf_20, .float .f64 yf_21], .func (.func 24) #[] #[]] w13 fun yv22 u23 =>
 ∃ yx_24 : Int, yv22 = .int .u8 yx_24 ∧
 (R (.int .u8 yx_24) u23)))))))))
def lanes_Lost (R : Value → World → Prop) (f0_0 : Nat) (f0_1 : Nat) (f0_2 : Nat) (f0_3 : Nat) (f0_4 : Nat) (f0_5 : Nat) (f0_6 : Nat) (f0_7 : Nat) (w : World) : Prop := lanes_Lost.g0 R f0_0 f0_1 f0_2 f0_3 f0_4 f0_5 f0_6 f0_7 w
theorem lanes_Lost.root0 (R : Value → World → Prop) (f0_0 : Nat) (f0_1 : Nat) (f0_2 : Nat) (f0_3 : Nat) (f0_4 : Nat) (f0_5 : Nat) (f0_6 : Nat) (f0_7 : Nat) (w : World) : fnN Go.Proofs.Tryd.prog Go.Proofs.Tryd.f16 lanes_Lost.an #[.agg #[.float .f64 f0_0, .float .f64 f0_1, .float .f64 f0_2, .float .f64 f0_3, .float .f64 f0_4, .float .f64 f0_5, .float .f64 f0_6, .float .f64 f0_7]] w R = lanes_Lost.g0 R f0_0 f0_1 f0_2 f0_3 f0_4 f0_5 f0_6 f0_7 w := by kernel_rfl
theorem lanes_Lost.calls {R : Value → World → Prop} {f0_0 : Nat} {f0_1 : Nat} {f0_2 : Nat} {f0_3 : Nat} {f0_4 : Nat} {f0_5 : Nat} {f0_6 : Nat} {f0_7 : Nat} {w : World} (h : lanes_Lost R f0_0 f0_1 f0_2 f0_3 f0_4 f0_5 f0_6 f0_7 w) : Go.E.CallsD Go.Proofs.Tryd.prog 16 #[.agg #[.float .f64 f0_0, .float .f64 f0_1, .float .f64 f0_2, .float .f64 f0_3, .float .f64 f0_4, .float .f64 f0_5, .float .f64 f0_6, .float .f64 f0_7]] w R := by
  refine callsD_of (n := lanes_Lost.an) M_follows M_sizes Go.Proofs.Tryd.func16 (by rfl) ?_
  rw [lanes_Lost.root0]
  unfold lanes_Lost at h
  exact h
-- thicket/lanes.left
def lanes_left.an : An := (.mk none .nil (.mk none .nil (.mk none (.mk none .nil (.mk none (.mk (some [1, 2, 5, 20, 21, 22]) (.mk none .nil (.mk none .nil (.mk none (.mk none (.mk none .nil (.mk none .nil (.mk none .nil (.mk (some [1, 2, 5, 7, 8, 9, 20, 21, 22]) (.mk none .nil (.mk none (.mk (some [1, 2, 5, 7, 8, 9, 20, 21, 22, 34, 35, 36]) .nil .nil) .nil)) (.mk none (.mk none .nil (.mk none (.mk (some [1, 2, 5, 7, 8, 9, 20, 21, 22, 58, 59, 60]) .nil .nil) .nil)) (.mk none .nil (.mk none (.mk none .nil (.mk none (.mk (some [1, 2, 5, 9, 20, 21, 22, 81, 82, 83]) .nil .nil) .nil)) .nil))))))) .nil) .nil))) .nil) .nil)) .nil)))
def lanes_left.g0 (R : Value → World → Prop) (e8 : (Option Addr) → Nat → Nat → (Option Addr) → (Option Addr) → Nat → Nat → (Option Addr) → Nat → Nat → Int → Int → World → Prop) (x0_0 : Int) (a0_1 : Option Addr) (n0_1 : Nat) (c0_1 : Nat) (a0_2 : Option Addr) (n0_2 : Nat) (c0_2 : Nat) (a0_3 : Option Addr) (n0_3 : Nat) (c0_3 : Nat) (a0_4 : Option Addr) (n0_4 : Nat) (c0_4 : Nat) (a1 : Option Addr) (n1 : Nat) (c1 : Nat) (w : World) : Prop :=
 nw (w.alloc (.cells #[.int .i64 x0_0, .slice a0_1 n0_1 c0_1, .slice a0_2 n0_2 c0_2, .slice a0_3 n0_3 c0_3, .slice a0_4 n0_4 c0_4] 48)) fun w167 =>
 ∃ yx_168 : Int, w167.cell? ((na w).add 0) = some (.int .i64 yx_168) ∧
 (∃ ya_169 : Option Addr, ∃ yn_169 : Nat, ∃ yc_169 : Nat, w167.cell? ((na w).add 1) = some (.slice ya_169 yn_169 yc_169) ∧
 (∃ ya_170 : Option Addr, ∃ yn_170 : Nat, ∃ yc_170 : Nat, w167.cell? ((na w).add 2) = some (.slice ya_170 yn_170 yc_170) ∧
 (∃ ya_171 : Option Addr, ∃ yn_171 : Nat, ∃ yc_171 : Nat, w167.cell? ((na w).add 3) = some (.slice ya_171 yn_171 yc_171) ∧
 (∃ ya_172 : Option Addr, ∃ yn_172 : Nat, ∃ yc_172 : Nat, w167.cell? ((na w).add 4) = some (.slice ya_172 yn_172 yc_172) ∧
 (Go.E.CallsD Go.Proofs.Tryd.prog 25 #[.agg #[.int .i64 yx_168, .slice ya_169 yn_169 yc_169, .slice ya_170 yn_170 yc_170, .slice ya_171 yn_171 yc_171, .slice ya_172 yn_172 yc_172]] w167 fun yv173 u174 =>
 ∃ ya_175 : Option Addr, ∃ yn_175 : Nat, ∃ yc_175 : Nat, yv173 = .slice ya_175 yn_175 yc_175 ∧
 (∃ ya_176 : Option Addr, ∃ yn_176 : Nat, ∃ yc_176 : Nat, u174.cell? ((na w).add 4) = some (.slice ya_176 yn_176 yc_176) ∧
 (e8 a1 n1 c1 (some (na w)) ya_175 yn_175 yc_175 ya_176 yn_176 yc_176 (yn_176 : Int) 0 u174)))))))
def lanes_left.g8 (R : Value → World → Prop) (e27 : (Option Addr) → Nat → Nat → (Option Addr) → (Option Addr) → Nat → Nat → (Option Addr) → (Option Addr) → Int → (Option Addr) → Nat → Nat → Int → Int → (Option Addr) → Nat → Nat → Int → Int → World → Prop) (a1 : Option Addr) (n1 : Nat) (c1 : Nat) (p2 : Option Addr) (a5 : Option Addr) (n5 : Nat) (c5 : Nat) (a20 : Option Addr) (n20 : Nat) (c20 : Nat) (x21 : Int) (x22 : Int) (w : World) : Prop :=
 onBool (decide (x22 < x21))
 (optN a20 fun q177 =>
 chk ((0 : Int) ≤ x22 ∧ x22 < (n20 : Int))
 (∃ yx_178 : Int, w.cell? ((q177.add (x22.toNat * 4)).add 0) = some (.int .i64 yx_178) ∧
 (∃ ya_179 : Option Addr, ∃ yn_179 : Nat, ∃ yc_179 : Nat, w.cell? ((q177.add (x22.toNat * 4)).add 1) = some (.slice ya_179 yn_179 yc_179) ∧
 (∃ ya_180 : Option Addr, ∃ yn_180 : Nat, ∃ yc_180 : Nat, w.cell? ((q177.add (x22.toNat * 4)).add 2) = some (.slice ya_180 yn_180 yc_180) ∧
 (∃ ya_181 : Option Addr, ∃ yn_181 : Nat, ∃ yc_181 : Nat, w.cell? ((q177.add (x22.toNat * 4)).add 3) = some (.slice ya_181 yn_181 yc_181) ∧
 (nw (w.alloc (.cells #[.int .i64 0, .slice none 0 0, .slice none 0 0, .slice none 0 0] 53)) fun w182 =>
 okSt w182 ((na w).add 0) ∧
 (nw (w182.setCell ((na w).add 0) (.int .i64 yx_178)) fun w183 =>
 okSt w183 ((na w).add 1) ∧
 (nw (w183.setCell ((na w).add 1) (.slice ya_179 yn_179 yc_179)) fun w184 =>
 okSt w184 ((na w).add 2) ∧
 (nw (w184.setCell ((na w).add 2) (.slice ya_180 yn_180 yc_180)) fun w185 =>
 okSt w185 ((na w).add 3) ∧
 (nw (w185.setCell ((na w).add 3) (.slice ya_181 yn_181 yc_181)) fun w186 =>
 ∃ yx_187 : Int, w186.cell? ((na w).add 0) = some (.int .i64 yx_187) ∧
 (optN a1 fun q188 =>
 chk ((0 : Int) ≤ yx_187 ∧ yx_187 < (n1 : Int))
 (∃ yf_189 : Nat, w186.cell? ((q188.add (yx_187.toNat * 8)).add 0) = some (.float .f64 yf_189) ∧
 (∃ yf_190 : Nat, w186.cell? ((q188.add (yx_187.toNat * 8)).add 1) = some (.float .f64 yf_190) ∧
 (∃ yf_191 : Nat, w186.cell? ((q188.add (yx_187.toNat * 8)).add 2) = some (.float .f64 yf_191) ∧
 (∃ yf_192 : Nat, w186.cell? ((q188.add (yx_187.toNat * 8)).add 3) = some (.float .f64 yf_192) ∧
 (∃ yf_193 : Nat, w186.cell? ((q188.add (yx_187.toNat * 8)).add 4) = some (.float .f64 yf_193) ∧
 (∃ yf_194 : Nat, w186.cell? ((q188.add (yx_187.toNat * 8)).add 5) = some (.float .f64 yf_194) ∧
 (∃ yf_195 : Nat, w186.cell? ((q188.add (yx_187.toNat * 8)).add 6) = some (.float .f64 yf_195) ∧
 (∃ yf_196 : Nat, w186.cell? ((q188.add (yx_187.toNat * 8)).add 7) = some (.float .f64 yf_196) ∧
 (nw (w186.alloc (.cells #[.float .f64 0, .float .f64 0, .float .f64 0, .float .f64 0, .float .f64 0, .float .f64 0, .float .f64 0, .float .f64 0] 57)) fun w197 =>
 okSt w197 ((na w186).add 0) ∧
 (nw (w197.setCell ((na w186).add 0) (.float .f64 yf_189)) fun w198 =>
 okSt w198 ((na w186).add 1) ∧
 (nw (w198.setCell ((na w186).add 1) (.float .f64 yf_190)) fun w199 =>
 okSt w199 ((na w186).add 2) ∧
 (nw (w199.setCell ((na w186).add 2) (.float .f64 yf_191)) fun w200 =>
 okSt w200 ((na w186).add 3) ∧
 (nw (w200.setCell ((na w186).add 3) (.float .f64 yf_192)) fun w201 =>
 okSt w201 ((na w186).add 4) ∧
 (nw (w201.setCell ((na w186).add 4) (.float .f64 yf_193)) fun w202 =>
 okSt w202 ((na w186).add 5) ∧
 (nw (w202.setCell ((na w186).add 5) (.float .f64 yf_194)) fun w203 =>
 okSt w203 ((na w186).add 6) ∧
 (nw (w203.setCell ((na w186).add 6) (.float .f64 yf_195)) fun w204 =>
 okSt w204 ((na w186).add 7) ∧
 (nw (w204.setCell ((na w186).add 7) (.float .f64 yf_196)) fun w205 =>
 ∃ yf_206 : Nat, w205.cell? ((na w186).add 0) = some (.float .f64 yf_206) ∧
 (∃ yf_207 : Nat, w205.cell? ((na w186).add 1) = some (.float .f64 yf_207) ∧
 (∃ yf_208 : Nat, w205.cell? ((na w186).add 2) = some (.float .f64 yf_208) ∧
 (∃ yf_209 : Nat, w205.cell? ((na w186).add 3) = some (.float .f64 yf_209) ∧
 (∃ yf_210 : Nat, w205.cell? ((na w186).add 4) = some (.float .f64 yf_210) ∧
 (∃ yf_211 : Nat, w205.cell? ((na w186).add 5) = some (.float .f64 yf_211) ∧
 (∃ yf_212 : Nat, w205.cell? ((na w186).add 6) = some (.float .f64 yf_212) ∧
 (∃ yf_213 : Nat, w205.cell? ((na w186).add 7) = some (.float .f64 yf_213) ∧
 (Go.E.CallsD Go.Proofs.Tryd.prog 16 #[.agg #[.float .f64 yf_206, .float .f64 yf_207, .float .f64 yf_208, .float .f64 yf_209, .float .f64 yf_210, .float .f64 yf_211, .float .f64 yf_212, .float .f64 yf_213]] w205 fun yv214 u215 =>
 ∃ yx_216 : Int, yv214 = .int .u8 yx_216 ∧
 (∃ ya_217 : Option Addr, ∃ yn_217 : Nat, ∃ yc_217 : Nat, u215.cell? ((na w).add 1) = some (.slice ya_217 yn_217 yc_217) ∧
 (e27 a1 n1 c1 p2 a5 n5 c5 (some (na w)) (some (na w186)) yx_216 a20 n20 c20 x21 x22 ya_217 yn_217 yc_217 (yn_217 : Int) 0 u215))))))))))))))))))))))))))))))))))))))
 (R (.slice a5 n5 c5) w)
def lanes_left.g27 (R : Value → World → Prop) (b27 : (Option Addr) → Nat → Nat → (Option Addr) → (Option Addr) → Nat → Nat → (Option Addr) → (Option Addr) → Int → (Option Addr) → Nat → Nat → Int → Int → (Option Addr) → Nat → Nat → Int → Int → World → Prop) (j48 : (Option Addr) → Nat → Nat → (Option Addr) → (Option Addr) → Nat → Nat → (Option Addr) → (Option Addr) → Int → (Option Addr) → Nat → Nat → Int → Int → World → Prop) (a1 : Option Addr) (n1 : Nat) (c1 : Nat) (p2 : Option Addr) (a5 : Option Addr) (n5 : Nat) (c5 : Nat) (p7 : Option Addr) (p8 : Option Addr) (x9 : Int) (a20 : Option Addr) (n20 : Nat) (c20 : Nat) (x21 : Int) (x22 : Int) (a34 : Option Addr) (n34 : Nat) (c34 : Nat) (x35 : Int) (x36 : Int) (w : World) : Prop :=
 onBool (decide (x36 < x35))
 (optN a34 fun q218 =>
 chk ((0 : Int) ≤ x36 ∧ x36 < (n34 : Int))
 (∃ yf_219 : Nat, w.cell? ((q218.add (x36.toNat * 5)).add 0) = some (.float .f64 yf_219) ∧
 (∃ ya_220 : Option Addr, ∃ yn_220 : Nat, ∃ yc_220 : Nat, w.cell? ((q218.add (x36.toNat * 5)).add 1) = some (.slice ya_220 yn_220 yc_220) ∧
 (∃ yx_221 : Int, w.cell? ((q218.add (x36.toNat * 5)).add 2) = some (.int .i64 yx_221) ∧
 (∃ yx_222 : Int, w.cell? ((q218.add (x36.toNat * 5)).add 3) = some (.int .i64 yx_222) ∧
 (∃ yx_223 : Int, w.cell? ((q218.add (x36.toNat * 5)).add 4) = some (.int .i64 yx_223) ∧
 (nw (w.alloc (.cells #[.float .f64 0, .slice none 0 0, .int .i64 0, .int .i64 0, .int .i64 0] 76)) fun w224 =>
 okSt w224 ((na w).add 0) ∧
 (nw (w224.setCell ((na w).add 0) (.float .f64 yf_219)) fun w225 =>
 okSt w225 ((na w).add 1) ∧
 (nw (w225.setCell ((na w).add 1) (.slice ya_220 yn_220 yc_220)) fun w226 =>
 okSt w226 ((na w).add 2) ∧
 (nw (w226.setCell ((na w).add 2) (.int .i64 yx_221)) fun w227 =>
 okSt w227 ((na w).add 3) ∧
 (nw (w227.setCell ((na w).add 3) (.int .i64 yx_222)) fun w228 =>
 okSt w228 ((na w).add 4) ∧
 (nw (w228.setCell ((na w).add 4) (.int .i64 yx_223)) fun w229 =>
 optN p8 fun q230 =>
 ∃ yf_231 : Nat, w229.cell? (q230.add 0) = some (.float .f64 yf_231) ∧
 (∃ yf_232 : Nat, w229.cell? (q230.add 1) = some (.float .f64 yf_232) ∧
 (∃ yf_233 : Nat, w229.cell? (q230.add 2) = some (.float .f64 yf_233) ∧
 (∃ yf_234 : Nat, w229.cell? (q230.add 3) = some (.float .f64 yf_234) ∧
 (∃ yf_235 : Nat, w229.cell? (q230.add 4) = some (.float .f64 yf_235) ∧
 (∃ yf_236 : Nat, w229.cell? (q230.add 5) = some (.float .f64 yf_236) ∧
 (∃ yf_237 : Nat, w229.cell? (q230.add 6) = some (.float .f64 yf_237) ∧
 (∃ yf_238 : Nat, w229.cell? (q230.add 7) = some (.float .f64 yf_238) ∧
 (∃ yf_239 : Nat, w229.cell? ((na w).add 0) = some (.float .f64 yf_239) ∧
 (Go.E.CallsD Go.Proofs.Tryd.prog 14 #[.agg #[.float .f64 yf_231, .float .f64 yf_232, .float .f64 yf_233, .float .f64 yf_234, .float .f64 yf_235, .float .f64 yf_236, .float .f64 yf_237, .float .f64 yf_238], .float .f64 yf_239] w229 fun yv240 u241 =>
 ∃ yx_242 : Int, yv240 = .int .u8 yx_242 ∧
 (onBool (yx_242 == 0)
 (j48 a1 n1 c1 p2 a5 n5 c5 p7 p8 x9 a20 n20 c20 x21 x22 u241)
 (∃ yf_243 : Nat, u241.cell? ((na w).add 0) = some (.float .f64 yf_243) ∧
 (∃ ya_244 : Option Addr, ∃ yn_244 : Nat, ∃ yc_244 : Nat, u241.cell? ((na w).add 1) = some (.slice ya_244 yn_244 yc_244) ∧
 (∃ yx_245 : Int, u241.cell? ((na w).add 2) = some (.int .i64 yx_245) ∧
 (∃ yx_246 : Int, u241.cell? ((na w).add 3) = some (.int .i64 yx_246) ∧
 (∃ yx_247 : Int, u241.cell? ((na w).add 4) = some (.int .i64 yx_247) ∧
 (optN p2 fun q248 =>
 ∃ ya_249 : Option Addr, ∃ yn_249 : Nat, ∃ yc_249 : Nat, u241.cell? (q248.add 1) = some (.slice ya_249 yn_249 yc_249) ∧
 (∃ yx_250 : Int, u241.cell? ((na w).add 2) = some (.int .i64 yx_250) ∧
 (optN ya_249 fun q251 =>
 chk ((0 : Int) ≤ yx_250 ∧ yx_250 < (yn_249 : Int))
 (∃ yx_252 : Int, u241.cell? (q251.add (yx_250.toNat * 1)) = some (.int .i64 yx_252) ∧
 (Go.E.CallsD Go.Proofs.Tryd.prog 26 #[.slice a5 n5 c5, .agg #[.float .f64 yf_243, .slice ya_244 yn_244 yc_244, .int .i64 yx_245, .int .i64 yx_246, .int .i64 yx_247], .int .i64 yx_252, .int .u8 yx_242] u241 fun yv253 u254 =>
 yv253 = .tuple #[] ∧
 (nv (IntKind.i64.wrap (x36 + 1)) fun t256 =>
 b27 a1 n1 c1 p2 a5 n5 c5 p7 p8 x9 a20 n20 c20 x21 x22 a34 n34 c34 x35 t256 u254)))))))))))))))))))))))))))))))))
 (j48 a1 n1 c1 p2 a5 n5 c5 p7 p8 x9 a20 n20 c20 x21 x22 w)
def lanes_left.g48 (R : Value → World → Prop) (e52 : (Option Addr) → Nat → Nat → (Option Addr) → (Option Addr) → Nat → Nat → (Option Addr) → (Option Addr) → Int → (Option Addr) → Nat → Nat → Int → Int → (Option Addr) → Nat → Nat → Int → Int → World → Prop) (a1 : Option Addr) (n1 : Nat) (c1 : Nat) (p2 : Option Addr) (a5 : Option Addr) (n5 : Nat) (c5 : Nat) (p7 : Option Addr) (p8 : Option Addr) (x9 : Int) (a20 : Option Addr) (n20 : Nat) (c20 : Nat) (x21 : Int) (x22 : Int) (w : World) : Prop :=
 optN p7 fun q257 =>
 ∃ ya_258 : Option Addr, ∃ yn_258 : Nat, ∃ yc_258 : Nat, w.cell? (q257.add 2) = some (.slice ya_258 yn_258 yc_258) ∧
 (e52 a1 n1 c1 p2 a5 n5 c5 p7 p8 x9 a20 n20 c20 x21 x22 ya_258 yn_258 yc_258 (yn_258 : Int) 0 w)
def lanes_left.g52 (R : Value → World → Prop) (b8 : (Option Addr) → Nat → Nat → (Option Addr) → (Option Addr) → Nat → Nat → (Option Addr) → Nat → Nat → Int → Int → World → Prop) (b52 : (Option Addr) → Nat → Nat → (Option Addr) → (Option Addr) → Nat → Nat → (Option Addr) → (Option Addr) → Int → (Option Addr) → Nat → Nat → Int → Int → (Option Addr) → Nat → Nat → Int → Int → World → Prop) (e71 : (Option Addr) → Nat → Nat → (Option Addr) → (Option Addr) → Nat → Nat → Int → (Option Addr) → Nat → Nat → Int → Int → (Option Addr) → Nat → Nat → Int → Int → World → Prop) (a1 : Option Addr) (n1 : Nat) (c1 : Nat) (p2 : Option Addr) (a5 : Option Addr) (n5 : Nat) (c5 : Nat) (p7 : Option Addr) (p8 : Option Addr) (x9 : Int) (a20 : Option Addr) (n20 : Nat) (c20 : Nat) (x21 : Int) (x22 : Int) (a58 : Option Addr) (n58 : Nat) (c58 : Nat) (x59 : Int) (x60 : Int) (w : World) : Prop :=
 onBool (decide (x60 < x59))
 (optN a58 fun q259 =>
 chk ((0 : Int) ≤ x60 ∧ x60 < (n58 : Int))
 (∃ yf_260 : Nat, w.cell? ((q259.add (x60.toNat * 5)).add 0) = some (.float .f64 yf_260) ∧
 (∃ ya_261 : Option Addr, ∃ yn_261 : Nat, ∃ yc_261 : Nat, w.cell? ((q259.add (x60.toNat * 5)).add 1) = some (.slice ya_261 yn_261 yc_261) ∧
 (∃ yx_262 : Int, w.cell? ((q259.add (x60.toNat * 5)).add 2) = some (.int .i64 yx_262) ∧
 (∃ yx_263 : Int, w.cell? ((q259.add (x60.toNat * 5)).add 3) = some (.int .i64 yx_263) ∧
 (∃ yx_264 : Int, w.cell? ((q259.add (x60.toNat * 5)).add 4) = some (.int .i64 yx_264) ∧
 (nw (w.alloc (.cells #[.float .f64 0, .slice none 0 0, .int .i64 0, .int .i64 0, .int .i64 0] 76)) fun w265 =>
 okSt w265 ((na w).add 0) ∧
 (nw (w265.setCell ((na w).add 0) (.float .f64 yf_260)) fun w266 =>
 okSt w266 ((na w).add 1) ∧
 (nw (w266.setCell ((na w).add 1) (.slice ya_261 yn_261 yc_261)) fun w267 =>
 okSt w267 ((na w).add 2) ∧
 (nw (w267.setCell ((na w).add 2) (.int .i64 yx_262)) fun w268 =>
 okSt w268 ((na w).add 3) ∧
 (nw (w268.setCell ((na w).add 3) (.int .i64 yx_263)) fun w269 =>
 okSt w269 ((na w).add 4) ∧
 (nw (w269.setCell ((na w).add 4) (.int .i64 yx_264)) fun w270 =>
 ∃ F271 : Nat → Value → World → Prop, (∀ i v u u', F271 i v u → Below u.heap.size u u' → F271 i v u') ∧
 (∃ yf_272 : Nat, w270.cell? ((na w).add 0) = some (.float .f64 yf_272) ∧
 (∃ ya_273 : Option Addr, ∃ yn_273 : Nat, ∃ yc_273 : Nat, w270.cell? ((na w).add 1) = some (.slice ya_273 yn_273 yc_273) ∧
 (∃ yx_274 : Int, w270.cell? ((na w).add 2) = some (.int .i64 yx_274) ∧
 (∃ yx_275 : Int, w270.cell? ((na w).add 3) = some (.int .i64 yx_275) ∧
 (∃ yx_276 : Int, w270.cell? ((na w).add 4) = some (.int .i64 yx_276) ∧
 (optN p2 fun q277 =>
 ∃ ya_278 : Option Addr, ∃ yn_278 : Nat, ∃ yc_278 : Nat, w270.cell? (q277.add 1) = some (.slice ya_278 yn_278 yc_278) ∧
 (∃ yx_279 : Int, w270.cell? ((na w).add 2) = some (.int .i64 yx_279) ∧
 (optN ya_278 fun q280 =>
 chk ((0 : Int) ≤ yx_279 ∧ yx_279 < (yn_278 : Int))
 (∃ yx_281 : Int, w270.cell? (q280.add (yx_279.toNat * 1)) = some (.int .i64 yx_281) ∧
 (optN p8 fun q282 =>
 ∃ yf_283 : Nat, w270.cell? (q282.add 0) = some (.float .f64 yf_283) ∧
 (∃ yf_284 : Nat, w270.cell? (q282.add 1) = some (.float .f64 yf_284) ∧
 (∃ yf_285 : Nat, w270.cell? (q282.add 2) = some (.float .f64 yf_285) ∧
 (∃ yf_286 : Nat, w270.cell? (q282.add 3) = some (.float .f64 yf_286) ∧
 (∃ yf_287 : Nat, w270.cell? (q282.add 4) = some (.float .f64 yf_287) ∧
 (∃ yf_288 : Nat, w270.cell? (q282.add 5) = some (.float .f64 yf_288) ∧
 (∃ yf_289 : Nat, w270.cell? (q282.add 6) = some (.float .f64 yf_289) ∧
 (∃ yf_290 : Nat, w270.cell? (q282.add 7) = some (.float .f64 yf_290) ∧
 (∃ ya_291 : Option Addr, ∃ yn_291 : Nat, ∃ yc_291 : Nat, w270.cell? ((na w).add 1) = some (.slice ya_291 yn_291 yc_291) ∧
 ((∀ u292 : World, Below w270.heap.size w270 u292 → Go.E.CallsD Go.Proofs.Tryd.prog 15 #[.agg #[.float .f64 yf_283, .float .f64 yf_284, .float .f64 yf_285, .float .f64 yf_286, .float .f64 yf_287, .float .f64 yf_288, .float .f64 yf_289, .float .f64 yf_290], .slice ya_291 yn_291 yc_291] u292 fun yv294 u295 => ∃ yx_293 : Int, yv294 = .int .u8 yx_293 ∧ F271 11 (.int .u8 yx_293) u295 ∧ Below u292.heap.size u292 u295) ∧
 (∀ yx_296 : Int, (∃ u, Below w270.heap.size w270 u ∧ F271 11 (.int .u8 yx_296) u) →
 (∀ u297 : World, Below w270.heap.size w270 u297 → F271 11 (.int .u8 yx_296) u297 → Go.E.CallsD Go.Proofs.Tryd.prog 26 #[.slice a5 n5 c5, .agg #[.float .f64 yf_272, .slice ya_273 yn_273 yc_273, .int .i64 yx_274, .int .i64 yx_275, .int .i64 yx_276], .int .i64 yx_281, .int .u8 yx_296] u297 fun yv299 u300 => yv299 = .tuple #[] ∧ F271 12 (.tuple #[]) u300 ∧ Below u297.heap.size u297 u300) ∧
 ((∃ u, Below w270.heap.size w270 u ∧ F271 12 (.tuple #[]) u) →
 ∀ u302 : World, Below w270.heap.size w270 u302 → F271 11 (.int .u8 yx_296) u302 → F271 12 (.tuple #[]) u302 → 
 nv (IntKind.i64.wrap (x60 + 1)) fun t303 =>
 b52 a1 n1 c1 p2 a5 n5 c5 p7 p8 x9 a20 n20 c20 x21 x22 a58 n58 c58 x59 t303 u302)))))))))))))))))))))))))))))))))
 (onBool (x9 != 0)
 (optN p7 fun q304 =>
 ∃ ya_305 : Option Addr, ∃ yn_305 : Nat, ∃ yc_305 : Nat, w.cell? (q304.add 3) = some (.slice ya_305 yn_305 yc_305) ∧
 (e71 a1 n1 c1 p2 a5 n5 c5 x9 a20 n20 c20 x21 x22 ya_305 yn_305 yc_305 (yn_305 : Int) 0 w))
 (nv (IntKind.i64.wrap (x22 + 1)) fun t306 =>
 b8 a1 n1 c1 p2 a5 n5 c5 a20 n20 c20 x21 t306 w))
def lanes_left.g71 (R : Value → World → Prop) (b8 : (Option Addr) → Nat → Nat → (Option Addr) → (Option Addr) → Nat → Nat → (Option Addr) → Nat → Nat → Int → Int → World → Prop) (b71 : (Option Addr) → Nat → Nat → (Option Addr) → (Option Addr) → Nat → Nat → Int → (Option Addr) → Nat → Nat → Int → Int → (Option Addr) → Nat → Nat → Int → Int → World → Prop) (a1 : Option Addr) (n1 : Nat) (c1 : Nat) (p2 : Option Addr) (a5 : Option Addr) (n5 : Nat) (c5 : Nat) (x9 : Int) (a20 : Option Addr) (n20 : Nat) (c20 : Nat) (x21 : Int) (x22 : Int) (a81 : Option Addr) (n81 : Nat) (c81 : Nat) (x82 : Int) (x83 : Int) (w : World) : Prop :=
 onBool (decide (x83 < x82))
 (optN a81 fun q307 =>
 chk ((0 : Int) ≤ x83 ∧ x83 < (n81 : Int))
 (∃ yf_308 : Nat, w.cell? ((q307.add (x83.toNat * 5)).add 0) = some (.float .f64 yf_308) ∧
 (∃ ya_309 : Option Addr, ∃ yn_309 : Nat, ∃ yc_309 : Nat, w.cell? ((q307.add (x83.toNat * 5)).add 1) = some (.slice ya_309 yn_309 yc_309) ∧
 (∃ yx_310 : Int, w.cell? ((q307.add (x83.toNat * 5)).add 2) = some (.int .i64 yx_310) ∧
 (∃ yx_311 : Int, w.cell? ((q307.add (x83.toNat * 5)).add 3) = some (.int .i64 yx_311) ∧
 (∃ yx_312 : Int, w.cell? ((q307.add (x83.toNat * 5)).add 4) = some (.int .i64 yx_312) ∧
 (nw (w.alloc (.cells #[.float .f64 0, .slice none 0 0, .int .i64 0, .int .i64 0, .int .i64 0] 76)) fun w313 =>
 okSt w313 ((na w).add 0) ∧
 (nw (w313.setCell ((na w).add 0) (.float .f64 yf_308)) fun w314 =>
 okSt w314 ((na w).add 1) ∧
 (nw (w314.setCell ((na w).add 1) (.slice ya_309 yn_309 yc_309)) fun w315 =>
 okSt w315 ((na w).add 2) ∧
 (nw (w315.setCell ((na w).add 2) (.int .i64 yx_310)) fun w316 =>
 okSt w316 ((na w).add 3) ∧
 (nw (w316.setCell ((na w).add 3) (.int .i64 yx_311)) fun w317 =>
 okSt w317 ((na w).add 4) ∧
 (nw (w317.setCell ((na w).add 4) (.int .i64 yx_312)) fun w318 =>
 ∃ yf_319 : Nat, w318.cell? ((na w).add 0) = some (.float .f64 yf_319) ∧
 (∃ ya_320 : Option Addr, ∃ yn_320 : Nat, ∃ yc_320 : Nat, w318.cell? ((na w).add 1) = some (.slice ya_320 yn_320 yc_320) ∧
 (∃ yx_321 : Int, w318.cell? ((na w).add 2) = some (.int .i64 yx_321) ∧
 (∃ yx_322 : Int, w318.cell? ((na w).add 3) = some (.int .i64 yx_322) ∧
 (∃ yx_323 : Int, w318.cell? ((na w).add 4) = some (.int .i64 yx_323) ∧
 (optN p2 fun q324 =>
 ∃ ya_325 : Option Addr, ∃ yn_325 : Nat, ∃ yc_325 : Nat, w318.cell? (q324.add 1) = some (.slice ya_325 yn_325 yc_325) ∧
 (∃ yx_326 : Int, w318.cell? ((na w).add 2) = some (.int .i64 yx_326) ∧
 (optN ya_325 fun q327 =>
 chk ((0 : Int) ≤ yx_326 ∧ yx_326 < (yn_325 : Int))
 (∃ yx_328 : Int, w318.cell? (q327.add (yx_326.toNat * 1)) = some (.int .i64 yx_328) ∧
 (Go.E.CallsD Go.Proofs.Tryd.prog 26 #[.slice a5 n5 c5, .agg #[.float .f64 yf_319, .slice ya_320 yn_320 yc_320, .int .i64 yx_321, .int .i64 yx_322, .int .i64 yx_323], .int .i64 yx_328, .int .u8 x9] w318 fun yv329 u330 =>
 yv329 = .tuple #[] ∧
 (nv (IntKind.i64.wrap (x83 + 1)) fun t332 =>
 b71 a1 n1 c1 p2 a5 n5 c5 x9 a20 n20 c20 x21 x22 a81 n81 c81 x82 t332 u330))))))))))))))))))))))
 (nv (IntKind.i64.wrap (x22 + 1)) fun t333 =>
 b8 a1 n1 c1 p2 a5 n5 c5 a20 n20 c20 x21 t333 w)
def lanes_left.q2 (R : Value → World → Prop) : Exit → Act → World → Prop := (fin Go.Proofs.Tryd.prog Go.Proofs.Tryd.f17 R)
def lanes_left.q4 (R : Value → World → Prop) : Exit → Act → World → Prop := (lanes_left.q2 R)
def lanes_left.q5 (R : Value → World → Prop) : Exit → Act → World → Prop := Exit.then (startN none (codeN Go.Proofs.Tryd.prog (sub (codeOf Go.Proofs.Tryd.f17) [1, 1, 1]) (nsub lanes_left.an [1, 1, 1]) (lanes_left.q4 R))) (lanes_left.q4 R)
def lanes_left.q7 (R : Value → World → Prop) : Exit → Act → World → Prop := (lanes_left.q5 R)
def lanes_left.q8 (R : Value → World → Prop) : Exit → Act → World → Prop := Exit.inBlock 0 (lanes_left.q7 R)
def lanes_left.rl8 (R : Value → World → Prop) (k : Nat) (a1 : Option Addr) (n1 : Nat) (c1 : Nat) (p2 : Option Addr) (a5 : Option Addr) (n5 : Nat) (c5 : Nat) (a20 : Option Addr) (n20 : Nat) (c20 : Nat) (x21 : Int) (x22 : Int) (w : World) : Prop := loopN [1, 2, 5, 20, 21, 22] (codeN Go.Proofs.Tryd.prog (sub (codeOf Go.Proofs.Tryd.f17) [1, 1, 0, 1, 0, 0]) (nsub lanes_left.an [1, 1, 0, 1, 0, 0])) (lanes_left.q8 R) k ⟨#[undef, .slice a1 n1 c1, .pointer p2, undef, undef, .slice a5 n5 c5, undef, undef, undef, undef, undef, undef, undef, undef, undef, undef, undef, undef, undef, undef, .slice a20 n20 c20, .int .i64 x21, .int .i64 x22, undef, undef, undef, undef, undef, undef, undef, undef, undef, undef, undef, undef, undef, undef, undef, undef, undef, undef, undef, undef, undef, undef, undef, undef, undef, undef, undef, undef, undef, undef, undef, undef, undef, undef, undef, undef, undef, undef, undef, undef, undef, undef, undef, undef, undef, undef, undef, undef, undef, undef, undef, undef, undef, undef, undef, undef, undef, undef, undef, undef, undef, undef, undef, undef, undef, undef, undef, undef, undef, undef, undef, undef, undef, undef, undef, undef, undef], []⟩ w
def lanes_left.re8 (R : Value → World → Prop) (a1 : Option Addr) (n1 : Nat) (c1 : Nat) (p2 : Option Addr) (a5 : Option Addr) (n5 : Nat) (c5 : Nat) (a20 : Option Addr) (n20 : Nat) (c20 : Nat) (x21 : Int) (x22 : Int) (w : World) : Prop := ∃ k, lanes_left.rl8 R k a1 n1 c1 p2 a5 n5 c5 a20 n20 c20 x21 x22 w
def lanes_left.q9 (R : Value → World → Prop) (k8 : Nat) : Exit → Act → World → Prop := Exit.then (fun a w => loopN [1, 2, 5, 20, 21, 22] (codeN Go.Proofs.Tryd.prog (sub (codeOf Go.Proofs.Tryd.f17) [1, 1, 0, 1, 0, 0]) (nsub lanes_left.an [1, 1, 0, 1, 0, 0])) (lanes_left.q8 R) k8 (clr [1, 2, 5, 20, 21, 22] a) w) (lanes_left.q8 R)
def lanes_left.q11 (R : Value → World → Prop) (k8 : Nat) : Exit → Act → World → Prop := (lanes_left.q9 R k8)
def lanes_left.q15 (R : Value → World → Prop) (k8 : Nat) : Exit → Act → World → Prop := (lanes_left.q11 R k8)
def lanes_left.q16 (R : Value → World → Prop) (k8 : Nat) : Exit → Act → World → Prop := Exit.then (startN none (codeN Go.Proofs.Tryd.prog (sub (codeOf Go.Proofs.Tryd.f17) [1, 1, 0, 1, 0, 0, 1, 1, 1]) (nsub lanes_left.an [1, 1, 0, 1, 0, 0, 1, 1, 1]) (lanes_left.q15 R k8))) (lanes_left.q15 R k8)
def lanes_left.q17 (R : Value → World → Prop) (k8 : Nat) : Exit → Act → World → Prop := Exit.inBlock 1 (lanes_left.q16 R k8)
def lanes_left.q19 (R : Value → World → Prop) (k8 : Nat) : Exit → Act → World → Prop := (lanes_left.q17 R k8)
def lanes_left.q21 (R : Value → World → Prop) (k8 : Nat) : Exit → Act → World → Prop := (lanes_left.q19 R k8)
def lanes_left.q23 (R : Value → World → Prop) (k8 : Nat) : Exit → Act → World → Prop := (lanes_left.q21 R k8)
def lanes_left.q24 (R : Value → World → Prop) (k8 : Nat) : Exit → Act → World → Prop := Exit.then (startN (some [1, 2, 5, 7, 8, 9, 20, 21, 22]) (codeN Go.Proofs.Tryd.prog (sub (codeOf Go.Proofs.Tryd.f17) [1, 1, 0, 1, 0, 0, 1, 1, 0, 0, 1, 1, 1, 1]) (nsub lanes_left.an [1, 1, 0, 1, 0, 0, 1, 1, 0, 0, 1, 1, 1, 1]) (lanes_left.q23 R k8))) (lanes_left.q23 R k8)
def lanes_left.q26 (R : Value → World → Prop) (k8 : Nat) : Exit → Act → World → Prop := (lanes_left.q24 R k8)
def lanes_left.q27 (R : Value → World → Prop) (k8 : Nat) : Exit → Act → World → Prop := Exit.inBlock 2 (lanes_left.q26 R k8)
def lanes_left.rl27 (R : Value → World → Prop) (k8 : Nat) (k : Nat) (a1 : Option Addr) (n1 : Nat) (c1 : Nat) (p2 : Option Addr) (a5 : Option Addr) (n5 : Nat) (c5 : Nat) (p7 : Option Addr) (p8 : Option Addr) (x9 : Int) (a20 : Option Addr) (n20 : Nat) (c20 : Nat) (x21 : Int) (x22 : Int) (a34 : Option Addr) (n34 : Nat) (c34 : Nat) (x35 : Int) (x36 : Int) (w : World) : Prop := loopN [1, 2, 5, 7, 8, 9, 20, 21, 22, 34, 35, 36] (codeN Go.Proofs.Tryd.prog (sub (codeOf Go.Proofs.Tryd.f17) [1, 1, 0, 1, 0, 0, 1, 1, 0, 0, 1, 1, 1, 0, 1, 0, 0]) (nsub lanes_left.an [1, 1, 0, 1, 0, 0, 1, 1, 0, 0, 1, 1, 1, 0, 1, 0, 0])) (lanes_left.q27 R k8) k ⟨#[undef, .slice a1 n1 c1, .pointer p2, undef, undef, .slice a5 n5 c5, undef, .pointer p7, .pointer p8, .int .u8 x9, undef, undef, undef, undef, undef, undef, undef, undef, undef, undef, .slice a20 n20 c20, .int .i64 x21, .int .i64 x22, undef, undef, undef, undef, undef, undef, undef, undef, undef, undef, undef, .slice a34 n34 c34, .int .i64 x35, .int .i64 x36, undef, undef, undef, undef, undef, undef, undef, undef, undef, undef, undef, undef, undef, undef, undef, undef, undef, undef, undef, undef, undef, undef, undef, undef, undef, undef, undef, undef, undef, undef, undef, undef, undef, undef, undef, undef, undef, undef, undef, undef, undef, undef, undef, undef, undef, undef, undef, undef, undef, undef, undef, undef, undef, undef, undef, undef, undef, undef, undef, undef, undef, undef, undef], []⟩ w
def lanes_left.re27 (R : Value → World → Prop) (k8 : Nat) (a1 : Option Addr) (n1 : Nat) (c1 : Nat) (p2 : Option Addr) (a5 : Option Addr) (n5 : Nat) (c5 : Nat) (p7 : Option Addr) (p8 : Option Addr) (x9 : Int) (a20 : Option Addr) (n20 : Nat) (c20 : Nat) (x21 : Int) (x22 : Int) (a34 : Option Addr) (n34 : Nat) (c34 : Nat) (x35 : Int) (x36 : Int) (w : World) : Prop := ∃ k, lanes_left.rl27 R k8 k a1 n1 c1 p2 a5 n5 c5 p7 p8 x9 a20 n20 c20 x21 x22 a34 n34 c34 x35 x36 w
def lanes_left.q48 (R : Value → World → Prop) (k8 : Nat) : Exit → Act → World → Prop := (lanes_left.q23 R k8)
def lanes_left.rj48 (R : Value → World → Prop) (k8 : Nat) (a1 : Option Addr) (n1 : Nat) (c1 : Nat) (p2 : Option Addr) (a5 : Option Addr) (n5 : Nat) (c5 : Nat) (p7 : Option Addr) (p8 : Option Addr) (x9 : Int) (a20 : Option Addr) (n20 : Nat) (c20 : Nat) (x21 : Int) (x22 : Int) (w : World) : Prop := startN (some [1, 2, 5, 7, 8, 9, 20, 21, 22]) (codeN Go.Proofs.Tryd.prog (sub (codeOf Go.Proofs.Tryd.f17) [1, 1, 0, 1, 0, 0, 1, 1, 0, 0, 1, 1, 1, 1]) (nsub lanes_left.an [1, 1, 0, 1, 0, 0, 1, 1, 0, 0, 1, 1, 1, 1]) (lanes_left.q48 R k8)) ⟨#[undef, .slice a1 n1 c1, .pointer p2, undef, undef, .slice a5 n5 c5, undef, .pointer p7, .pointer p8, .int .u8 x9, undef, undef, undef, undef, undef, undef, undef, undef, undef, undef, .slice a20 n20 c20, .int .i64 x21, .int .i64 x22, undef, undef, undef, undef, undef, undef, undef, undef, undef, undef, undef, undef, undef, undef, undef, undef, undef, undef, undef, undef, undef, undef, undef, undef, undef, undef, undef, undef, undef, undef, undef, undef, undef, undef, undef, undef, undef, undef, undef, undef, undef, undef, undef, undef, undef, undef, undef, undef, undef, undef, undef, undef, undef, undef, undef, undef, undef, undef, undef, undef, undef, undef, undef, undef, undef, undef, undef, undef, undef, undef, undef, undef, undef, undef, undef, undef, undef], []⟩ w
def lanes_left.q49 (R : Value → World → Prop) (k8 : Nat) : Exit → Act → World → Prop := Exit.then (startN none (codeN Go.Proofs.Tryd.prog (sub (codeOf Go.Proofs.Tryd.f17) [1, 1, 0, 1, 0, 0, 1, 1, 0, 0, 1, 1, 1, 1, 1]) (nsub lanes_left.an [1, 1, 0, 1, 0, 0, 1, 1, 0, 0, 1, 1, 1, 1, 1]) (lanes_left.q48 R k8))) (lanes_left.q48 R k8)
def lanes_left.q51 (R : Value → World → Prop) (k8 : Nat) : Exit → Act → World → Prop := (lanes_left.q49 R k8)
def lanes_left.q52 (R : Value → World → Prop) (k8 : Nat) : Exit → Act → World → Prop := Exit.inBlock 4 (lanes_left.q51 R k8)
def lanes_left.rl52 (R : Value → World → Prop) (k8 : Nat) (k : Nat) (a1 : Option Addr) (n1 : Nat) (c1 : Nat) (p2 : Option Addr) (a5 : Option Addr) (n5 : Nat) (c5 : Nat) (p7 : Option Addr) (p8 : Option Addr) (x9 : Int) (a20 : Option Addr) (n20 : Nat) (c20 : Nat) (x21 : Int) (x22 : Int) (a58 : Option Addr) (n58 : Nat) (c58 : Nat) (x59 : Int) (x60 : Int) (w : World) : Prop := loopN [1, 2, 5, 7, 8, 9, 20, 21, 22, 58, 59, 60] (codeN Go.Proofs.Tryd.prog (sub (codeOf Go.Proofs.Tryd.f17) [1, 1, 0, 1, 0, 0, 1, 1, 0, 0, 1, 1, 1, 1, 0, 1, 0, 0]) (nsub lanes_left.an [1, 1, 0, 1, 0, 0, 1, 1, 0, 0, 1, 1, 1, 1, 0, 1, 0, 0])) (lanes_left.q52 R k8) k ⟨#[undef, .slice a1 n1 c1, .pointer p2, undef, undef, .slice a5 n5 c5, undef, .pointer p7, .pointer p8, .int .u8 x9, undef, undef, undef, undef, undef, undef, undef, undef, undef, undef, .slice a20 n20 c20, .int .i64 x21, .int .i64 x22, undef, undef, undef, undef, undef, undef, undef, undef, undef, undef, undef, undef, undef, undef, undef, undef, undef, undef, undef, undef, undef, undef, undef, undef, undef, undef, undef, undef, undef, undef, undef, undef, undef, undef, undef, .slice a58 n58 c58, .int .i64 x59, .int .i64 x60, undef, undef, undef, undef, undef, undef, undef, undef, undef, undef, undef, undef, undef, undef, undef, undef, undef, undef, undef, undef, undef, undef, undef, undef, undef, undef, undef, undef, undef, undef, undef, undef, undef, undef, undef, undef, undef, undef, undef], []⟩ w
def lanes_left.re52 (R : Value → World → Prop) (k8 : Nat) (a1 : Option Addr) (n1 : Nat) (c1 : Nat) (p2 : Option Addr) (a5 : Option Addr) (n5 : Nat) (c5 : Nat) (p7 : Option Addr) (p8 : Option Addr) (x9 : Int) (a20 : Option Addr) (n20 : Nat) (c20 : Nat) (x21 : Int) (x22 : Int) (a58 : Option Addr) (n58 : Nat) (c58 : Nat) (x59 : Int) (x60 : Int) (w : World) : Prop := ∃ k, lanes_left.rl52 R k8 k a1 n1 c1 p2 a5 n5 c5 p7 p8 x9 a20 n20 c20 x21 x22 a58 n58 c58 x59 x60 w
def lanes_left.q65 (R : Value → World → Prop) (k8 : Nat) : Exit → Act → World → Prop := (lanes_left.q48 R k8)
def lanes_left.q67 (R : Value → World → Prop) (k8 : Nat) : Exit → Act → World → Prop := (lanes_left.q65 R k8)
def lanes_left.q68 (R : Value → World → Prop) (k8 : Nat) : Exit → Act → World → Prop := (lanes_left.q67 R k8)
def lanes_left.q70 (R : Value → World → Prop) (k8 : Nat) : Exit → Act → World → Prop := (lanes_left.q68 R k8)
def lanes_left.q71 (R : Value → World → Prop) (k8 : Nat) : Exit → Act → World → Prop := Exit.inBlock 6 (lanes_left.q70 R k8)
def lanes_left.rl71 (R : Value → World → Prop) (k8 : Nat) (k : Nat) (a1 : Option Addr) (n1 : Nat) (c1 : Nat) (p2 : Option Addr) (a5 : Option Addr) (n5 : Nat) (c5 : Nat) (x9 : Int) (a20 : Option Addr) (n20 : Nat) (c20 : Nat) (x21 : Int) (x22 : Int) (a81 : Option Addr) (n81 : Nat) (c81 : Nat) (x82 : Int) (x83 : Int) (w : World) : Prop := loopN [1, 2, 5, 9, 20, 21, 22, 81, 82, 83] (codeN Go.Proofs.Tryd.prog (sub (codeOf Go.Proofs.Tryd.f17) [1, 1, 0, 1, 0, 0, 1, 1, 0, 0, 1, 1, 1, 1, 1, 1, 0, 1, 0, 0]) (nsub lanes_left.an [1, 1, 0, 1, 0, 0, 1, 1, 0, 0, 1, 1, 1, 1, 1, 1, 0, 1, 0, 0])) (lanes_left.q71 R k8) k ⟨#[undef, .slice a1 n1 c1, .pointer p2, undef, undef, .slice a5 n5 c5, undef, undef, undef, .int .u8 x9, undef, undef, undef, undef, undef, undef, undef, undef, undef, undef, .slice a20 n20 c20, .int .i64 x21, .int .i64 x22, undef, undef, undef, undef, undef, undef, undef, undef, undef, undef, undef, undef, undef, undef, undef, undef, undef, undef, undef, undef, undef, undef, undef, undef, undef, undef, undef, undef, undef, undef, undef, undef, undef, undef, undef, undef, undef, undef, undef, undef, undef, undef, undef, undef, undef, undef, undef, undef, undef, undef, undef, undef, undef, undef, undef, undef, undef, undef, .slice a81 n81 c81, .int .i64 x82, .int .i64 x83, undef, undef, undef, undef, undef, undef, undef, undef, undef, undef, undef, undef, undef, undef, undef, undef], []⟩ w
def lanes_left.re71 (R : Value → World → Prop) (k8 : Nat) (a1 : Option Addr) (n1 : Nat) (c1 : Nat) (p2 : Option Addr) (a5 : Option Addr) (n5 : Nat) (c5 : Nat) (x9 : Int) (a20 : Option Addr) (n20 : Nat) (c20 : Nat) (x21 : Int) (x22 : Int) (a81 : Option Addr) (n81 : Nat) (c81 : Nat) (x82 : Int) (x83 : Int) (w : World) : Prop := ∃ k, lanes_left.rl71 R k8 k a1 n1 c1 p2 a5 n5 c5 x9 a20 n20 c20 x21 x22 a81 n81 c81 x82 x83 w
def lanes_left.l71 (R : Value → World → Prop) (b8 : (Option Addr) → Nat → Nat → (Option Addr) → (Option Addr) → Nat → Nat → (Option Addr) → Nat → Nat → Int → Int → World → Prop) : Nat → (Option Addr) → Nat → Nat → (Option Addr) → (Option Addr) → Nat → Nat → Int → (Option Addr) → Nat → Nat → Int → Int → (Option Addr) → Nat → Nat → Int → Int → World → Prop
  | 0, _, _, _, _, _, _, _, _, _, _, _, _, _, _, _, _, _, _, _ => False
  | k + 1, a1, n1, c1, p2, a5, n5, c5, x9, a20, n20, c20, x21, x22, a81, n81, c81, x82, x83, w => lanes_left.g71 R b8 (lanes_left.l71 R b8 k) a1 n1 c1 p2 a5 n5 c5 x9 a20 n20 c20 x21 x22 a81 n81 c81 x82 x83 w
def lanes_left.e71 (R : Value → World → Prop) (b8 : (Option Addr) → Nat → Nat → (Option Addr) → (Option Addr) → Nat → Nat → (Option Addr) → Nat → Nat → Int → Int → World → Prop) (a1 : Option Addr) (n1 : Nat) (c1 : Nat) (p2 : Option Addr) (a5 : Option Addr) (n5 : Nat) (c5 : Nat) (x9 : Int) (a20 : Option Addr) (n20 : Nat) (c20 : Nat) (x21 : Int) (x22 : Int) (a81 : Option Addr) (n81 : Nat) (c81 : Nat) (x82 : Int) (x83 : Int) (w : World) : Prop := ∃ k, lanes_left.l71 R b8 k a1 n1 c1 p2 a5 n5 c5 x9 a20 n20 c20 x21 x22 a81 n81 c81 x82 x83 w
theorem lanes_left.s71 (R : Value → World → Prop) (k8 : Nat) (k : Nat) (a1 : Option Addr) (n1 : Nat) (c1 : Nat) (p2 : Option Addr) (a5 : Option Addr) (n5 : Nat) (c5 : Nat) (x9 : Int) (a20 : Option Addr) (n20 : Nat) (c20 : Nat) (x21 : Int) (x22 : Int) (a81 : Option Addr) (n81 : Nat) (c81 : Nat) (x82 : Int) (x83 : Int) (w : World) : lanes_left.rl71 R k8 (k + 1) a1 n1 c1 p2 a5 n5 c5 x9 a20 n20 c20 x21 x22 a81 n81 c81 x82 x83 w = ∀ _ : Nat → Value, lanes_left.g71 R (lanes_left.rl8 R k8) (lanes_left.rl71 R k8 k) a1 n1 c1 p2 a5 n5 c5 x9 a20 n20 c20 x21 x22 a81 n81 c81 x82 x83 w := by kernel_rfl
theorem lanes_left.lq71 (R : Value → World → Prop) (k8 : Nat) (b8 : (Option Addr) → Nat → Nat → (Option Addr) → (Option Addr) → Nat → Nat → (Option Addr) → Nat → Nat → Int → Int → World → Prop) (hb8 : b8 = lanes_left.rl8 R k8) : ∀ k, lanes_left.l71 R b8 k = lanes_left.rl71 R k8 k
  | 0 => by funext a1 n1 c1 p2 a5 n5 c5 x9 a20 n20 c20 x21 x22 a81 n81 c81 x82 x83 w; first | rfl | kernel_rfl
  | k + 1 => by
    funext a1 n1 c1 p2 a5 n5 c5 x9 a20 n20 c20 x21 x22 a81 n81 c81 x82 x83 w
    rw [lanes_left.s71, forall_const]
    unfold lanes_left.l71
    have ih := lanes_left.lq71 R k8 b8 hb8 k
    subst hb8
    rw [ih]
    all_goals rfl
theorem lanes_left.eq71 (R : Value → World → Prop) (k8 : Nat) (b8 : (Option Addr) → Nat → Nat → (Option Addr) → (Option Addr) → Nat → Nat → (Option Addr) → Nat → Nat → Int → Int → World → Prop) (hb8 : b8 = lanes_left.rl8 R k8) : lanes_left.e71 R b8 = lanes_left.re71 R k8 := by
  funext a1 n1 c1 p2 a5 n5 c5 x9 a20 n20 c20 x21 x22 a81 n81 c81 x82 x83 w
  unfold lanes_left.e71 lanes_left.re71
  simp only [lanes_left.lq71 R k8 b8 hb8]
def lanes_left.l52 (R : Value → World → Prop) (b8 : (Option Addr) → Nat → Nat → (Option Addr) → (Option Addr) → Nat → Nat → (Option Addr) → Nat → Nat → Int → Int → World → Prop) : Nat → (Option Addr) → Nat → Nat → (Option Addr) → (Option Addr) → Nat → Nat → (Option Addr) → (Option Addr) → Int → (Option Addr) → Nat → Nat → Int → Int → (Option Addr) → Nat → Nat → Int → Int → World → Prop
  | 0, _, _, _, _, _, _, _, _, _, _, _, _, _, _, _, _, _, _, _, _, _ => False
  | k + 1, a1, n1, c1, p2, a5, n5, c5, p7, p8, x9, a20, n20, c20, x21, x22, a58, n58, c58, x59, x60, w => lanes_left.g52 R b8 (lanes_left.l52 R b8 k) (lanes_left.e71 R b8) a1 n1 c1 p2 a5 n5 c5 p7 p8 x9 a20 n20 c20 x21 x22 a58 n58 c58 x59 x60 w
def lanes_left.e52 (R : Value → World → Prop) (b8 : (Option Addr) → Nat → Nat → (Option Addr) → (Option Addr) → Nat → Nat → (Option Addr) → Nat → Nat → Int → Int → World → Prop) (a1 : Option Addr) (n1 : Nat) (c1 : Nat) (p2 : Option Addr) (a5 : Option Addr) (n5 : Nat) (c5 : Nat) (p7 : Option Addr) (p8 : Option Addr) (x9 : Int) (a20 : Option Addr) (n20 : Nat) (c20 : Nat) (x21 : Int) (x22 : Int) (a58 : Option Addr) (n58 : Nat) (c58 : Nat) (x59 : Int) (x60 : Int) (w : World) : Prop := ∃ k, lanes_left.l52 R b8 k a1 n1 c1 p2 a5 n5 c5 p7 p8 x9 a20 n20 c20 x21 x22 a58 n58 c58 x59 x60 w
theorem lanes_left.s52 (R : Value → World → Prop) (k8 : Nat) (k : Nat) (a1 : Option Addr) (n1 : Nat) (c1 : Nat) (p2 : Option Addr) (a5 : Option Addr) (n5 : Nat) (c5 : Nat) (p7 : Option Addr) (p8 : Option Addr) (x9 : Int) (a20 : Option Addr) (n20 : Nat) (c20 : Nat) (x21 : Int) (x22 : Int) (a58 : Option Addr) (n58 : Nat) (c58 : Nat) (x59 : Int) (x60 : Int) (w : World) : lanes_left.rl52 R k8 (k + 1) a1 n1 c1 p2 a5 n5 c5 p7 p8 x9 a20 n20 c20 x21 x22 a58 n58 c58 x59 x60 w = ∀ _ : Nat → Value, lanes_left.g52 R (lanes_left.rl8 R k8) (lanes_left.rl52 R k8 k) (lanes_left.re71 R k8) a1 n1 c1 p2 a5 n5 c5 p7 p8 x9 a20 n20 c20 x21 x22 a58 n58 c58 x59 x60 w := by kernel_rfl
theorem lanes_left.lq52 (R : Value → World → Prop) (k8 : Nat) (b8 : (Option Addr) → Nat → Nat → (Option Addr) → (Option Addr) → Nat → Nat → (Option Addr) → Nat → Nat → Int → Int → World → Prop) (hb8 : b8 = lanes_left.rl8 R k8) : ∀ k, lanes_left.l52 R b8 k = lanes_left.rl52 R k8 k
  | 0 => by funext a1 n1 c1 p2 a5 n5 c5 p7 p8 x9 a20 n20 c20 x21 x22 a58 n58 c58 x59 x60 w; first | rfl | kernel_rfl
  | k + 1 => by
    funext a1 n1 c1 p2 a5 n5 c5 p7 p8 x9 a20 n20 c20 x21 x22 a58 n58 c58 x59 x60 w
    rw [lanes_left.s52, forall_const]
    unfold lanes_left.l52
    have ih := lanes_left.lq52 R k8 b8 hb8 k
    subst hb8
    rw [lanes_left.eq71 R k8 _ rfl]
    rw [ih]
    all_goals rfl
theorem lanes_left.eq52 (R : Value → World → Prop) (k8 : Nat) (b8 : (Option Addr) → Nat → Nat → (Option Addr) → (Option Addr) → Nat → Nat → (Option Addr) → Nat → Nat → Int → Int → World → Prop) (hb8 : b8 = lanes_left.rl8 R k8) : lanes_left.e52 R b8 = lanes_left.re52 R k8 := by
  funext a1 n1 c1 p2 a5 n5 c5 p7 p8 x9 a20 n20 c20 x21 x22 a58 n58 c58 x59 x60 w
  unfold lanes_left.e52 lanes_left.re52
  simp only [lanes_left.lq52 R k8 b8 hb8]
def lanes_left.j48 (R : Value → World → Prop) (b8 : (Option Addr) → Nat → Nat → (Option Addr) → (Option Addr) → Nat → Nat → (Option Addr) → Nat → Nat → Int → Int → World → Prop) (a1 : Option Addr) (n1 : Nat) (c1 : Nat) (p2 : Option Addr) (a5 : Option Addr) (n5 : Nat) (c5 : Nat) (p7 : Option Addr) (p8 : Option Addr) (x9 : Int) (a20 : Option Addr) (n20 : Nat) (c20 : Nat) (x21 : Int) (x22 : Int) (w : World) : Prop := lanes_left.g48 R (lanes_left.e52 R b8) a1 n1 c1 p2 a5 n5 c5 p7 p8 x9 a20 n20 c20 x21 x22 w
theorem lanes_left.s48 (R : Value → World → Prop) (k8 : Nat) (a1 : Option Addr) (n1 : Nat) (c1 : Nat) (p2 : Option Addr) (a5 : Option Addr) (n5 : Nat) (c5 : Nat) (p7 : Option Addr) (p8 : Option Addr) (x9 : Int) (a20 : Option Addr) (n20 : Nat) (c20 : Nat) (x21 : Int) (x22 : Int) (w : World) : lanes_left.rj48 R k8 a1 n1 c1 p2 a5 n5 c5 p7 p8 x9 a20 n20 c20 x21 x22 w = ∀ _ : Nat → Value, lanes_left.g48 R (lanes_left.re52 R k8) a1 n1 c1 p2 a5 n5 c5 p7 p8 x9 a20 n20 c20 x21 x22 w := by kernel_rfl
theorem lanes_left.jq48 (R : Value → World → Prop) (k8 : Nat) (b8 : (Option Addr) → Nat → Nat → (Option Addr) → (Option Addr) → Nat → Nat → (Option Addr) → Nat → Nat → Int → Int → World → Prop) (hb8 : b8 = lanes_left.rl8 R k8) : lanes_left.j48 R b8 = lanes_left.rj48 R k8 := by
    funext a1 n1 c1 p2 a5 n5 c5 p7 p8 x9 a20 n20 c20 x21 x22 w
    rw [lanes_left.s48, forall_const]
    unfold lanes_left.j48
    subst hb8
    rw [lanes_left.eq52 R k8 _ rfl]
    all_goals rfl
def lanes_left.l27 (R : Value → World → Prop) (b8 : (Option Addr) → Nat → Nat → (Option Addr) → (Option Addr) → Nat → Nat → (Option Addr) → Nat → Nat → Int → Int → World → Prop) : Nat → (Option Addr) → Nat → Nat → (Option Addr) → (Option Addr) → Nat → Nat → (Option Addr) → (Option Addr) → Int → (Option Addr) → Nat → Nat → Int → Int → (Option Addr) → Nat → Nat → Int → Int → World → Prop
  | 0, _, _, _, _, _, _, _, _, _, _, _, _, _, _, _, _, _, _, _, _, _ => False
  | k + 1, a1, n1, c1, p2, a5, n5, c5, p7, p8, x9, a20, n20, c20, x21, x22, a34, n34, c34, x35, x36, w => lanes_left.g27 R (lanes_left.l27 R b8 k) (lanes_left.j48 R b8) a1 n1 c1 p2 a5 n5 c5 p7 p8 x9 a20 n20 c20 x21 x22 a34 n34 c34 x35 x36 w
def lanes_left.e27 (R : Value → World → Prop) (b8 : (Option Addr) → Nat → Nat → (Option Addr) → (Option Addr) → Nat → Nat → (Option Addr) → Nat → Nat → Int → Int → World → Prop) (a1 : Option Addr) (n1 : Nat) (c1 : Nat) (p2 : Option Addr) (a5 : Option Addr) (n5 : Nat) (c5 : Nat) (p7 : Option Addr) (p8 : Option Addr) (x9 : Int) (a20 : Option Addr) (n20 : Nat) (c20 : Nat) (x21 : Int) (x22 : Int) (a34 : Option Addr) (n34 : Nat) (c34 : Nat) (x35 : Int) (x36 : Int) (w : World) : Prop := ∃ k, lanes_left.l27 R b8 k a1 n1 c1 p2 a5 n5 c5 p7 p8 x9 a20 n20 c20 x21 x22 a34 n34 c34 x35 x36 w
theorem lanes_left.s27 (R : Value → World → Prop) (k8 : Nat) (k : Nat) (a1 : Option Addr) (n1 : Nat) (c1 : Nat) (p2 : Option Addr) (a5 : Option Addr) (n5 : Nat) (c5 : Nat) (p7 : Option Addr) (p8 : Option Addr) (x9 : Int) (a20 : Option Addr) (n20 : Nat) (c20 : Nat) (x21 : Int) (x22 : Int) (a34 : Option Addr) (n34 : Nat) (c34 : Nat) (x35 : Int) (x36 : Int) (w : World) : lanes_left.rl27 R k8 (k + 1) a1 n1 c1 p2 a5 n5 c5 p7 p8 x9 a20 n20 c20 x21 x22 a34 n34 c34 x35 x36 w = ∀ _ : Nat → Value, lanes_left.g27 R (lanes_left.rl27 R k8 k) (lanes_left.rj48 R k8) a1 n1 c1 p2 a5 n5 c5 p7 p8 x9 a20 n20 c20 x21 x22 a34 n34 c34 x35 x36 w := by kernel_rfl
theorem lanes_left.lq27 (R : Value → World → Prop) (k8 : Nat) (b8 : (Option Addr) → Nat → Nat → (Option Addr) → (Option Addr) → Nat → Nat → (Option Addr) → Nat → Nat → Int → Int → World → Prop) (hb8 : b8 = lanes_left.rl8 R k8) : ∀ k, lanes_left.l27 R b8 k = lanes_left.rl27 R k8 k
  | 0 => by funext a1 n1 c1 p2 a5 n5 c5 p7 p8 x9 a20 n20 c20 x21 x22 a34 n34 c34 x35 x36 w; first | rfl | kernel_rfl
  | k + 1 => by
    funext a1 n1 c1 p2 a5 n5 c5 p7 p8 x9 a20 n20 c20 x21 x22 a34 n34 c34 x35 x36 w
    rw [lanes_left.s27, forall_const]
    unfold lanes_left.l27
    have ih := lanes_left.lq27 R k8 b8 hb8 k
    subst hb8
    rw [lanes_left.jq48 R k8 _ rfl]
    rw [ih]
    all_goals rfl
theorem lanes_left.eq27 (R : Value → World → Prop) (k8 : Nat) (b8 : (Option Addr) → Nat → Nat → (Option Addr) → (Option Addr) → Nat → Nat → (Option Addr) → Nat → Nat → Int → Int → World → Prop) (hb8 : b8 = lanes_left.rl8 R k8) : lanes_left.e27 R b8 = lanes_left.re27 R k8 := by
  funext a1 n1 c1 p2 a5 n5 c5 p7 p8 x9 a20 n20 c20 x21 x22 a34 n34 c34 x35 x36 w
  unfold lanes_left.e27 lanes_left.re27
  simp only [lanes_left.lq27 R k8 b8 hb8]
def lanes_left.l8 (R : Value → World → Prop) : Nat → (Option Addr) → Nat → Nat → (Option Addr) → (Option Addr) → Nat → Nat → (Option Addr) → Nat → Nat → Int → Int → World → Prop
  | 0, _, _, _, _, _, _, _, _, _, _, _, _, _ => False
  | k + 1, a1, n1, c1, p2, a5, n5, c5, a20, n20, c20, x21, x22, w => lanes_left.g8 R (lanes_left.e27 R (lanes_left.l8 R k)) a1 n1 c1 p2 a5 n5 c5 a20 n20 c20 x21 x22 w
def lanes_left.e8 (R : Value → World → Prop) (a1 : Option Addr) (n1 : Nat) (c1 : Nat) (p2 : Option Addr) (a5 : Option Addr) (n5 : Nat) (c5 : Nat) (a20 : Option Addr) (n20 : Nat) (c20 : Nat) (x21 : Int) (x22 : Int) (w : World) : Prop := ∃ k, lanes_left.l8 R k a1 n1 c1 p2 a5 n5 c5 a20 n20 c20 x21 x22 w
theorem lanes_left.s8 (R : Value → World → Prop) (k : Nat) (a1 : Option Addr) (n1 : Nat) (c1 : Nat) (p2 : Option Addr) (a5 : Option Addr) (n5 : Nat) (c5 : Nat) (a20 : Option Addr) (n20 : Nat) (c20 : Nat) (x21 : Int) (x22 : Int) (w : World) : lanes_left.rl8 R (k + 1) a1 n1 c1 p2 a5 n5 c5 a20 n20 c20 x21 x22 w = ∀ _ : Nat → Value, lanes_left.g8 R (lanes_left.re27 R k) a1 n1 c1 p2 a5 n5 c5 a20 n20 c20 x21 x22 w := by kernel_rfl
theorem lanes_left.lq8 (R : Value → World → Prop) : ∀ k, lanes_left.l8 R k = lanes_left.rl8 R k
  | 0 => by funext a1 n1 c1 p2 a5 n5 c5 a20 n20 c20 x21 x22 w; first | rfl | kernel_rfl
  | k + 1 => by
    funext a1 n1 c1 p2 a5 n5 c5 a20 n20 c20 x21 x22 w
    rw [lanes_left.s8, forall_const]
    unfold lanes_left.l8
    have ih := lanes_left.lq8 R k
    rw [lanes_left.eq27 R k _ ih]
    all_goals rfl
theorem lanes_left.eq8 (R : Value → World → Prop) : lanes_left.e8 R = lanes_left.re8 R := by
  funext a1 n1 c1 p2 a5 n5 c5 a20 n20 c20 x21 x22 w
  unfold lanes_left.e8 lanes_left.re8
  simp only [lanes_left.lq8 R]
def lanes_left (R : Value → World → Prop) (x0_0 : Int) (a0_1 : Option Addr) (n0_1 : Nat) (c0_1 : Nat) (a0_2 : Option Addr) (n0_2 : Nat) (c0_2 : Nat) (a0_3 : Option Addr) (n0_3 : Nat) (c0_3 : Nat) (a0_4 : Option Addr) (n0_4 : Nat) (c0_4 : Nat) (a1 : Option Addr) (n1 : Nat) (c1 : Nat) (w : World) : Prop := lanes_left.g0 R (lanes_left.e8 R) x0_0 a0_1 n0_1 c0_1 a0_2 n0_2 c0_2 a0_3 n0_3 c0_3 a0_4 n0_4 c0_4 a1 n1 c1 w
theorem lanes_left.root0 (R : Value → World → Prop) (x0_0 : Int) (a0_1 : Option Addr) (n0_1 : Nat) (c0_1 : Nat) (a0_2 : Option Addr) (n0_2 : Nat) (c0_2 : Nat) (a0_3 : Option Addr) (n0_3 : Nat) (c0_3 : Nat) (a0_4 : Option Addr) (n0_4 : Nat) (c0_4 : Nat) (a1 : Option Addr) (n1 : Nat) (c1 : Nat) (w : World) : fnN Go.Proofs.Tryd.prog Go.Proofs.Tryd.f17 lanes_left.an #[.agg #[.int .i64 x0_0, .slice a0_1 n0_1 c0_1, .slice a0_2 n0_2 c0_2, .slice a0_3 n0_3 c0_3, .slice a0_4 n0_4 c0_4], .slice a1 n1 c1] w R = lanes_left.g0 R (lanes_left.re8 R) x0_0 a0_1 n0_1 c0_1 a0_2 n0_2 c0_2 a0_3 n0_3 c0_3 a0_4 n0_4 c0_4 a1 n1 c1 w := by kernel_rfl
theorem lanes_left.calls {R : Value → World → Prop} {x0_0 : Int} {a0_1 : Option Addr} {n0_1 : Nat} {c0_1 : Nat} {a0_2 : Option Addr} {n0_2 : Nat} {c0_2 : Nat} {a0_3 : Option Addr} {n0_3 : Nat} {c0_3 : Nat} {a0_4 : Option Addr} {n0_4 : Nat} {c0_4 : Nat} {a1 : Option Addr} {n1 : Nat} {c1 : Nat} {w : World} (h : lanes_left R x0_0 a0_1 n0_1 c0_1 a0_2 n0_2 c0_2 a0_3 n0_3 c0_3 a0_4 n0_4 c0_4 a1 n1 c1 w) : Go.E.CallsD Go.Proofs.Tryd.prog 17 #[.agg #[.int .i64 x0_0, .slice a0_1 n0_1 c0_1, .slice a0_2 n0_2 c0_2, .slice a0_3 n0_3 c0_3, .slice a0_4 n0_4 c0_4], .slice a1 n1 c1] w R := by
  refine callsD_of (n := lanes_left.an) M_follows M_sizes Go.Proofs.Tryd.func17 (by rfl) ?_
  rw [lanes_left.root0]
  unfold lanes_left at h
  rw [lanes_left.eq8 R] at h
  exact h
-- thicket/bits.Lowest
def bits_Lowest.an : An := (.mk none .nil (.mk none (.mk none .nil (.mk none (.mk (some [5, 6, 7]) .nil .nil) .nil)) .nil))
def bits_Lowest.g0 (R : Value → World → Prop) (e6 : (Option Addr) → Nat → Nat → Int → Int → World → Prop) (a0 : Option Addr) (n0 : Nat) (c0 : Nat) (w : World) : Prop :=
 e6 a0 n0 c0 (n0 : Int) 0 w
def bits_Lowest.g6 (R : Value → World → Prop) (b6 : (Option Addr) → Nat → Nat → Int → Int → World → Prop) (a5 : Option Addr) (n5 : Nat) (c5 : Nat) (x6 : Int) (x7 : Int) (w : World) : Prop :=
 onBool (decide (x7 < x6))
 (optN a5 fun q9 =>
 chk ((0 : Int) ≤ x7 ∧ x7 < (n5 : Int))
 (∃ yx_10 : Int, w.cell? (q9.add (x7.toNat * 1)) = some (.int .u64 yx_10) ∧
 (onBool (yx_10 != 0)
 (nv (IntKind.i64.wrap (64 * x7)) fun t11 =>
 Go.E.CallsD Go.Proofs.Tryd.prog 27 #[.int .u64 yx_10] w fun yv12 u13 =>
 ∃ yx_14 : Int, yv12 = .int .i64 yx_14 ∧
 (nv (IntKind.i64.wrap (t11 + yx_14)) fun t15 =>
 R (.int .i64 t15) u13))
 (nv (IntKind.i64.wrap (x7 + 1)) fun t16 =>
 b6 a5 n5 c5 x6 t16 w))))
 (R (.int .i64 (-1)) w)
def bits_Lowest.q2 (R : Value → World → Prop) : Exit → Act → World → Prop := (fin Go.Proofs.Tryd.prog Go.Proofs.Tryd.f18 R)
def bits_Lowest.q3 (R : Value → World → Prop) : Exit → Act → World → Prop := Exit.then (startN none (codeN Go.Proofs.Tryd.prog (sub (codeOf Go.Proofs.Tryd.f18) [1, 1]) (nsub bits_Lowest.an [1, 1]) (bits_Lowest.q2 R))) (bits_Lowest.q2 R)
def bits_Lowest.q5 (R : Value → World → Prop) : Exit → Act → World → Prop := (bits_Lowest.q3 R)
def bits_Lowest.q6 (R : Value → World → Prop) : Exit → Act → World → Prop := Exit.inBlock 0 (bits_Lowest.q5 R)
def bits_Lowest.rl6 (R : Value → World → Prop) (k : Nat) (a5 : Option Addr) (n5 : Nat) (c5 : Nat) (x6 : Int) (x7 : Int) (w : World) : Prop := loopN [5, 6, 7] (codeN Go.Proofs.Tryd.prog (sub (codeOf Go.Proofs.Tryd.f18) [1, 0, 1, 0, 0]) (nsub bits_Lowest.an [1, 0, 1, 0, 0])) (bits_Lowest.q6 R) k ⟨#[undef, undef, undef, undef, undef, .slice a5 n5 c5, .int .i64 x6, .int .i64 x7, undef, undef, undef, undef, undef, undef, undef, undef, undef, undef, undef, undef], []⟩ w
def bits_Lowest.re6 (R : Value → World → Prop) (a5 : Option Addr) (n5 : Nat) (c5 : Nat) (x6 : Int) (x7 : Int) (w : World) : Prop := ∃ k, bits_Lowest.rl6 R k a5 n5 c5 x6 x7 w
def bits_Lowest.l6 (R : Value → World → Prop) : Nat → (Option Addr) → Nat → Nat → Int → Int → World → Prop
  | 0, _, _, _, _, _, _ => False
  | k + 1, a5, n5, c5, x6, x7, w => bits_Lowest.g6 R (bits_Lowest.l6 R k) a5 n5 c5 x6 x7 w
def bits_Lowest.e6 (R : Value → World → Prop) (a5 : Option Addr) (n5 : Nat) (c5 : Nat) (x6 : Int) (x7 : Int) (w : World) : Prop := ∃ k, bits_Lowest.l6 R k a5 n5 c5 x6 x7 w
theorem bits_Lowest.s6 (R : Value → World → Prop) (k : Nat) (a5 : Option Addr) (n5 : Nat) (c5 : Nat) (x6 : Int) (x7 : Int) (w : World) : bits_Lowest.rl6 R (k + 1) a5 n5 c5 x6 x7 w = ∀ _ : Nat → Value, bits_Lowest.g6 R (bits_Lowest.rl6 R k) a5 n5 c5 x6 x7 w := by kernel_rfl
theorem bits_Lowest.lq6 (R : Value → World → Prop) : ∀ k, bits_Lowest.l6 R k = bits_Lowest.rl6 R k
  | 0 => by funext a5 n5 c5 x6 x7 w; first | rfl | kernel_rfl
  | k + 1 => by
    funext a5 n5 c5 x6 x7 w
    rw [bits_Lowest.s6, forall_const]
    unfold bits_Lowest.l6
    have ih := bits_Lowest.lq6 R k
    rw [ih]
    all_goals rfl
theorem bits_Lowest.eq6 (R : Value → World → Prop) : bits_Lowest.e6 R = bits_Lowest.re6 R := by
  funext a5 n5 c5 x6 x7 w
  unfold bits_Lowest.e6 bits_Lowest.re6
  simp only [bits_Lowest.lq6 R]
def bits_Lowest (R : Value → World → Prop) (a0 : Option Addr) (n0 : Nat) (c0 : Nat) (w : World) : Prop := bits_Lowest.g0 R (bits_Lowest.e6 R) a0 n0 c0 w
theorem bits_Lowest.root0 (R : Value → World → Prop) (a0 : Option Addr) (n0 : Nat) (c0 : Nat) (w : World) : fnN Go.Proofs.Tryd.prog Go.Proofs.Tryd.f18 bits_Lowest.an #[.slice a0 n0 c0] w R = bits_Lowest.g0 R (bits_Lowest.re6 R) a0 n0 c0 w := by kernel_rfl
theorem bits_Lowest.calls {R : Value → World → Prop} {a0 : Option Addr} {n0 : Nat} {c0 : Nat} {w : World} (h : bits_Lowest R a0 n0 c0 w) : Go.E.CallsD Go.Proofs.Tryd.prog 18 #[.slice a0 n0 c0] w R := by
  refine callsD_of (n := bits_Lowest.an) M_follows M_sizes Go.Proofs.Tryd.func18 (by rfl) ?_
  rw [bits_Lowest.root0]
  unfold bits_Lowest at h
  rw [bits_Lowest.eq6 R] at h
  exact h
end Go.Mir
