/- Part of a proof of laws of the seat Ytdealcfgobobiaa: functions' weakest preconditions, each checked by the kernel, contracts out of them, plain lemmas; no conditions. -/
import Derived.Test.YtdealcfgobobiaaTM0
set_option linter.unusedVariables false
set_option linter.unusedSimpArgs false
set_option linter.unusedVariables false
set_option maxRecDepth 100000
namespace Go.Mir
open Go Go.E Go.RowKit
-- thicket/thicketref07.Score
def thicketref07_Score.an : An := (.mk none .nil (.mk none .nil (.mk none .nil (.mk none .nil (.mk none .nil (.mk none (.mk none .nil (.mk none (.mk (some [1, 2, 6, 35, 36, 37]) .nil .nil) .nil)) .nil))))))
def thicketref07_Score.g0 (R : Value → World → Prop) (e26 : (Option Addr) → Nat → Nat → (Option Addr) → (Option Addr) → Nat → Nat → (Option Addr) → Nat → Nat → Int → Int → World → Prop) (s0_0 : ByteArray) (a0_1 : Option Addr) (n0_1 : Nat) (c0_1 : Nat) (x0_2 : Int) (a0_3 : Option Addr) (n0_3 : Nat) (c0_3 : Nat) (a0_4 : Option Addr) (n0_4 : Nat) (c0_4 : Nat) (a1 : Option Addr) (n1 : Nat) (c1 : Nat) (w : World) : Prop :=
 nw (w.alloc (.cells #[.string s0_0, .slice a0_1 n0_1 c0_1, .int .i64 x0_2, .slice a0_3 n0_3 c0_3, .slice a0_4 n0_4 c0_4] 46)) fun w20 =>
 ∃ yx_21 : Int, w20.cell? ((na w).add 2) = some (.int .i64 yx_21) ∧
 (onBool (decide (yx_21 < 1))
 (R (.tuple #[.slice none 0 0, .int .i64 6]) w20)
 (∃ ya_22 : Option Addr, ∃ yn_22 : Nat, ∃ yc_22 : Nat, w20.cell? ((na w).add 3) = some (.slice ya_22 yn_22 yc_22) ∧
 (∃ yx_23 : Int, w20.cell? ((na w).add 2) = some (.int .i64 yx_23) ∧
 (onBool ((yn_22 : Int) != yx_23)
 (R (.tuple #[.slice none 0 0, .int .i64 6]) w20)
 (∃ ya_24 : Option Addr, ∃ yn_24 : Nat, ∃ yc_24 : Nat, w20.cell? ((na w).add 1) = some (.slice ya_24 yn_24 yc_24) ∧
 (onBool ((n1 : Int) != (yn_24 : Int))
 (R (.tuple #[.slice none 0 0, .int .i64 72]) w20)
 (∃ ya_25 : Option Addr, ∃ yn_25 : Nat, ∃ yc_25 : Nat, w20.cell? ((na w).add 3) = some (.slice ya_25 yn_25 yc_25) ∧
 (rawN Go.Proofs.Try.prog (Builtin.append_ #[43, 43] 43 #[.slice none 0 0, .slice ya_25 yn_25 yc_25]) w20 fun yv26 u27 =>
 ∃ ya_28 : Option Addr, ∃ yn_28 : Nat, ∃ yc_28 : Nat, yv26 = .slice ya_28 yn_28 yc_28 ∧
 (∃ ya_29 : Option Addr, ∃ yn_29 : Nat, ∃ yc_29 : Nat, u27.cell? ((na w).add 4) = some (.slice ya_29 yn_29 yc_29) ∧
 (e26 a1 n1 c1 (some (na w)) ya_28 yn_28 yc_28 ya_29 yn_29 yc_29 (yn_29 : Int) 0 u27))))))))))
def thicketref07_Score.g26 (R : Value → World → Prop) (b26 : (Option Addr) → Nat → Nat → (Option Addr) → (Option Addr) → Nat → Nat → (Option Addr) → Nat → Nat → Int → Int → World → Prop) (a1 : Option Addr) (n1 : Nat) (c1 : Nat) (p2 : Option Addr) (a6 : Option Addr) (n6 : Nat) (c6 : Nat) (a35 : Option Addr) (n35 : Nat) (c35 : Nat) (x36 : Int) (x37 : Int) (w : World) : Prop :=
 onBool (decide (x37 < x36))
 (optN a35 fun q30 =>
 chk ((0 : Int) ≤ x37 ∧ x37 < (n35 : Int))
 (∃ yx_31 : Int, w.cell? ((q30.add (x37.toNat * 2)).add 0) = some (.int .i64 yx_31) ∧
 (∃ ya_32 : Option Addr, ∃ yn_32 : Nat, ∃ yc_32 : Nat, w.cell? ((q30.add (x37.toNat * 2)).add 1) = some (.slice ya_32 yn_32 yc_32) ∧
 (nw (w.alloc (.cells #[.int .i64 0, .slice none 0 0] 33)) fun w33 =>
 okSt w33 ((na w).add 0) ∧
 (nw (w33.setCell ((na w).add 0) (.int .i64 yx_31)) fun w34 =>
 okSt w34 ((na w).add 1) ∧
 (nw (w34.setCell ((na w).add 1) (.slice ya_32 yn_32 yc_32)) fun w35 =>
 ∃ yx_36 : Int, w35.cell? ((na w).add 0) = some (.int .i64 yx_36) ∧
 (∃ ya_37 : Option Addr, ∃ yn_37 : Nat, ∃ yc_37 : Nat, w35.cell? ((na w).add 1) = some (.slice ya_37 yn_37 yc_37) ∧
 (Go.E.CallsD Go.Proofs.Try.prog 26 #[.agg #[.int .i64 yx_36, .slice ya_37 yn_37 yc_37]] w35 fun yv38 u39 =>
 ∃ yx_40_0 : Int, ∃ yx_40_1 : Int, yv38 = .tuple #[.int .i64 yx_40_0, .int .i64 yx_40_1] ∧
 (onBool (yx_40_0 != 0)
 (R (.tuple #[.slice none 0 0, .int .i64 yx_40_0]) u39)
 (∃ yx_41 : Int, u39.cell? ((na w).add 0) = some (.int .i64 yx_41) ∧
 (onBool (decide (yx_41 < 0))
 (R (.tuple #[.slice none 0 0, .int .i64 6]) u39)
 (∃ yx_42 : Int, u39.cell? ((na w).add 0) = some (.int .i64 yx_42) ∧
 (optN p2 fun q43 =>
 ∃ yx_44 : Int, u39.cell? (q43.add 2) = some (.int .i64 yx_44) ∧
 (onBool (decide (yx_42 ≥ yx_44))
 (R (.tuple #[.slice none 0 0, .int .i64 6]) u39)
 (∃ yx_45 : Int, u39.cell? ((na w).add 0) = some (.int .i64 yx_45) ∧
 (∃ ya_46 : Option Addr, ∃ yn_46 : Nat, ∃ yc_46 : Nat, u39.cell? ((na w).add 1) = some (.slice ya_46 yn_46 yc_46) ∧
 (Go.E.CallsD Go.Proofs.Try.prog 16 #[.agg #[.int .i64 yx_45, .slice ya_46 yn_46 yc_46], .slice a1 n1 c1] u39 fun yv47 u48 =>
 ∃ ya_49_0 : Option Addr, ∃ yn_49_0 : Nat, ∃ yc_49_0 : Nat, ∃ yx_49_1 : Int, yv47 = .tuple #[.slice ya_49_0 yn_49_0 yc_49_0, .int .i64 yx_49_1] ∧
 (onBool (yx_49_1 != 0)
 (R (.tuple #[.slice none 0 0, .int .i64 yx_49_1]) u48)
 (∃ yx_50 : Int, u48.cell? ((na w).add 0) = some (.int .i64 yx_50) ∧
 (optN a6 fun q51 =>
 chk ((0 : Int) ≤ yx_50 ∧ yx_50 < (n6 : Int))
 (∃ yx_52 : Int, u48.cell? (q51.add (yx_50.toNat * 1)) = some (.int .i64 yx_52) ∧
 (∃ ya_53 : Option Addr, ∃ yn_53 : Nat, ∃ yc_53 : Nat, u48.cell? ((na w).add 1) = some (.slice ya_53 yn_53 yc_53) ∧
 (nv (IntKind.i64.wrap ((yn_49_0 : Int) - 1)) fun t54 =>
 optN ya_49_0 fun q55 =>
 chk ((0 : Int) ≤ t54 ∧ t54 < (yn_49_0 : Int))
 (∃ yx_56 : Int, u48.cell? (q55.add (t54.toNat * 1)) = some (.int .i64 yx_56) ∧
 (optN ya_53 fun q57 =>
 chk ((0 : Int) ≤ yx_56 ∧ yx_56 < (yn_53 : Int))
 (∃ yx_58 : Int, u48.cell? ((q57.add (yx_56.toNat * 8)).add 1) = some (.int .i64 yx_58) ∧
 (nv (IntKind.i64.wrap (yx_52 + yx_58)) fun t59 =>
 optN a6 fun q60 =>
 chk ((0 : Int) ≤ yx_50 ∧ yx_50 < (n6 : Int))
 (okSt u48 ((q60.add (yx_50.toNat * 1)).add 0) ∧
 (nw (u48.setCell ((q60.add (yx_50.toNat * 1)).add 0) (.int .i64 t59)) fun w61 =>
 nv (IntKind.i64.wrap (x37 + 1)) fun t62 =>
 b26 a1 n1 c1 p2 a6 n6 c6 a35 n35 c35 x36 t62 w61)))))))))))))))))))))))))))))
 (R (.tuple #[.slice a6 n6 c6, .int .i64 0]) w)
def thicketref07_Score.q2 (R : Value → World → Prop) : Exit → Act → World → Prop := (fin Go.Proofs.Try.prog Go.Proofs.Try.f22 R)
def thicketref07_Score.q10 (R : Value → World → Prop) : Exit → Act → World → Prop := (thicketref07_Score.q2 R)
def thicketref07_Score.q18 (R : Value → World → Prop) : Exit → Act → World → Prop := (thicketref07_Score.q10 R)
def thicketref07_Score.q20 (R : Value → World → Prop) : Exit → Act → World → Prop := (thicketref07_Score.q18 R)
def thicketref07_Score.q22 (R : Value → World → Prop) : Exit → Act → World → Prop := (thicketref07_Score.q20 R)
def thicketref07_Score.q23 (R : Value → World → Prop) : Exit → Act → World → Prop := Exit.then (startN none (codeN Go.Proofs.Try.prog (sub (codeOf Go.Proofs.Try.f22) [1, 1, 1, 1, 1, 1]) (nsub thicketref07_Score.an [1, 1, 1, 1, 1, 1]) (thicketref07_Score.q22 R))) (thicketref07_Score.q22 R)
def thicketref07_Score.q25 (R : Value → World → Prop) : Exit → Act → World → Prop := (thicketref07_Score.q23 R)
def thicketref07_Score.q26 (R : Value → World → Prop) : Exit → Act → World → Prop := Exit.inBlock 0 (thicketref07_Score.q25 R)
def thicketref07_Score.rl26 (R : Value → World → Prop) (k : Nat) (a1 : Option Addr) (n1 : Nat) (c1 : Nat) (p2 : Option Addr) (a6 : Option Addr) (n6 : Nat) (c6 : Nat) (a35 : Option Addr) (n35 : Nat) (c35 : Nat) (x36 : Int) (x37 : Int) (w : World) : Prop := loopN [1, 2, 6, 35, 36, 37] (codeN Go.Proofs.Try.prog (sub (codeOf Go.Proofs.Try.f22) [1, 1, 1, 1, 1, 0, 1, 0, 0]) (nsub thicketref07_Score.an [1, 1, 1, 1, 1, 0, 1, 0, 0])) (thicketref07_Score.q26 R) k ⟨#[undef, .slice a1 n1 c1, .pointer p2, undef, undef, undef, .slice a6 n6 c6, undef, undef, undef, undef, undef, undef, undef, undef, undef, undef, undef, undef, undef, undef, undef, undef, undef, undef, undef, undef, undef, undef, undef, undef, undef, undef, undef, undef, .slice a35 n35 c35, .int .i64 x36, .int .i64 x37, undef, undef, undef, undef, undef, undef, undef, undef, undef, undef, undef, undef, undef, undef, undef, undef, undef, undef, undef, undef, undef, undef, undef, undef, undef, undef, undef, undef, undef, undef, undef, undef, undef, undef, undef, undef, undef, undef, undef, undef, undef, undef, undef, undef, undef, undef, undef, undef, undef, undef], []⟩ w
def thicketref07_Score.re26 (R : Value → World → Prop) (a1 : Option Addr) (n1 : Nat) (c1 : Nat) (p2 : Option Addr) (a6 : Option Addr) (n6 : Nat) (c6 : Nat) (a35 : Option Addr) (n35 : Nat) (c35 : Nat) (x36 : Int) (x37 : Int) (w : World) : Prop := ∃ k, thicketref07_Score.rl26 R k a1 n1 c1 p2 a6 n6 c6 a35 n35 c35 x36 x37 w
def thicketref07_Score.l26 (R : Value → World → Prop) : Nat → (Option Addr) → Nat → Nat → (Option Addr) → (Option Addr) → Nat → Nat → (Option Addr) → Nat → Nat → Int → Int → World → Prop
  | 0, _, _, _, _, _, _, _, _, _, _, _, _, _ => False
  | k + 1, a1, n1, c1, p2, a6, n6, c6, a35, n35, c35, x36, x37, w => thicketref07_Score.g26 R (thicketref07_Score.l26 R k) a1 n1 c1 p2 a6 n6 c6 a35 n35 c35 x36 x37 w
def thicketref07_Score.e26 (R : Value → World → Prop) (a1 : Option Addr) (n1 : Nat) (c1 : Nat) (p2 : Option Addr) (a6 : Option Addr) (n6 : Nat) (c6 : Nat) (a35 : Option Addr) (n35 : Nat) (c35 : Nat) (x36 : Int) (x37 : Int) (w : World) : Prop := ∃ k, thicketref07_Score.l26 R k a1 n1 c1 p2 a6 n6 c6 a35 n35 c35 x36 x37 w
theorem thicketref07_Score.s26 (R : Value → World → Prop) (k : Nat) (a1 : Option Addr) (n1 : Nat) (c1 : Nat) (p2 : Option Addr) (a6 : Option Addr) (n6 : Nat) (c6 : Nat) (a35 : Option Addr) (n35 : Nat) (c35 : Nat) (x36 : Int) (x37 : Int) (w : World) : thicketref07_Score.rl26 R (k + 1) a1 n1 c1 p2 a6 n6 c6 a35 n35 c35 x36 x37 w = ∀ _ : Nat → Value, thicketref07_Score.g26 R (thicketref07_Score.rl26 R k) a1 n1 c1 p2 a6 n6 c6 a35 n35 c35 x36 x37 w := by kernel_rfl
theorem thicketref07_Score.lq26 (R : Value → World → Prop) : ∀ k, thicketref07_Score.l26 R k = thicketref07_Score.rl26 R k
  | 0 => by funext a1 n1 c1 p2 a6 n6 c6 a35 n35 c35 x36 x37 w; first | rfl | kernel_rfl
  | k + 1 => by
    funext a1 n1 c1 p2 a6 n6 c6 a35 n35 c35 x36 x37 w
    rw [thicketref07_Score.s26, forall_const]
    unfold thicketref07_Score.l26
    have ih := thicketref07_Score.lq26 R k
    rw [ih]
    all_goals rfl
theorem thicketref07_Score.eq26 (R : Value → World → Prop) : thicketref07_Score.e26 R = thicketref07_Score.re26 R := by
  funext a1 n1 c1 p2 a6 n6 c6 a35 n35 c35 x36 x37 w
  unfold thicketref07_Score.e26 thicketref07_Score.re26
  simp only [thicketref07_Score.lq26 R]
def thicketref07_Score (R : Value → World → Prop) (s0_0 : ByteArray) (a0_1 : Option Addr) (n0_1 : Nat) (c0_1 : Nat) (x0_2 : Int) (a0_3 : Option Addr) (n0_3 : Nat) (c0_3 : Nat) (a0_4 : Option Addr) (n0_4 : Nat) (c0_4 : Nat) (a1 : Option Addr) (n1 : Nat) (c1 : Nat) (w : World) : Prop := thicketref07_Score.g0 R (thicketref07_Score.e26 R) s0_0 a0_1 n0_1 c0_1 x0_2 a0_3 n0_3 c0_3 a0_4 n0_4 c0_4 a1 n1 c1 w
theorem thicketref07_Score.root0 (R : Value → World → Prop) (s0_0 : ByteArray) (a0_1 : Option Addr) (n0_1 : Nat) (c0_1 : Nat) (x0_2 : Int) (a0_3 : Option Addr) (n0_3 : Nat) (c0_3 : Nat) (a0_4 : Option Addr) (n0_4 : Nat) (c0_4 : Nat) (a1 : Option Addr) (n1 : Nat) (c1 : Nat) (w : World) : fnN Go.Proofs.Try.prog Go.Proofs.Try.f22 thicketref07_Score.an #[.agg #[.string s0_0, .slice a0_1 n0_1 c0_1, .int .i64 x0_2, .slice a0_3 n0_3 c0_3, .slice a0_4 n0_4 c0_4], .slice a1 n1 c1] w R = thicketref07_Score.g0 R (thicketref07_Score.re26 R) s0_0 a0_1 n0_1 c0_1 x0_2 a0_3 n0_3 c0_3 a0_4 n0_4 c0_4 a1 n1 c1 w := by kernel_rfl
theorem thicketref07_Score.calls {R : Value → World → Prop} {s0_0 : ByteArray} {a0_1 : Option Addr} {n0_1 : Nat} {c0_1 : Nat} {x0_2 : Int} {a0_3 : Option Addr} {n0_3 : Nat} {c0_3 : Nat} {a0_4 : Option Addr} {n0_4 : Nat} {c0_4 : Nat} {a1 : Option Addr} {n1 : Nat} {c1 : Nat} {w : World} (h : thicketref07_Score R s0_0 a0_1 n0_1 c0_1 x0_2 a0_3 n0_3 c0_3 a0_4 n0_4 c0_4 a1 n1 c1 w) : Go.E.CallsD Go.Proofs.Try.prog 22 #[.agg #[.string s0_0, .slice a0_1 n0_1 c0_1, .int .i64 x0_2, .slice a0_3 n0_3 c0_3, .slice a0_4 n0_4 c0_4], .slice a1 n1 c1] w R := by
  refine callsD_of (n := thicketref07_Score.an) M_follows M_sizes Go.Proofs.Try.func22 (by rfl) ?_
  rw [thicketref07_Score.root0]
  unfold thicketref07_Score at h
  rw [thicketref07_Score.eq26 R] at h
  exact h
-- slices.Clone[[]string,string]
def slices_Clone_str.an : An := An.nil
def slices_Clone_str.g0 (R : Value → World → Prop) (a0 : Option Addr) (n0 : Nat) (c0 : Nat) (w : World) : Prop :=
 onBool a0.isNone
 (R (.slice none 0 0) w)
 (nw (w.alloc (.cells #[] 9)) fun w5 =>
 rawN Go.Proofs.Try.prog (Builtin.append_ #[42, 42] 42 #[.slice (some (na w)) 0 0, .slice a0 n0 c0]) w5 fun yv6 u7 =>
 ∃ ya_8 : Option Addr, ∃ yn_8 : Nat, ∃ yc_8 : Nat, yv6 = .slice ya_8 yn_8 yc_8 ∧
 (R (.slice ya_8 yn_8 yc_8) u7))
def slices_Clone_str (R : Value → World → Prop) (a0 : Option Addr) (n0 : Nat) (c0 : Nat) (w : World) : Prop := slices_Clone_str.g0 R a0 n0 c0 w
theorem slices_Clone_str.root0 (R : Value → World → Prop) (a0 : Option Addr) (n0 : Nat) (c0 : Nat) (w : World) : fnN Go.Proofs.Try.prog Go.Proofs.Try.f58 slices_Clone_str.an #[.slice a0 n0 c0] w R = slices_Clone_str.g0 R a0 n0 c0 w := by kernel_rfl
theorem slices_Clone_str.calls {R : Value → World → Prop} {a0 : Option Addr} {n0 : Nat} {c0 : Nat} {w : World} (h : slices_Clone_str R a0 n0 c0 w) : Go.E.CallsD Go.Proofs.Try.prog 58 #[.slice a0 n0 c0] w R := by
  refine callsD_of (n := slices_Clone_str.an) M_follows M_sizes Go.Proofs.Try.func58 (by rfl) ?_
  rw [slices_Clone_str.root0]
  unfold slices_Clone_str at h
  exact h
-- slices.Clone[[]int,int]
def slices_Clone_int.an : An := An.nil
def slices_Clone_int.g0 (R : Value → World → Prop) (a0 : Option Addr) (n0 : Nat) (c0 : Nat) (w : World) : Prop :=
 onBool a0.isNone
 (R (.slice none 0 0) w)
 (nw (w.alloc (.cells #[] 3)) fun w5 =>
 rawN Go.Proofs.Try.prog (Builtin.append_ #[24, 24] 24 #[.slice (some (na w)) 0 0, .slice a0 n0 c0]) w5 fun yv6 u7 =>
 ∃ ya_8 : Option Addr, ∃ yn_8 : Nat, ∃ yc_8 : Nat, yv6 = .slice ya_8 yn_8 yc_8 ∧
 (R (.slice ya_8 yn_8 yc_8) u7))
def slices_Clone_int (R : Value → World → Prop) (a0 : Option Addr) (n0 : Nat) (c0 : Nat) (w : World) : Prop := slices_Clone_int.g0 R a0 n0 c0 w
theorem slices_Clone_int.root0 (R : Value → World → Prop) (a0 : Option Addr) (n0 : Nat) (c0 : Nat) (w : World) : fnN Go.Proofs.Try.prog Go.Proofs.Try.f60 slices_Clone_int.an #[.slice a0 n0 c0] w R = slices_Clone_int.g0 R a0 n0 c0 w := by kernel_rfl
theorem slices_Clone_int.calls {R : Value → World → Prop} {a0 : Option Addr} {n0 : Nat} {c0 : Nat} {w : World} (h : slices_Clone_int R a0 n0 c0 w) : Go.E.CallsD Go.Proofs.Try.prog 60 #[.slice a0 n0 c0] w R := by
  refine callsD_of (n := slices_Clone_int.an) M_follows M_sizes Go.Proofs.Try.func60 (by rfl) ?_
  rw [slices_Clone_int.root0]
  unfold slices_Clone_int at h
  exact h
-- slices.Clone[[]thicket/api.Node,thicket/api.Node]
def Clone_node.an : An := An.nil
def Clone_node.g0 (R : Value → World → Prop) (a0 : Option Addr) (n0 : Nat) (c0 : Nat) (w : World) : Prop :=
 onBool a0.isNone
 (R (.slice none 0 0) w)
 (nw (w.alloc (.cells #[] 27)) fun w5 =>
 rawN Go.Proofs.Try.prog (Builtin.append_ #[31, 31] 31 #[.slice (some (na w)) 0 0, .slice a0 n0 c0]) w5 fun yv6 u7 =>
 ∃ ya_8 : Option Addr, ∃ yn_8 : Nat, ∃ yc_8 : Nat, yv6 = .slice ya_8 yn_8 yc_8 ∧
 (R (.slice ya_8 yn_8 yc_8) u7))
def Clone_node (R : Value → World → Prop) (a0 : Option Addr) (n0 : Nat) (c0 : Nat) (w : World) : Prop := Clone_node.g0 R a0 n0 c0 w
theorem Clone_node.root0 (R : Value → World → Prop) (a0 : Option Addr) (n0 : Nat) (c0 : Nat) (w : World) : fnN Go.Proofs.Try.prog Go.Proofs.Try.f59 Clone_node.an #[.slice a0 n0 c0] w R = Clone_node.g0 R a0 n0 c0 w := by kernel_rfl
theorem Clone_node.calls {R : Value → World → Prop} {a0 : Option Addr} {n0 : Nat} {c0 : Nat} {w : World} (h : Clone_node R a0 n0 c0 w) : Go.E.CallsD Go.Proofs.Try.prog 59 #[.slice a0 n0 c0] w R := by
  refine callsD_of (n := Clone_node.an) M_follows M_sizes Go.Proofs.Try.func59 (by rfl) ?_
  rw [Clone_node.root0]
  unfold Clone_node at h
  exact h
-- thicket/trees.Copy
def trees_Copy.an : An := (.mk none .nil (.mk none .nil (.mk none .nil (.mk none .nil (.mk none (.mk none .nil (.mk none (.mk (some [1, 2, 3, 20, 21, 22]) (.mk none .nil (.mk none .nil (.mk none (.mk none (.mk none .nil (.mk none .nil (.mk none (.mk none .nil (.mk none (.mk (some [1, 2, 3, 5, 20, 21, 22, 32, 33]) .nil .nil) .nil)) .nil))) .nil) .nil))) .nil) .nil)) .nil)))))
def trees_Copy.g0 (R : Value → World → Prop) (e12 : (Option Addr) → (Option Addr) → (Option Addr) → Nat → Nat → (Option Addr) → Nat → Nat → Int → Int → World → Prop) (s0_0 : ByteArray) (a0_1 : Option Addr) (n0_1 : Nat) (c0_1 : Nat) (x0_2 : Int) (a0_3 : Option Addr) (n0_3 : Nat) (c0_3 : Nat) (a0_4 : Option Addr) (n0_4 : Nat) (c0_4 : Nat) (w : World) : Prop :=
 nw (w.alloc (.cells #[.string s0_0, .slice a0_1 n0_1 c0_1, .int .i64 x0_2, .slice a0_3 n0_3 c0_3, .slice a0_4 n0_4 c0_4] 46)) fun w72 =>
 nw (w72.alloc (.cells #[.string ⟨#[]⟩, .slice none 0 0, .int .i64 0, .slice none 0 0, .slice none 0 0] 46)) fun w73 =>
 ∃ ya_74 : Option Addr, ∃ yn_74 : Nat, ∃ yc_74 : Nat, w73.cell? ((na w).add 1) = some (.slice ya_74 yn_74 yc_74) ∧
 (Go.E.CallsD Go.Proofs.Try.prog 58 #[.slice ya_74 yn_74 yc_74] w73 fun yv75 u76 =>
 ∃ ya_77 : Option Addr, ∃ yn_77 : Nat, ∃ yc_77 : Nat, yv75 = .slice ya_77 yn_77 yc_77 ∧
 (okSt u76 (((na w).add 1).add 0) ∧
 (nw (u76.setCell (((na w).add 1).add 0) (.slice ya_77 yn_77 yc_77)) fun w78 =>
 ∃ ya_79 : Option Addr, ∃ yn_79 : Nat, ∃ yc_79 : Nat, w78.cell? ((na w).add 3) = some (.slice ya_79 yn_79 yc_79) ∧
 (Go.E.CallsD Go.Proofs.Try.prog 51 #[.slice ya_79 yn_79 yc_79] w78 fun yv80 u81 =>
 ∃ ya_82 : Option Addr, ∃ yn_82 : Nat, ∃ yc_82 : Nat, yv80 = .slice ya_82 yn_82 yc_82 ∧
 (okSt u81 (((na w).add 3).add 0) ∧
 (nw (u81.setCell (((na w).add 3).add 0) (.slice ya_82 yn_82 yc_82)) fun w83 =>
 ∃ ya_84 : Option Addr, ∃ yn_84 : Nat, ∃ yc_84 : Nat, w83.cell? ((na w).add 4) = some (.slice ya_84 yn_84 yc_84) ∧
 (chk ((0 : Int) ≤ 0 ∧ 0 ≤ (yn_84 : Int) ∧ ((32 : Nat) : Int) * (yn_84 : Int) ≤ 281474976710656 ∧ (yn_84 : Int) ≤ 9223372036854775807)
 (nw (w83.alloc (.cells (madeCells #[.int .i64 0, .slice none 0 0] (((yn_84 : Int)).toNat * 2)) 33)) fun w85 =>
 ∃ ya_86 : Option Addr, ∃ yn_86 : Nat, ∃ yc_86 : Nat, w85.cell? ((na w).add 4) = some (.slice ya_86 yn_86 yc_86) ∧
 (e12 (some (na w)) (some (na w72)) (some (na w83)) 0 (((yn_84 : Int)).toNat) ya_86 yn_86 yc_86 (yn_86 : Int) 0 w85)))))))))
def trees_Copy.g12 (R : Value → World → Prop) (e29 : (Option Addr) → (Option Addr) → (Option Addr) → Nat → Nat → (Option Addr) → (Option Addr) → Nat → Nat → Int → Int → Int → Int → World → Prop) (p1 : Option Addr) (p2 : Option Addr) (a3 : Option Addr) (n3 : Nat) (c3 : Nat) (a20 : Option Addr) (n20 : Nat) (c20 : Nat) (x21 : Int) (x22 : Int) (w : World) : Prop :=
 onBool (decide (x22 < x21))
 (optN a20 fun q87 =>
 chk ((0 : Int) ≤ x22 ∧ x22 < (n20 : Int))
 (∃ yx_88 : Int, w.cell? ((q87.add (x22.toNat * 2)).add 0) = some (.int .i64 yx_88) ∧
 (∃ ya_89 : Option Addr, ∃ yn_89 : Nat, ∃ yc_89 : Nat, w.cell? ((q87.add (x22.toNat * 2)).add 1) = some (.slice ya_89 yn_89 yc_89) ∧
 (nw (w.alloc (.cells #[.int .i64 0, .slice none 0 0] 33)) fun w90 =>
 okSt w90 ((na w).add 0) ∧
 (nw (w90.setCell ((na w).add 0) (.int .i64 yx_88)) fun w91 =>
 okSt w91 ((na w).add 1) ∧
 (nw (w91.setCell ((na w).add 1) (.slice ya_89 yn_89 yc_89)) fun w92 =>
 ∃ ya_93 : Option Addr, ∃ yn_93 : Nat, ∃ yc_93 : Nat, w92.cell? ((na w).add 1) = some (.slice ya_93 yn_93 yc_93) ∧
 (Go.E.CallsD Go.Proofs.Try.prog 59 #[.slice ya_93 yn_93 yc_93] w92 fun yv94 u95 =>
 ∃ ya_96 : Option Addr, ∃ yn_96 : Nat, ∃ yc_96 : Nat, yv94 = .slice ya_96 yn_96 yc_96 ∧
 (okSt u95 (((na w).add 1).add 0) ∧
 (nw (u95.setCell (((na w).add 1).add 0) (.slice ya_96 yn_96 yc_96)) fun w97 =>
 ∃ ya_98 : Option Addr, ∃ yn_98 : Nat, ∃ yc_98 : Nat, w97.cell? ((na w).add 1) = some (.slice ya_98 yn_98 yc_98) ∧
 (e29 p1 p2 a3 n3 c3 (some (na w)) a20 n20 c20 x21 x22 (yn_98 : Int) 0 w97))))))))))
 (optN p1 fun q99 =>
 okSt w ((q99.add 4).add 0) ∧
 (nw (w.setCell ((q99.add 4).add 0) (.slice a3 n3 c3)) fun w100 =>
 optN p1 fun q101 =>
 ∃ ys_102 : ByteArray, w100.cell? (q101.add 0) = some (.string ys_102) ∧
 (∃ ya_103 : Option Addr, ∃ yn_103 : Nat, ∃ yc_103 : Nat, w100.cell? (q101.add 1) = some (.slice ya_103 yn_103 yc_103) ∧
 (∃ yx_104 : Int, w100.cell? (q101.add 2) = some (.int .i64 yx_104) ∧
 (∃ ya_105 : Option Addr, ∃ yn_105 : Nat, ∃ yc_105 : Nat, w100.cell? (q101.add 3) = some (.slice ya_105 yn_105 yc_105) ∧
 (∃ ya_106 : Option Addr, ∃ yn_106 : Nat, ∃ yc_106 : Nat, w100.cell? (q101.add 4) = some (.slice ya_106 yn_106 yc_106) ∧
 (optN p2 fun q107 =>
 okSt w100 (q107.add 0) ∧
 (nw (w100.setCell (q107.add 0) (.string ys_102)) fun w108 =>
 okSt w108 (q107.add 1) ∧
 (nw (w108.setCell (q107.add 1) (.slice ya_103 yn_103 yc_103)) fun w109 =>
 okSt w109 (q107.add 2) ∧
 (nw (w109.setCell (q107.add 2) (.int .i64 yx_104)) fun w110 =>
 okSt w110 (q107.add 3) ∧
 (nw (w110.setCell (q107.add 3) (.slice ya_105 yn_105 yc_105)) fun w111 =>
 okSt w111 (q107.add 4) ∧
 (nw (w111.setCell (q107.add 4) (.slice ya_106 yn_106 yc_106)) fun w112 =>
 optN p2 fun q113 =>
 ∃ ys_114 : ByteArray, w112.cell? (q113.add 0) = some (.string ys_114) ∧
 (∃ ya_115 : Option Addr, ∃ yn_115 : Nat, ∃ yc_115 : Nat, w112.cell? (q113.add 1) = some (.slice ya_115 yn_115 yc_115) ∧
 (∃ yx_116 : Int, w112.cell? (q113.add 2) = some (.int .i64 yx_116) ∧
 (∃ ya_117 : Option Addr, ∃ yn_117 : Nat, ∃ yc_117 : Nat, w112.cell? (q113.add 3) = some (.slice ya_117 yn_117 yc_117) ∧
 (∃ ya_118 : Option Addr, ∃ yn_118 : Nat, ∃ yc_118 : Nat, w112.cell? (q113.add 4) = some (.slice ya_118 yn_118 yc_118) ∧
 (R (.agg #[.string ys_114, .slice ya_115 yn_115 yc_115, .int .i64 yx_116, .slice ya_117 yn_117 yc_117, .slice ya_118 yn_118 yc_118]) w112)))))))))))))))))
def trees_Copy.g29 (R : Value → World → Prop) (b12 : (Option Addr) → (Option Addr) → (Option Addr) → Nat → Nat → (Option Addr) → Nat → Nat → Int → Int → World → Prop) (b29 : (Option Addr) → (Option Addr) → (Option Addr) → Nat → Nat → (Option Addr) → (Option Addr) → Nat → Nat → Int → Int → Int → Int → World → Prop) (p1 : Option Addr) (p2 : Option Addr) (a3 : Option Addr) (n3 : Nat) (c3 : Nat) (p5 : Option Addr) (a20 : Option Addr) (n20 : Nat) (c20 : Nat) (x21 : Int) (x22 : Int) (x32 : Int) (x33 : Int) (w : World) : Prop :=
 onBool (decide (x33 < x32))
 (∃ F119 : Nat → Value → World → Prop, (∀ i v u u', F119 i v u → Below u.heap.size u u' → F119 i v u') ∧
 (optN p5 fun q120 =>
 ∃ ya_121 : Option Addr, ∃ yn_121 : Nat, ∃ yc_121 : Nat, w.cell? (q120.add 1) = some (.slice ya_121 yn_121 yc_121) ∧
 (optN p5 fun q122 =>
 ∃ ya_123 : Option Addr, ∃ yn_123 : Nat, ∃ yc_123 : Nat, w.cell? (q122.add 1) = some (.slice ya_123 yn_123 yc_123) ∧
 (optN ya_123 fun q124 =>
 chk ((0 : Int) ≤ x33 ∧ x33 < (yn_123 : Int))
 (∃ ya_125 : Option Addr, ∃ yn_125 : Nat, ∃ yc_125 : Nat, w.cell? ((q124.add (x33.toNat * 8)).add 4) = some (.slice ya_125 yn_125 yc_125) ∧
 ((∀ u126 : World, Below w.heap.size w u126 → Go.E.CallsD Go.Proofs.Try.prog 60 #[.slice ya_125 yn_125 yc_125] u126 fun yv128 u129 => ∃ ya_127 : Option Addr, ∃ yn_127 : Nat, ∃ yc_127 : Nat, yv128 = .slice ya_127 yn_127 yc_127 ∧ F119 9 (.slice ya_127 yn_127 yc_127) u129 ∧ Below u126.heap.size u126 u129) ∧
 (∀ ya_130 : Option Addr, ∀ yn_130 : Nat, ∀ yc_130 : Nat, (∃ u, Below w.heap.size w u ∧ F119 9 (.slice ya_130 yn_130 yc_130) u) →
 optN ya_121 fun q131 =>
 chk ((0 : Int) ≤ x33 ∧ x33 < (yn_121 : Int))
 (∀ u132 : World, Below w.heap.size w u132 → F119 9 (.slice ya_130 yn_130 yc_130) u132 → 
 okSt u132 (((q131.add (x33.toNat * 8)).add 4).add 0) ∧
 (nw (u132.setCell (((q131.add (x33.toNat * 8)).add 4).add 0) (.slice ya_130 yn_130 yc_130)) fun w133 =>
 nv (IntKind.i64.wrap (x33 + 1)) fun t134 =>
 b29 p1 p2 a3 n3 c3 p5 a20 n20 c20 x21 x22 x32 t134 w133)))))))))
 (optN p5 fun q135 =>
 ∃ yx_136 : Int, w.cell? (q135.add 0) = some (.int .i64 yx_136) ∧
 (∃ ya_137 : Option Addr, ∃ yn_137 : Nat, ∃ yc_137 : Nat, w.cell? (q135.add 1) = some (.slice ya_137 yn_137 yc_137) ∧
 (nw (w.alloc (.cells #[.int .i64 yx_136, .slice ya_137 yn_137 yc_137] 33)) fun w138 =>
 rawN Go.Proofs.Try.prog (Builtin.append_ #[44, 44] 44 #[.slice a3 n3 c3, .slice (some (na w)) 1 1]) w138 fun yv139 u140 =>
 ∃ ya_141 : Option Addr, ∃ yn_141 : Nat, ∃ yc_141 : Nat, yv139 = .slice ya_141 yn_141 yc_141 ∧
 (nv (IntKind.i64.wrap (x22 + 1)) fun t142 =>
 b12 p1 p2 ya_141 yn_141 yc_141 a20 n20 c20 x21 t142 u140))))
def trees_Copy.q2 (R : Value → World → Prop) : Exit → Act → World → Prop := (fin Go.Proofs.Try.prog Go.Proofs.Try.f34 R)
def trees_Copy.q4 (R : Value → World → Prop) : Exit → Act → World → Prop := (trees_Copy.q2 R)
def trees_Copy.q6 (R : Value → World → Prop) : Exit → Act → World → Prop := (trees_Copy.q4 R)
def trees_Copy.q8 (R : Value → World → Prop) : Exit → Act → World → Prop := (trees_Copy.q6 R)
def trees_Copy.q9 (R : Value → World → Prop) : Exit → Act → World → Prop := Exit.then (startN none (codeN Go.Proofs.Try.prog (sub (codeOf Go.Proofs.Try.f34) [1, 1, 1, 1, 1]) (nsub trees_Copy.an [1, 1, 1, 1, 1]) (trees_Copy.q8 R))) (trees_Copy.q8 R)
def trees_Copy.q11 (R : Value → World → Prop) : Exit → Act → World → Prop := (trees_Copy.q9 R)
def trees_Copy.q12 (R : Value → World → Prop) : Exit → Act → World → Prop := Exit.inBlock 0 (trees_Copy.q11 R)
def trees_Copy.rl12 (R : Value → World → Prop) (k : Nat) (p1 : Option Addr) (p2 : Option Addr) (a3 : Option Addr) (n3 : Nat) (c3 : Nat) (a20 : Option Addr) (n20 : Nat) (c20 : Nat) (x21 : Int) (x22 : Int) (w : World) : Prop := loopN [1, 2, 3, 20, 21, 22] (codeN Go.Proofs.Try.prog (sub (codeOf Go.Proofs.Try.f34) [1, 1, 1, 1, 0, 1, 0, 0]) (nsub trees_Copy.an [1, 1, 1, 1, 0, 1, 0, 0])) (trees_Copy.q12 R) k ⟨#[undef, .pointer p1, .pointer p2, .slice a3 n3 c3, undef, undef, undef, undef, undef, undef, undef, undef, undef, undef, undef, undef, undef, undef, undef, undef, .slice a20 n20 c20, .int .i64 x21, .int .i64 x22, undef, undef, undef, undef, undef, undef, undef, undef, undef, undef, undef, undef, undef, undef, undef, undef, undef, undef, undef, undef, undef, undef, undef, undef, undef, undef, undef, undef, undef, undef, undef, undef, undef, undef], []⟩ w
def trees_Copy.re12 (R : Value → World → Prop) (p1 : Option Addr) (p2 : Option Addr) (a3 : Option Addr) (n3 : Nat) (c3 : Nat) (a20 : Option Addr) (n20 : Nat) (c20 : Nat) (x21 : Int) (x22 : Int) (w : World) : Prop := ∃ k, trees_Copy.rl12 R k p1 p2 a3 n3 c3 a20 n20 c20 x21 x22 w
def trees_Copy.q13 (R : Value → World → Prop) (k12 : Nat) : Exit → Act → World → Prop := Exit.then (fun a w => loopN [1, 2, 3, 20, 21, 22] (codeN Go.Proofs.Try.prog (sub (codeOf Go.Proofs.Try.f34) [1, 1, 1, 1, 0, 1, 0, 0]) (nsub trees_Copy.an [1, 1, 1, 1, 0, 1, 0, 0])) (trees_Copy.q12 R) k12 (clr [1, 2, 3, 20, 21, 22] a) w) (trees_Copy.q12 R)
def trees_Copy.q15 (R : Value → World → Prop) (k12 : Nat) : Exit → Act → World → Prop := (trees_Copy.q13 R k12)
def trees_Copy.q19 (R : Value → World → Prop) (k12 : Nat) : Exit → Act → World → Prop := (trees_Copy.q15 R k12)
def trees_Copy.q20 (R : Value → World → Prop) (k12 : Nat) : Exit → Act → World → Prop := Exit.then (startN none (codeN Go.Proofs.Try.prog (sub (codeOf Go.Proofs.Try.f34) [1, 1, 1, 1, 0, 1, 0, 0, 1, 1, 1]) (nsub trees_Copy.an [1, 1, 1, 1, 0, 1, 0, 0, 1, 1, 1]) (trees_Copy.q19 R k12))) (trees_Copy.q19 R k12)
def trees_Copy.q21 (R : Value → World → Prop) (k12 : Nat) : Exit → Act → World → Prop := Exit.inBlock 1 (trees_Copy.q20 R k12)
def trees_Copy.q23 (R : Value → World → Prop) (k12 : Nat) : Exit → Act → World → Prop := (trees_Copy.q21 R k12)
def trees_Copy.q25 (R : Value → World → Prop) (k12 : Nat) : Exit → Act → World → Prop := (trees_Copy.q23 R k12)
def trees_Copy.q26 (R : Value → World → Prop) (k12 : Nat) : Exit → Act → World → Prop := Exit.then (startN none (codeN Go.Proofs.Try.prog (sub (codeOf Go.Proofs.Try.f34) [1, 1, 1, 1, 0, 1, 0, 0, 1, 1, 0, 0, 1, 1, 1]) (nsub trees_Copy.an [1, 1, 1, 1, 0, 1, 0, 0, 1, 1, 0, 0, 1, 1, 1]) (trees_Copy.q25 R k12))) (trees_Copy.q25 R k12)
def trees_Copy.q28 (R : Value → World → Prop) (k12 : Nat) : Exit → Act → World → Prop := (trees_Copy.q26 R k12)
def trees_Copy.q29 (R : Value → World → Prop) (k12 : Nat) : Exit → Act → World → Prop := Exit.inBlock 2 (trees_Copy.q28 R k12)
def trees_Copy.rl29 (R : Value → World → Prop) (k12 : Nat) (k : Nat) (p1 : Option Addr) (p2 : Option Addr) (a3 : Option Addr) (n3 : Nat) (c3 : Nat) (p5 : Option Addr) (a20 : Option Addr) (n20 : Nat) (c20 : Nat) (x21 : Int) (x22 : Int) (x32 : Int) (x33 : Int) (w : World) : Prop := loopN [1, 2, 3, 5, 20, 21, 22, 32, 33] (codeN Go.Proofs.Try.prog (sub (codeOf Go.Proofs.Try.f34) [1, 1, 1, 1, 0, 1, 0, 0, 1, 1, 0, 0, 1, 1, 0, 1, 0, 0]) (nsub trees_Copy.an [1, 1, 1, 1, 0, 1, 0, 0, 1, 1, 0, 0, 1, 1, 0, 1, 0, 0])) (trees_Copy.q29 R k12) k ⟨#[undef, .pointer p1, .pointer p2, .slice a3 n3 c3, undef, .pointer p5, undef, undef, undef, undef, undef, undef, undef, undef, undef, undef, undef, undef, undef, undef, .slice a20 n20 c20, .int .i64 x21, .int .i64 x22, undef, undef, undef, undef, undef, undef, undef, undef, undef, .int .i64 x32, .int .i64 x33, undef, undef, undef, undef, undef, undef, undef, undef, undef, undef, undef, undef, undef, undef, undef, undef, undef, undef, undef, undef, undef, undef, undef], []⟩ w
def trees_Copy.re29 (R : Value → World → Prop) (k12 : Nat) (p1 : Option Addr) (p2 : Option Addr) (a3 : Option Addr) (n3 : Nat) (c3 : Nat) (p5 : Option Addr) (a20 : Option Addr) (n20 : Nat) (c20 : Nat) (x21 : Int) (x22 : Int) (x32 : Int) (x33 : Int) (w : World) : Prop := ∃ k, trees_Copy.rl29 R k12 k p1 p2 a3 n3 c3 p5 a20 n20 c20 x21 x22 x32 x33 w
def trees_Copy.l29 (R : Value → World → Prop) (b12 : (Option Addr) → (Option Addr) → (Option Addr) → Nat → Nat → (Option Addr) → Nat → Nat → Int → Int → World → Prop) : Nat → (Option Addr) → (Option Addr) → (Option Addr) → Nat → Nat → (Option Addr) → (Option Addr) → Nat → Nat → Int → Int → Int → Int → World → Prop
  | 0, _, _, _, _, _, _, _, _, _, _, _, _, _, _ => False
  | k + 1, p1, p2, a3, n3, c3, p5, a20, n20, c20, x21, x22, x32, x33, w => trees_Copy.g29 R b12 (trees_Copy.l29 R b12 k) p1 p2 a3 n3 c3 p5 a20 n20 c20 x21 x22 x32 x33 w
def trees_Copy.e29 (R : Value → World → Prop) (b12 : (Option Addr) → (Option Addr) → (Option Addr) → Nat → Nat → (Option Addr) → Nat → Nat → Int → Int → World → Prop) (p1 : Option Addr) (p2 : Option Addr) (a3 : Option Addr) (n3 : Nat) (c3 : Nat) (p5 : Option Addr) (a20 : Option Addr) (n20 : Nat) (c20 : Nat) (x21 : Int) (x22 : Int) (x32 : Int) (x33 : Int) (w : World) : Prop := ∃ k, trees_Copy.l29 R b12 k p1 p2 a3 n3 c3 p5 a20 n20 c20 x21 x22 x32 x33 w
theorem trees_Copy.s29 (R : Value → World → Prop) (k12 : Nat) (k : Nat) (p1 : Option Addr) (p2 : Option Addr) (a3 : Option Addr) (n3 : Nat) (c3 : Nat) (p5 : Option Addr) (a20 : Option Addr) (n20 : Nat) (c20 : Nat) (x21 : Int) (x22 : Int) (x32 : Int) (x33 : Int) (w : World) : trees_Copy.rl29 R k12 (k + 1) p1 p2 a3 n3 c3 p5 a20 n20 c20 x21 x22 x32 x33 w = ∀ _ : Nat → Value, trees_Copy.g29 R (trees_Copy.rl12 R k12) (trees_Copy.rl29 R k12 k) p1 p2 a3 n3 c3 p5 a20 n20 c20 x21 x22 x32 x33 w := by kernel_rfl
theorem trees_Copy.lq29 (R : Value → World → Prop) (k12 : Nat) (b12 : (Option Addr) → (Option Addr) → (Option Addr) → Nat → Nat → (Option Addr) → Nat → Nat → Int → Int → World → Prop) (hb12 : b12 = trees_Copy.rl12 R k12) : ∀ k, trees_Copy.l29 R b12 k = trees_Copy.rl29 R k12 k
  | 0 => by funext p1 p2 a3 n3 c3 p5 a20 n20 c20 x21 x22 x32 x33 w; first | rfl | kernel_rfl
  | k + 1 => by
    funext p1 p2 a3 n3 c3 p5 a20 n20 c20 x21 x22 x32 x33 w
    rw [trees_Copy.s29, forall_const]
    unfold trees_Copy.l29
    have ih := trees_Copy.lq29 R k12 b12 hb12 k
    subst hb12
    rw [ih]
    all_goals rfl
theorem trees_Copy.eq29 (R : Value → World → Prop) (k12 : Nat) (b12 : (Option Addr) → (Option Addr) → (Option Addr) → Nat → Nat → (Option Addr) → Nat → Nat → Int → Int → World → Prop) (hb12 : b12 = trees_Copy.rl12 R k12) : trees_Copy.e29 R b12 = trees_Copy.re29 R k12 := by
  funext p1 p2 a3 n3 c3 p5 a20 n20 c20 x21 x22 x32 x33 w
  unfold trees_Copy.e29 trees_Copy.re29
  simp only [trees_Copy.lq29 R k12 b12 hb12]
def trees_Copy.l12 (R : Value → World → Prop) : Nat → (Option Addr) → (Option Addr) → (Option Addr) → Nat → Nat → (Option Addr) → Nat → Nat → Int → Int → World → Prop
  | 0, _, _, _, _, _, _, _, _, _, _, _ => False
  | k + 1, p1, p2, a3, n3, c3, a20, n20, c20, x21, x22, w => trees_Copy.g12 R (trees_Copy.e29 R (trees_Copy.l12 R k)) p1 p2 a3 n3 c3 a20 n20 c20 x21 x22 w
def trees_Copy.e12 (R : Value → World → Prop) (p1 : Option Addr) (p2 : Option Addr) (a3 : Option Addr) (n3 : Nat) (c3 : Nat) (a20 : Option Addr) (n20 : Nat) (c20 : Nat) (x21 : Int) (x22 : Int) (w : World) : Prop := ∃ k, trees_Copy.l12 R k p1 p2 a3 n3 c3 a20 n20 c20 x21 x22 w
theorem trees_Copy.s12 (R : Value → World → Prop) (k : Nat) (p1 : Option Addr) (p2 : Option Addr) (a3 : Option Addr) (n3 : Nat) (c3 : Nat) (a20 : Option Addr) (n20 : Nat) (c20 : Nat) (x21 : Int) (x22 : Int) (w : World) : trees_Copy.rl12 R (k + 1) p1 p2 a3 n3 c3 a20 n20 c20 x21 x22 w = ∀ _ : Nat → Value, trees_Copy.g12 R (trees_Copy.re29 R k) p1 p2 a3 n3 c3 a20 n20 c20 x21 x22 w := by kernel_rfl
theorem trees_Copy.lq12 (R : Value → World → Prop) : ∀ k, trees_Copy.l12 R k = trees_Copy.rl12 R k
  | 0 => by funext p1 p2 a3 n3 c3 a20 n20 c20 x21 x22 w; first | rfl | kernel_rfl
  | k + 1 => by
    funext p1 p2 a3 n3 c3 a20 n20 c20 x21 x22 w
    rw [trees_Copy.s12, forall_const]
    unfold trees_Copy.l12
    have ih := trees_Copy.lq12 R k
    rw [trees_Copy.eq29 R k _ ih]
    all_goals rfl
theorem trees_Copy.eq12 (R : Value → World → Prop) : trees_Copy.e12 R = trees_Copy.re12 R := by
  funext p1 p2 a3 n3 c3 a20 n20 c20 x21 x22 w
  unfold trees_Copy.e12 trees_Copy.re12
  simp only [trees_Copy.lq12 R]
def trees_Copy (R : Value → World → Prop) (s0_0 : ByteArray) (a0_1 : Option Addr) (n0_1 : Nat) (c0_1 : Nat) (x0_2 : Int) (a0_3 : Option Addr) (n0_3 : Nat) (c0_3 : Nat) (a0_4 : Option Addr) (n0_4 : Nat) (c0_4 : Nat) (w : World) : Prop := trees_Copy.g0 R (trees_Copy.e12 R) s0_0 a0_1 n0_1 c0_1 x0_2 a0_3 n0_3 c0_3 a0_4 n0_4 c0_4 w
theorem trees_Copy.root0 (R : Value → World → Prop) (s0_0 : ByteArray) (a0_1 : Option Addr) (n0_1 : Nat) (c0_1 : Nat) (x0_2 : Int) (a0_3 : Option Addr) (n0_3 : Nat) (c0_3 : Nat) (a0_4 : Option Addr) (n0_4 : Nat) (c0_4 : Nat) (w : World) : fnN Go.Proofs.Try.prog Go.Proofs.Try.f34 trees_Copy.an #[.agg #[.string s0_0, .slice a0_1 n0_1 c0_1, .int .i64 x0_2, .slice a0_3 n0_3 c0_3, .slice a0_4 n0_4 c0_4]] w R = trees_Copy.g0 R (trees_Copy.re12 R) s0_0 a0_1 n0_1 c0_1 x0_2 a0_3 n0_3 c0_3 a0_4 n0_4 c0_4 w := by kernel_rfl
theorem trees_Copy.calls {R : Value → World → Prop} {s0_0 : ByteArray} {a0_1 : Option Addr} {n0_1 : Nat} {c0_1 : Nat} {x0_2 : Int} {a0_3 : Option Addr} {n0_3 : Nat} {c0_3 : Nat} {a0_4 : Option Addr} {n0_4 : Nat} {c0_4 : Nat} {w : World} (h : trees_Copy R s0_0 a0_1 n0_1 c0_1 x0_2 a0_3 n0_3 c0_3 a0_4 n0_4 c0_4 w) : Go.E.CallsD Go.Proofs.Try.prog 34 #[.agg #[.string s0_0, .slice a0_1 n0_1 c0_1, .int .i64 x0_2, .slice a0_3 n0_3 c0_3, .slice a0_4 n0_4 c0_4]] w R := by
  refine callsD_of (n := trees_Copy.an) M_follows M_sizes Go.Proofs.Try.func34 (by rfl) ?_
  rw [trees_Copy.root0]
  unfold trees_Copy at h
  rw [trees_Copy.eq12 R] at h
  exact h
-- thicket/thicketref07.Nodes
def thicketref07_Nodes.an : An := (.mk none .nil (.mk none .nil (.mk none (.mk none .nil (.mk none (.mk (some [3, 7, 8, 9]) .nil .nil) .nil)) .nil)))
def thicketref07_Nodes.g0 (R : Value → World → Prop) (e8 : (Option Addr) → Nat → Nat → (Option Addr) → Nat → Nat → Int → Int → World → Prop) (a0 : Option Addr) (n0 : Nat) (c0 : Nat) (w : World) : Prop :=
 e8 none 0 0 a0 n0 c0 (n0 : Int) 0 w
def thicketref07_Nodes.g8 (R : Value → World → Prop) (b8 : (Option Addr) → Nat → Nat → (Option Addr) → Nat → Nat → Int → Int → World → Prop) (a3 : Option Addr) (n3 : Nat) (c3 : Nat) (a7 : Option Addr) (n7 : Nat) (c7 : Nat) (x8 : Int) (x9 : Int) (w : World) : Prop :=
 onBool (decide (x9 < x8))
 (optN a7 fun q37 =>
 chk ((0 : Int) ≤ x9 ∧ x9 < (n7 : Int))
 (∃ yx_38 : Int, w.cell? ((q37.add (x9.toNat * 8)).add 0) = some (.int .u8 yx_38) ∧
 (∃ yx_39 : Int, w.cell? ((q37.add (x9.toNat * 8)).add 1) = some (.int .i64 yx_39) ∧
 (∃ yx_40 : Int, w.cell? ((q37.add (x9.toNat * 8)).add 2) = some (.int .i64 yx_40) ∧
 (∃ yf_41 : Nat, w.cell? ((q37.add (x9.toNat * 8)).add 3) = some (.float .f64 yf_41) ∧
 (∃ ya_42 : Option Addr, ∃ yn_42 : Nat, ∃ yc_42 : Nat, w.cell? ((q37.add (x9.toNat * 8)).add 4) = some (.slice ya_42 yn_42 yc_42) ∧
 (∃ yx_43 : Int, w.cell? ((q37.add (x9.toNat * 8)).add 5) = some (.int .u8 yx_43) ∧
 (∃ yx_44 : Int, w.cell? ((q37.add (x9.toNat * 8)).add 6) = some (.int .i64 yx_44) ∧
 (∃ yx_45 : Int, w.cell? ((q37.add (x9.toNat * 8)).add 7) = some (.int .i64 yx_45) ∧
 (nw (w.alloc (.cells #[.int .u8 0, .int .i64 0, .int .i64 0, .float .f64 0, .slice none 0 0, .int .u8 0, .int .i64 0, .int .i64 0] 27)) fun w46 =>
 okSt w46 ((na w).add 0) ∧
 (nw (w46.setCell ((na w).add 0) (.int .u8 yx_38)) fun w47 =>
 okSt w47 ((na w).add 1) ∧
 (nw (w47.setCell ((na w).add 1) (.int .i64 yx_39)) fun w48 =>
 okSt w48 ((na w).add 2) ∧
 (nw (w48.setCell ((na w).add 2) (.int .i64 yx_40)) fun w49 =>
 okSt w49 ((na w).add 3) ∧
 (nw (w49.setCell ((na w).add 3) (.float .f64 yf_41)) fun w50 =>
 okSt w50 ((na w).add 4) ∧
 (nw (w50.setCell ((na w).add 4) (.slice ya_42 yn_42 yc_42)) fun w51 =>
 okSt w51 ((na w).add 5) ∧
 (nw (w51.setCell ((na w).add 5) (.int .u8 yx_43)) fun w52 =>
 okSt w52 ((na w).add 6) ∧
 (nw (w52.setCell ((na w).add 6) (.int .i64 yx_44)) fun w53 =>
 okSt w53 ((na w).add 7) ∧
 (nw (w53.setCell ((na w).add 7) (.int .i64 yx_45)) fun w54 =>
 ∃ ya_55 : Option Addr, ∃ yn_55 : Nat, ∃ yc_55 : Nat, w54.cell? ((na w).add 4) = some (.slice ya_55 yn_55 yc_55) ∧
 (rawN Go.Proofs.Try.prog (Builtin.append_ #[24, 24] 24 #[.slice none 0 0, .slice ya_55 yn_55 yc_55]) w54 fun yv56 u57 =>
 ∃ ya_58 : Option Addr, ∃ yn_58 : Nat, ∃ yc_58 : Nat, yv56 = .slice ya_58 yn_58 yc_58 ∧
 (okSt u57 (((na w).add 4).add 0) ∧
 (nw (u57.setCell (((na w).add 4).add 0) (.slice ya_58 yn_58 yc_58)) fun w59 =>
 ∃ yx_60 : Int, w59.cell? ((na w).add 0) = some (.int .u8 yx_60) ∧
 (∃ yx_61 : Int, w59.cell? ((na w).add 1) = some (.int .i64 yx_61) ∧
 (∃ yx_62 : Int, w59.cell? ((na w).add 2) = some (.int .i64 yx_62) ∧
 (∃ yf_63 : Nat, w59.cell? ((na w).add 3) = some (.float .f64 yf_63) ∧
 (∃ ya_64 : Option Addr, ∃ yn_64 : Nat, ∃ yc_64 : Nat, w59.cell? ((na w).add 4) = some (.slice ya_64 yn_64 yc_64) ∧
 (∃ yx_65 : Int, w59.cell? ((na w).add 5) = some (.int .u8 yx_65) ∧
 (∃ yx_66 : Int, w59.cell? ((na w).add 6) = some (.int .i64 yx_66) ∧
 (∃ yx_67 : Int, w59.cell? ((na w).add 7) = some (.int .i64 yx_67) ∧
 (nw (w59.alloc (.cells #[.int .u8 yx_60, .int .i64 yx_61, .int .i64 yx_62, .float .f64 yf_63, .slice ya_64 yn_64 yc_64, .int .u8 yx_65, .int .i64 yx_66, .int .i64 yx_67] 27)) fun w68 =>
 rawN Go.Proofs.Try.prog (Builtin.append_ #[31, 31] 31 #[.slice a3 n3 c3, .slice (some (na w59)) 1 1]) w68 fun yv69 u70 =>
 ∃ ya_71 : Option Addr, ∃ yn_71 : Nat, ∃ yc_71 : Nat, yv69 = .slice ya_71 yn_71 yc_71 ∧
 (nv (IntKind.i64.wrap (x9 + 1)) fun t72 =>
 b8 ya_71 yn_71 yc_71 a7 n7 c7 x8 t72 u70))))))))))))))))))))))))))))))
 (R (.slice a3 n3 c3) w)
def thicketref07_Nodes.q2 (R : Value → World → Prop) : Exit → Act → World → Prop := (fin Go.Proofs.Try.prog Go.Proofs.Try.f50 R)
def thicketref07_Nodes.q4 (R : Value → World → Prop) : Exit → Act → World → Prop := (thicketref07_Nodes.q2 R)
def thicketref07_Nodes.q5 (R : Value → World → Prop) : Exit → Act → World → Prop := Exit.then (startN none (codeN Go.Proofs.Try.prog (sub (codeOf Go.Proofs.Try.f50) [1, 1, 1]) (nsub thicketref07_Nodes.an [1, 1, 1]) (thicketref07_Nodes.q4 R))) (thicketref07_Nodes.q4 R)
def thicketref07_Nodes.q7 (R : Value → World → Prop) : Exit → Act → World → Prop := (thicketref07_Nodes.q5 R)
def thicketref07_Nodes.q8 (R : Value → World → Prop) : Exit → Act → World → Prop := Exit.inBlock 0 (thicketref07_Nodes.q7 R)
def thicketref07_Nodes.rl8 (R : Value → World → Prop) (k : Nat) (a3 : Option Addr) (n3 : Nat) (c3 : Nat) (a7 : Option Addr) (n7 : Nat) (c7 : Nat) (x8 : Int) (x9 : Int) (w : World) : Prop := loopN [3, 7, 8, 9] (codeN Go.Proofs.Try.prog (sub (codeOf Go.Proofs.Try.f50) [1, 1, 0, 1, 0, 0]) (nsub thicketref07_Nodes.an [1, 1, 0, 1, 0, 0])) (thicketref07_Nodes.q8 R) k ⟨#[undef, undef, undef, .slice a3 n3 c3, undef, undef, undef, .slice a7 n7 c7, .int .i64 x8, .int .i64 x9, undef, undef, undef, undef, undef, undef, undef, undef, undef, undef, undef, undef, undef, undef], []⟩ w
def thicketref07_Nodes.re8 (R : Value → World → Prop) (a3 : Option Addr) (n3 : Nat) (c3 : Nat) (a7 : Option Addr) (n7 : Nat) (c7 : Nat) (x8 : Int) (x9 : Int) (w : World) : Prop := ∃ k, thicketref07_Nodes.rl8 R k a3 n3 c3 a7 n7 c7 x8 x9 w
def thicketref07_Nodes.l8 (R : Value → World → Prop) : Nat → (Option Addr) → Nat → Nat → (Option Addr) → Nat → Nat → Int → Int → World → Prop
  | 0, _, _, _, _, _, _, _, _, _ => False
  | k + 1, a3, n3, c3, a7, n7, c7, x8, x9, w => thicketref07_Nodes.g8 R (thicketref07_Nodes.l8 R k) a3 n3 c3 a7 n7 c7 x8 x9 w
def thicketref07_Nodes.e8 (R : Value → World → Prop) (a3 : Option Addr) (n3 : Nat) (c3 : Nat) (a7 : Option Addr) (n7 : Nat) (c7 : Nat) (x8 : Int) (x9 : Int) (w : World) : Prop := ∃ k, thicketref07_Nodes.l8 R k a3 n3 c3 a7 n7 c7 x8 x9 w
theorem thicketref07_Nodes.s8 (R : Value → World → Prop) (k : Nat) (a3 : Option Addr) (n3 : Nat) (c3 : Nat) (a7 : Option Addr) (n7 : Nat) (c7 : Nat) (x8 : Int) (x9 : Int) (w : World) : thicketref07_Nodes.rl8 R (k + 1) a3 n3 c3 a7 n7 c7 x8 x9 w = ∀ _ : Nat → Value, thicketref07_Nodes.g8 R (thicketref07_Nodes.rl8 R k) a3 n3 c3 a7 n7 c7 x8 x9 w := by kernel_rfl
theorem thicketref07_Nodes.lq8 (R : Value → World → Prop) : ∀ k, thicketref07_Nodes.l8 R k = thicketref07_Nodes.rl8 R k
  | 0 => by funext a3 n3 c3 a7 n7 c7 x8 x9 w; first | rfl | kernel_rfl
  | k + 1 => by
    funext a3 n3 c3 a7 n7 c7 x8 x9 w
    rw [thicketref07_Nodes.s8, forall_const]
    unfold thicketref07_Nodes.l8
    have ih := thicketref07_Nodes.lq8 R k
    rw [ih]
    all_goals rfl
theorem thicketref07_Nodes.eq8 (R : Value → World → Prop) : thicketref07_Nodes.e8 R = thicketref07_Nodes.re8 R := by
  funext a3 n3 c3 a7 n7 c7 x8 x9 w
  unfold thicketref07_Nodes.e8 thicketref07_Nodes.re8
  simp only [thicketref07_Nodes.lq8 R]
def thicketref07_Nodes (R : Value → World → Prop) (a0 : Option Addr) (n0 : Nat) (c0 : Nat) (w : World) : Prop := thicketref07_Nodes.g0 R (thicketref07_Nodes.e8 R) a0 n0 c0 w
theorem thicketref07_Nodes.root0 (R : Value → World → Prop) (a0 : Option Addr) (n0 : Nat) (c0 : Nat) (w : World) : fnN Go.Proofs.Try.prog Go.Proofs.Try.f50 thicketref07_Nodes.an #[.slice a0 n0 c0] w R = thicketref07_Nodes.g0 R (thicketref07_Nodes.re8 R) a0 n0 c0 w := by kernel_rfl
theorem thicketref07_Nodes.calls {R : Value → World → Prop} {a0 : Option Addr} {n0 : Nat} {c0 : Nat} {w : World} (h : thicketref07_Nodes R a0 n0 c0 w) : Go.E.CallsD Go.Proofs.Try.prog 50 #[.slice a0 n0 c0] w R := by
  refine callsD_of (n := thicketref07_Nodes.an) M_follows M_sizes Go.Proofs.Try.func50 (by rfl) ?_
  rw [thicketref07_Nodes.root0]
  unfold thicketref07_Nodes at h
  rw [thicketref07_Nodes.eq8 R] at h
  exact h
-- thicket/thicketref07.Copy
def thicketref07_Copy.an : An := (.mk none .nil (.mk none .nil (.mk none .nil (.mk none .nil (.mk none .nil (.mk none .nil (.mk none .nil (.mk none (.mk none .nil (.mk none (.mk (some [2, 5, 6, 21, 22, 23]) .nil .nil) .nil)) .nil))))))))
def thicketref07_Copy.g0 (R : Value → World → Prop) (e18 : (Option Addr) → (Option Addr) → Nat → Nat → (Option Addr) → (Option Addr) → Nat → Nat → Int → Int → World → Prop) (s0_0 : ByteArray) (a0_1 : Option Addr) (n0_1 : Nat) (c0_1 : Nat) (x0_2 : Int) (a0_3 : Option Addr) (n0_3 : Nat) (c0_3 : Nat) (a0_4 : Option Addr) (n0_4 : Nat) (c0_4 : Nat) (w : World) : Prop :=
 nw (w.alloc (.cells #[.string s0_0, .slice a0_1 n0_1 c0_1, .int .i64 x0_2, .slice a0_3 n0_3 c0_3, .slice a0_4 n0_4 c0_4] 46)) fun w66 =>
 nw (w66.alloc (.cells #[.string ⟨#[]⟩, .slice none 0 0, .int .i64 0, .slice none 0 0, .slice none 0 0] 46)) fun w67 =>
 ∃ ys_68 : ByteArray, w67.cell? ((na w).add 0) = some (.string ys_68) ∧
 (∃ ya_69 : Option Addr, ∃ yn_69 : Nat, ∃ yc_69 : Nat, w67.cell? ((na w).add 1) = some (.slice ya_69 yn_69 yc_69) ∧
 (∃ yx_70 : Int, w67.cell? ((na w).add 2) = some (.int .i64 yx_70) ∧
 (∃ ya_71 : Option Addr, ∃ yn_71 : Nat, ∃ yc_71 : Nat, w67.cell? ((na w).add 3) = some (.slice ya_71 yn_71 yc_71) ∧
 (∃ ya_72 : Option Addr, ∃ yn_72 : Nat, ∃ yc_72 : Nat, w67.cell? ((na w).add 4) = some (.slice ya_72 yn_72 yc_72) ∧
 (nw (w67.alloc (.cells #[.string ⟨#[]⟩, .slice none 0 0, .int .i64 0, .slice none 0 0, .slice none 0 0] 46)) fun w73 =>
 okSt w73 ((na w67).add 0) ∧
 (nw (w73.setCell ((na w67).add 0) (.string ys_68)) fun w74 =>
 okSt w74 ((na w67).add 1) ∧
 (nw (w74.setCell ((na w67).add 1) (.slice ya_69 yn_69 yc_69)) fun w75 =>
 okSt w75 ((na w67).add 2) ∧
 (nw (w75.setCell ((na w67).add 2) (.int .i64 yx_70)) fun w76 =>
 okSt w76 ((na w67).add 3) ∧
 (nw (w76.setCell ((na w67).add 3) (.slice ya_71 yn_71 yc_71)) fun w77 =>
 okSt w77 ((na w67).add 4) ∧
 (nw (w77.setCell ((na w67).add 4) (.slice ya_72 yn_72 yc_72)) fun w78 =>
 ∃ ya_79 : Option Addr, ∃ yn_79 : Nat, ∃ yc_79 : Nat, w78.cell? ((na w).add 1) = some (.slice ya_79 yn_79 yc_79) ∧
 (rawN Go.Proofs.Try.prog (Builtin.append_ #[42, 42] 42 #[.slice none 0 0, .slice ya_79 yn_79 yc_79]) w78 fun yv80 u81 =>
 ∃ ya_82 : Option Addr, ∃ yn_82 : Nat, ∃ yc_82 : Nat, yv80 = .slice ya_82 yn_82 yc_82 ∧
 (okSt u81 (((na w67).add 1).add 0) ∧
 (nw (u81.setCell (((na w67).add 1).add 0) (.slice ya_82 yn_82 yc_82)) fun w83 =>
 ∃ ya_84 : Option Addr, ∃ yn_84 : Nat, ∃ yc_84 : Nat, w83.cell? ((na w).add 3) = some (.slice ya_84 yn_84 yc_84) ∧
 (rawN Go.Proofs.Try.prog (Builtin.append_ #[43, 43] 43 #[.slice none 0 0, .slice ya_84 yn_84 yc_84]) w83 fun yv85 u86 =>
 ∃ ya_87 : Option Addr, ∃ yn_87 : Nat, ∃ yc_87 : Nat, yv85 = .slice ya_87 yn_87 yc_87 ∧
 (okSt u86 (((na w67).add 3).add 0) ∧
 (nw (u86.setCell (((na w67).add 3).add 0) (.slice ya_87 yn_87 yc_87)) fun w88 =>
 ∃ ya_89 : Option Addr, ∃ yn_89 : Nat, ∃ yc_89 : Nat, w88.cell? ((na w).add 4) = some (.slice ya_89 yn_89 yc_89) ∧
 (e18 (some (na w66)) none 0 0 (some (na w67)) ya_89 yn_89 yc_89 (yn_89 : Int) 0 w88)))))))))))))))))
def thicketref07_Copy.g18 (R : Value → World → Prop) (b18 : (Option Addr) → (Option Addr) → Nat → Nat → (Option Addr) → (Option Addr) → Nat → Nat → Int → Int → World → Prop) (p2 : Option Addr) (a5 : Option Addr) (n5 : Nat) (c5 : Nat) (p6 : Option Addr) (a21 : Option Addr) (n21 : Nat) (c21 : Nat) (x22 : Int) (x23 : Int) (w : World) : Prop :=
 onBool (decide (x23 < x22))
 (optN a21 fun q90 =>
 chk ((0 : Int) ≤ x23 ∧ x23 < (n21 : Int))
 (∃ yx_91 : Int, w.cell? ((q90.add (x23.toNat * 2)).add 0) = some (.int .i64 yx_91) ∧
 (∃ ya_92 : Option Addr, ∃ yn_92 : Nat, ∃ yc_92 : Nat, w.cell? ((q90.add (x23.toNat * 2)).add 1) = some (.slice ya_92 yn_92 yc_92) ∧
 (nw (w.alloc (.cells #[.int .i64 0, .slice none 0 0] 33)) fun w93 =>
 okSt w93 ((na w).add 0) ∧
 (nw (w93.setCell ((na w).add 0) (.int .i64 yx_91)) fun w94 =>
 okSt w94 ((na w).add 1) ∧
 (nw (w94.setCell ((na w).add 1) (.slice ya_92 yn_92 yc_92)) fun w95 =>
 ∃ F96 : Nat → Value → World → Prop, (∀ i v u u', F96 i v u → Below u.heap.size u u' → F96 i v u') ∧
 (∃ yx_97 : Int, w95.cell? ((na w).add 0) = some (.int .i64 yx_97) ∧
 (∃ ya_98 : Option Addr, ∃ yn_98 : Nat, ∃ yc_98 : Nat, w95.cell? ((na w).add 1) = some (.slice ya_98 yn_98 yc_98) ∧
 ((∀ u99 : World, Below w95.heap.size w95 u99 → Go.E.CallsD Go.Proofs.Try.prog 50 #[.slice ya_98 yn_98 yc_98] u99 fun yv101 u102 => ∃ ya_100 : Option Addr, ∃ yn_100 : Nat, ∃ yc_100 : Nat, yv101 = .slice ya_100 yn_100 yc_100 ∧ F96 5 (.slice ya_100 yn_100 yc_100) u102 ∧ Below u99.heap.size u99 u102) ∧
 (∀ ya_103 : Option Addr, ∀ yn_103 : Nat, ∀ yc_103 : Nat, (∃ u, Below w95.heap.size w95 u ∧ F96 5 (.slice ya_103 yn_103 yc_103) u) →
 (∀ u104 : World, Below w95.heap.size w95 u104 → F96 5 (.slice ya_103 yn_103 yc_103) u104 → F96 7 (.slice (some (na u104)) 1 1) (u104.alloc (.cells #[.int .i64 yx_97, .slice ya_103 yn_103 yc_103] 33))) ∧
 (∀ q105 : Addr, (∃ u, Below w95.heap.size w95 u ∧ F96 7 (.slice (some q105) 1 1) u) →
 ∀ u106 : World, Below w95.heap.size w95 u106 → F96 5 (.slice ya_103 yn_103 yc_103) u106 → F96 7 (.slice (some q105) 1 1) u106 → 
 rawN Go.Proofs.Try.prog (Builtin.append_ #[44, 44] 44 #[.slice a5 n5 c5, .slice (some q105) 1 1]) u106 fun yv107 u108 =>
 ∃ ya_109 : Option Addr, ∃ yn_109 : Nat, ∃ yc_109 : Nat, yv107 = .slice ya_109 yn_109 yc_109 ∧
 (nv (IntKind.i64.wrap (x23 + 1)) fun t110 =>
 b18 p2 ya_109 yn_109 yc_109 p6 a21 n21 c21 x22 t110 u108))))))))))))
 (optN p6 fun q111 =>
 okSt w ((q111.add 4).add 0) ∧
 (nw (w.setCell ((q111.add 4).add 0) (.slice a5 n5 c5)) fun w112 =>
 optN p6 fun q113 =>
 ∃ ys_114 : ByteArray, w112.cell? (q113.add 0) = some (.string ys_114) ∧
 (∃ ya_115 : Option Addr, ∃ yn_115 : Nat, ∃ yc_115 : Nat, w112.cell? (q113.add 1) = some (.slice ya_115 yn_115 yc_115) ∧
 (∃ yx_116 : Int, w112.cell? (q113.add 2) = some (.int .i64 yx_116) ∧
 (∃ ya_117 : Option Addr, ∃ yn_117 : Nat, ∃ yc_117 : Nat, w112.cell? (q113.add 3) = some (.slice ya_117 yn_117 yc_117) ∧
 (∃ ya_118 : Option Addr, ∃ yn_118 : Nat, ∃ yc_118 : Nat, w112.cell? (q113.add 4) = some (.slice ya_118 yn_118 yc_118) ∧
 (optN p2 fun q119 =>
 okSt w112 (q119.add 0) ∧
 (nw (w112.setCell (q119.add 0) (.string ys_114)) fun w120 =>
 okSt w120 (q119.add 1) ∧
 (nw (w120.setCell (q119.add 1) (.slice ya_115 yn_115 yc_115)) fun w121 =>
 okSt w121 (q119.add 2) ∧
 (nw (w121.setCell (q119.add 2) (.int .i64 yx_116)) fun w122 =>
 okSt w122 (q119.add 3) ∧
 (nw (w122.setCell (q119.add 3) (.slice ya_117 yn_117 yc_117)) fun w123 =>
 okSt w123 (q119.add 4) ∧
 (nw (w123.setCell (q119.add 4) (.slice ya_118 yn_118 yc_118)) fun w124 =>
 optN p2 fun q125 =>
 ∃ ys_126 : ByteArray, w124.cell? (q125.add 0) = some (.string ys_126) ∧
 (∃ ya_127 : Option Addr, ∃ yn_127 : Nat, ∃ yc_127 : Nat, w124.cell? (q125.add 1) = some (.slice ya_127 yn_127 yc_127) ∧
 (∃ yx_128 : Int, w124.cell? (q125.add 2) = some (.int .i64 yx_128) ∧
 (∃ ya_129 : Option Addr, ∃ yn_129 : Nat, ∃ yc_129 : Nat, w124.cell? (q125.add 3) = some (.slice ya_129 yn_129 yc_129) ∧
 (∃ ya_130 : Option Addr, ∃ yn_130 : Nat, ∃ yc_130 : Nat, w124.cell? (q125.add 4) = some (.slice ya_130 yn_130 yc_130) ∧
 (R (.agg #[.string ys_126, .slice ya_127 yn_127 yc_127, .int .i64 yx_128, .slice ya_129 yn_129 yc_129, .slice ya_130 yn_130 yc_130]) w124)))))))))))))))))
def thicketref07_Copy.q2 (R : Value → World → Prop) : Exit → Act → World → Prop := (fin Go.Proofs.Try.prog Go.Proofs.Try.f20 R)
def thicketref07_Copy.q4 (R : Value → World → Prop) : Exit → Act → World → Prop := (thicketref07_Copy.q2 R)
def thicketref07_Copy.q6 (R : Value → World → Prop) : Exit → Act → World → Prop := (thicketref07_Copy.q4 R)
def thicketref07_Copy.q8 (R : Value → World → Prop) : Exit → Act → World → Prop := (thicketref07_Copy.q6 R)
def thicketref07_Copy.q10 (R : Value → World → Prop) : Exit → Act → World → Prop := (thicketref07_Copy.q8 R)
def thicketref07_Copy.q12 (R : Value → World → Prop) : Exit → Act → World → Prop := (thicketref07_Copy.q10 R)
def thicketref07_Copy.q14 (R : Value → World → Prop) : Exit → Act → World → Prop := (thicketref07_Copy.q12 R)
def thicketref07_Copy.q15 (R : Value → World → Prop) : Exit → Act → World → Prop := Exit.then (startN none (codeN Go.Proofs.Try.prog (sub (codeOf Go.Proofs.Try.f20) [1, 1, 1, 1, 1, 1, 1, 1]) (nsub thicketref07_Copy.an [1, 1, 1, 1, 1, 1, 1, 1]) (thicketref07_Copy.q14 R))) (thicketref07_Copy.q14 R)
def thicketref07_Copy.q17 (R : Value → World → Prop) : Exit → Act → World → Prop := (thicketref07_Copy.q15 R)
def thicketref07_Copy.q18 (R : Value → World → Prop) : Exit → Act → World → Prop := Exit.inBlock 0 (thicketref07_Copy.q17 R)
def thicketref07_Copy.rl18 (R : Value → World → Prop) (k : Nat) (p2 : Option Addr) (a5 : Option Addr) (n5 : Nat) (c5 : Nat) (p6 : Option Addr) (a21 : Option Addr) (n21 : Nat) (c21 : Nat) (x22 : Int) (x23 : Int) (w : World) : Prop := loopN [2, 5, 6, 21, 22, 23] (codeN Go.Proofs.Try.prog (sub (codeOf Go.Proofs.Try.f20) [1, 1, 1, 1, 1, 1, 1, 0, 1, 0, 0]) (nsub thicketref07_Copy.an [1, 1, 1, 1, 1, 1, 1, 0, 1, 0, 0])) (thicketref07_Copy.q18 R) k ⟨#[undef, undef, .pointer p2, undef, undef, .slice a5 n5 c5, .pointer p6, undef, undef, undef, undef, undef, undef, undef, undef, undef, undef, undef, undef, undef, undef, .slice a21 n21 c21, .int .i64 x22, .int .i64 x23, undef, undef, undef, undef, undef, undef, undef, undef, undef, undef, undef, undef, undef, undef, undef, undef], []⟩ w
def thicketref07_Copy.re18 (R : Value → World → Prop) (p2 : Option Addr) (a5 : Option Addr) (n5 : Nat) (c5 : Nat) (p6 : Option Addr) (a21 : Option Addr) (n21 : Nat) (c21 : Nat) (x22 : Int) (x23 : Int) (w : World) : Prop := ∃ k, thicketref07_Copy.rl18 R k p2 a5 n5 c5 p6 a21 n21 c21 x22 x23 w
def thicketref07_Copy.l18 (R : Value → World → Prop) : Nat → (Option Addr) → (Option Addr) → Nat → Nat → (Option Addr) → (Option Addr) → Nat → Nat → Int → Int → World → Prop
  | 0, _, _, _, _, _, _, _, _, _, _, _ => False
  | k + 1, p2, a5, n5, c5, p6, a21, n21, c21, x22, x23, w => thicketref07_Copy.g18 R (thicketref07_Copy.l18 R k) p2 a5 n5 c5 p6 a21 n21 c21 x22 x23 w
def thicketref07_Copy.e18 (R : Value → World → Prop) (p2 : Option Addr) (a5 : Option Addr) (n5 : Nat) (c5 : Nat) (p6 : Option Addr) (a21 : Option Addr) (n21 : Nat) (c21 : Nat) (x22 : Int) (x23 : Int) (w : World) : Prop := ∃ k, thicketref07_Copy.l18 R k p2 a5 n5 c5 p6 a21 n21 c21 x22 x23 w
theorem thicketref07_Copy.s18 (R : Value → World → Prop) (k : Nat) (p2 : Option Addr) (a5 : Option Addr) (n5 : Nat) (c5 : Nat) (p6 : Option Addr) (a21 : Option Addr) (n21 : Nat) (c21 : Nat) (x22 : Int) (x23 : Int) (w : World) : thicketref07_Copy.rl18 R (k + 1) p2 a5 n5 c5 p6 a21 n21 c21 x22 x23 w = ∀ _ : Nat → Value, thicketref07_Copy.g18 R (thicketref07_Copy.rl18 R k) p2 a5 n5 c5 p6 a21 n21 c21 x22 x23 w := by kernel_rfl
theorem thicketref07_Copy.lq18 (R : Value → World → Prop) : ∀ k, thicketref07_Copy.l18 R k = thicketref07_Copy.rl18 R k
  | 0 => by funext p2 a5 n5 c5 p6 a21 n21 c21 x22 x23 w; first | rfl | kernel_rfl
  | k + 1 => by
    funext p2 a5 n5 c5 p6 a21 n21 c21 x22 x23 w
    rw [thicketref07_Copy.s18, forall_const]
    unfold thicketref07_Copy.l18
    have ih := thicketref07_Copy.lq18 R k
    rw [ih]
    all_goals rfl
theorem thicketref07_Copy.eq18 (R : Value → World → Prop) : thicketref07_Copy.e18 R = thicketref07_Copy.re18 R := by
  funext p2 a5 n5 c5 p6 a21 n21 c21 x22 x23 w
  unfold thicketref07_Copy.e18 thicketref07_Copy.re18
  simp only [thicketref07_Copy.lq18 R]
def thicketref07_Copy (R : Value → World → Prop) (s0_0 : ByteArray) (a0_1 : Option Addr) (n0_1 : Nat) (c0_1 : Nat) (x0_2 : Int) (a0_3 : Option Addr) (n0_3 : Nat) (c0_3 : Nat) (a0_4 : Option Addr) (n0_4 : Nat) (c0_4 : Nat) (w : World) : Prop := thicketref07_Copy.g0 R (thicketref07_Copy.e18 R) s0_0 a0_1 n0_1 c0_1 x0_2 a0_3 n0_3 c0_3 a0_4 n0_4 c0_4 w
theorem thicketref07_Copy.root0 (R : Value → World → Prop) (s0_0 : ByteArray) (a0_1 : Option Addr) (n0_1 : Nat) (c0_1 : Nat) (x0_2 : Int) (a0_3 : Option Addr) (n0_3 : Nat) (c0_3 : Nat) (a0_4 : Option Addr) (n0_4 : Nat) (c0_4 : Nat) (w : World) : fnN Go.Proofs.Try.prog Go.Proofs.Try.f20 thicketref07_Copy.an #[.agg #[.string s0_0, .slice a0_1 n0_1 c0_1, .int .i64 x0_2, .slice a0_3 n0_3 c0_3, .slice a0_4 n0_4 c0_4]] w R = thicketref07_Copy.g0 R (thicketref07_Copy.re18 R) s0_0 a0_1 n0_1 c0_1 x0_2 a0_3 n0_3 c0_3 a0_4 n0_4 c0_4 w := by kernel_rfl
theorem thicketref07_Copy.calls {R : Value → World → Prop} {s0_0 : ByteArray} {a0_1 : Option Addr} {n0_1 : Nat} {c0_1 : Nat} {x0_2 : Int} {a0_3 : Option Addr} {n0_3 : Nat} {c0_3 : Nat} {a0_4 : Option Addr} {n0_4 : Nat} {c0_4 : Nat} {w : World} (h : thicketref07_Copy R s0_0 a0_1 n0_1 c0_1 x0_2 a0_3 n0_3 c0_3 a0_4 n0_4 c0_4 w) : Go.E.CallsD Go.Proofs.Try.prog 20 #[.agg #[.string s0_0, .slice a0_1 n0_1 c0_1, .int .i64 x0_2, .slice a0_3 n0_3 c0_3, .slice a0_4 n0_4 c0_4]] w R := by
  refine callsD_of (n := thicketref07_Copy.an) M_follows M_sizes Go.Proofs.Try.func20 (by rfl) ?_
  rw [thicketref07_Copy.root0]
  unfold thicketref07_Copy at h
  rw [thicketref07_Copy.eq18 R] at h
  exact h
-- thicket/thicketlaw07.copied
def thicketlaw07_copied.an : An := An.nil
def thicketlaw07_copied.g0 (R : Value → World → Prop) (x0_0 : Int) (a0_1 : Option Addr) (n0_1 : Nat) (c0_1 : Nat) (w : World) : Prop :=
 nw (w.alloc (.cells #[.int .i64 x0_0, .slice a0_1 n0_1 c0_1] 33)) fun w16 =>
 nw (w16.alloc (.cells #[.int .i64 0, .slice none 0 0] 33)) fun w17 =>
 ∃ F18 : Nat → Value → World → Prop, (∀ i v u u', F18 i v u → Below u.heap.size u u' → F18 i v u') ∧
 (∃ yx_19 : Int, w17.cell? ((na w).add 0) = some (.int .i64 yx_19) ∧
 (∃ ya_20 : Option Addr, ∃ yn_20 : Nat, ∃ yc_20 : Nat, w17.cell? ((na w).add 1) = some (.slice ya_20 yn_20 yc_20) ∧
 ((∀ u21 : World, Below w17.heap.size w17 u21 → Go.E.CallsD Go.Proofs.Try.prog 50 #[.slice ya_20 yn_20 yc_20] u21 fun yv23 u24 => ∃ ya_22 : Option Addr, ∃ yn_22 : Nat, ∃ yc_22 : Nat, yv23 = .slice ya_22 yn_22 yc_22 ∧ F18 4 (.slice ya_22 yn_22 yc_22) u24 ∧ Below u21.heap.size u21 u24) ∧
 (∀ ya_25 : Option Addr, ∀ yn_25 : Nat, ∀ yc_25 : Nat, (∃ u, Below w17.heap.size w17 u ∧ F18 4 (.slice ya_25 yn_25 yc_25) u) →
 ∀ u26 : World, Below w17.heap.size w17 u26 → F18 4 (.slice ya_25 yn_25 yc_25) u26 → 
 okSt u26 ((na w16).add 0) ∧
 (nw (u26.setCell ((na w16).add 0) (.int .i64 yx_19)) fun w27 =>
 okSt w27 ((na w16).add 1) ∧
 (nw (w27.setCell ((na w16).add 1) (.slice ya_25 yn_25 yc_25)) fun w28 =>
 ∃ yx_29 : Int, w28.cell? ((na w16).add 0) = some (.int .i64 yx_29) ∧
 (∃ ya_30 : Option Addr, ∃ yn_30 : Nat, ∃ yc_30 : Nat, w28.cell? ((na w16).add 1) = some (.slice ya_30 yn_30 yc_30) ∧
 (R (.agg #[.int .i64 yx_29, .slice ya_30 yn_30 yc_30]) w28))))))))
def thicketlaw07_copied (R : Value → World → Prop) (x0_0 : Int) (a0_1 : Option Addr) (n0_1 : Nat) (c0_1 : Nat) (w : World) : Prop := thicketlaw07_copied.g0 R x0_0 a0_1 n0_1 c0_1 w
theorem thicketlaw07_copied.root0 (R : Value → World → Prop) (x0_0 : Int) (a0_1 : Option Addr) (n0_1 : Nat) (c0_1 : Nat) (w : World) : fnN Go.Proofs.Try.prog Go.Proofs.Try.f39 thicketlaw07_copied.an #[.agg #[.int .i64 x0_0, .slice a0_1 n0_1 c0_1]] w R = thicketlaw07_copied.g0 R x0_0 a0_1 n0_1 c0_1 w := by kernel_rfl
theorem thicketlaw07_copied.calls {R : Value → World → Prop} {x0_0 : Int} {a0_1 : Option Addr} {n0_1 : Nat} {c0_1 : Nat} {w : World} (h : thicketlaw07_copied R x0_0 a0_1 n0_1 c0_1 w) : Go.E.CallsD Go.Proofs.Try.prog 39 #[.agg #[.int .i64 x0_0, .slice a0_1 n0_1 c0_1]] w R := by
  refine callsD_of (n := thicketlaw07_copied.an) M_follows M_sizes Go.Proofs.Try.func39 (by rfl) ?_
  rw [thicketlaw07_copied.root0]
  unfold thicketlaw07_copied at h
  exact h
-- thicket/trees.Canon
def trees_Canon.an : An := (.mk none .nil (.mk none .nil (.mk none .nil (.mk none .nil (.mk none .nil (.mk none .nil (.mk none (.mk none .nil (.mk none (.mk (some [2, 6, 9, 41, 42, 43]) (.mk none .nil (.mk none .nil (.mk none (.mk none (.mk none .nil (.mk none .nil (.mk (some [2, 6, 9, 10, 11, 41, 42, 43]) .nil .nil))) .nil) .nil))) .nil) .nil)) .nil)))))))
def trees_Canon.g0 (R : Value → World → Prop) (e32 : (Option Addr) → (Option Addr) → (Option Addr) → (Option Addr) → Nat → Nat → Int → Int → Nat → World → Prop) (x0_0 : Int) (a0_1 : Option Addr) (n0_1 : Nat) (c0_1 : Nat) (w : World) : Prop :=
 nw (w.alloc (.cells #[.int .i64 x0_0, .slice a0_1 n0_1 c0_1] 33)) fun w130 =>
 nw (w130.alloc (.cells #[.int .i64 0, .slice none 0 0] 33)) fun w131 =>
 ∃ yx_132 : Int, w131.cell? ((na w).add 0) = some (.int .i64 yx_132) ∧
 (∃ ya_133 : Option Addr, ∃ yn_133 : Nat, ∃ yc_133 : Nat, w131.cell? ((na w).add 1) = some (.slice ya_133 yn_133 yc_133) ∧
 (Go.E.CallsD Go.Proofs.Try.prog 25 #[.agg #[.int .i64 yx_132, .slice ya_133 yn_133 yc_133]] w131 fun yv134 u135 =>
 ∃ yx_136_0 : Int, ∃ yx_136_1 : Int, yv134 = .tuple #[.int .i64 yx_136_0, .int .i64 yx_136_1] ∧
 (onBool (yx_136_0 != 0)
 (okSt u135 ((na w130).add 0) ∧
 (nw (u135.setCell ((na w130).add 0) (.int .i64 0)) fun w137 =>
 okSt w137 ((na w130).add 1) ∧
 (nw (w137.setCell ((na w130).add 1) (.slice none 0 0)) fun w138 =>
 ∃ yx_139 : Int, w138.cell? ((na w130).add 0) = some (.int .i64 yx_139) ∧
 (∃ ya_140 : Option Addr, ∃ yn_140 : Nat, ∃ yc_140 : Nat, w138.cell? ((na w130).add 1) = some (.slice ya_140 yn_140 yc_140) ∧
 (R (.tuple #[.agg #[.int .i64 yx_139, .slice ya_140 yn_140 yc_140], .int .i64 yx_136_0]) w138)))))
 (∃ ya_141 : Option Addr, ∃ yn_141 : Nat, ∃ yc_141 : Nat, u135.cell? ((na w).add 1) = some (.slice ya_141 yn_141 yc_141) ∧
 (chk ((0 : Int) ≤ (yn_141 : Int) ∧ (yn_141 : Int) ≤ (yn_141 : Int) ∧ ((8 : Nat) : Int) * (yn_141 : Int) ≤ 281474976710656 ∧ (yn_141 : Int) ≤ 9223372036854775807)
 (nw (u135.alloc (.cells (madeCells #[.int .i64 0] (((yn_141 : Int)).toNat * 1)) 3)) fun w142 =>
 nw (w142.alloc (.cells #[.slice none 0 0] 24)) fun w143 =>
 okSt w143 ((na w142).add 0) ∧
 (nw (w143.setCell ((na w142).add 0) (.slice (some (na u135)) (((yn_141 : Int)).toNat) (((yn_141 : Int)).toNat))) fun w144 =>
 nw (w144.alloc (.cells #[.int .i64 0] 3)) fun w145 =>
 okSt w145 ((na w144).add 0) ∧
 (nw (w145.setCell ((na w144).add 0) (.int .i64 0)) fun w146 =>
 ∃ yx_147 : Int, w146.cell? ((na w).add 0) = some (.int .i64 yx_147) ∧
 (∃ ya_148 : Option Addr, ∃ yn_148 : Nat, ∃ yc_148 : Nat, w146.cell? ((na w).add 1) = some (.slice ya_148 yn_148 yc_148) ∧
 (Go.E.CallsD Go.Proofs.Try.prog 55 #[.agg #[.int .i64 yx_147, .slice ya_148 yn_148 yc_148]] w146 fun yv149 u150 =>
 ∃ yv_151 : Value, yv149 = yv_151 ∧
 (rangeI Go.Proofs.Try.prog yv_151 u150
 (fun x152 x153 u155 K154 =>
 ∃ ya_158 : Option Addr, ∃ yn_158 : Nat, ∃ yc_158 : Nat, u155.cell? (na w142) = some (.slice ya_158 yn_158 yc_158) ∧
 (∃ yx_159 : Int, u155.cell? (na w144) = some (.int .i64 yx_159) ∧
 (optN ya_158 fun q160 =>
 chk ((0 : Int) ≤ x152 ∧ x152 < (yn_158 : Int))
 (okSt u155 ((q160.add (x152.toNat * 1)).add 0) ∧
 (nw (u155.setCell ((q160.add (x152.toNat * 1)).add 0) (.int .i64 yx_159)) fun w161 =>
 ∃ yx_162 : Int, w161.cell? (na w144) = some (.int .i64 yx_162) ∧
 (nv (IntKind.i64.wrap (yx_162 + 1)) fun t163 =>
 okSt w161 ((na w144).add 0) ∧
 (nw (w161.setCell ((na w144).add 0) (.int .i64 t163)) fun w164 =>
 K154 w164)))))))
 (fun D156 u157 =>
 ∃ F165 : Nat → Value → World → Prop, (∀ i v u u', F165 i v u → Below u.heap.size u u' → F165 i v u') ∧
 (∃ yx_166 : Int, u157.cell? ((na w).add 0) = some (.int .i64 yx_166) ∧
 (∃ yx_167 : Int, u157.cell? (na w144) = some (.int .i64 yx_167) ∧
 (chk ((0 : Int) ≤ yx_167 ∧ yx_167 ≤ yx_167 ∧ ((80 : Nat) : Int) * yx_167 ≤ 281474976710656 ∧ yx_167 ≤ 9223372036854775807)
 ((∀ u168 : World, Below u157.heap.size u157 u168 → F165 3 (.slice (some (na u168)) ((yx_167).toNat) ((yx_167).toNat)) (u168.alloc (.cells (madeCells #[.int .u8 0, .int .i64 0, .int .i64 0, .float .f64 0, .slice none 0 0, .int .u8 0, .int .i64 0, .int .i64 0] ((yx_167).toNat * 8)) 27))) ∧
 (∀ (q169 : Addr) (n170 c171 : Nat), (∃ u, Below u157.heap.size u157 u ∧ F165 3 (.slice (some q169) n170 c171) u) →
 (∀ u172 : World, Below u157.heap.size u157 u172 → F165 5 (.pointer (some (na u172))) (u172.alloc (.cells #[.int .i64 0, .slice none 0 0] 33))) ∧
 (∀ q173 : Addr, (∃ u, Below u157.heap.size u157 u ∧ F165 5 (.pointer (some q173)) u) →
 ∀ u174 : World, Below u157.heap.size u157 u174 → F165 3 (.slice (some q169) n170 c171) u174 → F165 5 (.pointer (some q173)) u174 → 
 okSt u174 (q173.add 0) ∧
 (nw (u174.setCell (q173.add 0) (.int .i64 yx_166)) fun w175 =>
 okSt w175 (q173.add 1) ∧
 (nw (w175.setCell (q173.add 1) (.slice (some q169) n170 c171)) fun w176 =>
 ∃ ya_177 : Option Addr, ∃ yn_177 : Nat, ∃ yc_177 : Nat, w176.cell? ((na w).add 1) = some (.slice ya_177 yn_177 yc_177) ∧
 (e32 (some (na w130)) (some (na w142)) (some q173) ya_177 yn_177 yc_177 (yn_177 : Int) 0 D156 w176)))))))))))))))))))))
def trees_Canon.g32 (R : Value → World → Prop) (j51 : (Option Addr) → (Option Addr) → (Option Addr) → Int → (Option Addr) → (Option Addr) → Nat → Nat → Int → Int → Nat → World → Prop) (p2 : Option Addr) (p6 : Option Addr) (p9 : Option Addr) (a41 : Option Addr) (n41 : Nat) (c41 : Nat) (x42 : Int) (x43 : Int) (D9999 : Nat) (w : World) : Prop :=
 onBool (decide (x43 < x42))
 (optN a41 fun q178 =>
 chk ((0 : Int) ≤ x43 ∧ x43 < (n41 : Int))
 (∃ yx_179 : Int, w.cell? ((q178.add (x43.toNat * 8)).add 0) = some (.int .u8 yx_179) ∧
 (∃ yx_180 : Int, w.cell? ((q178.add (x43.toNat * 8)).add 1) = some (.int .i64 yx_180) ∧
 (∃ yx_181 : Int, w.cell? ((q178.add (x43.toNat * 8)).add 2) = some (.int .i64 yx_181) ∧
 (∃ yf_182 : Nat, w.cell? ((q178.add (x43.toNat * 8)).add 3) = some (.float .f64 yf_182) ∧
 (∃ ya_183 : Option Addr, ∃ yn_183 : Nat, ∃ yc_183 : Nat, w.cell? ((q178.add (x43.toNat * 8)).add 4) = some (.slice ya_183 yn_183 yc_183) ∧
 (∃ yx_184 : Int, w.cell? ((q178.add (x43.toNat * 8)).add 5) = some (.int .u8 yx_184) ∧
 (∃ yx_185 : Int, w.cell? ((q178.add (x43.toNat * 8)).add 6) = some (.int .i64 yx_185) ∧
 (∃ yx_186 : Int, w.cell? ((q178.add (x43.toNat * 8)).add 7) = some (.int .i64 yx_186) ∧
 (nw (w.alloc (.cells #[.int .u8 0, .int .i64 0, .int .i64 0, .float .f64 0, .slice none 0 0, .int .u8 0, .int .i64 0, .int .i64 0] 27)) fun w187 =>
 okSt w187 ((na w).add 0) ∧
 (nw (w187.setCell ((na w).add 0) (.int .u8 yx_179)) fun w188 =>
 okSt w188 ((na w).add 1) ∧
 (nw (w188.setCell ((na w).add 1) (.int .i64 yx_180)) fun w189 =>
 okSt w189 ((na w).add 2) ∧
 (nw (w189.setCell ((na w).add 2) (.int .i64 yx_181)) fun w190 =>
 okSt w190 ((na w).add 3) ∧
 (nw (w190.setCell ((na w).add 3) (.float .f64 yf_182)) fun w191 =>
 okSt w191 ((na w).add 4) ∧
 (nw (w191.setCell ((na w).add 4) (.slice ya_183 yn_183 yc_183)) fun w192 =>
 okSt w192 ((na w).add 5) ∧
 (nw (w192.setCell ((na w).add 5) (.int .u8 yx_184)) fun w193 =>
 okSt w193 ((na w).add 6) ∧
 (nw (w193.setCell ((na w).add 6) (.int .i64 yx_185)) fun w194 =>
 okSt w194 ((na w).add 7) ∧
 (nw (w194.setCell ((na w).add 7) (.int .i64 yx_186)) fun w195 =>
 ∃ ya_196 : Option Addr, ∃ yn_196 : Nat, ∃ yc_196 : Nat, w195.cell? ((na w).add 4) = some (.slice ya_196 yn_196 yc_196) ∧
 (Go.E.CallsD Go.Proofs.Try.prog 60 #[.slice ya_196 yn_196 yc_196] w195 fun yv197 u198 =>
 ∃ ya_199 : Option Addr, ∃ yn_199 : Nat, ∃ yc_199 : Nat, yv197 = .slice ya_199 yn_199 yc_199 ∧
 (okSt u198 (((na w).add 4).add 0) ∧
 (nw (u198.setCell (((na w).add 4).add 0) (.slice ya_199 yn_199 yc_199)) fun w200 =>
 ∃ yx_201 : Int, w200.cell? ((na w).add 0) = some (.int .u8 yx_201) ∧
 (∃ yx_202 : Int, w200.cell? ((na w).add 1) = some (.int .i64 yx_202) ∧
 (∃ yx_203 : Int, w200.cell? ((na w).add 2) = some (.int .i64 yx_203) ∧
 (∃ yf_204 : Nat, w200.cell? ((na w).add 3) = some (.float .f64 yf_204) ∧
 (∃ ya_205 : Option Addr, ∃ yn_205 : Nat, ∃ yc_205 : Nat, w200.cell? ((na w).add 4) = some (.slice ya_205 yn_205 yc_205) ∧
 (∃ yx_206 : Int, w200.cell? ((na w).add 5) = some (.int .u8 yx_206) ∧
 (∃ yx_207 : Int, w200.cell? ((na w).add 6) = some (.int .i64 yx_207) ∧
 (∃ yx_208 : Int, w200.cell? ((na w).add 7) = some (.int .i64 yx_208) ∧
 (Go.E.CallsD Go.Proofs.Try.prog 47 #[.agg #[.int .u8 yx_201, .int .i64 yx_202, .int .i64 yx_203, .float .f64 yf_204, .slice ya_205 yn_205 yc_205, .int .u8 yx_206, .int .i64 yx_207, .int .i64 yx_208]] w200 fun yv209 u210 =>
 ∃ yb_211 : Bool, yv209 = .bool yb_211 ∧
 (onBool yb_211
 (∃ wm212 : World, CK wm212 u210 ∧
 (optN p6 fun q213 =>
 ∃ ya_214 : Option Addr, ∃ yn_214 : Nat, ∃ yc_214 : Nat, u210.cell? q213 = some (.slice ya_214 yn_214 yc_214) ∧
 (∃ yx_215 : Int, u210.cell? ((na w).add 6) = some (.int .i64 yx_215) ∧
 (optN ya_214 fun q216 =>
 chk ((0 : Int) ≤ yx_215 ∧ yx_215 < (yn_214 : Int))
 (∃ yx_217 : Int, u210.cell? (q216.add (yx_215.toNat * 1)) = some (.int .i64 yx_217) ∧
 (optN p6 fun q218 =>
 ∃ ya_219 : Option Addr, ∃ yn_219 : Nat, ∃ yc_219 : Nat, wm212.cell? q218 = some (.slice ya_219 yn_219 yc_219) ∧
 (∃ yx_220 : Int, u210.cell? ((na w).add 7) = some (.int .i64 yx_220) ∧
 (optN ya_219 fun q221 =>
 chk ((0 : Int) ≤ yx_220 ∧ yx_220 < (yn_219 : Int))
 (∃ yx_222 : Int, wm212.cell? (q221.add (yx_220.toNat * 1)) = some (.int .i64 yx_222) ∧
 (okSt u210 (((na w).add 6).add 0) ∧
 (nw (u210.setCell (((na w).add 6).add 0) (.int .i64 yx_217)) fun w223 =>
 CK wm212 w223 ∧
 (okSt w223 (((na w).add 7).add 0) ∧
 (nw (w223.setCell (((na w).add 7).add 0) (.int .i64 yx_222)) fun w224 =>
 CK wm212 w224 ∧
 (j51 p2 p6 p9 x43 (some (na w)) a41 n41 c41 x42 x43 D9999 w224))))))))))))))
 (j51 p2 p6 p9 x43 (some (na w)) a41 n41 c41 x42 x43 D9999 u210)))))))))))))))))))))))))))))))
 (optN p9 fun q225 =>
 ∃ yx_226 : Int, w.cell? (q225.add 0) = some (.int .i64 yx_226) ∧
 (∃ ya_227 : Option Addr, ∃ yn_227 : Nat, ∃ yc_227 : Nat, w.cell? (q225.add 1) = some (.slice ya_227 yn_227 yc_227) ∧
 (optN p2 fun q228 =>
 okSt w (q228.add 0) ∧
 (nw (w.setCell (q228.add 0) (.int .i64 yx_226)) fun w229 =>
 okSt w229 (q228.add 1) ∧
 (nw (w229.setCell (q228.add 1) (.slice ya_227 yn_227 yc_227)) fun w230 =>
 w230.heap[D9999]? = some (.deferred (some [])) ∧
 nw (w230.putObj D9999 (.deferred none)) fun w231 =>
 optN p2 fun q232 =>
 ∃ yx_233 : Int, w231.cell? (q232.add 0) = some (.int .i64 yx_233) ∧
 (∃ ya_234 : Option Addr, ∃ yn_234 : Nat, ∃ yc_234 : Nat, w231.cell? (q232.add 1) = some (.slice ya_234 yn_234 yc_234) ∧
 (R (.tuple #[.agg #[.int .i64 yx_233, .slice ya_234 yn_234 yc_234], .int .i64 0]) w231)))))))
def trees_Canon.g51 (R : Value → World → Prop) (b32 : (Option Addr) → (Option Addr) → (Option Addr) → (Option Addr) → Nat → Nat → Int → Int → Nat → World → Prop) (p2 : Option Addr) (p6 : Option Addr) (p9 : Option Addr) (x10 : Int) (p11 : Option Addr) (a41 : Option Addr) (n41 : Nat) (c41 : Nat) (x42 : Int) (x43 : Int) (D9999 : Nat) (w : World) : Prop :=
 optN p9 fun q235 =>
 ∃ ya_236 : Option Addr, ∃ yn_236 : Nat, ∃ yc_236 : Nat, w.cell? (q235.add 1) = some (.slice ya_236 yn_236 yc_236) ∧
 (optN p6 fun q237 =>
 ∃ ya_238 : Option Addr, ∃ yn_238 : Nat, ∃ yc_238 : Nat, w.cell? q237 = some (.slice ya_238 yn_238 yc_238) ∧
 (optN ya_238 fun q239 =>
 chk ((0 : Int) ≤ x10 ∧ x10 < (yn_238 : Int))
 (∃ yx_240 : Int, w.cell? (q239.add (x10.toNat * 1)) = some (.int .i64 yx_240) ∧
 (optN p11 fun q241 =>
 ∃ yx_242 : Int, w.cell? (q241.add 0) = some (.int .u8 yx_242) ∧
 (∃ yx_243 : Int, w.cell? (q241.add 1) = some (.int .i64 yx_243) ∧
 (∃ yx_244 : Int, w.cell? (q241.add 2) = some (.int .i64 yx_244) ∧
 (∃ yf_245 : Nat, w.cell? (q241.add 3) = some (.float .f64 yf_245) ∧
 (∃ ya_246 : Option Addr, ∃ yn_246 : Nat, ∃ yc_246 : Nat, w.cell? (q241.add 4) = some (.slice ya_246 yn_246 yc_246) ∧
 (∃ yx_247 : Int, w.cell? (q241.add 5) = some (.int .u8 yx_247) ∧
 (∃ yx_248 : Int, w.cell? (q241.add 6) = some (.int .i64 yx_248) ∧
 (∃ yx_249 : Int, w.cell? (q241.add 7) = some (.int .i64 yx_249) ∧
 (optN ya_236 fun q250 =>
 chk ((0 : Int) ≤ yx_240 ∧ yx_240 < (yn_236 : Int))
 (okSt w ((q250.add (yx_240.toNat * 8)).add 0) ∧
 (nw (w.setCell ((q250.add (yx_240.toNat * 8)).add 0) (.int .u8 yx_242)) fun w251 =>
 okSt w251 ((q250.add (yx_240.toNat * 8)).add 1) ∧
 (nw (w251.setCell ((q250.add (yx_240.toNat * 8)).add 1) (.int .i64 yx_243)) fun w252 =>
 okSt w252 ((q250.add (yx_240.toNat * 8)).add 2) ∧
 (nw (w252.setCell ((q250.add (yx_240.toNat * 8)).add 2) (.int .i64 yx_244)) fun w253 =>
 okSt w253 ((q250.add (yx_240.toNat * 8)).add 3) ∧
 (nw (w253.setCell ((q250.add (yx_240.toNat * 8)).add 3) (.float .f64 yf_245)) fun w254 =>
 okSt w254 ((q250.add (yx_240.toNat * 8)).add 4) ∧
 (nw (w254.setCell ((q250.add (yx_240.toNat * 8)).add 4) (.slice ya_246 yn_246 yc_246)) fun w255 =>
 okSt w255 ((q250.add (yx_240.toNat * 8)).add 5) ∧
 (nw (w255.setCell ((q250.add (yx_240.toNat * 8)).add 5) (.int .u8 yx_247)) fun w256 =>
 okSt w256 ((q250.add (yx_240.toNat * 8)).add 6) ∧
 (nw (w256.setCell ((q250.add (yx_240.toNat * 8)).add 6) (.int .i64 yx_248)) fun w257 =>
 okSt w257 ((q250.add (yx_240.toNat * 8)).add 7) ∧
 (nw (w257.setCell ((q250.add (yx_240.toNat * 8)).add 7) (.int .i64 yx_249)) fun w258 =>
 nv (IntKind.i64.wrap (x43 + 1)) fun t259 =>
 b32 p2 p6 p9 a41 n41 c41 x42 t259 D9999 w258)))))))))))))))))))))
def trees_Canon.q2 (R : Value → World → Prop) : Exit → Act → World → Prop := (fin Go.Proofs.Try.prog Go.Proofs.Try.f37 R)
def trees_Canon.q12 (R : Value → World → Prop) : Exit → Act → World → Prop := (trees_Canon.q2 R)
def trees_Canon.q14 (R : Value → World → Prop) : Exit → Act → World → Prop := (trees_Canon.q12 R)
def trees_Canon.q16 (R : Value → World → Prop) : Exit → Act → World → Prop := (trees_Canon.q14 R)
def trees_Canon.q26 (R : Value → World → Prop) : Exit → Act → World → Prop := (trees_Canon.q16 R)
def trees_Canon.q28 (R : Value → World → Prop) : Exit → Act → World → Prop := (trees_Canon.q26 R)
def trees_Canon.q29 (R : Value → World → Prop) : Exit → Act → World → Prop := Exit.then (startN none (codeN Go.Proofs.Try.prog (sub (codeOf Go.Proofs.Try.f37) [1, 1, 1, 1, 1, 1, 1]) (nsub trees_Canon.an [1, 1, 1, 1, 1, 1, 1]) (trees_Canon.q28 R))) (trees_Canon.q28 R)
def trees_Canon.q31 (R : Value → World → Prop) : Exit → Act → World → Prop := (trees_Canon.q29 R)
def trees_Canon.q32 (R : Value → World → Prop) : Exit → Act → World → Prop := Exit.inBlock 2 (trees_Canon.q31 R)
def trees_Canon.rl32 (R : Value → World → Prop) (k : Nat) (p2 : Option Addr) (p6 : Option Addr) (p9 : Option Addr) (a41 : Option Addr) (n41 : Nat) (c41 : Nat) (x42 : Int) (x43 : Int) (D9999 : Nat) (w : World) : Prop := loopN [2, 6, 9, 41, 42, 43] (codeN Go.Proofs.Try.prog (sub (codeOf Go.Proofs.Try.f37) [1, 1, 1, 1, 1, 1, 0, 1, 0, 0]) (nsub trees_Canon.an [1, 1, 1, 1, 1, 1, 0, 1, 0, 0])) (trees_Canon.q32 R) k ⟨#[undef, undef, .pointer p2, undef, undef, undef, .pointer p6, undef, undef, .pointer p9, undef, undef, undef, undef, undef, undef, undef, undef, undef, undef, undef, undef, undef, undef, undef, undef, undef, undef, undef, undef, undef, undef, undef, undef, undef, undef, undef, undef, undef, undef, undef, .slice a41 n41 c41, .int .i64 x42, .int .i64 x43, undef, undef, undef, undef, undef, undef, undef, undef, undef, undef, undef, undef, undef, undef, undef, undef, undef, undef, undef, undef, undef, undef, undef, undef, undef, undef, undef, undef, undef, undef, undef, undef], [{ target := .collected D9999, args := #[] }]⟩ w
def trees_Canon.re32 (R : Value → World → Prop) (p2 : Option Addr) (p6 : Option Addr) (p9 : Option Addr) (a41 : Option Addr) (n41 : Nat) (c41 : Nat) (x42 : Int) (x43 : Int) (D9999 : Nat) (w : World) : Prop := ∃ k, trees_Canon.rl32 R k p2 p6 p9 a41 n41 c41 x42 x43 D9999 w
def trees_Canon.q33 (R : Value → World → Prop) (k32 : Nat) : Exit → Act → World → Prop := Exit.then (fun a w => loopN [2, 6, 9, 41, 42, 43] (codeN Go.Proofs.Try.prog (sub (codeOf Go.Proofs.Try.f37) [1, 1, 1, 1, 1, 1, 0, 1, 0, 0]) (nsub trees_Canon.an [1, 1, 1, 1, 1, 1, 0, 1, 0, 0])) (trees_Canon.q32 R) k32 (clr [2, 6, 9, 41, 42, 43] a) w) (trees_Canon.q32 R)
def trees_Canon.q35 (R : Value → World → Prop) (k32 : Nat) : Exit → Act → World → Prop := (trees_Canon.q33 R k32)
def trees_Canon.q39 (R : Value → World → Prop) (k32 : Nat) : Exit → Act → World → Prop := (trees_Canon.q35 R k32)
def trees_Canon.q40 (R : Value → World → Prop) (k32 : Nat) : Exit → Act → World → Prop := Exit.then (startN none (codeN Go.Proofs.Try.prog (sub (codeOf Go.Proofs.Try.f37) [1, 1, 1, 1, 1, 1, 0, 1, 0, 0, 1, 1, 1]) (nsub trees_Canon.an [1, 1, 1, 1, 1, 1, 0, 1, 0, 0, 1, 1, 1]) (trees_Canon.q39 R k32))) (trees_Canon.q39 R k32)
def trees_Canon.q41 (R : Value → World → Prop) (k32 : Nat) : Exit → Act → World → Prop := Exit.inBlock 3 (trees_Canon.q40 R k32)
def trees_Canon.q43 (R : Value → World → Prop) (k32 : Nat) : Exit → Act → World → Prop := (trees_Canon.q41 R k32)
def trees_Canon.q45 (R : Value → World → Prop) (k32 : Nat) : Exit → Act → World → Prop := (trees_Canon.q43 R k32)
def trees_Canon.q51 (R : Value → World → Prop) (k32 : Nat) : Exit → Act → World → Prop := (trees_Canon.q45 R k32)
def trees_Canon.rj51 (R : Value → World → Prop) (k32 : Nat) (p2 : Option Addr) (p6 : Option Addr) (p9 : Option Addr) (x10 : Int) (p11 : Option Addr) (a41 : Option Addr) (n41 : Nat) (c41 : Nat) (x42 : Int) (x43 : Int) (D9999 : Nat) (w : World) : Prop := startN (some [2, 6, 9, 10, 11, 41, 42, 43]) (codeN Go.Proofs.Try.prog (sub (codeOf Go.Proofs.Try.f37) [1, 1, 1, 1, 1, 1, 0, 1, 0, 0, 1, 1, 0, 0, 1, 1, 1]) (nsub trees_Canon.an [1, 1, 1, 1, 1, 1, 0, 1, 0, 0, 1, 1, 0, 0, 1, 1, 1]) (trees_Canon.q51 R k32)) ⟨#[undef, undef, .pointer p2, undef, undef, undef, .pointer p6, undef, undef, .pointer p9, .int .i64 x10, .pointer p11, undef, undef, undef, undef, undef, undef, undef, undef, undef, undef, undef, undef, undef, undef, undef, undef, undef, undef, undef, undef, undef, undef, undef, undef, undef, undef, undef, undef, undef, .slice a41 n41 c41, .int .i64 x42, .int .i64 x43, undef, undef, undef, undef, undef, undef, undef, undef, undef, undef, undef, undef, undef, undef, undef, undef, undef, undef, undef, undef, undef, undef, undef, undef, undef, undef, undef, undef, undef, undef, undef, undef], [{ target := .collected D9999, args := #[] }]⟩ w
def trees_Canon.j51 (R : Value → World → Prop) (b32 : (Option Addr) → (Option Addr) → (Option Addr) → (Option Addr) → Nat → Nat → Int → Int → Nat → World → Prop) (p2 : Option Addr) (p6 : Option Addr) (p9 : Option Addr) (x10 : Int) (p11 : Option Addr) (a41 : Option Addr) (n41 : Nat) (c41 : Nat) (x42 : Int) (x43 : Int) (D9999 : Nat) (w : World) : Prop := trees_Canon.g51 R b32 p2 p6 p9 x10 p11 a41 n41 c41 x42 x43 D9999 w
theorem trees_Canon.s51 (R : Value → World → Prop) (k32 : Nat) (p2 : Option Addr) (p6 : Option Addr) (p9 : Option Addr) (x10 : Int) (p11 : Option Addr) (a41 : Option Addr) (n41 : Nat) (c41 : Nat) (x42 : Int) (x43 : Int) (D9999 : Nat) (w : World) : trees_Canon.rj51 R k32 p2 p6 p9 x10 p11 a41 n41 c41 x42 x43 D9999 w = ∀ _ : Nat → Value, trees_Canon.g51 R (trees_Canon.rl32 R k32) p2 p6 p9 x10 p11 a41 n41 c41 x42 x43 D9999 w := by kernel_rfl
theorem trees_Canon.jq51 (R : Value → World → Prop) (k32 : Nat) (b32 : (Option Addr) → (Option Addr) → (Option Addr) → (Option Addr) → Nat → Nat → Int → Int → Nat → World → Prop) (hb32 : b32 = trees_Canon.rl32 R k32) : trees_Canon.j51 R b32 = trees_Canon.rj51 R k32 := by
    funext p2 p6 p9 x10 p11 a41 n41 c41 x42 x43 D9999 w
    rw [trees_Canon.s51, forall_const]
    unfold trees_Canon.j51
    subst hb32
    all_goals rfl
def trees_Canon.l32 (R : Value → World → Prop) : Nat → (Option Addr) → (Option Addr) → (Option Addr) → (Option Addr) → Nat → Nat → Int → Int → Nat → World → Prop
  | 0, _, _, _, _, _, _, _, _, _, _ => False
  | k + 1, p2, p6, p9, a41, n41, c41, x42, x43, D9999, w => trees_Canon.g32 R (trees_Canon.j51 R (trees_Canon.l32 R k)) p2 p6 p9 a41 n41 c41 x42 x43 D9999 w
def trees_Canon.e32 (R : Value → World → Prop) (p2 : Option Addr) (p6 : Option Addr) (p9 : Option Addr) (a41 : Option Addr) (n41 : Nat) (c41 : Nat) (x42 : Int) (x43 : Int) (D9999 : Nat) (w : World) : Prop := ∃ k, trees_Canon.l32 R k p2 p6 p9 a41 n41 c41 x42 x43 D9999 w
theorem trees_Canon.s32 (R : Value → World → Prop) (k : Nat) (p2 : Option Addr) (p6 : Option Addr) (p9 : Option Addr) (a41 : Option Addr) (n41 : Nat) (c41 : Nat) (x42 : Int) (x43 : Int) (D9999 : Nat) (w : World) : trees_Canon.rl32 R (k + 1) p2 p6 p9 a41 n41 c41 x42 x43 D9999 w = ∀ _ : Nat → Value, trees_Canon.g32 R (trees_Canon.rj51 R k) p2 p6 p9 a41 n41 c41 x42 x43 D9999 w := by kernel_rfl
theorem trees_Canon.lq32 (R : Value → World → Prop) : ∀ k, trees_Canon.l32 R k = trees_Canon.rl32 R k
  | 0 => by funext p2 p6 p9 a41 n41 c41 x42 x43 D9999 w; first | rfl | kernel_rfl
  | k + 1 => by
    funext p2 p6 p9 a41 n41 c41 x42 x43 D9999 w
    rw [trees_Canon.s32, forall_const]
    unfold trees_Canon.l32
    have ih := trees_Canon.lq32 R k
    rw [trees_Canon.jq51 R k _ ih]
    all_goals rfl
theorem trees_Canon.eq32 (R : Value → World → Prop) : trees_Canon.e32 R = trees_Canon.re32 R := by
  funext p2 p6 p9 a41 n41 c41 x42 x43 D9999 w
  unfold trees_Canon.e32 trees_Canon.re32
  simp only [trees_Canon.lq32 R]
def trees_Canon (R : Value → World → Prop) (x0_0 : Int) (a0_1 : Option Addr) (n0_1 : Nat) (c0_1 : Nat) (w : World) : Prop := trees_Canon.g0 R (trees_Canon.e32 R) x0_0 a0_1 n0_1 c0_1 w
theorem trees_Canon.root0 (R : Value → World → Prop) (x0_0 : Int) (a0_1 : Option Addr) (n0_1 : Nat) (c0_1 : Nat) (w : World) : fnN Go.Proofs.Try.prog Go.Proofs.Try.f37 trees_Canon.an #[.agg #[.int .i64 x0_0, .slice a0_1 n0_1 c0_1]] w R = trees_Canon.g0 R (trees_Canon.re32 R) x0_0 a0_1 n0_1 c0_1 w := by kernel_rfl
theorem trees_Canon.calls {R : Value → World → Prop} {x0_0 : Int} {a0_1 : Option Addr} {n0_1 : Nat} {c0_1 : Nat} {w : World} (h : trees_Canon R x0_0 a0_1 n0_1 c0_1 w) : Go.E.CallsD Go.Proofs.Try.prog 37 #[.agg #[.int .i64 x0_0, .slice a0_1 n0_1 c0_1]] w R := by
  refine callsD_of (n := trees_Canon.an) M_follows M_sizes Go.Proofs.Try.func37 (by rfl) ?_
  rw [trees_Canon.root0]
  unfold trees_Canon at h
  rw [trees_Canon.eq32 R] at h
  exact h
end Go.Mir
