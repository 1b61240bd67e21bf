/- Part of a proof of laws of the seat YtmmomijhlmmjpaaDoor: functions' weakest preconditions, each checked by the kernel, contracts out of them, plain lemmas; no conditions. -/
import Derived.Test.YtmmomijhlmmjpaaDoorNM0
set_option linter.unusedVariables false
set_option linter.unusedSimpArgs false
set_option linter.unusedVariables false
set_option maxRecDepth 100000
namespace Go.Mir
open Go Go.E Go.RowKit
-- (*thicket/lanes.Scorer).Score
def lanes_Scorer_Score.an : An := (.mk none .nil (.mk none .nil (.mk none .nil (.mk none .nil (.mk none (.mk none .nil (.mk none (.mk (some [0, 1, 7, 10, 23, 24]) .nil .nil) .nil)) .nil)))))
def lanes_Scorer_Score.g0 (R : Value → World → Prop) (e18 : (Option Addr) → (Option Addr) → Nat → Nat → (Option Addr) → Nat → Nat → (Option Addr) → Int → Int → World → Prop) (p0 : Option Addr) (a1 : Option Addr) (n1 : Nat) (c1 : Nat) (w : World) : Prop :=
 Go.E.CallsD Go.Proofs.Tryd.prog 8 #[.pointer p0, .slice a1 n1 c1] w fun yv25 u26 =>
 ∃ ya_27_0 : Option Addr, ∃ yn_27_0 : Nat, ∃ yc_27_0 : Nat, ∃ yx_27_1 : Int, ∃ yx_27_2 : Int, yv25 = .tuple #[.slice ya_27_0 yn_27_0 yc_27_0, .int .i64 yx_27_1, .int .i64 yx_27_2] ∧
 (onBool (yx_27_1 != 0)
 (R (.tuple #[.slice none 0 0, .int .i64 yx_27_1, .int .i64 yx_27_2]) u26)
 (nw (u26.alloc (.cells #[.slice none 0 0] 24)) fun w28 =>
 e18 p0 a1 n1 c1 ya_27_0 yn_27_0 yc_27_0 (some (na u26)) (n1 : Int) 0 w28))
def lanes_Scorer_Score.g18 (R : Value → World → Prop) (b18 : (Option Addr) → (Option Addr) → Nat → Nat → (Option Addr) → Nat → Nat → (Option Addr) → Int → Int → World → Prop) (p0 : Option Addr) (a1 : Option Addr) (n1 : Nat) (c1 : Nat) (a7 : Option Addr) (n7 : Nat) (c7 : Nat) (p10 : Option Addr) (x23 : Int) (x24 : Int) (w : World) : Prop :=
 onBool (decide (x24 < x23))
 (∃ wm29 : World, CK wm29 w ∧
 (optN p10 fun q30 =>
 ∃ ya_31 : Option Addr, ∃ yn_31 : Nat, ∃ yc_31 : Nat, wm29.cell? q30 = some (.slice ya_31 yn_31 yc_31) ∧
 (optN p0 fun q32 =>
 ∃ ya_33 : Option Addr, ∃ yn_33 : Nat, ∃ yc_33 : Nat, wm29.cell? ((q32.add 0).add 2) = some (.slice ya_33 yn_33 yc_33) ∧
 (rawN Go.Proofs.Tryd.prog (Builtin.append_ #[38, 38] 38 #[.slice none 0 0, .slice ya_33 yn_33 yc_33]) w fun yv34 u35 =>
 ∃ ya_36 : Option Addr, ∃ yn_36 : Nat, ∃ yc_36 : Nat, yv34 = .slice ya_36 yn_36 yc_36 ∧
 (CK wm29 u35 ∧
 (nw (u35.alloc (.cells #[.slice ya_36 yn_36 yc_36] 38)) fun w37 =>
 CK wm29 w37 ∧
 (rawN Go.Proofs.Tryd.prog (Builtin.append_ #[24, 24] 24 #[.slice ya_31 yn_31 yc_31, .slice (some (na u35)) 1 1]) w37 fun yv38 u39 =>
 ∃ ya_40 : Option Addr, ∃ yn_40 : Nat, ∃ yc_40 : Nat, yv38 = .slice ya_40 yn_40 yc_40 ∧
 (CK wm29 u39 ∧
 (optN p10 fun q41 =>
 okSt u39 (q41.add 0) ∧
 (nw (u39.setCell (q41.add 0) (.slice ya_40 yn_40 yc_40)) fun w42 =>
 nv (IntKind.i64.wrap (x24 + 1)) fun t43 =>
 b18 p0 a1 n1 c1 a7 n7 c7 p10 x23 t43 w42))))))))))
 (Go.E.CallsD Go.Proofs.Tryd.prog 9 #[.pointer p0, .slice a7 n7 c7, .int .i64 (n1 : Int), .func (.func 10) #[] #[.pointer p10]] w fun yv44 u45 =>
 yv44 = .tuple #[] ∧
 (optN p10 fun q47 =>
 ∃ ya_48 : Option Addr, ∃ yn_48 : Nat, ∃ yc_48 : Nat, u45.cell? q47 = some (.slice ya_48 yn_48 yc_48) ∧
 (R (.tuple #[.slice ya_48 yn_48 yc_48, .int .i64 0, .int .i64 0]) u45)))
def lanes_Scorer_Score.q2 (R : Value → World → Prop) : Exit → Act → World → Prop := (fin Go.Proofs.Tryd.prog Go.Proofs.Tryd.f4 R)
def lanes_Scorer_Score.q4 (R : Value → World → Prop) : Exit → Act → World → Prop := (lanes_Scorer_Score.q2 R)
def lanes_Scorer_Score.q12 (R : Value → World → Prop) : Exit → Act → World → Prop := (lanes_Scorer_Score.q4 R)
def lanes_Scorer_Score.q14 (R : Value → World → Prop) : Exit → Act → World → Prop := (lanes_Scorer_Score.q12 R)
def lanes_Scorer_Score.q15 (R : Value → World → Prop) : Exit → Act → World → Prop := Exit.then (startN none (codeN Go.Proofs.Tryd.prog (sub (codeOf Go.Proofs.Tryd.f4) [1, 1, 1, 1, 1]) (nsub lanes_Scorer_Score.an [1, 1, 1, 1, 1]) (lanes_Scorer_Score.q14 R))) (lanes_Scorer_Score.q14 R)
def lanes_Scorer_Score.q17 (R : Value → World → Prop) : Exit → Act → World → Prop := (lanes_Scorer_Score.q15 R)
def lanes_Scorer_Score.q18 (R : Value → World → Prop) : Exit → Act → World → Prop := Exit.inBlock 0 (lanes_Scorer_Score.q17 R)
def lanes_Scorer_Score.rl18 (R : Value → World → Prop) (k : Nat) (p0 : Option Addr) (a1 : Option Addr) (n1 : Nat) (c1 : Nat) (a7 : Option Addr) (n7 : Nat) (c7 : Nat) (p10 : Option Addr) (x23 : Int) (x24 : Int) (w : World) : Prop := loopN [0, 1, 7, 10, 23, 24] (codeN Go.Proofs.Tryd.prog (sub (codeOf Go.Proofs.Tryd.f4) [1, 1, 1, 1, 0, 1, 0, 0]) (nsub lanes_Scorer_Score.an [1, 1, 1, 1, 0, 1, 0, 0])) (lanes_Scorer_Score.q18 R) k ⟨#[.pointer p0, .slice a1 n1 c1, undef, undef, undef, undef, undef, .slice a7 n7 c7, undef, undef, .pointer p10, undef, undef, undef, undef, undef, undef, undef, undef, undef, undef, undef, undef, .int .i64 x23, .int .i64 x24, undef, undef, undef, undef, undef, undef, undef, undef, undef, undef, undef, undef, undef, undef, undef, undef, undef, undef], []⟩ w
def lanes_Scorer_Score.re18 (R : Value → World → Prop) (p0 : Option Addr) (a1 : Option Addr) (n1 : Nat) (c1 : Nat) (a7 : Option Addr) (n7 : Nat) (c7 : Nat) (p10 : Option Addr) (x23 : Int) (x24 : Int) (w : World) : Prop := ∃ k, lanes_Scorer_Score.rl18 R k p0 a1 n1 c1 a7 n7 c7 p10 x23 x24 w
def lanes_Scorer_Score.l18 (R : Value → World → Prop) : Nat → (Option Addr) → (Option Addr) → Nat → Nat → (Option Addr) → Nat → Nat → (Option Addr) → Int → Int → World → Prop
  | 0, _, _, _, _, _, _, _, _, _, _, _ => False
  | k + 1, p0, a1, n1, c1, a7, n7, c7, p10, x23, x24, w => lanes_Scorer_Score.g18 R (lanes_Scorer_Score.l18 R k) p0 a1 n1 c1 a7 n7 c7 p10 x23 x24 w
def lanes_Scorer_Score.e18 (R : Value → World → Prop) (p0 : Option Addr) (a1 : Option Addr) (n1 : Nat) (c1 : Nat) (a7 : Option Addr) (n7 : Nat) (c7 : Nat) (p10 : Option Addr) (x23 : Int) (x24 : Int) (w : World) : Prop := ∃ k, lanes_Scorer_Score.l18 R k p0 a1 n1 c1 a7 n7 c7 p10 x23 x24 w
theorem lanes_Scorer_Score.s18 (R : Value → World → Prop) (k : Nat) (p0 : Option Addr) (a1 : Option Addr) (n1 : Nat) (c1 : Nat) (a7 : Option Addr) (n7 : Nat) (c7 : Nat) (p10 : Option Addr) (x23 : Int) (x24 : Int) (w : World) : lanes_Scorer_Score.rl18 R (k + 1) p0 a1 n1 c1 a7 n7 c7 p10 x23 x24 w = ∀ _ : Nat → Value, lanes_Scorer_Score.g18 R (lanes_Scorer_Score.rl18 R k) p0 a1 n1 c1 a7 n7 c7 p10 x23 x24 w := by kernel_rfl
theorem lanes_Scorer_Score.lq18 (R : Value → World → Prop) : ∀ k, lanes_Scorer_Score.l18 R k = lanes_Scorer_Score.rl18 R k
  | 0 => by funext p0 a1 n1 c1 a7 n7 c7 p10 x23 x24 w; first | rfl | kernel_rfl
  | k + 1 => by
    funext p0 a1 n1 c1 a7 n7 c7 p10 x23 x24 w
    rw [lanes_Scorer_Score.s18, forall_const]
    unfold lanes_Scorer_Score.l18
    have ih := lanes_Scorer_Score.lq18 R k
    rw [ih]
    all_goals rfl
theorem lanes_Scorer_Score.eq18 (R : Value → World → Prop) : lanes_Scorer_Score.e18 R = lanes_Scorer_Score.re18 R := by
  funext p0 a1 n1 c1 a7 n7 c7 p10 x23 x24 w
  unfold lanes_Scorer_Score.e18 lanes_Scorer_Score.re18
  simp only [lanes_Scorer_Score.lq18 R]
def lanes_Scorer_Score (R : Value → World → Prop) (p0 : Option Addr) (a1 : Option Addr) (n1 : Nat) (c1 : Nat) (w : World) : Prop := lanes_Scorer_Score.g0 R (lanes_Scorer_Score.e18 R) p0 a1 n1 c1 w
theorem lanes_Scorer_Score.root0 (R : Value → World → Prop) (p0 : Option Addr) (a1 : Option Addr) (n1 : Nat) (c1 : Nat) (w : World) : fnN Go.Proofs.Tryd.prog Go.Proofs.Tryd.f4 lanes_Scorer_Score.an #[.pointer p0, .slice a1 n1 c1] w R = lanes_Scorer_Score.g0 R (lanes_Scorer_Score.re18 R) p0 a1 n1 c1 w := by kernel_rfl
theorem lanes_Scorer_Score.calls {R : Value → World → Prop} {p0 : Option Addr} {a1 : Option Addr} {n1 : Nat} {c1 : Nat} {w : World} (h : lanes_Scorer_Score R p0 a1 n1 c1 w) : Go.E.CallsD Go.Proofs.Tryd.prog 4 #[.pointer p0, .slice a1 n1 c1] w R := by
  refine callsD_of (n := lanes_Scorer_Score.an) M_follows M_sizes Go.Proofs.Tryd.func4 (by rfl) ?_
  rw [lanes_Scorer_Score.root0]
  unfold lanes_Scorer_Score at h
  rw [lanes_Scorer_Score.eq18 R] at h
  exact h
-- (*thicket/lanes.Scorer).Exits
def lanes_Scorer_Exits.an : An := An.nil
def lanes_Scorer_Exits.g0 (R : Value → World → Prop) (p0 : Option Addr) (a1 : Option Addr) (n1 : Nat) (c1 : Nat) (w : World) : Prop :=
 Go.E.CallsD Go.Proofs.Tryd.prog 8 #[.pointer p0, .slice a1 n1 c1] w fun yv11 u12 =>
 ∃ ya_13_0 : Option Addr, ∃ yn_13_0 : Nat, ∃ yc_13_0 : Nat, ∃ yx_13_1 : Int, ∃ yx_13_2 : Int, yv11 = .tuple #[.slice ya_13_0 yn_13_0 yc_13_0, .int .i64 yx_13_1, .int .i64 yx_13_2] ∧
 (onBool (yx_13_1 != 0)
 (R (.tuple #[.slice none 0 0, .int .i64 yx_13_1, .int .i64 yx_13_2]) u12)
 (chk ((0 : Int) ≤ (n1 : Int) ∧ (n1 : Int) ≤ (n1 : Int) ∧ ((24 : Nat) : Int) * (n1 : Int) ≤ 281474976710656 ∧ (n1 : Int) ≤ 9223372036854775807)
 (nw (u12.alloc (.cells (madeCells #[.slice none 0 0] (((n1 : Int)).toNat * 1)) 45)) fun w14 =>
 nw (w14.alloc (.cells #[.slice none 0 0] 28)) fun w15 =>
 okSt w15 ((na w14).add 0) ∧
 (nw (w15.setCell ((na w14).add 0) (.slice (some (na u12)) (((n1 : Int)).toNat) (((n1 : Int)).toNat))) fun w16 =>
 Go.E.CallsD Go.Proofs.Tryd.prog 9 #[.pointer p0, .slice ya_13_0 yn_13_0 yc_13_0, .int .i64 (n1 : Int), .func (.func 11) #[] #[.pointer (some (na w14))]] w16 fun yv17 u18 =>
 yv17 = .tuple #[] ∧
 (∃ ya_20 : Option Addr, ∃ yn_20 : Nat, ∃ yc_20 : Nat, u18.cell? (na w14) = some (.slice ya_20 yn_20 yc_20) ∧
 (R (.tuple #[.slice ya_20 yn_20 yc_20, .int .i64 0, .int .i64 0]) u18))))))
def lanes_Scorer_Exits (R : Value → World → Prop) (p0 : Option Addr) (a1 : Option Addr) (n1 : Nat) (c1 : Nat) (w : World) : Prop := lanes_Scorer_Exits.g0 R p0 a1 n1 c1 w
theorem lanes_Scorer_Exits.root0 (R : Value → World → Prop) (p0 : Option Addr) (a1 : Option Addr) (n1 : Nat) (c1 : Nat) (w : World) : fnN Go.Proofs.Tryd.prog Go.Proofs.Tryd.f5 lanes_Scorer_Exits.an #[.pointer p0, .slice a1 n1 c1] w R = lanes_Scorer_Exits.g0 R p0 a1 n1 c1 w := by kernel_rfl
theorem lanes_Scorer_Exits.calls {R : Value → World → Prop} {p0 : Option Addr} {a1 : Option Addr} {n1 : Nat} {c1 : Nat} {w : World} (h : lanes_Scorer_Exits R p0 a1 n1 c1 w) : Go.E.CallsD Go.Proofs.Tryd.prog 5 #[.pointer p0, .slice a1 n1 c1] w R := by
  refine callsD_of (n := lanes_Scorer_Exits.an) M_follows M_sizes Go.Proofs.Tryd.func5 (by rfl) ?_
  rw [lanes_Scorer_Exits.root0]
  unfold lanes_Scorer_Exits at h
  exact h
-- (*thicket/lanes.Scorer).Work
def lanes_Scorer_Work.an : An := (.mk none .nil (.mk none .nil (.mk none .nil (.mk none .nil (.mk none (.mk none .nil (.mk none (.mk (some [0, 10, 28, 29, 30]) (.mk none .nil (.mk none .nil (.mk none (.mk none (.mk none .nil (.mk none .nil (.mk none (.mk (some [0, 10, 12, 28, 29, 30, 38, 39, 40]) (.mk none .nil (.mk none .nil (.mk none (.mk none (.mk none .nil (.mk none .nil (.mk none (.mk (some [0, 10, 12, 28, 29, 30, 38, 39, 40, 45, 46, 47]) .nil .nil) .nil))) .nil) .nil))) .nil) .nil))) .nil) .nil))) .nil) .nil)) .nil)))))
def lanes_Scorer_Work.g0 (R : Value → World → Prop) (e18 : (Option Addr) → Int → (Option Addr) → Nat → Nat → Int → Int → World → Prop) (p0 : Option Addr) (a1 : Option Addr) (n1 : Nat) (c1 : Nat) (w : World) : Prop :=
 Go.E.CallsD Go.Proofs.Tryd.prog 8 #[.pointer p0, .slice a1 n1 c1] w fun yv54 u55 =>
 ∃ ya_56_0 : Option Addr, ∃ yn_56_0 : Nat, ∃ yc_56_0 : Nat, ∃ yx_56_1 : Int, ∃ yx_56_2 : Int, yv54 = .tuple #[.slice ya_56_0 yn_56_0 yc_56_0, .int .i64 yx_56_1, .int .i64 yx_56_2] ∧
 (onBool (yx_56_1 != 0)
 (R (.tuple #[.int .i64 0, .int .i64 yx_56_1, .int .i64 yx_56_2]) u55)
 (e18 p0 0 ya_56_0 yn_56_0 yc_56_0 (yn_56_0 : Int) 0 u55))
def lanes_Scorer_Work.g18 (R : Value → World → Prop) (e32 : (Option Addr) → Int → (Option Addr) → Nat → Nat → (Option Addr) → Nat → Nat → Int → Int → (Option Addr) → Nat → Nat → Int → Int → World → Prop) (p0 : Option Addr) (x10 : Int) (a28 : Option Addr) (n28 : Nat) (c28 : Nat) (x29 : Int) (x30 : Int) (w : World) : Prop :=
 onBool (decide (x30 < x29))
 (optN a28 fun q57 =>
 chk ((0 : Int) ≤ x30 ∧ x30 < (n28 : Int))
 (∃ ya_58 : Option Addr, ∃ yn_58 : Nat, ∃ yc_58 : Nat, w.cell? (q57.add (x30.toNat * 1)) = some (.slice ya_58 yn_58 yc_58) ∧
 (optN p0 fun q59 =>
 ∃ ya_60 : Option Addr, ∃ yn_60 : Nat, ∃ yc_60 : Nat, w.cell? ((q59.add 0).add 3) = some (.slice ya_60 yn_60 yc_60) ∧
 (e32 p0 x10 ya_58 yn_58 yc_58 a28 n28 c28 x29 x30 ya_60 yn_60 yc_60 (yn_60 : Int) 0 w))))
 (R (.tuple #[.int .i64 x10, .int .i64 0, .int .i64 0]) w)
def lanes_Scorer_Work.g32 (R : Value → World → Prop) (b18 : (Option Addr) → Int → (Option Addr) → Nat → Nat → Int → Int → World → Prop) (e46 : (Option Addr) → Int → (Option Addr) → Nat → Nat → (Option Addr) → Nat → Nat → Int → Int → (Option Addr) → Nat → Nat → Int → Int → (Option Addr) → Nat → Nat → Int → Int → World → Prop) (p0 : Option Addr) (x10 : Int) (a12 : Option Addr) (n12 : Nat) (c12 : Nat) (a28 : Option Addr) (n28 : Nat) (c28 : Nat) (x29 : Int) (x30 : Int) (a38 : Option Addr) (n38 : Nat) (c38 : Nat) (x39 : Int) (x40 : Int) (w : World) : Prop :=
 onBool (decide (x40 < x39))
 (optN a38 fun q61 =>
 chk ((0 : Int) ≤ x40 ∧ x40 < (n38 : Int))
 (∃ yx_62 : Int, w.cell? ((q61.add (x40.toNat * 5)).add 0) = some (.int .i64 yx_62) ∧
 (∃ ya_63 : Option Addr, ∃ yn_63 : Nat, ∃ yc_63 : Nat, w.cell? ((q61.add (x40.toNat * 5)).add 1) = some (.slice ya_63 yn_63 yc_63) ∧
 (∃ ya_64 : Option Addr, ∃ yn_64 : Nat, ∃ yc_64 : Nat, w.cell? ((q61.add (x40.toNat * 5)).add 2) = some (.slice ya_64 yn_64 yc_64) ∧
 (∃ ya_65 : Option Addr, ∃ yn_65 : Nat, ∃ yc_65 : Nat, w.cell? ((q61.add (x40.toNat * 5)).add 3) = some (.slice ya_65 yn_65 yc_65) ∧
 (∃ ya_66 : Option Addr, ∃ yn_66 : Nat, ∃ yc_66 : Nat, w.cell? ((q61.add (x40.toNat * 5)).add 4) = some (.slice ya_66 yn_66 yc_66) ∧
 (nw (w.alloc (.cells #[.int .i64 0, .slice none 0 0, .slice none 0 0, .slice none 0 0, .slice none 0 0] 48)) fun w67 =>
 okSt w67 ((na w).add 0) ∧
 (nw (w67.setCell ((na w).add 0) (.int .i64 yx_62)) fun w68 =>
 okSt w68 ((na w).add 1) ∧
 (nw (w68.setCell ((na w).add 1) (.slice ya_63 yn_63 yc_63)) fun w69 =>
 okSt w69 ((na w).add 2) ∧
 (nw (w69.setCell ((na w).add 2) (.slice ya_64 yn_64 yc_64)) fun w70 =>
 okSt w70 ((na w).add 3) ∧
 (nw (w70.setCell ((na w).add 3) (.slice ya_65 yn_65 yc_65)) fun w71 =>
 okSt w71 ((na w).add 4) ∧
 (nw (w71.setCell ((na w).add 4) (.slice ya_66 yn_66 yc_66)) fun w72 =>
 ∃ ya_73 : Option Addr, ∃ yn_73 : Nat, ∃ yc_73 : Nat, w72.cell? ((na w).add 4) = some (.slice ya_73 yn_73 yc_73) ∧
 (e46 p0 x10 a12 n12 c12 a28 n28 c28 x29 x30 a38 n38 c38 x39 x40 ya_73 yn_73 yc_73 (yn_73 : Int) 0 w72)))))))))))))
 (nv (IntKind.i64.wrap (x30 + 1)) fun t74 =>
 b18 p0 x10 a28 n28 c28 x29 t74 w)
def lanes_Scorer_Work.g46 (R : Value → World → Prop) (b32 : (Option Addr) → Int → (Option Addr) → Nat → Nat → (Option Addr) → Nat → Nat → Int → Int → (Option Addr) → Nat → Nat → Int → Int → World → Prop) (b46 : (Option Addr) → Int → (Option Addr) → Nat → Nat → (Option Addr) → Nat → Nat → Int → Int → (Option Addr) → Nat → Nat → Int → Int → (Option Addr) → Nat → Nat → Int → Int → World → Prop) (p0 : Option Addr) (x10 : Int) (a12 : Option Addr) (n12 : Nat) (c12 : Nat) (a28 : Option Addr) (n28 : Nat) (c28 : Nat) (x29 : Int) (x30 : Int) (a38 : Option Addr) (n38 : Nat) (c38 : Nat) (x39 : Int) (x40 : Int) (a45 : Option Addr) (n45 : Nat) (c45 : Nat) (x46 : Int) (x47 : Int) (w : World) : Prop :=
 onBool (decide (x47 < x46))
 (optN a45 fun q75 =>
 chk ((0 : Int) ≤ x47 ∧ x47 < (n45 : Int))
 (∃ yx_76 : Int, w.cell? ((q75.add (x47.toNat * 4)).add 0) = some (.int .i64 yx_76) ∧
 (∃ ya_77 : Option Addr, ∃ yn_77 : Nat, ∃ yc_77 : Nat, w.cell? ((q75.add (x47.toNat * 4)).add 1) = some (.slice ya_77 yn_77 yc_77) ∧
 (∃ ya_78 : Option Addr, ∃ yn_78 : Nat, ∃ yc_78 : Nat, w.cell? ((q75.add (x47.toNat * 4)).add 2) = some (.slice ya_78 yn_78 yc_78) ∧
 (∃ ya_79 : Option Addr, ∃ yn_79 : Nat, ∃ yc_79 : Nat, w.cell? ((q75.add (x47.toNat * 4)).add 3) = some (.slice ya_79 yn_79 yc_79) ∧
 (nw (w.alloc (.cells #[.int .i64 0, .slice none 0 0, .slice none 0 0, .slice none 0 0] 53)) fun w80 =>
 okSt w80 ((na w).add 0) ∧
 (nw (w80.setCell ((na w).add 0) (.int .i64 yx_76)) fun w81 =>
 okSt w81 ((na w).add 1) ∧
 (nw (w81.setCell ((na w).add 1) (.slice ya_77 yn_77 yc_77)) fun w82 =>
 okSt w82 ((na w).add 2) ∧
 (nw (w82.setCell ((na w).add 2) (.slice ya_78 yn_78 yc_78)) fun w83 =>
 okSt w83 ((na w).add 3) ∧
 (nw (w83.setCell ((na w).add 3) (.slice ya_79 yn_79 yc_79)) fun w84 =>
 ∃ yx_85 : Int, w84.cell? ((na w).add 0) = some (.int .i64 yx_85) ∧
 (∃ ya_86 : Option Addr, ∃ yn_86 : Nat, ∃ yc_86 : Nat, w84.cell? ((na w).add 1) = some (.slice ya_86 yn_86 yc_86) ∧
 (∃ ya_87 : Option Addr, ∃ yn_87 : Nat, ∃ yc_87 : Nat, w84.cell? ((na w).add 2) = some (.slice ya_87 yn_87 yc_87) ∧
 (∃ ya_88 : Option Addr, ∃ yn_88 : Nat, ∃ yc_88 : Nat, w84.cell? ((na w).add 3) = some (.slice ya_88 yn_88 yc_88) ∧
 (∃ yx_89 : Int, w84.cell? ((na w).add 0) = some (.int .i64 yx_89) ∧
 (optN a12 fun q90 =>
 chk ((0 : Int) ≤ yx_89 ∧ yx_89 < (n12 : Int))
 (∃ yf_91 : Nat, w84.cell? ((q90.add (yx_89.toNat * 8)).add 0) = some (.float .f64 yf_91) ∧
 (∃ yf_92 : Nat, w84.cell? ((q90.add (yx_89.toNat * 8)).add 1) = some (.float .f64 yf_92) ∧
 (∃ yf_93 : Nat, w84.cell? ((q90.add (yx_89.toNat * 8)).add 2) = some (.float .f64 yf_93) ∧
 (∃ yf_94 : Nat, w84.cell? ((q90.add (yx_89.toNat * 8)).add 3) = some (.float .f64 yf_94) ∧
 (∃ yf_95 : Nat, w84.cell? ((q90.add (yx_89.toNat * 8)).add 4) = some (.float .f64 yf_95) ∧
 (∃ yf_96 : Nat, w84.cell? ((q90.add (yx_89.toNat * 8)).add 5) = some (.float .f64 yf_96) ∧
 (∃ yf_97 : Nat, w84.cell? ((q90.add (yx_89.toNat * 8)).add 6) = some (.float .f64 yf_97) ∧
 (∃ yf_98 : Nat, w84.cell? ((q90.add (yx_89.toNat * 8)).add 7) = some (.float .f64 yf_98) ∧
 (∃ yx_99 : Int, (∀ u100 : World, Below w84.heap.size w84 u100 → Go.E.CallsD Go.Proofs.Tryd.prog 12 #[.agg #[.int .i64 yx_85, .slice ya_86 yn_86 yc_86, .slice ya_87 yn_87 yc_87, .slice ya_88 yn_88 yc_88], .agg #[.float .f64 yf_91, .float .f64 yf_92, .float .f64 yf_93, .float .f64 yf_94, .float .f64 yf_95, .float .f64 yf_96, .float .f64 yf_97, .float .f64 yf_98]] u100 fun yv101 u102 => yv101 = .int .i64 yx_99 ∧ Below w84.heap.size w84 u102) ∧
 (nv (IntKind.i64.wrap (x10 + yx_99)) fun t103 =>
 ∀ u104 : World, Below w84.heap.size w84 u104 →
 nv (IntKind.i64.wrap (x47 + 1)) fun t105 =>
 b46 p0 t103 a12 n12 c12 a28 n28 c28 x29 x30 a38 n38 c38 x39 x40 a45 n45 c45 x46 t105 u104)))))))))))))))))))))))))
 (nv (IntKind.i64.wrap (x40 + 1)) fun t106 =>
 b32 p0 x10 a12 n12 c12 a28 n28 c28 x29 x30 a38 n38 c38 x39 t106 w)
def lanes_Scorer_Work.q2 (R : Value → World → Prop) : Exit → Act → World → Prop := (fin Go.Proofs.Tryd.prog Go.Proofs.Tryd.f6 R)
def lanes_Scorer_Work.q4 (R : Value → World → Prop) : Exit → Act → World → Prop := (lanes_Scorer_Work.q2 R)
def lanes_Scorer_Work.q12 (R : Value → World → Prop) : Exit → Act → World → Prop := (lanes_Scorer_Work.q4 R)
def lanes_Scorer_Work.q14 (R : Value → World → Prop) : Exit → Act → World → Prop := (lanes_Scorer_Work.q12 R)
def lanes_Scorer_Work.q15 (R : Value → World → Prop) : Exit → Act → World → Prop := Exit.then (startN none (codeN Go.Proofs.Tryd.prog (sub (codeOf Go.Proofs.Tryd.f6) [1, 1, 1, 1, 1]) (nsub lanes_Scorer_Work.an [1, 1, 1, 1, 1]) (lanes_Scorer_Work.q14 R))) (lanes_Scorer_Work.q14 R)
def lanes_Scorer_Work.q17 (R : Value → World → Prop) : Exit → Act → World → Prop := (lanes_Scorer_Work.q15 R)
def lanes_Scorer_Work.q18 (R : Value → World → Prop) : Exit → Act → World → Prop := Exit.inBlock 0 (lanes_Scorer_Work.q17 R)
def lanes_Scorer_Work.rl18 (R : Value → World → Prop) (k : Nat) (p0 : Option Addr) (x10 : Int) (a28 : Option Addr) (n28 : Nat) (c28 : Nat) (x29 : Int) (x30 : Int) (w : World) : Prop := loopN [0, 10, 28, 29, 30] (codeN Go.Proofs.Tryd.prog (sub (codeOf Go.Proofs.Tryd.f6) [1, 1, 1, 1, 0, 1, 0, 0]) (nsub lanes_Scorer_Work.an [1, 1, 1, 1, 0, 1, 0, 0])) (lanes_Scorer_Work.q18 R) k ⟨#[.pointer p0, undef, undef, undef, undef, undef, undef, undef, undef, undef, .int .i64 x10, undef, undef, undef, undef, undef, undef, undef, undef, undef, undef, undef, undef, undef, undef, undef, undef, undef, .slice a28 n28 c28, .int .i64 x29, .int .i64 x30, undef, undef, undef, undef, undef, undef, undef, undef, undef, undef, undef, undef, undef, undef, undef, undef, undef, undef, undef, undef, undef, undef, undef, undef, undef, undef, undef, undef, undef, undef, undef, undef, undef], []⟩ w
def lanes_Scorer_Work.re18 (R : Value → World → Prop) (p0 : Option Addr) (x10 : Int) (a28 : Option Addr) (n28 : Nat) (c28 : Nat) (x29 : Int) (x30 : Int) (w : World) : Prop := ∃ k, lanes_Scorer_Work.rl18 R k p0 x10 a28 n28 c28 x29 x30 w
def lanes_Scorer_Work.q19 (R : Value → World → Prop) (k18 : Nat) : Exit → Act → World → Prop := Exit.then (fun a w => loopN [0, 10, 28, 29, 30] (codeN Go.Proofs.Tryd.prog (sub (codeOf Go.Proofs.Tryd.f6) [1, 1, 1, 1, 0, 1, 0, 0]) (nsub lanes_Scorer_Work.an [1, 1, 1, 1, 0, 1, 0, 0])) (lanes_Scorer_Work.q18 R) k18 (clr [0, 10, 28, 29, 30] a) w) (lanes_Scorer_Work.q18 R)
def lanes_Scorer_Work.q21 (R : Value → World → Prop) (k18 : Nat) : Exit → Act → World → Prop := (lanes_Scorer_Work.q19 R k18)
def lanes_Scorer_Work.q25 (R : Value → World → Prop) (k18 : Nat) : Exit → Act → World → Prop := (lanes_Scorer_Work.q21 R k18)
def lanes_Scorer_Work.q26 (R : Value → World → Prop) (k18 : Nat) : Exit → Act → World → Prop := Exit.then (startN none (codeN Go.Proofs.Tryd.prog (sub (codeOf Go.Proofs.Tryd.f6) [1, 1, 1, 1, 0, 1, 0, 0, 1, 1, 1]) (nsub lanes_Scorer_Work.an [1, 1, 1, 1, 0, 1, 0, 0, 1, 1, 1]) (lanes_Scorer_Work.q25 R k18))) (lanes_Scorer_Work.q25 R k18)
def lanes_Scorer_Work.q27 (R : Value → World → Prop) (k18 : Nat) : Exit → Act → World → Prop := Exit.inBlock 1 (lanes_Scorer_Work.q26 R k18)
def lanes_Scorer_Work.q29 (R : Value → World → Prop) (k18 : Nat) : Exit → Act → World → Prop := (lanes_Scorer_Work.q27 R k18)
def lanes_Scorer_Work.q31 (R : Value → World → Prop) (k18 : Nat) : Exit → Act → World → Prop := (lanes_Scorer_Work.q29 R k18)
def lanes_Scorer_Work.q32 (R : Value → World → Prop) (k18 : Nat) : Exit → Act → World → Prop := Exit.inBlock 2 (lanes_Scorer_Work.q31 R k18)
def lanes_Scorer_Work.rl32 (R : Value → World → Prop) (k18 : Nat) (k : Nat) (p0 : Option Addr) (x10 : Int) (a12 : Option Addr) (n12 : Nat) (c12 : Nat) (a28 : Option Addr) (n28 : Nat) (c28 : Nat) (x29 : Int) (x30 : Int) (a38 : Option Addr) (n38 : Nat) (c38 : Nat) (x39 : Int) (x40 : Int) (w : World) : Prop := loopN [0, 10, 12, 28, 29, 30, 38, 39, 40] (codeN Go.Proofs.Tryd.prog (sub (codeOf Go.Proofs.Tryd.f6) [1, 1, 1, 1, 0, 1, 0, 0, 1, 1, 0, 0, 1, 1, 0, 0]) (nsub lanes_Scorer_Work.an [1, 1, 1, 1, 0, 1, 0, 0, 1, 1, 0, 0, 1, 1, 0, 0])) (lanes_Scorer_Work.q32 R k18) k ⟨#[.pointer p0, undef, undef, undef, undef, undef, undef, undef, undef, undef, .int .i64 x10, undef, .slice a12 n12 c12, undef, undef, undef, undef, undef, undef, undef, undef, undef, undef, undef, undef, undef, undef, undef, .slice a28 n28 c28, .int .i64 x29, .int .i64 x30, undef, undef, undef, undef, undef, undef, undef, .slice a38 n38 c38, .int .i64 x39, .int .i64 x40, undef, undef, undef, undef, undef, undef, undef, undef, undef, undef, undef, undef, undef, undef, undef, undef, undef, undef, undef, undef, undef, undef, undef], []⟩ w
def lanes_Scorer_Work.re32 (R : Value → World → Prop) (k18 : Nat) (p0 : Option Addr) (x10 : Int) (a12 : Option Addr) (n12 : Nat) (c12 : Nat) (a28 : Option Addr) (n28 : Nat) (c28 : Nat) (x29 : Int) (x30 : Int) (a38 : Option Addr) (n38 : Nat) (c38 : Nat) (x39 : Int) (x40 : Int) (w : World) : Prop := ∃ k, lanes_Scorer_Work.rl32 R k18 k p0 x10 a12 n12 c12 a28 n28 c28 x29 x30 a38 n38 c38 x39 x40 w
def lanes_Scorer_Work.q33 (R : Value → World → Prop) (k18 : Nat) (k32 : Nat) : Exit → Act → World → Prop := Exit.then (fun a w => loopN [0, 10, 12, 28, 29, 30, 38, 39, 40] (codeN Go.Proofs.Tryd.prog (sub (codeOf Go.Proofs.Tryd.f6) [1, 1, 1, 1, 0, 1, 0, 0, 1, 1, 0, 0, 1, 1, 0, 0]) (nsub lanes_Scorer_Work.an [1, 1, 1, 1, 0, 1, 0, 0, 1, 1, 0, 0, 1, 1, 0, 0])) (lanes_Scorer_Work.q32 R k18) k32 (clr [0, 10, 12, 28, 29, 30, 38, 39, 40] a) w) (lanes_Scorer_Work.q32 R k18)
def lanes_Scorer_Work.q35 (R : Value → World → Prop) (k18 : Nat) (k32 : Nat) : Exit → Act → World → Prop := (lanes_Scorer_Work.q33 R k18 k32)
def lanes_Scorer_Work.q39 (R : Value → World → Prop) (k18 : Nat) (k32 : Nat) : Exit → Act → World → Prop := (lanes_Scorer_Work.q35 R k18 k32)
def lanes_Scorer_Work.q40 (R : Value → World → Prop) (k18 : Nat) (k32 : Nat) : Exit → Act → World → Prop := Exit.then (startN none (codeN Go.Proofs.Tryd.prog (sub (codeOf Go.Proofs.Tryd.f6) [1, 1, 1, 1, 0, 1, 0, 0, 1, 1, 0, 0, 1, 1, 0, 0, 1, 1, 1]) (nsub lanes_Scorer_Work.an [1, 1, 1, 1, 0, 1, 0, 0, 1, 1, 0, 0, 1, 1, 0, 0, 1, 1, 1]) (lanes_Scorer_Work.q39 R k18 k32))) (lanes_Scorer_Work.q39 R k18 k32)
def lanes_Scorer_Work.q41 (R : Value → World → Prop) (k18 : Nat) (k32 : Nat) : Exit → Act → World → Prop := Exit.inBlock 3 (lanes_Scorer_Work.q40 R k18 k32)
def lanes_Scorer_Work.q43 (R : Value → World → Prop) (k18 : Nat) (k32 : Nat) : Exit → Act → World → Prop := (lanes_Scorer_Work.q41 R k18 k32)
def lanes_Scorer_Work.q45 (R : Value → World → Prop) (k18 : Nat) (k32 : Nat) : Exit → Act → World → Prop := (lanes_Scorer_Work.q43 R k18 k32)
def lanes_Scorer_Work.q46 (R : Value → World → Prop) (k18 : Nat) (k32 : Nat) : Exit → Act → World → Prop := Exit.inBlock 4 (lanes_Scorer_Work.q45 R k18 k32)
def lanes_Scorer_Work.rl46 (R : Value → World → Prop) (k18 : Nat) (k32 : Nat) (k : Nat) (p0 : Option Addr) (x10 : Int) (a12 : Option Addr) (n12 : Nat) (c12 : Nat) (a28 : Option Addr) (n28 : Nat) (c28 : Nat) (x29 : Int) (x30 : Int) (a38 : Option Addr) (n38 : Nat) (c38 : Nat) (x39 : Int) (x40 : Int) (a45 : Option Addr) (n45 : Nat) (c45 : Nat) (x46 : Int) (x47 : Int) (w : World) : Prop := loopN [0, 10, 12, 28, 29, 30, 38, 39, 40, 45, 46, 47] (codeN Go.Proofs.Tryd.prog (sub (codeOf Go.Proofs.Tryd.f6) [1, 1, 1, 1, 0, 1, 0, 0, 1, 1, 0, 0, 1, 1, 0, 0, 1, 1, 0, 0, 1, 1, 0, 0]) (nsub lanes_Scorer_Work.an [1, 1, 1, 1, 0, 1, 0, 0, 1, 1, 0, 0, 1, 1, 0, 0, 1, 1, 0, 0, 1, 1, 0, 0])) (lanes_Scorer_Work.q46 R k18 k32) k ⟨#[.pointer p0, undef, undef, undef, undef, undef, undef, undef, undef, undef, .int .i64 x10, undef, .slice a12 n12 c12, undef, undef, undef, undef, undef, undef, undef, undef, undef, undef, undef, undef, undef, undef, undef, .slice a28 n28 c28, .int .i64 x29, .int .i64 x30, undef, undef, undef, undef, undef, undef, undef, .slice a38 n38 c38, .int .i64 x39, .int .i64 x40, undef, undef, undef, undef, .slice a45 n45 c45, .int .i64 x46, .int .i64 x47, undef, undef, undef, undef, undef, undef, undef, undef, undef, undef, undef, undef, undef, undef, undef, undef], []⟩ w
def lanes_Scorer_Work.re46 (R : Value → World → Prop) (k18 : Nat) (k32 : Nat) (p0 : Option Addr) (x10 : Int) (a12 : Option Addr) (n12 : Nat) (c12 : Nat) (a28 : Option Addr) (n28 : Nat) (c28 : Nat) (x29 : Int) (x30 : Int) (a38 : Option Addr) (n38 : Nat) (c38 : Nat) (x39 : Int) (x40 : Int) (a45 : Option Addr) (n45 : Nat) (c45 : Nat) (x46 : Int) (x47 : Int) (w : World) : Prop := ∃ k, lanes_Scorer_Work.rl46 R k18 k32 k p0 x10 a12 n12 c12 a28 n28 c28 x29 x30 a38 n38 c38 x39 x40 a45 n45 c45 x46 x47 w
def lanes_Scorer_Work.l46 (R : Value → World → Prop) (b18 : (Option Addr) → Int → (Option Addr) → Nat → Nat → Int → Int → World → Prop) (b32 : (Option Addr) → Int → (Option Addr) → Nat → Nat → (Option Addr) → Nat → Nat → Int → Int → (Option Addr) → Nat → Nat → Int → Int → World → Prop) : Nat → (Option Addr) → Int → (Option Addr) → Nat → Nat → (Option Addr) → Nat → Nat → Int → Int → (Option Addr) → Nat → Nat → Int → Int → (Option Addr) → Nat → Nat → Int → Int → World → Prop
  | 0, _, _, _, _, _, _, _, _, _, _, _, _, _, _, _, _, _, _, _, _, _ => False
  | k + 1, p0, x10, a12, n12, c12, a28, n28, c28, x29, x30, a38, n38, c38, x39, x40, a45, n45, c45, x46, x47, w => lanes_Scorer_Work.g46 R b32 (lanes_Scorer_Work.l46 R b18 b32 k) p0 x10 a12 n12 c12 a28 n28 c28 x29 x30 a38 n38 c38 x39 x40 a45 n45 c45 x46 x47 w
def lanes_Scorer_Work.e46 (R : Value → World → Prop) (b18 : (Option Addr) → Int → (Option Addr) → Nat → Nat → Int → Int → World → Prop) (b32 : (Option Addr) → Int → (Option Addr) → Nat → Nat → (Option Addr) → Nat → Nat → Int → Int → (Option Addr) → Nat → Nat → Int → Int → World → Prop) (p0 : Option Addr) (x10 : Int) (a12 : Option Addr) (n12 : Nat) (c12 : Nat) (a28 : Option Addr) (n28 : Nat) (c28 : Nat) (x29 : Int) (x30 : Int) (a38 : Option Addr) (n38 : Nat) (c38 : Nat) (x39 : Int) (x40 : Int) (a45 : Option Addr) (n45 : Nat) (c45 : Nat) (x46 : Int) (x47 : Int) (w : World) : Prop := ∃ k, lanes_Scorer_Work.l46 R b18 b32 k p0 x10 a12 n12 c12 a28 n28 c28 x29 x30 a38 n38 c38 x39 x40 a45 n45 c45 x46 x47 w
theorem lanes_Scorer_Work.s46 (R : Value → World → Prop) (k18 : Nat) (k32 : Nat) (k : Nat) (p0 : Option Addr) (x10 : Int) (a12 : Option Addr) (n12 : Nat) (c12 : Nat) (a28 : Option Addr) (n28 : Nat) (c28 : Nat) (x29 : Int) (x30 : Int) (a38 : Option Addr) (n38 : Nat) (c38 : Nat) (x39 : Int) (x40 : Int) (a45 : Option Addr) (n45 : Nat) (c45 : Nat) (x46 : Int) (x47 : Int) (w : World) : lanes_Scorer_Work.rl46 R k18 k32 (k + 1) p0 x10 a12 n12 c12 a28 n28 c28 x29 x30 a38 n38 c38 x39 x40 a45 n45 c45 x46 x47 w = ∀ _ : Nat → Value, lanes_Scorer_Work.g46 R (lanes_Scorer_Work.rl32 R k18 k32) (lanes_Scorer_Work.rl46 R k18 k32 k) p0 x10 a12 n12 c12 a28 n28 c28 x29 x30 a38 n38 c38 x39 x40 a45 n45 c45 x46 x47 w := by kernel_rfl
theorem lanes_Scorer_Work.lq46 (R : Value → World → Prop) (k18 : Nat) (k32 : Nat) (b18 : (Option Addr) → Int → (Option Addr) → Nat → Nat → Int → Int → World → Prop) (b32 : (Option Addr) → Int → (Option Addr) → Nat → Nat → (Option Addr) → Nat → Nat → Int → Int → (Option Addr) → Nat → Nat → Int → Int → World → Prop) (hb18 : b18 = lanes_Scorer_Work.rl18 R k18) (hb32 : b32 = lanes_Scorer_Work.rl32 R k18 k32) : ∀ k, lanes_Scorer_Work.l46 R b18 b32 k = lanes_Scorer_Work.rl46 R k18 k32 k
  | 0 => by funext p0 x10 a12 n12 c12 a28 n28 c28 x29 x30 a38 n38 c38 x39 x40 a45 n45 c45 x46 x47 w; first | rfl | kernel_rfl
  | k + 1 => by
    funext p0 x10 a12 n12 c12 a28 n28 c28 x29 x30 a38 n38 c38 x39 x40 a45 n45 c45 x46 x47 w
    rw [lanes_Scorer_Work.s46, forall_const]
    unfold lanes_Scorer_Work.l46
    have ih := lanes_Scorer_Work.lq46 R k18 k32 b18 b32 hb18 hb32 k
    subst hb18
    subst hb32
    rw [ih]
    all_goals rfl
theorem lanes_Scorer_Work.eq46 (R : Value → World → Prop) (k18 : Nat) (k32 : Nat) (b18 : (Option Addr) → Int → (Option Addr) → Nat → Nat → Int → Int → World → Prop) (b32 : (Option Addr) → Int → (Option Addr) → Nat → Nat → (Option Addr) → Nat → Nat → Int → Int → (Option Addr) → Nat → Nat → Int → Int → World → Prop) (hb18 : b18 = lanes_Scorer_Work.rl18 R k18) (hb32 : b32 = lanes_Scorer_Work.rl32 R k18 k32) : lanes_Scorer_Work.e46 R b18 b32 = lanes_Scorer_Work.re46 R k18 k32 := by
  funext p0 x10 a12 n12 c12 a28 n28 c28 x29 x30 a38 n38 c38 x39 x40 a45 n45 c45 x46 x47 w
  unfold lanes_Scorer_Work.e46 lanes_Scorer_Work.re46
  simp only [lanes_Scorer_Work.lq46 R k18 k32 b18 b32 hb18 hb32]
def lanes_Scorer_Work.l32 (R : Value → World → Prop) (b18 : (Option Addr) → Int → (Option Addr) → Nat → Nat → Int → Int → World → Prop) : Nat → (Option Addr) → Int → (Option Addr) → Nat → Nat → (Option Addr) → Nat → Nat → Int → Int → (Option Addr) → Nat → Nat → Int → Int → World → Prop
  | 0, _, _, _, _, _, _, _, _, _, _, _, _, _, _, _, _ => False
  | k + 1, p0, x10, a12, n12, c12, a28, n28, c28, x29, x30, a38, n38, c38, x39, x40, w => lanes_Scorer_Work.g32 R b18 (lanes_Scorer_Work.e46 R b18 (lanes_Scorer_Work.l32 R b18 k)) p0 x10 a12 n12 c12 a28 n28 c28 x29 x30 a38 n38 c38 x39 x40 w
def lanes_Scorer_Work.e32 (R : Value → World → Prop) (b18 : (Option Addr) → Int → (Option Addr) → Nat → Nat → Int → Int → World → Prop) (p0 : Option Addr) (x10 : Int) (a12 : Option Addr) (n12 : Nat) (c12 : Nat) (a28 : Option Addr) (n28 : Nat) (c28 : Nat) (x29 : Int) (x30 : Int) (a38 : Option Addr) (n38 : Nat) (c38 : Nat) (x39 : Int) (x40 : Int) (w : World) : Prop := ∃ k, lanes_Scorer_Work.l32 R b18 k p0 x10 a12 n12 c12 a28 n28 c28 x29 x30 a38 n38 c38 x39 x40 w
theorem lanes_Scorer_Work.s32 (R : Value → World → Prop) (k18 : Nat) (k : Nat) (p0 : Option Addr) (x10 : Int) (a12 : Option Addr) (n12 : Nat) (c12 : Nat) (a28 : Option Addr) (n28 : Nat) (c28 : Nat) (x29 : Int) (x30 : Int) (a38 : Option Addr) (n38 : Nat) (c38 : Nat) (x39 : Int) (x40 : Int) (w : World) : lanes_Scorer_Work.rl32 R k18 (k + 1) p0 x10 a12 n12 c12 a28 n28 c28 x29 x30 a38 n38 c38 x39 x40 w = ∀ _ : Nat → Value, lanes_Scorer_Work.g32 R (lanes_Scorer_Work.rl18 R k18) (lanes_Scorer_Work.re46 R k18 k) p0 x10 a12 n12 c12 a28 n28 c28 x29 x30 a38 n38 c38 x39 x40 w := by kernel_rfl
theorem lanes_Scorer_Work.lq32 (R : Value → World → Prop) (k18 : Nat) (b18 : (Option Addr) → Int → (Option Addr) → Nat → Nat → Int → Int → World → Prop) (hb18 : b18 = lanes_Scorer_Work.rl18 R k18) : ∀ k, lanes_Scorer_Work.l32 R b18 k = lanes_Scorer_Work.rl32 R k18 k
  | 0 => by funext p0 x10 a12 n12 c12 a28 n28 c28 x29 x30 a38 n38 c38 x39 x40 w; first | rfl | kernel_rfl
  | k + 1 => by
    funext p0 x10 a12 n12 c12 a28 n28 c28 x29 x30 a38 n38 c38 x39 x40 w
    rw [lanes_Scorer_Work.s32, forall_const]
    unfold lanes_Scorer_Work.l32
    have ih := lanes_Scorer_Work.lq32 R k18 b18 hb18 k
    subst hb18
    rw [lanes_Scorer_Work.eq46 R k18 k _ _ rfl ih]
    all_goals rfl
theorem lanes_Scorer_Work.eq32 (R : Value → World → Prop) (k18 : Nat) (b18 : (Option Addr) → Int → (Option Addr) → Nat → Nat → Int → Int → World → Prop) (hb18 : b18 = lanes_Scorer_Work.rl18 R k18) : lanes_Scorer_Work.e32 R b18 = lanes_Scorer_Work.re32 R k18 := by
  funext p0 x10 a12 n12 c12 a28 n28 c28 x29 x30 a38 n38 c38 x39 x40 w
  unfold lanes_Scorer_Work.e32 lanes_Scorer_Work.re32
  simp only [lanes_Scorer_Work.lq32 R k18 b18 hb18]
def lanes_Scorer_Work.l18 (R : Value → World → Prop) : Nat → (Option Addr) → Int → (Option Addr) → Nat → Nat → Int → Int → World → Prop
  | 0, _, _, _, _, _, _, _, _ => False
  | k + 1, p0, x10, a28, n28, c28, x29, x30, w => lanes_Scorer_Work.g18 R (lanes_Scorer_Work.e32 R (lanes_Scorer_Work.l18 R k)) p0 x10 a28 n28 c28 x29 x30 w
def lanes_Scorer_Work.e18 (R : Value → World → Prop) (p0 : Option Addr) (x10 : Int) (a28 : Option Addr) (n28 : Nat) (c28 : Nat) (x29 : Int) (x30 : Int) (w : World) : Prop := ∃ k, lanes_Scorer_Work.l18 R k p0 x10 a28 n28 c28 x29 x30 w
theorem lanes_Scorer_Work.s18 (R : Value → World → Prop) (k : Nat) (p0 : Option Addr) (x10 : Int) (a28 : Option Addr) (n28 : Nat) (c28 : Nat) (x29 : Int) (x30 : Int) (w : World) : lanes_Scorer_Work.rl18 R (k + 1) p0 x10 a28 n28 c28 x29 x30 w = ∀ _ : Nat → Value, lanes_Scorer_Work.g18 R (lanes_Scorer_Work.re32 R k) p0 x10 a28 n28 c28 x29 x30 w := by kernel_rfl
theorem lanes_Scorer_Work.lq18 (R : Value → World → Prop) : ∀ k, lanes_Scorer_Work.l18 R k = lanes_Scorer_Work.rl18 R k
  | 0 => by funext p0 x10 a28 n28 c28 x29 x30 w; first | rfl | kernel_rfl
  | k + 1 => by
    funext p0 x10 a28 n28 c28 x29 x30 w
    rw [lanes_Scorer_Work.s18, forall_const]
    unfold lanes_Scorer_Work.l18
    have ih := lanes_Scorer_Work.lq18 R k
    rw [lanes_Scorer_Work.eq32 R k _ ih]
    all_goals rfl
theorem lanes_Scorer_Work.eq18 (R : Value → World → Prop) : lanes_Scorer_Work.e18 R = lanes_Scorer_Work.re18 R := by
  funext p0 x10 a28 n28 c28 x29 x30 w
  unfold lanes_Scorer_Work.e18 lanes_Scorer_Work.re18
  simp only [lanes_Scorer_Work.lq18 R]
def lanes_Scorer_Work (R : Value → World → Prop) (p0 : Option Addr) (a1 : Option Addr) (n1 : Nat) (c1 : Nat) (w : World) : Prop := lanes_Scorer_Work.g0 R (lanes_Scorer_Work.e18 R) p0 a1 n1 c1 w
theorem lanes_Scorer_Work.root0 (R : Value → World → Prop) (p0 : Option Addr) (a1 : Option Addr) (n1 : Nat) (c1 : Nat) (w : World) : fnN Go.Proofs.Tryd.prog Go.Proofs.Tryd.f6 lanes_Scorer_Work.an #[.pointer p0, .slice a1 n1 c1] w R = lanes_Scorer_Work.g0 R (lanes_Scorer_Work.re18 R) p0 a1 n1 c1 w := by kernel_rfl
theorem lanes_Scorer_Work.calls {R : Value → World → Prop} {p0 : Option Addr} {a1 : Option Addr} {n1 : Nat} {c1 : Nat} {w : World} (h : lanes_Scorer_Work R p0 a1 n1 c1 w) : Go.E.CallsD Go.Proofs.Tryd.prog 6 #[.pointer p0, .slice a1 n1 c1] w R := by
  refine callsD_of (n := lanes_Scorer_Work.an) M_follows M_sizes Go.Proofs.Tryd.func6 (by rfl) ?_
  rw [lanes_Scorer_Work.root0]
  unfold lanes_Scorer_Work at h
  rw [lanes_Scorer_Work.eq18 R] at h
  exact h
-- thicket/thicketlaw18.begins
def thicketlaw18_begins.an : An := An.nil
def thicketlaw18_begins.g0 (R : Value → World → Prop) (w : World) : Prop :=
 nw (w.alloc (.cells #[.float .f64 4607182418800017408, .float .f64 4611686018427387904] 55)) fun w64 =>
 nw (w64.alloc (.cells #[.float .f64 4613937818241073152, .float .f64 4616189618054758400] 55)) fun w65 =>
 nw (w65.alloc (.cells #[.slice (some (na w)) 2 2, .slice (some (na w64)) 2 2] 60)) fun w66 =>
 Go.E.CallsD Go.Proofs.Tryd.prog 13 #[.slice (some (na w65)) 2 2, .int .i64 2] w66 fun yv67 u68 =>
 ∃ ya_69_0 : Option Addr, ∃ yn_69_0 : Nat, ∃ yc_69_0 : Nat, ∃ yx_69_1 : Int, yv67 = .tuple #[.slice ya_69_0 yn_69_0 yc_69_0, .int .i64 yx_69_1] ∧
 (nw (u68.alloc (.cells #[.float .f64 0, .float .f64 0, .float .f64 0, .float .f64 0, .float .f64 0, .float .f64 0, .float .f64 0, .float .f64 0] 57)) fun w70 =>
 okSt w70 ((na u68).add 0) ∧
 (nw (w70.setCell ((na u68).add 0) (.float .f64 4607182418800017408)) fun w71 =>
 okSt w71 ((na u68).add 1) ∧
 (nw (w71.setCell ((na u68).add 1) (.float .f64 4611686018427387904)) fun w72 =>
 okSt w72 ((na u68).add 2) ∧
 (nw (w72.setCell ((na u68).add 2) (.float .f64 4613937818241073152)) fun w73 =>
 okSt w73 ((na u68).add 3) ∧
 (nw (w73.setCell ((na u68).add 3) (.float .f64 4616189618054758400)) fun w74 =>
 okSt w74 ((na u68).add 4) ∧
 (nw (w74.setCell ((na u68).add 4) (.float .f64 4617315517961601024)) fun w75 =>
 okSt w75 ((na u68).add 5) ∧
 (nw (w75.setCell ((na u68).add 5) (.float .f64 4618441417868443648)) fun w76 =>
 okSt w76 ((na u68).add 6) ∧
 (nw (w76.setCell ((na u68).add 6) (.float .f64 4619567317775286272)) fun w77 =>
 okSt w77 ((na u68).add 7) ∧
 (nw (w77.setCell ((na u68).add 7) (.float .f64 4620693217682128896)) fun w78 =>
 onBool (yx_69_1 == 0)
 (onBool ((yn_69_0 : Int) == 1)
 (optN ya_69_0 fun q79 =>
 chk ((0 : Int) ≤ 0 ∧ 0 < (yn_69_0 : Int))
 (∃ ya_80 : Option Addr, ∃ yn_80 : Nat, ∃ yc_80 : Nat, w78.cell? (q79.add 0) = some (.slice ya_80 yn_80 yc_80) ∧
 (onBool ((yn_80 : Int) == 2)
 (optN ya_69_0 fun q81 =>
 chk ((0 : Int) ≤ 0 ∧ 0 < (yn_69_0 : Int))
 (∃ ya_82 : Option Addr, ∃ yn_82 : Nat, ∃ yc_82 : Nat, w78.cell? (q81.add 0) = some (.slice ya_82 yn_82 yc_82) ∧
 (optN ya_82 fun q83 =>
 chk ((0 : Int) ≤ 0 ∧ 0 < (yn_82 : Int))
 (∃ yf_84 : Nat, w78.cell? ((q83.add 0).add 0) = some (.float .f64 yf_84) ∧
 (∃ yf_85 : Nat, w78.cell? ((q83.add 0).add 1) = some (.float .f64 yf_85) ∧
 (∃ yf_86 : Nat, w78.cell? ((q83.add 0).add 2) = some (.float .f64 yf_86) ∧
 (∃ yf_87 : Nat, w78.cell? ((q83.add 0).add 3) = some (.float .f64 yf_87) ∧
 (∃ yf_88 : Nat, w78.cell? ((q83.add 0).add 4) = some (.float .f64 yf_88) ∧
 (∃ yf_89 : Nat, w78.cell? ((q83.add 0).add 5) = some (.float .f64 yf_89) ∧
 (∃ yf_90 : Nat, w78.cell? ((q83.add 0).add 6) = some (.float .f64 yf_90) ∧
 (∃ yf_91 : Nat, w78.cell? ((q83.add 0).add 7) = some (.float .f64 yf_91) ∧
 (∃ eb92 : Bool, (∀ w, (Op.equal 57 (.agg #[.float .f64 yf_84, .float .f64 yf_85, .float .f64 yf_86, .float .f64 yf_87, .float .f64 yf_88, .float .f64 yf_89, .float .f64 yf_90, .float .f64 yf_91]) (.agg #[.float .f64 4607182418800017408, .float .f64 4613937818241073152, .float .f64 4613937818241073152, .float .f64 4613937818241073152, .float .f64 4613937818241073152, .float .f64 4613937818241073152, .float .f64 4613937818241073152, .float .f64 4613937818241073152])).run Go.Proofs.Tryd.prog w = .ok eb92 w) ∧
 (onBool eb92
 (∃ yf_93 : Nat, w78.cell? ((na u68).add 0) = some (.float .f64 yf_93) ∧
 (∃ yf_94 : Nat, w78.cell? ((na u68).add 1) = some (.float .f64 yf_94) ∧
 (∃ yf_95 : Nat, w78.cell? ((na u68).add 2) = some (.float .f64 yf_95) ∧
 (∃ yf_96 : Nat, w78.cell? ((na u68).add 3) = some (.float .f64 yf_96) ∧
 (∃ yf_97 : Nat, w78.cell? ((na u68).add 4) = some (.float .f64 yf_97) ∧
 (∃ yf_98 : Nat, w78.cell? ((na u68).add 5) = some (.float .f64 yf_98) ∧
 (∃ yf_99 : Nat, w78.cell? ((na u68).add 6) = some (.float .f64 yf_99) ∧
 (∃ yf_100 : Nat, w78.cell? ((na u68).add 7) = some (.float .f64 yf_100) ∧
 (Go.E.CallsD Go.Proofs.Tryd.prog 14 #[.agg #[.float .f64 yf_93, .float .f64 yf_94, .float .f64 yf_95, .float .f64 yf_96, .float .f64 yf_97, .float .f64 yf_98, .float .f64 yf_99, .float .f64 yf_100], .float .f64 4618441417868443648] w78 fun yv101 u102 =>
 ∃ yx_103 : Int, yv101 = .int .u8 yx_103 ∧
 (onBool (yx_103 == 192)
 (∃ yf_104 : Nat, u102.cell? ((na u68).add 0) = some (.float .f64 yf_104) ∧
 (∃ yf_105 : Nat, u102.cell? ((na u68).add 1) = some (.float .f64 yf_105) ∧
 (∃ yf_106 : Nat, u102.cell? ((na u68).add 2) = some (.float .f64 yf_106) ∧
 (∃ yf_107 : Nat, u102.cell? ((na u68).add 3) = some (.float .f64 yf_107) ∧
 (∃ yf_108 : Nat, u102.cell? ((na u68).add 4) = some (.float .f64 yf_108) ∧
 (∃ yf_109 : Nat, u102.cell? ((na u68).add 5) = some (.float .f64 yf_109) ∧
 (∃ yf_110 : Nat, u102.cell? ((na u68).add 6) = some (.float .f64 yf_110) ∧
 (∃ yf_111 : Nat, u102.cell? ((na u68).add 7) = some (.float .f64 yf_111) ∧
 (nw (u102.alloc (.cells #[.int .i64 1, .int .i64 3] 3)) fun w112 =>
 Go.E.CallsD Go.Proofs.Tryd.prog 15 #[.agg #[.float .f64 yf_104, .float .f64 yf_105, .float .f64 yf_106, .float .f64 yf_107, .float .f64 yf_108, .float .f64 yf_109, .float .f64 yf_110, .float .f64 yf_111], .slice (some (na u102)) 2 2] w112 fun yv113 u114 =>
 ∃ yx_115 : Int, yv113 = .int .u8 yx_115 ∧
 (onBool (yx_115 == 250)
 (∃ yf_116 : Nat, u114.cell? ((na u68).add 0) = some (.float .f64 yf_116) ∧
 (∃ yf_117 : Nat, u114.cell? ((na u68).add 1) = some (.float .f64 yf_117) ∧
 (∃ yf_118 : Nat, u114.cell? ((na u68).add 2) = some (.float .f64 yf_118) ∧
 (∃ yf_119 : Nat, u114.cell? ((na u68).add 3) = some (.float .f64 yf_119) ∧
 (∃ yf_120 : Nat, u114.cell? ((na u68).add 4) = some (.float .f64 yf_120) ∧
 (∃ yf_121 : Nat, u114.cell? ((na u68).add 5) = some (.float .f64 yf_121) ∧
 (∃ yf_122 : Nat, u114.cell? ((na u68).add 6) = some (.float .f64 yf_122) ∧
 (∃ yf_123 : Nat, u114.cell? ((na u68).add 7) = some (.float .f64 yf_123) ∧
 (Go.E.CallsD Go.Proofs.Tryd.prog 16 #[.agg #[.float .f64 yf_116, .float .f64 yf_117, .float .f64 yf_118, .float .f64 yf_119, .float .f64 yf_120, .float .f64 yf_121, .float .f64 yf_122, .float .f64 yf_123]] u114 fun yv124 u125 =>
 ∃ yx_126 : Int, yv124 = .int .u8 yx_126 ∧
 (R (.bool (yx_126 == 0)) u125))))))))))
 (R (.bool false) u114)))))))))))
 (R (.bool false) u102)))))))))))
 (R (.bool false) w78))))))))))))))
 (R (.bool false) w78))))
 (R (.bool false) w78))
 (R (.bool false) w78))))))))))
def thicketlaw18_begins (R : Value → World → Prop) (w : World) : Prop := thicketlaw18_begins.g0 R  w
theorem thicketlaw18_begins.root0 (R : Value → World → Prop) (w : World) : fnN Go.Proofs.Tryd.prog Go.Proofs.Tryd.f7 thicketlaw18_begins.an #[] w R = thicketlaw18_begins.g0 R  w := by kernel_rfl
theorem thicketlaw18_begins.calls {R : Value → World → Prop} {w : World} (h : thicketlaw18_begins R  w) : Go.E.CallsD Go.Proofs.Tryd.prog 7 #[] w R := by
  refine callsD_of (n := thicketlaw18_begins.an) M_follows M_sizes Go.Proofs.Tryd.func7 (by rfl) ?_
  rw [thicketlaw18_begins.root0]
  unfold thicketlaw18_begins at h
  exact h
-- (*thicket/lanes.Scorer).asked
def lanes_Scorer_asked.an : An := (.mk none .nil (.mk none .nil (.mk none (.mk none .nil (.mk none (.mk (some [0, 1, 13, 14, 15]) .nil .nil) .nil)) .nil)))
def lanes_Scorer_asked.g0 (R : Value → World → Prop) (e14 : (Option Addr) → (Option Addr) → Nat → Nat → (Option Addr) → Nat → Nat → Int → Int → World → Prop) (p0 : Option Addr) (a1 : Option Addr) (n1 : Nat) (c1 : Nat) (w : World) : Prop :=
 onBool p0.isNone
 (R (.tuple #[.slice none 0 0, .int .i64 1, .int .i64 0]) w)
 (e14 p0 a1 n1 c1 a1 n1 c1 (n1 : Int) 0 w)
def lanes_Scorer_asked.g14 (R : Value → World → Prop) (b14 : (Option Addr) → (Option Addr) → Nat → Nat → (Option Addr) → Nat → Nat → Int → Int → World → Prop) (p0 : Option Addr) (a1 : Option Addr) (n1 : Nat) (c1 : Nat) (a13 : Option Addr) (n13 : Nat) (c13 : Nat) (x14 : Int) (x15 : Int) (w : World) : Prop :=
 onBool (decide (x15 < x14))
 (optN a13 fun q11 =>
 chk ((0 : Int) ≤ x15 ∧ x15 < (n13 : Int))
 (∃ ya_12 : Option Addr, ∃ yn_12 : Nat, ∃ yc_12 : Nat, w.cell? (q11.add (x15.toNat * 1)) = some (.slice ya_12 yn_12 yc_12) ∧
 (optN p0 fun q13 =>
 ∃ yx_14 : Int, w.cell? ((q13.add 0).add 0) = some (.int .i64 yx_14) ∧
 (onBool ((yn_12 : Int) != yx_14)
 (R (.tuple #[.slice none 0 0, .int .i64 72, .int .i64 x15]) w)
 (nv (IntKind.i64.wrap (x15 + 1)) fun t15 =>
 b14 p0 a1 n1 c1 a13 n13 c13 x14 t15 w)))))
 (optN p0 fun q16 =>
 ∃ yx_17 : Int, w.cell? ((q16.add 0).add 0) = some (.int .i64 yx_17) ∧
 (Go.E.CallsD Go.Proofs.Tryd.prog 13 #[.slice a1 n1 c1, .int .i64 yx_17] w fun yv18 u19 =>
 ∃ ya_20_0 : Option Addr, ∃ yn_20_0 : Nat, ∃ yc_20_0 : Nat, ∃ yx_20_1 : Int, yv18 = .tuple #[.slice ya_20_0 yn_20_0 yc_20_0, .int .i64 yx_20_1] ∧
 (R (.tuple #[.slice ya_20_0 yn_20_0 yc_20_0, .int .i64 yx_20_1, .int .i64 0]) u19)))
def lanes_Scorer_asked.q2 (R : Value → World → Prop) : Exit → Act → World → Prop := (fin Go.Proofs.Tryd.prog Go.Proofs.Tryd.f8 R)
def lanes_Scorer_asked.q10 (R : Value → World → Prop) : Exit → Act → World → Prop := (lanes_Scorer_asked.q2 R)
def lanes_Scorer_asked.q11 (R : Value → World → Prop) : Exit → Act → World → Prop := Exit.then (startN none (codeN Go.Proofs.Tryd.prog (sub (codeOf Go.Proofs.Tryd.f8) [1, 1, 1]) (nsub lanes_Scorer_asked.an [1, 1, 1]) (lanes_Scorer_asked.q10 R))) (lanes_Scorer_asked.q10 R)
def lanes_Scorer_asked.q13 (R : Value → World → Prop) : Exit → Act → World → Prop := (lanes_Scorer_asked.q11 R)
def lanes_Scorer_asked.q14 (R : Value → World → Prop) : Exit → Act → World → Prop := Exit.inBlock 0 (lanes_Scorer_asked.q13 R)
def lanes_Scorer_asked.rl14 (R : Value → World → Prop) (k : Nat) (p0 : Option Addr) (a1 : Option Addr) (n1 : Nat) (c1 : Nat) (a13 : Option Addr) (n13 : Nat) (c13 : Nat) (x14 : Int) (x15 : Int) (w : World) : Prop := loopN [0, 1, 13, 14, 15] (codeN Go.Proofs.Tryd.prog (sub (codeOf Go.Proofs.Tryd.f8) [1, 1, 0, 1, 0, 0]) (nsub lanes_Scorer_asked.an [1, 1, 0, 1, 0, 0])) (lanes_Scorer_asked.q14 R) k ⟨#[.pointer p0, .slice a1 n1 c1, undef, undef, undef, undef, undef, undef, undef, undef, undef, undef, undef, .slice a13 n13 c13, .int .i64 x14, .int .i64 x15, undef, undef, undef, undef, undef, undef, undef, undef, undef, undef, undef, undef, undef, undef, undef, undef, undef, undef, undef, undef, undef, undef, undef, undef, undef, undef], []⟩ w
def lanes_Scorer_asked.re14 (R : Value → World → Prop) (p0 : Option Addr) (a1 : Option Addr) (n1 : Nat) (c1 : Nat) (a13 : Option Addr) (n13 : Nat) (c13 : Nat) (x14 : Int) (x15 : Int) (w : World) : Prop := ∃ k, lanes_Scorer_asked.rl14 R k p0 a1 n1 c1 a13 n13 c13 x14 x15 w
def lanes_Scorer_asked.l14 (R : Value → World → Prop) : Nat → (Option Addr) → (Option Addr) → Nat → Nat → (Option Addr) → Nat → Nat → Int → Int → World → Prop
  | 0, _, _, _, _, _, _, _, _, _, _ => False
  | k + 1, p0, a1, n1, c1, a13, n13, c13, x14, x15, w => lanes_Scorer_asked.g14 R (lanes_Scorer_asked.l14 R k) p0 a1 n1 c1 a13 n13 c13 x14 x15 w
def lanes_Scorer_asked.e14 (R : Value → World → Prop) (p0 : Option Addr) (a1 : Option Addr) (n1 : Nat) (c1 : Nat) (a13 : Option Addr) (n13 : Nat) (c13 : Nat) (x14 : Int) (x15 : Int) (w : World) : Prop := ∃ k, lanes_Scorer_asked.l14 R k p0 a1 n1 c1 a13 n13 c13 x14 x15 w
theorem lanes_Scorer_asked.s14 (R : Value → World → Prop) (k : Nat) (p0 : Option Addr) (a1 : Option Addr) (n1 : Nat) (c1 : Nat) (a13 : Option Addr) (n13 : Nat) (c13 : Nat) (x14 : Int) (x15 : Int) (w : World) : lanes_Scorer_asked.rl14 R (k + 1) p0 a1 n1 c1 a13 n13 c13 x14 x15 w = ∀ _ : Nat → Value, lanes_Scorer_asked.g14 R (lanes_Scorer_asked.rl14 R k) p0 a1 n1 c1 a13 n13 c13 x14 x15 w := by kernel_rfl
theorem lanes_Scorer_asked.lq14 (R : Value → World → Prop) : ∀ k, lanes_Scorer_asked.l14 R k = lanes_Scorer_asked.rl14 R k
  | 0 => by funext p0 a1 n1 c1 a13 n13 c13 x14 x15 w; first | rfl | kernel_rfl
  | k + 1 => by
    funext p0 a1 n1 c1 a13 n13 c13 x14 x15 w
    rw [lanes_Scorer_asked.s14, forall_const]
    unfold lanes_Scorer_asked.l14
    have ih := lanes_Scorer_asked.lq14 R k
    rw [ih]
    all_goals rfl
theorem lanes_Scorer_asked.eq14 (R : Value → World → Prop) : lanes_Scorer_asked.e14 R = lanes_Scorer_asked.re14 R := by
  funext p0 a1 n1 c1 a13 n13 c13 x14 x15 w
  unfold lanes_Scorer_asked.e14 lanes_Scorer_asked.re14
  simp only [lanes_Scorer_asked.lq14 R]
def lanes_Scorer_asked (R : Value → World → Prop) (p0 : Option Addr) (a1 : Option Addr) (n1 : Nat) (c1 : Nat) (w : World) : Prop := lanes_Scorer_asked.g0 R (lanes_Scorer_asked.e14 R) p0 a1 n1 c1 w
theorem lanes_Scorer_asked.root0 (R : Value → World → Prop) (p0 : Option Addr) (a1 : Option Addr) (n1 : Nat) (c1 : Nat) (w : World) : fnN Go.Proofs.Tryd.prog Go.Proofs.Tryd.f8 lanes_Scorer_asked.an #[.pointer p0, .slice a1 n1 c1] w R = lanes_Scorer_asked.g0 R (lanes_Scorer_asked.re14 R) p0 a1 n1 c1 w := by kernel_rfl
theorem lanes_Scorer_asked.calls {R : Value → World → Prop} {p0 : Option Addr} {a1 : Option Addr} {n1 : Nat} {c1 : Nat} {w : World} (h : lanes_Scorer_asked R p0 a1 n1 c1 w) : Go.E.CallsD Go.Proofs.Tryd.prog 8 #[.pointer p0, .slice a1 n1 c1] w R := by
  refine callsD_of (n := lanes_Scorer_asked.an) M_follows M_sizes Go.Proofs.Tryd.func8 (by rfl) ?_
  rw [lanes_Scorer_asked.root0]
  unfold lanes_Scorer_asked at h
  rw [lanes_Scorer_asked.eq14 R] at h
  exact h
-- (*thicket/lanes.Scorer).each
-- (*thicket/lanes.Scorer).Score$1
end Go.Mir
