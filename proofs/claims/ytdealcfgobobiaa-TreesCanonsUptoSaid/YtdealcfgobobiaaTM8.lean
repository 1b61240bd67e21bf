/- Part of a proof of laws of the seat Ytdealcfgobobiaa: functions' weakest preconditions, each checked by the kernel, contracts out of them, plain lemmas; no conditions. -/
import Derived.Test.YtdealcfgobobiaaTM0
set_option linter.unusedVariables false
set_option linter.unusedSimpArgs false
set_option linter.unusedVariables false
set_option maxRecDepth 100000
namespace Go.Mir
open Go Go.E Go.RowKit
-- thicket/thicketlaw07.TreesGoes
def thicketlaw07_TreesGoes.an : An := An.nil
def thicketlaw07_TreesGoes.g0 (R : Value → World → Prop) (x0_0 : Int) (x0_1 : Int) (x0_2 : Int) (f0_3 : Nat) (a0_4 : Option Addr) (n0_4 : Nat) (c0_4 : Nat) (x0_5 : Int) (x0_6 : Int) (x0_7 : Int) (f1 : Nat) (w : World) : Prop :=
 nw (w.alloc (.cells #[.int .u8 x0_0, .int .i64 x0_1, .int .i64 x0_2, .float .f64 f0_3, .slice a0_4 n0_4 c0_4, .int .u8 x0_5, .int .i64 x0_6, .int .i64 x0_7] 27)) fun w32 =>
 ∃ yb_33 : Bool, (∀ u34 : World, Below w32.heap.size w32 u34 → Go.E.CallsD Go.Proofs.Try.prog 12 #[] u34 fun yv35 u36 => yv35 = .bool yb_33 ∧ Below w32.heap.size w32 u36) ∧
 (onBool yb_33
 (∃ yx_37 : Int, w32.cell? ((na w).add 0) = some (.int .u8 yx_37) ∧
 (∃ yx_38 : Int, w32.cell? ((na w).add 1) = some (.int .i64 yx_38) ∧
 (∃ yx_39 : Int, w32.cell? ((na w).add 2) = some (.int .i64 yx_39) ∧
 (∃ yf_40 : Nat, w32.cell? ((na w).add 3) = some (.float .f64 yf_40) ∧
 (∃ ya_41 : Option Addr, ∃ yn_41 : Nat, ∃ yc_41 : Nat, w32.cell? ((na w).add 4) = some (.slice ya_41 yn_41 yc_41) ∧
 (∃ yx_42 : Int, w32.cell? ((na w).add 5) = some (.int .u8 yx_42) ∧
 (∃ yx_43 : Int, w32.cell? ((na w).add 6) = some (.int .i64 yx_43) ∧
 (∃ yx_44 : Int, w32.cell? ((na w).add 7) = some (.int .i64 yx_44) ∧
 (∃ yx_45 : Int, (∀ u46 : World, Below w32.heap.size w32 u46 → Go.E.CallsD Go.Proofs.Try.prog 13 #[.agg #[.int .u8 yx_37, .int .i64 yx_38, .int .i64 yx_39, .float .f64 yf_40, .slice ya_41 yn_41 yc_41, .int .u8 yx_42, .int .i64 yx_43, .int .i64 yx_44], .float .f64 f1] u46 fun yv47 u48 => yv47 = .int .u8 yx_45 ∧ Below w32.heap.size w32 u48) ∧
 (∃ yx_49 : Int, w32.cell? ((na w).add 0) = some (.int .u8 yx_49) ∧
 (∃ yx_50 : Int, w32.cell? ((na w).add 1) = some (.int .i64 yx_50) ∧
 (∃ yx_51 : Int, w32.cell? ((na w).add 2) = some (.int .i64 yx_51) ∧
 (∃ yf_52 : Nat, w32.cell? ((na w).add 3) = some (.float .f64 yf_52) ∧
 (∃ ya_53 : Option Addr, ∃ yn_53 : Nat, ∃ yc_53 : Nat, w32.cell? ((na w).add 4) = some (.slice ya_53 yn_53 yc_53) ∧
 (∃ yx_54 : Int, w32.cell? ((na w).add 5) = some (.int .u8 yx_54) ∧
 (∃ yx_55 : Int, w32.cell? ((na w).add 6) = some (.int .i64 yx_55) ∧
 (∃ yx_56 : Int, w32.cell? ((na w).add 7) = some (.int .i64 yx_56) ∧
 (∃ yx_57 : Int, (∀ u58 : World, Below w32.heap.size w32 u58 → Go.E.CallsD Go.Proofs.Try.prog 14 #[.agg #[.int .u8 yx_49, .int .i64 yx_50, .int .i64 yx_51, .float .f64 yf_52, .slice ya_53 yn_53 yc_53, .int .u8 yx_54, .int .i64 yx_55, .int .i64 yx_56], .float .f64 f1] u58 fun yv59 u60 => yv59 = .int .u8 yx_57 ∧ Below w32.heap.size w32 u60) ∧
 (∀ u61 : World, Below w32.heap.size w32 u61 →
 R (.bool (yx_45 == yx_57)) u61)))))))))))))))))))
 (∀ u62 : World, Below w32.heap.size w32 u62 →
 R (.bool false) u62))
def thicketlaw07_TreesGoes (R : Value → World → Prop) (x0_0 : Int) (x0_1 : Int) (x0_2 : Int) (f0_3 : Nat) (a0_4 : Option Addr) (n0_4 : Nat) (c0_4 : Nat) (x0_5 : Int) (x0_6 : Int) (x0_7 : Int) (f1 : Nat) (w : World) : Prop := thicketlaw07_TreesGoes.g0 R x0_0 x0_1 x0_2 f0_3 a0_4 n0_4 c0_4 x0_5 x0_6 x0_7 f1 w
theorem thicketlaw07_TreesGoes.root0 (R : Value → World → Prop) (x0_0 : Int) (x0_1 : Int) (x0_2 : Int) (f0_3 : Nat) (a0_4 : Option Addr) (n0_4 : Nat) (c0_4 : Nat) (x0_5 : Int) (x0_6 : Int) (x0_7 : Int) (f1 : Nat) (w : World) : fnN Go.Proofs.Try.prog Go.Proofs.Try.f3 thicketlaw07_TreesGoes.an #[.agg #[.int .u8 x0_0, .int .i64 x0_1, .int .i64 x0_2, .float .f64 f0_3, .slice a0_4 n0_4 c0_4, .int .u8 x0_5, .int .i64 x0_6, .int .i64 x0_7], .float .f64 f1] w R = thicketlaw07_TreesGoes.g0 R x0_0 x0_1 x0_2 f0_3 a0_4 n0_4 c0_4 x0_5 x0_6 x0_7 f1 w := by kernel_rfl
theorem thicketlaw07_TreesGoes.calls {R : Value → World → Prop} {x0_0 : Int} {x0_1 : Int} {x0_2 : Int} {f0_3 : Nat} {a0_4 : Option Addr} {n0_4 : Nat} {c0_4 : Nat} {x0_5 : Int} {x0_6 : Int} {x0_7 : Int} {f1 : Nat} {w : World} (h : thicketlaw07_TreesGoes R x0_0 x0_1 x0_2 f0_3 a0_4 n0_4 c0_4 x0_5 x0_6 x0_7 f1 w) : Go.E.CallsD Go.Proofs.Try.prog 3 #[.agg #[.int .u8 x0_0, .int .i64 x0_1, .int .i64 x0_2, .float .f64 f0_3, .slice a0_4 n0_4 c0_4, .int .u8 x0_5, .int .i64 x0_6, .int .i64 x0_7], .float .f64 f1] w R := by
  refine callsD_of (n := thicketlaw07_TreesGoes.an) M_follows M_sizes Go.Proofs.Try.func3 (by rfl) ?_
  rw [thicketlaw07_TreesGoes.root0]
  unfold thicketlaw07_TreesGoes at h
  exact h
-- thicket/thicketlaw07.TreesWays
def thicketlaw07_TreesWays.an : An := An.nil
def thicketlaw07_TreesWays.g0 (R : Value → World → Prop) (x0_0 : Int) (a0_1 : Option Addr) (n0_1 : Nat) (c0_1 : Nat) (a1 : Option Addr) (n1 : Nat) (c1 : Nat) (w : World) : Prop :=
 nw (w.alloc (.cells #[.int .i64 x0_0, .slice a0_1 n0_1 c0_1] 33)) fun w28 =>
 ∃ yx_29 : Int, w28.cell? ((na w).add 0) = some (.int .i64 yx_29) ∧
 (∃ ya_30 : Option Addr, ∃ yn_30 : Nat, ∃ yc_30 : Nat, w28.cell? ((na w).add 1) = some (.slice ya_30 yn_30 yc_30) ∧
 (Go.E.CallsD Go.Proofs.Try.prog 15 #[.agg #[.int .i64 yx_29, .slice ya_30 yn_30 yc_30], .slice a1 n1 c1] w28 fun yv31 u32 =>
 ∃ ya_33_0 : Option Addr, ∃ yn_33_0 : Nat, ∃ yc_33_0 : Nat, ∃ yx_33_1 : Int, yv31 = .tuple #[.slice ya_33_0 yn_33_0 yc_33_0, .int .i64 yx_33_1] ∧
 (∃ yx_34 : Int, u32.cell? ((na w).add 0) = some (.int .i64 yx_34) ∧
 (∃ ya_35 : Option Addr, ∃ yn_35 : Nat, ∃ yc_35 : Nat, u32.cell? ((na w).add 1) = some (.slice ya_35 yn_35 yc_35) ∧
 (Go.E.CallsD Go.Proofs.Try.prog 16 #[.agg #[.int .i64 yx_34, .slice ya_35 yn_35 yc_35], .slice a1 n1 c1] u32 fun yv36 u37 =>
 ∃ ya_38_0 : Option Addr, ∃ yn_38_0 : Nat, ∃ yc_38_0 : Nat, ∃ yx_38_1 : Int, yv36 = .tuple #[.slice ya_38_0 yn_38_0 yc_38_0, .int .i64 yx_38_1] ∧
 (∃ yx_39 : Int, u37.cell? ((na w).add 0) = some (.int .i64 yx_39) ∧
 (∃ ya_40 : Option Addr, ∃ yn_40 : Nat, ∃ yc_40 : Nat, u37.cell? ((na w).add 1) = some (.slice ya_40 yn_40 yc_40) ∧
 (Go.E.CallsD Go.Proofs.Try.prog 17 #[.agg #[.int .i64 yx_39, .slice ya_40 yn_40 yc_40], .slice a1 n1 c1] u37 fun yv41 u42 =>
 ∃ yx_43_0 : Int, ∃ yx_43_1 : Int, ∃ yx_43_2 : Int, yv41 = .tuple #[.int .i64 yx_43_0, .int .i64 yx_43_1, .int .i64 yx_43_2] ∧
 (∃ yx_44 : Int, u42.cell? ((na w).add 0) = some (.int .i64 yx_44) ∧
 (∃ ya_45 : Option Addr, ∃ yn_45 : Nat, ∃ yc_45 : Nat, u42.cell? ((na w).add 1) = some (.slice ya_45 yn_45 yc_45) ∧
 (Go.E.CallsD Go.Proofs.Try.prog 18 #[.agg #[.int .i64 yx_44, .slice ya_45 yn_45 yc_45], .slice a1 n1 c1] u42 fun yv46 u47 =>
 ∃ yx_48_0 : Int, ∃ yx_48_1 : Int, ∃ yx_48_2 : Int, yv46 = .tuple #[.int .i64 yx_48_0, .int .i64 yx_48_1, .int .i64 yx_48_2] ∧
 (Go.E.CallsD Go.Proofs.Try.prog 12 #[] u47 fun yv49 u50 =>
 ∃ yb_51 : Bool, yv49 = .bool yb_51 ∧
 (onBool yb_51
 (Go.E.CallsD Go.Proofs.Try.prog 19 #[.slice ya_33_0 yn_33_0 yc_33_0, .slice ya_38_0 yn_38_0 yc_38_0] u50 fun yv52 u53 =>
 ∃ yb_54 : Bool, yv52 = .bool yb_54 ∧
 (onBool yb_54
 (onBool (yx_33_1 == yx_38_1)
 (onBool (yx_43_0 == yx_48_0)
 (onBool (yx_43_1 == yx_48_1)
 (R (.bool (yx_43_2 == yx_48_2)) u53)
 (R (.bool false) u53))
 (R (.bool false) u53))
 (R (.bool false) u53))
 (R (.bool false) u53)))
 (R (.bool false) u50))))))))))))))
def thicketlaw07_TreesWays (R : Value → World → Prop) (x0_0 : Int) (a0_1 : Option Addr) (n0_1 : Nat) (c0_1 : Nat) (a1 : Option Addr) (n1 : Nat) (c1 : Nat) (w : World) : Prop := thicketlaw07_TreesWays.g0 R x0_0 a0_1 n0_1 c0_1 a1 n1 c1 w
theorem thicketlaw07_TreesWays.root0 (R : Value → World → Prop) (x0_0 : Int) (a0_1 : Option Addr) (n0_1 : Nat) (c0_1 : Nat) (a1 : Option Addr) (n1 : Nat) (c1 : Nat) (w : World) : fnN Go.Proofs.Try.prog Go.Proofs.Try.f4 thicketlaw07_TreesWays.an #[.agg #[.int .i64 x0_0, .slice a0_1 n0_1 c0_1], .slice a1 n1 c1] w R = thicketlaw07_TreesWays.g0 R x0_0 a0_1 n0_1 c0_1 a1 n1 c1 w := by kernel_rfl
theorem thicketlaw07_TreesWays.calls {R : Value → World → Prop} {x0_0 : Int} {a0_1 : Option Addr} {n0_1 : Nat} {c0_1 : Nat} {a1 : Option Addr} {n1 : Nat} {c1 : Nat} {w : World} (h : thicketlaw07_TreesWays R x0_0 a0_1 n0_1 c0_1 a1 n1 c1 w) : Go.E.CallsD Go.Proofs.Try.prog 4 #[.agg #[.int .i64 x0_0, .slice a0_1 n0_1 c0_1], .slice a1 n1 c1] w R := by
  refine callsD_of (n := thicketlaw07_TreesWays.an) M_follows M_sizes Go.Proofs.Try.func4 (by rfl) ?_
  rw [thicketlaw07_TreesWays.root0]
  unfold thicketlaw07_TreesWays at h
  exact h
-- thicket/thicketlaw07.TreesScores
def thicketlaw07_TreesScores.an : An := An.nil
def thicketlaw07_TreesScores.g0 (R : Value → World → Prop) (s0_0 : ByteArray) (a0_1 : Option Addr) (n0_1 : Nat) (c0_1 : Nat) (x0_2 : Int) (a0_3 : Option Addr) (n0_3 : Nat) (c0_3 : Nat) (a0_4 : Option Addr) (n0_4 : Nat) (c0_4 : Nat) (a1 : Option Addr) (n1 : Nat) (c1 : Nat) (w : World) : Prop :=
 nw (w.alloc (.cells #[.string s0_0, .slice a0_1 n0_1 c0_1, .int .i64 x0_2, .slice a0_3 n0_3 c0_3, .slice a0_4 n0_4 c0_4] 46)) fun w51 =>
 ∃ ys_52 : ByteArray, w51.cell? ((na w).add 0) = some (.string ys_52) ∧
 (∃ ya_53 : Option Addr, ∃ yn_53 : Nat, ∃ yc_53 : Nat, w51.cell? ((na w).add 1) = some (.slice ya_53 yn_53 yc_53) ∧
 (∃ yx_54 : Int, w51.cell? ((na w).add 2) = some (.int .i64 yx_54) ∧
 (∃ ya_55 : Option Addr, ∃ yn_55 : Nat, ∃ yc_55 : Nat, w51.cell? ((na w).add 3) = some (.slice ya_55 yn_55 yc_55) ∧
 (∃ ya_56 : Option Addr, ∃ yn_56 : Nat, ∃ yc_56 : Nat, w51.cell? ((na w).add 4) = some (.slice ya_56 yn_56 yc_56) ∧
 (Go.E.CallsD Go.Proofs.Try.prog 20 #[.agg #[.string ys_52, .slice ya_53 yn_53 yc_53, .int .i64 yx_54, .slice ya_55 yn_55 yc_55, .slice ya_56 yn_56 yc_56]] w51 fun yv57 u58 =>
 ∃ ys_59_0 : ByteArray, ∃ ya_59_1 : Option Addr, ∃ yn_59_1 : Nat, ∃ yc_59_1 : Nat, ∃ yx_59_2 : Int, ∃ ya_59_3 : Option Addr, ∃ yn_59_3 : Nat, ∃ yc_59_3 : Nat, ∃ ya_59_4 : Option Addr, ∃ yn_59_4 : Nat, ∃ yc_59_4 : Nat, yv57 = .agg #[.string ys_59_0, .slice ya_59_1 yn_59_1 yc_59_1, .int .i64 yx_59_2, .slice ya_59_3 yn_59_3 yc_59_3, .slice ya_59_4 yn_59_4 yc_59_4] ∧
 (nw (u58.alloc (.cells #[.string ⟨#[]⟩, .slice none 0 0, .int .i64 0, .slice none 0 0, .slice none 0 0] 46)) fun w60 =>
 okSt w60 ((na u58).add 0) ∧
 (nw (w60.setCell ((na u58).add 0) (.string ys_59_0)) fun w61 =>
 okSt w61 ((na u58).add 1) ∧
 (nw (w61.setCell ((na u58).add 1) (.slice ya_59_1 yn_59_1 yc_59_1)) fun w62 =>
 okSt w62 ((na u58).add 2) ∧
 (nw (w62.setCell ((na u58).add 2) (.int .i64 yx_59_2)) fun w63 =>
 okSt w63 ((na u58).add 3) ∧
 (nw (w63.setCell ((na u58).add 3) (.slice ya_59_3 yn_59_3 yc_59_3)) fun w64 =>
 okSt w64 ((na u58).add 4) ∧
 (nw (w64.setCell ((na u58).add 4) (.slice ya_59_4 yn_59_4 yc_59_4)) fun w65 =>
 ∃ ys_66 : ByteArray, w65.cell? ((na u58).add 0) = some (.string ys_66) ∧
 (∃ ya_67 : Option Addr, ∃ yn_67 : Nat, ∃ yc_67 : Nat, w65.cell? ((na u58).add 1) = some (.slice ya_67 yn_67 yc_67) ∧
 (∃ yx_68 : Int, w65.cell? ((na u58).add 2) = some (.int .i64 yx_68) ∧
 (∃ ya_69 : Option Addr, ∃ yn_69 : Nat, ∃ yc_69 : Nat, w65.cell? ((na u58).add 3) = some (.slice ya_69 yn_69 yc_69) ∧
 (∃ ya_70 : Option Addr, ∃ yn_70 : Nat, ∃ yc_70 : Nat, w65.cell? ((na u58).add 4) = some (.slice ya_70 yn_70 yc_70) ∧
 (Go.E.CallsD Go.Proofs.Try.prog 21 #[.agg #[.string ys_66, .slice ya_67 yn_67 yc_67, .int .i64 yx_68, .slice ya_69 yn_69 yc_69, .slice ya_70 yn_70 yc_70], .slice a1 n1 c1] w65 fun yv71 u72 =>
 ∃ ya_73_0 : Option Addr, ∃ yn_73_0 : Nat, ∃ yc_73_0 : Nat, ∃ yx_73_1 : Int, yv71 = .tuple #[.slice ya_73_0 yn_73_0 yc_73_0, .int .i64 yx_73_1] ∧
 (∃ ys_74 : ByteArray, u72.cell? ((na w).add 0) = some (.string ys_74) ∧
 (∃ ya_75 : Option Addr, ∃ yn_75 : Nat, ∃ yc_75 : Nat, u72.cell? ((na w).add 1) = some (.slice ya_75 yn_75 yc_75) ∧
 (∃ yx_76 : Int, u72.cell? ((na w).add 2) = some (.int .i64 yx_76) ∧
 (∃ ya_77 : Option Addr, ∃ yn_77 : Nat, ∃ yc_77 : Nat, u72.cell? ((na w).add 3) = some (.slice ya_77 yn_77 yc_77) ∧
 (∃ ya_78 : Option Addr, ∃ yn_78 : Nat, ∃ yc_78 : Nat, u72.cell? ((na w).add 4) = some (.slice ya_78 yn_78 yc_78) ∧
 (Go.E.CallsD Go.Proofs.Try.prog 22 #[.agg #[.string ys_74, .slice ya_75 yn_75 yc_75, .int .i64 yx_76, .slice ya_77 yn_77 yc_77, .slice ya_78 yn_78 yc_78], .slice a1 n1 c1] u72 fun yv79 u80 =>
 ∃ ya_81_0 : Option Addr, ∃ yn_81_0 : Nat, ∃ yc_81_0 : Nat, ∃ yx_81_1 : Int, yv79 = .tuple #[.slice ya_81_0 yn_81_0 yc_81_0, .int .i64 yx_81_1] ∧
 (Go.E.CallsD Go.Proofs.Try.prog 12 #[] u80 fun yv82 u83 =>
 ∃ yb_84 : Bool, yv82 = .bool yb_84 ∧
 (onBool yb_84
 (Go.E.CallsD Go.Proofs.Try.prog 23 #[.slice ya_73_0 yn_73_0 yc_73_0, .slice ya_81_0 yn_81_0 yc_81_0] u83 fun yv85 u86 =>
 ∃ yb_87 : Bool, yv85 = .bool yb_87 ∧
 (onBool yb_87
 (onBool (yx_73_1 == yx_81_1)
 (∃ ys_88 : ByteArray, u86.cell? ((na u58).add 0) = some (.string ys_88) ∧
 (∃ ya_89 : Option Addr, ∃ yn_89 : Nat, ∃ yc_89 : Nat, u86.cell? ((na u58).add 1) = some (.slice ya_89 yn_89 yc_89) ∧
 (∃ yx_90 : Int, u86.cell? ((na u58).add 2) = some (.int .i64 yx_90) ∧
 (∃ ya_91 : Option Addr, ∃ yn_91 : Nat, ∃ yc_91 : Nat, u86.cell? ((na u58).add 3) = some (.slice ya_91 yn_91 yc_91) ∧
 (∃ ya_92 : Option Addr, ∃ yn_92 : Nat, ∃ yc_92 : Nat, u86.cell? ((na u58).add 4) = some (.slice ya_92 yn_92 yc_92) ∧
 (∃ ys_93 : ByteArray, u86.cell? ((na w).add 0) = some (.string ys_93) ∧
 (∃ ya_94 : Option Addr, ∃ yn_94 : Nat, ∃ yc_94 : Nat, u86.cell? ((na w).add 1) = some (.slice ya_94 yn_94 yc_94) ∧
 (∃ yx_95 : Int, u86.cell? ((na w).add 2) = some (.int .i64 yx_95) ∧
 (∃ ya_96 : Option Addr, ∃ yn_96 : Nat, ∃ yc_96 : Nat, u86.cell? ((na w).add 3) = some (.slice ya_96 yn_96 yc_96) ∧
 (∃ ya_97 : Option Addr, ∃ yn_97 : Nat, ∃ yc_97 : Nat, u86.cell? ((na w).add 4) = some (.slice ya_97 yn_97 yc_97) ∧
 (Go.E.CallsD Go.Proofs.Try.prog 24 #[.agg #[.string ys_88, .slice ya_89 yn_89 yc_89, .int .i64 yx_90, .slice ya_91 yn_91 yc_91, .slice ya_92 yn_92 yc_92], .agg #[.string ys_93, .slice ya_94 yn_94 yc_94, .int .i64 yx_95, .slice ya_96 yn_96 yc_96, .slice ya_97 yn_97 yc_97]] u86 fun yv98 u99 =>
 ∃ yb_100 : Bool, yv98 = .bool yb_100 ∧
 (R (.bool yb_100) u99))))))))))))
 (R (.bool false) u86))
 (R (.bool false) u86)))
 (R (.bool false) u83)))))))))))))))))))))))))
def thicketlaw07_TreesScores (R : Value → World → Prop) (s0_0 : ByteArray) (a0_1 : Option Addr) (n0_1 : Nat) (c0_1 : Nat) (x0_2 : Int) (a0_3 : Option Addr) (n0_3 : Nat) (c0_3 : Nat) (a0_4 : Option Addr) (n0_4 : Nat) (c0_4 : Nat) (a1 : Option Addr) (n1 : Nat) (c1 : Nat) (w : World) : Prop := thicketlaw07_TreesScores.g0 R s0_0 a0_1 n0_1 c0_1 x0_2 a0_3 n0_3 c0_3 a0_4 n0_4 c0_4 a1 n1 c1 w
theorem thicketlaw07_TreesScores.root0 (R : Value → World → Prop) (s0_0 : ByteArray) (a0_1 : Option Addr) (n0_1 : Nat) (c0_1 : Nat) (x0_2 : Int) (a0_3 : Option Addr) (n0_3 : Nat) (c0_3 : Nat) (a0_4 : Option Addr) (n0_4 : Nat) (c0_4 : Nat) (a1 : Option Addr) (n1 : Nat) (c1 : Nat) (w : World) : fnN Go.Proofs.Try.prog Go.Proofs.Try.f5 thicketlaw07_TreesScores.an #[.agg #[.string s0_0, .slice a0_1 n0_1 c0_1, .int .i64 x0_2, .slice a0_3 n0_3 c0_3, .slice a0_4 n0_4 c0_4], .slice a1 n1 c1] w R = thicketlaw07_TreesScores.g0 R s0_0 a0_1 n0_1 c0_1 x0_2 a0_3 n0_3 c0_3 a0_4 n0_4 c0_4 a1 n1 c1 w := by kernel_rfl
theorem thicketlaw07_TreesScores.calls {R : Value → World → Prop} {s0_0 : ByteArray} {a0_1 : Option Addr} {n0_1 : Nat} {c0_1 : Nat} {x0_2 : Int} {a0_3 : Option Addr} {n0_3 : Nat} {c0_3 : Nat} {a0_4 : Option Addr} {n0_4 : Nat} {c0_4 : Nat} {a1 : Option Addr} {n1 : Nat} {c1 : Nat} {w : World} (h : thicketlaw07_TreesScores R s0_0 a0_1 n0_1 c0_1 x0_2 a0_3 n0_3 c0_3 a0_4 n0_4 c0_4 a1 n1 c1 w) : Go.E.CallsD Go.Proofs.Try.prog 5 #[.agg #[.string s0_0, .slice a0_1 n0_1 c0_1, .int .i64 x0_2, .slice a0_3 n0_3 c0_3, .slice a0_4 n0_4 c0_4], .slice a1 n1 c1] w R := by
  refine callsD_of (n := thicketlaw07_TreesScores.an) M_follows M_sizes Go.Proofs.Try.func5 (by rfl) ?_
  rw [thicketlaw07_TreesScores.root0]
  unfold thicketlaw07_TreesScores at h
  exact h
-- thicket/thicketlaw07.TreesShapes
def thicketlaw07_TreesShapes.an : An := An.nil
def thicketlaw07_TreesShapes.g0 (R : Value → World → Prop) (x0_0 : Int) (a0_1 : Option Addr) (n0_1 : Nat) (c0_1 : Nat) (w : World) : Prop :=
 nw (w.alloc (.cells #[.int .i64 x0_0, .slice a0_1 n0_1 c0_1] 33)) fun w15 =>
 ∃ yx_16 : Int, w15.cell? ((na w).add 0) = some (.int .i64 yx_16) ∧
 (∃ ya_17 : Option Addr, ∃ yn_17 : Nat, ∃ yc_17 : Nat, w15.cell? ((na w).add 1) = some (.slice ya_17 yn_17 yc_17) ∧
 (Go.E.CallsD Go.Proofs.Try.prog 25 #[.agg #[.int .i64 yx_16, .slice ya_17 yn_17 yc_17]] w15 fun yv18 u19 =>
 ∃ yx_20_0 : Int, ∃ yx_20_1 : Int, yv18 = .tuple #[.int .i64 yx_20_0, .int .i64 yx_20_1] ∧
 (∃ yx_21 : Int, u19.cell? ((na w).add 0) = some (.int .i64 yx_21) ∧
 (∃ ya_22 : Option Addr, ∃ yn_22 : Nat, ∃ yc_22 : Nat, u19.cell? ((na w).add 1) = some (.slice ya_22 yn_22 yc_22) ∧
 (Go.E.CallsD Go.Proofs.Try.prog 26 #[.agg #[.int .i64 yx_21, .slice ya_22 yn_22 yc_22]] u19 fun yv23 u24 =>
 ∃ yx_25_0 : Int, ∃ yx_25_1 : Int, yv23 = .tuple #[.int .i64 yx_25_0, .int .i64 yx_25_1] ∧
 (Go.E.CallsD Go.Proofs.Try.prog 12 #[] u24 fun yv26 u27 =>
 ∃ yb_28 : Bool, yv26 = .bool yb_28 ∧
 (onBool (!yb_28)
 (R (.bool false) u27)
 (onBool (yx_20_0 != yx_25_0)
 (R (.bool false) u27)
 (onBool (yx_20_1 != yx_25_1)
 (R (.bool false) u27)
 (∃ yx_29 : Int, u27.cell? ((na w).add 0) = some (.int .i64 yx_29) ∧
 (∃ ya_30 : Option Addr, ∃ yn_30 : Nat, ∃ yc_30 : Nat, u27.cell? ((na w).add 1) = some (.slice ya_30 yn_30 yc_30) ∧
 (Go.E.CallsD Go.Proofs.Try.prog 27 #[.agg #[.int .i64 yx_29, .slice ya_30 yn_30 yc_30]] u27 fun yv31 u32 =>
 ∃ ya_33_0 : Option Addr, ∃ yn_33_0 : Nat, ∃ yc_33_0 : Nat, ∃ yx_33_1 : Int, yv31 = .tuple #[.slice ya_33_0 yn_33_0 yc_33_0, .int .i64 yx_33_1] ∧
 (∃ yx_34 : Int, u32.cell? ((na w).add 0) = some (.int .i64 yx_34) ∧
 (∃ ya_35 : Option Addr, ∃ yn_35 : Nat, ∃ yc_35 : Nat, u32.cell? ((na w).add 1) = some (.slice ya_35 yn_35 yc_35) ∧
 (Go.E.CallsD Go.Proofs.Try.prog 28 #[.agg #[.int .i64 yx_34, .slice ya_35 yn_35 yc_35]] u32 fun yv36 u37 =>
 ∃ ya_38_0 : Option Addr, ∃ yn_38_0 : Nat, ∃ yc_38_0 : Nat, ∃ yx_38_1 : Int, yv36 = .tuple #[.slice ya_38_0 yn_38_0 yc_38_0, .int .i64 yx_38_1] ∧
 (∃ yx_39 : Int, u37.cell? ((na w).add 0) = some (.int .i64 yx_39) ∧
 (∃ ya_40 : Option Addr, ∃ yn_40 : Nat, ∃ yc_40 : Nat, u37.cell? ((na w).add 1) = some (.slice ya_40 yn_40 yc_40) ∧
 (Go.E.CallsD Go.Proofs.Try.prog 29 #[.agg #[.int .i64 yx_39, .slice ya_40 yn_40 yc_40]] u37 fun yv41 u42 =>
 ∃ yx_43_0 : Int, ∃ yx_43_1 : Int, yv41 = .tuple #[.int .i64 yx_43_0, .int .i64 yx_43_1] ∧
 (∃ yx_44 : Int, u42.cell? ((na w).add 0) = some (.int .i64 yx_44) ∧
 (∃ ya_45 : Option Addr, ∃ yn_45 : Nat, ∃ yc_45 : Nat, u42.cell? ((na w).add 1) = some (.slice ya_45 yn_45 yc_45) ∧
 (Go.E.CallsD Go.Proofs.Try.prog 30 #[.agg #[.int .i64 yx_44, .slice ya_45 yn_45 yc_45]] u42 fun yv46 u47 =>
 ∃ ya_48_0 : Option Addr, ∃ yn_48_0 : Nat, ∃ yc_48_0 : Nat, ∃ yx_48_1 : Int, yv46 = .tuple #[.slice ya_48_0 yn_48_0 yc_48_0, .int .i64 yx_48_1] ∧
 (∃ yx_49 : Int, u47.cell? ((na w).add 0) = some (.int .i64 yx_49) ∧
 (∃ ya_50 : Option Addr, ∃ yn_50 : Nat, ∃ yc_50 : Nat, u47.cell? ((na w).add 1) = some (.slice ya_50 yn_50 yc_50) ∧
 (Go.E.CallsD Go.Proofs.Try.prog 31 #[.agg #[.int .i64 yx_49, .slice ya_50 yn_50 yc_50]] u47 fun yv51 u52 =>
 ∃ ya_53_0 : Option Addr, ∃ yn_53_0 : Nat, ∃ yc_53_0 : Nat, ∃ yx_53_1 : Int, yv51 = .tuple #[.slice ya_53_0 yn_53_0 yc_53_0, .int .i64 yx_53_1] ∧
 (∃ yx_54 : Int, u52.cell? ((na w).add 0) = some (.int .i64 yx_54) ∧
 (∃ ya_55 : Option Addr, ∃ yn_55 : Nat, ∃ yc_55 : Nat, u52.cell? ((na w).add 1) = some (.slice ya_55 yn_55 yc_55) ∧
 (Go.E.CallsD Go.Proofs.Try.prog 32 #[.agg #[.int .i64 yx_54, .slice ya_55 yn_55 yc_55]] u52 fun yv56 u57 =>
 ∃ yx_58_0 : Int, ∃ yx_58_1 : Int, yv56 = .tuple #[.int .i64 yx_58_0, .int .i64 yx_58_1] ∧
 (Go.E.CallsD Go.Proofs.Try.prog 19 #[.slice ya_33_0 yn_33_0 yc_33_0, .slice ya_48_0 yn_48_0 yc_48_0] u57 fun yv59 u60 =>
 ∃ yb_61 : Bool, yv59 = .bool yb_61 ∧
 (onBool yb_61
 (Go.E.CallsD Go.Proofs.Try.prog 19 #[.slice ya_38_0 yn_38_0 yc_38_0, .slice ya_53_0 yn_53_0 yc_53_0] u60 fun yv62 u63 =>
 ∃ yb_64 : Bool, yv62 = .bool yb_64 ∧
 (onBool yb_64
 (onBool (yx_43_0 == yx_58_0)
 (onBool (yx_33_1 == yx_48_1)
 (onBool (yx_38_1 == yx_53_1)
 (R (.bool (yx_43_1 == yx_58_1)) u63)
 (R (.bool false) u63))
 (R (.bool false) u63))
 (R (.bool false) u63))
 (R (.bool false) u63)))
 (R (.bool false) u60))))))))))))))))))))))))))))))
def thicketlaw07_TreesShapes (R : Value → World → Prop) (x0_0 : Int) (a0_1 : Option Addr) (n0_1 : Nat) (c0_1 : Nat) (w : World) : Prop := thicketlaw07_TreesShapes.g0 R x0_0 a0_1 n0_1 c0_1 w
theorem thicketlaw07_TreesShapes.root0 (R : Value → World → Prop) (x0_0 : Int) (a0_1 : Option Addr) (n0_1 : Nat) (c0_1 : Nat) (w : World) : fnN Go.Proofs.Try.prog Go.Proofs.Try.f6 thicketlaw07_TreesShapes.an #[.agg #[.int .i64 x0_0, .slice a0_1 n0_1 c0_1]] w R = thicketlaw07_TreesShapes.g0 R x0_0 a0_1 n0_1 c0_1 w := by kernel_rfl
theorem thicketlaw07_TreesShapes.calls {R : Value → World → Prop} {x0_0 : Int} {a0_1 : Option Addr} {n0_1 : Nat} {c0_1 : Nat} {w : World} (h : thicketlaw07_TreesShapes R x0_0 a0_1 n0_1 c0_1 w) : Go.E.CallsD Go.Proofs.Try.prog 6 #[.agg #[.int .i64 x0_0, .slice a0_1 n0_1 c0_1]] w R := by
  refine callsD_of (n := thicketlaw07_TreesShapes.an) M_follows M_sizes Go.Proofs.Try.func6 (by rfl) ?_
  rw [thicketlaw07_TreesShapes.root0]
  unfold thicketlaw07_TreesShapes at h
  exact h
-- thicket/thicketlaw07.TreesSums
def thicketlaw07_TreesSums.an : An := (.mk none .nil (.mk none .nil (.mk none .nil (.mk none .nil (.mk none .nil (.mk none .nil (.mk none (.mk none .nil (.mk none (.mk (some [1, 2, 3, 7, 9, 10, 42, 43, 44]) .nil .nil) .nil)) .nil)))))))
def thicketlaw07_TreesSums.g0 (R : Value → World → Prop) (e28 : (Option Addr) → Nat → Nat → (Option Addr) → Nat → Nat → (Option Addr) → (Option Addr) → Nat → Nat → (Option Addr) → Nat → Nat → (Option Addr) → (Option Addr) → Nat → Nat → Int → Int → World → Prop) (s0_0 : ByteArray) (a0_1 : Option Addr) (n0_1 : Nat) (c0_1 : Nat) (x0_2 : Int) (a0_3 : Option Addr) (n0_3 : Nat) (c0_3 : Nat) (a0_4 : Option Addr) (n0_4 : Nat) (c0_4 : Nat) (a1 : Option Addr) (n1 : Nat) (c1 : Nat) (a2 : Option Addr) (n2 : Nat) (c2 : Nat) (w : World) : Prop :=
 nw (w.alloc (.cells #[.string s0_0, .slice a0_1 n0_1 c0_1, .int .i64 x0_2, .slice a0_3 n0_3 c0_3, .slice a0_4 n0_4 c0_4] 46)) fun w121 =>
 Go.E.CallsD Go.Proofs.Try.prog 12 #[] w121 fun yv122 u123 =>
 ∃ yb_124 : Bool, yv122 = .bool yb_124 ∧
 (onBool (!yb_124)
 (R (.bool false) u123)
 (∃ ys_125 : ByteArray, u123.cell? ((na w).add 0) = some (.string ys_125) ∧
 (∃ ya_126 : Option Addr, ∃ yn_126 : Nat, ∃ yc_126 : Nat, u123.cell? ((na w).add 1) = some (.slice ya_126 yn_126 yc_126) ∧
 (∃ yx_127 : Int, u123.cell? ((na w).add 2) = some (.int .i64 yx_127) ∧
 (∃ ya_128 : Option Addr, ∃ yn_128 : Nat, ∃ yc_128 : Nat, u123.cell? ((na w).add 3) = some (.slice ya_128 yn_128 yc_128) ∧
 (∃ ya_129 : Option Addr, ∃ yn_129 : Nat, ∃ yc_129 : Nat, u123.cell? ((na w).add 4) = some (.slice ya_129 yn_129 yc_129) ∧
 (Go.E.CallsD Go.Proofs.Try.prog 21 #[.agg #[.string ys_125, .slice ya_126 yn_126 yc_126, .int .i64 yx_127, .slice ya_128 yn_128 yc_128, .slice ya_129 yn_129 yc_129], .slice a1 n1 c1] u123 fun yv130 u131 =>
 ∃ ya_132_0 : Option Addr, ∃ yn_132_0 : Nat, ∃ yc_132_0 : Nat, ∃ yx_132_1 : Int, yv130 = .tuple #[.slice ya_132_0 yn_132_0 yc_132_0, .int .i64 yx_132_1] ∧
 (onBool (yx_132_1 != 0)
 (R (.bool ((yn_132_0 : Int) == 0)) u131)
 (nw (u131.alloc (.cells #[] 2)) fun w133 =>
 ∃ ya_134 : Option Addr, ∃ yn_134 : Nat, ∃ yc_134 : Nat, w133.cell? ((na w).add 3) = some (.slice ya_134 yn_134 yc_134) ∧
 (rawN Go.Proofs.Try.prog (Builtin.append_ #[43, 43] 43 #[.slice (some (na u131)) 0 0, .slice ya_134 yn_134 yc_134]) w133 fun yv135 u136 =>
 ∃ ya_137 : Option Addr, ∃ yn_137 : Nat, ∃ yc_137 : Nat, yv135 = .slice ya_137 yn_137 yc_137 ∧
 (∃ ys_138 : ByteArray, u136.cell? ((na w).add 0) = some (.string ys_138) ∧
 (∃ ya_139 : Option Addr, ∃ yn_139 : Nat, ∃ yc_139 : Nat, u136.cell? ((na w).add 1) = some (.slice ya_139 yn_139 yc_139) ∧
 (∃ yx_140 : Int, u136.cell? ((na w).add 2) = some (.int .i64 yx_140) ∧
 (∃ ya_141 : Option Addr, ∃ yn_141 : Nat, ∃ yc_141 : Nat, u136.cell? ((na w).add 3) = some (.slice ya_141 yn_141 yc_141) ∧
 (∃ ya_142 : Option Addr, ∃ yn_142 : Nat, ∃ yc_142 : Nat, u136.cell? ((na w).add 4) = some (.slice ya_142 yn_142 yc_142) ∧
 (Go.E.CallsD Go.Proofs.Try.prog 20 #[.agg #[.string ys_138, .slice ya_139 yn_139 yc_139, .int .i64 yx_140, .slice ya_141 yn_141 yc_141, .slice ya_142 yn_142 yc_142]] u136 fun yv143 u144 =>
 ∃ ys_145_0 : ByteArray, ∃ ya_145_1 : Option Addr, ∃ yn_145_1 : Nat, ∃ yc_145_1 : Nat, ∃ yx_145_2 : Int, ∃ ya_145_3 : Option Addr, ∃ yn_145_3 : Nat, ∃ yc_145_3 : Nat, ∃ ya_145_4 : Option Addr, ∃ yn_145_4 : Nat, ∃ yc_145_4 : Nat, yv143 = .agg #[.string ys_145_0, .slice ya_145_1 yn_145_1 yc_145_1, .int .i64 yx_145_2, .slice ya_145_3 yn_145_3 yc_145_3, .slice ya_145_4 yn_145_4 yc_145_4] ∧
 (nw (u144.alloc (.cells #[.string ⟨#[]⟩, .slice none 0 0, .int .i64 0, .slice none 0 0, .slice none 0 0] 46)) fun w146 =>
 okSt w146 ((na u144).add 0) ∧
 (nw (w146.setCell ((na u144).add 0) (.string ys_145_0)) fun w147 =>
 okSt w147 ((na u144).add 1) ∧
 (nw (w147.setCell ((na u144).add 1) (.slice ya_145_1 yn_145_1 yc_145_1)) fun w148 =>
 okSt w148 ((na u144).add 2) ∧
 (nw (w148.setCell ((na u144).add 2) (.int .i64 yx_145_2)) fun w149 =>
 okSt w149 ((na u144).add 3) ∧
 (nw (w149.setCell ((na u144).add 3) (.slice ya_145_3 yn_145_3 yc_145_3)) fun w150 =>
 okSt w150 ((na u144).add 4) ∧
 (nw (w150.setCell ((na u144).add 4) (.slice ya_145_4 yn_145_4 yc_145_4)) fun w151 =>
 ∃ ya_152 : Option Addr, ∃ yn_152 : Nat, ∃ yc_152 : Nat, w151.cell? ((na w).add 4) = some (.slice ya_152 yn_152 yc_152) ∧
 (e28 a1 n1 c1 a2 n2 c2 (some (na w)) ya_132_0 yn_132_0 yc_132_0 ya_137 yn_137 yc_137 (some (na u144)) ya_152 yn_152 yc_152 (yn_152 : Int) 0 w151)))))))))))))))))))))))
def thicketlaw07_TreesSums.g28 (R : Value → World → Prop) (b28 : (Option Addr) → Nat → Nat → (Option Addr) → Nat → Nat → (Option Addr) → (Option Addr) → Nat → Nat → (Option Addr) → Nat → Nat → (Option Addr) → (Option Addr) → Nat → Nat → Int → Int → World → Prop) (a1 : Option Addr) (n1 : Nat) (c1 : Nat) (a2 : Option Addr) (n2 : Nat) (c2 : Nat) (p3 : Option Addr) (a7 : Option Addr) (n7 : Nat) (c7 : Nat) (a9 : Option Addr) (n9 : Nat) (c9 : Nat) (p10 : Option Addr) (a42 : Option Addr) (n42 : Nat) (c42 : Nat) (x43 : Int) (x44 : Int) (w : World) : Prop :=
 onBool (decide (x44 < x43))
 (optN a42 fun q153 =>
 chk ((0 : Int) ≤ x44 ∧ x44 < (n42 : Int))
 (∃ yx_154 : Int, w.cell? ((q153.add (x44.toNat * 2)).add 0) = some (.int .i64 yx_154) ∧
 (∃ ya_155 : Option Addr, ∃ yn_155 : Nat, ∃ yc_155 : Nat, w.cell? ((q153.add (x44.toNat * 2)).add 1) = some (.slice ya_155 yn_155 yc_155) ∧
 (nw (w.alloc (.cells #[.int .i64 0, .slice none 0 0] 33)) fun w156 =>
 okSt w156 ((na w).add 0) ∧
 (nw (w156.setCell ((na w).add 0) (.int .i64 yx_154)) fun w157 =>
 okSt w157 ((na w).add 1) ∧
 (nw (w157.setCell ((na w).add 1) (.slice ya_155 yn_155 yc_155)) fun w158 =>
 ∃ yx_159 : Int, w158.cell? ((na w).add 0) = some (.int .i64 yx_159) ∧
 (∃ ya_160 : Option Addr, ∃ yn_160 : Nat, ∃ yc_160 : Nat, w158.cell? ((na w).add 1) = some (.slice ya_160 yn_160 yc_160) ∧
 (Go.E.CallsD Go.Proofs.Try.prog 17 #[.agg #[.int .i64 yx_159, .slice ya_160 yn_160 yc_160], .slice a1 n1 c1] w158 fun yv161 u162 =>
 ∃ yx_163_0 : Int, ∃ yx_163_1 : Int, ∃ yx_163_2 : Int, yv161 = .tuple #[.int .i64 yx_163_0, .int .i64 yx_163_1, .int .i64 yx_163_2] ∧
 (onBool (yx_163_2 != 0)
 (R (.bool false) u162)
 (∃ yx_164 : Int, u162.cell? ((na w).add 0) = some (.int .i64 yx_164) ∧
 (optN a9 fun q165 =>
 chk ((0 : Int) ≤ yx_164 ∧ yx_164 < (n9 : Int))
 (∃ yx_166 : Int, u162.cell? (q165.add (yx_164.toNat * 1)) = some (.int .i64 yx_166) ∧
 (nv (IntKind.i64.wrap (yx_166 + yx_163_1)) fun t167 =>
 optN a9 fun q168 =>
 chk ((0 : Int) ≤ yx_164 ∧ yx_164 < (n9 : Int))
 (okSt u162 ((q168.add (yx_164.toNat * 1)).add 0) ∧
 (nw (u162.setCell ((q168.add (yx_164.toNat * 1)).add 0) (.int .i64 t167)) fun w169 =>
 onBool (decide (x44 < (n2 : Int)))
 (optN a2 fun q170 =>
 chk ((0 : Int) ≤ x44 ∧ x44 < (n2 : Int))
 (∃ yx_171 : Int, w169.cell? (q170.add (x44.toNat * 1)) = some (.int .i64 yx_171) ∧
 (nv (IntKind.u64.wrap yx_171) fun t172 =>
 optN p3 fun q173 =>
 ∃ ya_174 : Option Addr, ∃ yn_174 : Nat, ∃ yc_174 : Nat, w169.cell? (q173.add 4) = some (.slice ya_174 yn_174 yc_174) ∧
 (nv (IntKind.u64.wrap (yn_174 : Int)) fun t175 =>
 nchk (t175 = 0)
 (nv (Int.tmod t172 t175) fun t176 =>
 nv (IntKind.i64.wrap t176) fun t177 =>
 ∃ wm178 : World, CK wm178 w169 ∧
 (optN p10 fun q179 =>
 ∃ ya_180 : Option Addr, ∃ yn_180 : Nat, ∃ yc_180 : Nat, w169.cell? (q179.add 4) = some (.slice ya_180 yn_180 yc_180) ∧
 (optN p10 fun q181 =>
 ∃ ya_182 : Option Addr, ∃ yn_182 : Nat, ∃ yc_182 : Nat, wm178.cell? (q181.add 4) = some (.slice ya_182 yn_182 yc_182) ∧
 (optN p10 fun q183 =>
 ∃ ya_184 : Option Addr, ∃ yn_184 : Nat, ∃ yc_184 : Nat, w169.cell? (q183.add 4) = some (.slice ya_184 yn_184 yc_184) ∧
 (optN ya_184 fun q185 =>
 chk ((0 : Int) ≤ t177 ∧ t177 < (yn_184 : Int))
 (∃ yx_186 : Int, w169.cell? ((q185.add (t177.toNat * 2)).add 0) = some (.int .i64 yx_186) ∧
 (∃ ya_187 : Option Addr, ∃ yn_187 : Nat, ∃ yc_187 : Nat, w169.cell? ((q185.add (t177.toNat * 2)).add 1) = some (.slice ya_187 yn_187 yc_187) ∧
 (optN p10 fun q188 =>
 ∃ ya_189 : Option Addr, ∃ yn_189 : Nat, ∃ yc_189 : Nat, wm178.cell? (q188.add 4) = some (.slice ya_189 yn_189 yc_189) ∧
 (optN ya_189 fun q190 =>
 chk ((0 : Int) ≤ x44 ∧ x44 < (yn_189 : Int))
 (∃ yx_191 : Int, w169.cell? ((q190.add (x44.toNat * 2)).add 0) = some (.int .i64 yx_191) ∧
 (∃ ya_192 : Option Addr, ∃ yn_192 : Nat, ∃ yc_192 : Nat, w169.cell? ((q190.add (x44.toNat * 2)).add 1) = some (.slice ya_192 yn_192 yc_192) ∧
 (optN ya_180 fun q193 =>
 chk ((0 : Int) ≤ x44 ∧ x44 < (yn_180 : Int))
 (okSt w169 ((q193.add (x44.toNat * 2)).add 0) ∧
 (nw (w169.setCell ((q193.add (x44.toNat * 2)).add 0) (.int .i64 yx_186)) fun w194 =>
 okSt w194 ((q193.add (x44.toNat * 2)).add 1) ∧
 (nw (w194.setCell ((q193.add (x44.toNat * 2)).add 1) (.slice ya_187 yn_187 yc_187)) fun w195 =>
 CK wm178 w195 ∧
 (optN ya_182 fun q196 =>
 chk ((0 : Int) ≤ t177 ∧ t177 < (yn_182 : Int))
 (okSt w195 ((q196.add (t177.toNat * 2)).add 0) ∧
 (nw (w195.setCell ((q196.add (t177.toNat * 2)).add 0) (.int .i64 yx_191)) fun w197 =>
 okSt w197 ((q196.add (t177.toNat * 2)).add 1) ∧
 (nw (w197.setCell ((q196.add (t177.toNat * 2)).add 1) (.slice ya_192 yn_192 yc_192)) fun w198 =>
 CK wm178 w198 ∧
 (nv (IntKind.i64.wrap (x44 + 1)) fun t199 =>
 b28 a1 n1 c1 a2 n2 c2 p3 a7 n7 c7 a9 n9 c9 p10 a42 n42 c42 x43 t199 w198))))))))))))))))))))))))
 (nv (IntKind.i64.wrap (x44 + 1)) fun t200 =>
 b28 a1 n1 c1 a2 n2 c2 p3 a7 n7 c7 a9 n9 c9 p10 a42 n42 c42 x43 t200 w169))))))))))))))))
 (optN p10 fun q201 =>
 ∃ ys_202 : ByteArray, w.cell? (q201.add 0) = some (.string ys_202) ∧
 (∃ ya_203 : Option Addr, ∃ yn_203 : Nat, ∃ yc_203 : Nat, w.cell? (q201.add 1) = some (.slice ya_203 yn_203 yc_203) ∧
 (∃ yx_204 : Int, w.cell? (q201.add 2) = some (.int .i64 yx_204) ∧
 (∃ ya_205 : Option Addr, ∃ yn_205 : Nat, ∃ yc_205 : Nat, w.cell? (q201.add 3) = some (.slice ya_205 yn_205 yc_205) ∧
 (∃ ya_206 : Option Addr, ∃ yn_206 : Nat, ∃ yc_206 : Nat, w.cell? (q201.add 4) = some (.slice ya_206 yn_206 yc_206) ∧
 (Go.E.CallsD Go.Proofs.Try.prog 21 #[.agg #[.string ys_202, .slice ya_203 yn_203 yc_203, .int .i64 yx_204, .slice ya_205 yn_205 yc_205, .slice ya_206 yn_206 yc_206], .slice a1 n1 c1] w fun yv207 u208 =>
 ∃ ya_209_0 : Option Addr, ∃ yn_209_0 : Nat, ∃ yc_209_0 : Nat, ∃ yx_209_1 : Int, yv207 = .tuple #[.slice ya_209_0 yn_209_0 yc_209_0, .int .i64 yx_209_1] ∧
 (optN p3 fun q210 =>
 ∃ ys_211 : ByteArray, u208.cell? (q210.add 0) = some (.string ys_211) ∧
 (∃ ya_212 : Option Addr, ∃ yn_212 : Nat, ∃ yc_212 : Nat, u208.cell? (q210.add 1) = some (.slice ya_212 yn_212 yc_212) ∧
 (∃ yx_213 : Int, u208.cell? (q210.add 2) = some (.int .i64 yx_213) ∧
 (∃ ya_214 : Option Addr, ∃ yn_214 : Nat, ∃ yc_214 : Nat, u208.cell? (q210.add 3) = some (.slice ya_214 yn_214 yc_214) ∧
 (∃ ya_215 : Option Addr, ∃ yn_215 : Nat, ∃ yc_215 : Nat, u208.cell? (q210.add 4) = some (.slice ya_215 yn_215 yc_215) ∧
 (Go.E.CallsD Go.Proofs.Try.prog 33 #[.agg #[.string ys_211, .slice ya_212 yn_212 yc_212, .int .i64 yx_213, .slice ya_214 yn_214 yc_214, .slice ya_215 yn_215 yc_215]] u208 fun yv216 u217 =>
 ∃ ys_218_0_0 : ByteArray, ∃ ya_218_0_1 : Option Addr, ∃ yn_218_0_1 : Nat, ∃ yc_218_0_1 : Nat, ∃ yx_218_0_2 : Int, ∃ ya_218_0_3 : Option Addr, ∃ yn_218_0_3 : Nat, ∃ yc_218_0_3 : Nat, ∃ ya_218_0_4 : Option Addr, ∃ yn_218_0_4 : Nat, ∃ yc_218_0_4 : Nat, ∃ yx_218_1 : Int, yv216 = .tuple #[.agg #[.string ys_218_0_0, .slice ya_218_0_1 yn_218_0_1 yc_218_0_1, .int .i64 yx_218_0_2, .slice ya_218_0_3 yn_218_0_3 yc_218_0_3, .slice ya_218_0_4 yn_218_0_4 yc_218_0_4], .int .i64 yx_218_1] ∧
 (nw (u217.alloc (.cells #[.string ⟨#[]⟩, .slice none 0 0, .int .i64 0, .slice none 0 0, .slice none 0 0] 46)) fun w219 =>
 okSt w219 ((na u217).add 0) ∧
 (nw (w219.setCell ((na u217).add 0) (.string ys_218_0_0)) fun w220 =>
 okSt w220 ((na u217).add 1) ∧
 (nw (w220.setCell ((na u217).add 1) (.slice ya_218_0_1 yn_218_0_1 yc_218_0_1)) fun w221 =>
 okSt w221 ((na u217).add 2) ∧
 (nw (w221.setCell ((na u217).add 2) (.int .i64 yx_218_0_2)) fun w222 =>
 okSt w222 ((na u217).add 3) ∧
 (nw (w222.setCell ((na u217).add 3) (.slice ya_218_0_3 yn_218_0_3 yc_218_0_3)) fun w223 =>
 okSt w223 ((na u217).add 4) ∧
 (nw (w223.setCell ((na u217).add 4) (.slice ya_218_0_4 yn_218_0_4 yc_218_0_4)) fun w224 =>
 ∃ ys_225 : ByteArray, w224.cell? ((na u217).add 0) = some (.string ys_225) ∧
 (∃ ya_226 : Option Addr, ∃ yn_226 : Nat, ∃ yc_226 : Nat, w224.cell? ((na u217).add 1) = some (.slice ya_226 yn_226 yc_226) ∧
 (∃ yx_227 : Int, w224.cell? ((na u217).add 2) = some (.int .i64 yx_227) ∧
 (∃ ya_228 : Option Addr, ∃ yn_228 : Nat, ∃ yc_228 : Nat, w224.cell? ((na u217).add 3) = some (.slice ya_228 yn_228 yc_228) ∧
 (∃ ya_229 : Option Addr, ∃ yn_229 : Nat, ∃ yc_229 : Nat, w224.cell? ((na u217).add 4) = some (.slice ya_229 yn_229 yc_229) ∧
 (Go.E.CallsD Go.Proofs.Try.prog 21 #[.agg #[.string ys_225, .slice ya_226 yn_226 yc_226, .int .i64 yx_227, .slice ya_228 yn_228 yc_228, .slice ya_229 yn_229 yc_229], .slice a1 n1 c1] w224 fun yv230 u231 =>
 ∃ ya_232_0 : Option Addr, ∃ yn_232_0 : Nat, ∃ yc_232_0 : Nat, ∃ yx_232_1 : Int, yv230 = .tuple #[.slice ya_232_0 yn_232_0 yc_232_0, .int .i64 yx_232_1] ∧
 (Go.E.CallsD Go.Proofs.Try.prog 23 #[.slice a7 n7 c7, .slice a9 n9 c9] u231 fun yv233 u234 =>
 ∃ yb_235 : Bool, yv233 = .bool yb_235 ∧
 (onBool yb_235
 (onBool (yx_209_1 == 0)
 (Go.E.CallsD Go.Proofs.Try.prog 23 #[.slice ya_209_0 yn_209_0 yc_209_0, .slice a9 n9 c9] u234 fun yv236 u237 =>
 ∃ yb_238 : Bool, yv236 = .bool yb_238 ∧
 (onBool yb_238
 (onBool (yx_218_1 == 0)
 (onBool (yx_232_1 == 0)
 (Go.E.CallsD Go.Proofs.Try.prog 23 #[.slice ya_232_0 yn_232_0 yc_232_0, .slice a9 n9 c9] u237 fun yv239 u240 =>
 ∃ yb_241 : Bool, yv239 = .bool yb_241 ∧
 (R (.bool yb_241) u240))
 (R (.bool false) u237))
 (R (.bool false) u237))
 (R (.bool false) u237)))
 (R (.bool false) u234))
 (R (.bool false) u234))))))))))))))))))))))))))
def thicketlaw07_TreesSums.q2 (R : Value → World → Prop) : Exit → Act → World → Prop := (fin Go.Proofs.Try.prog Go.Proofs.Try.f7 R)
def thicketlaw07_TreesSums.q10 (R : Value → World → Prop) : Exit → Act → World → Prop := (thicketlaw07_TreesSums.q2 R)
def thicketlaw07_TreesSums.q12 (R : Value → World → Prop) : Exit → Act → World → Prop := (thicketlaw07_TreesSums.q10 R)
def thicketlaw07_TreesSums.q20 (R : Value → World → Prop) : Exit → Act → World → Prop := (thicketlaw07_TreesSums.q12 R)
def thicketlaw07_TreesSums.q22 (R : Value → World → Prop) : Exit → Act → World → Prop := (thicketlaw07_TreesSums.q20 R)
def thicketlaw07_TreesSums.q24 (R : Value → World → Prop) : Exit → Act → World → Prop := (thicketlaw07_TreesSums.q22 R)
def thicketlaw07_TreesSums.q25 (R : Value → World → Prop) : Exit → Act → World → Prop := Exit.then (startN none (codeN Go.Proofs.Try.prog (sub (codeOf Go.Proofs.Try.f7) [1, 1, 1, 1, 1, 1, 1]) (nsub thicketlaw07_TreesSums.an [1, 1, 1, 1, 1, 1, 1]) (thicketlaw07_TreesSums.q24 R))) (thicketlaw07_TreesSums.q24 R)
def thicketlaw07_TreesSums.q27 (R : Value → World → Prop) : Exit → Act → World → Prop := (thicketlaw07_TreesSums.q25 R)
def thicketlaw07_TreesSums.q28 (R : Value → World → Prop) : Exit → Act → World → Prop := Exit.inBlock 0 (thicketlaw07_TreesSums.q27 R)
def thicketlaw07_TreesSums.rl28 (R : Value → World → Prop) (k : Nat) (a1 : Option Addr) (n1 : Nat) (c1 : Nat) (a2 : Option Addr) (n2 : Nat) (c2 : Nat) (p3 : Option Addr) (a7 : Option Addr) (n7 : Nat) (c7 : Nat) (a9 : Option Addr) (n9 : Nat) (c9 : Nat) (p10 : Option Addr) (a42 : Option Addr) (n42 : Nat) (c42 : Nat) (x43 : Int) (x44 : Int) (w : World) : Prop := loopN [1, 2, 3, 7, 9, 10, 42, 43, 44] (codeN Go.Proofs.Try.prog (sub (codeOf Go.Proofs.Try.f7) [1, 1, 1, 1, 1, 1, 0, 1, 0, 0]) (nsub thicketlaw07_TreesSums.an [1, 1, 1, 1, 1, 1, 0, 1, 0, 0])) (thicketlaw07_TreesSums.q28 R) k ⟨#[undef, .slice a1 n1 c1, .slice a2 n2 c2, .pointer p3, undef, undef, undef, .slice a7 n7 c7, undef, .slice a9 n9 c9, .pointer p10, undef, undef, undef, undef, undef, undef, undef, undef, undef, undef, undef, undef, undef, undef, undef, undef, undef, undef, undef, undef, undef, undef, undef, undef, undef, undef, undef, undef, undef, undef, undef, .slice a42 n42 c42, .int .i64 x43, .int .i64 x44, undef, undef, undef, undef, undef, undef, undef, undef, undef, undef, undef, undef, undef, undef, undef, undef, undef, undef, undef, undef, undef, undef, undef, undef, undef, undef, undef, undef, undef, undef, undef, undef, undef, undef, undef, undef, undef, undef, undef, undef, undef, undef, undef, undef, undef, undef, undef, undef, undef, undef, undef, undef, undef, undef, undef, undef, undef, undef, undef, undef, undef, undef, undef, undef, undef, undef, undef, undef, undef, undef, undef, undef, undef, undef, undef, undef, undef, undef, undef, undef, undef, undef, undef, undef, undef, undef, undef, undef, undef, undef, undef, undef, undef, undef, undef, undef, undef], []⟩ w
def thicketlaw07_TreesSums.re28 (R : Value → World → Prop) (a1 : Option Addr) (n1 : Nat) (c1 : Nat) (a2 : Option Addr) (n2 : Nat) (c2 : Nat) (p3 : Option Addr) (a7 : Option Addr) (n7 : Nat) (c7 : Nat) (a9 : Option Addr) (n9 : Nat) (c9 : Nat) (p10 : Option Addr) (a42 : Option Addr) (n42 : Nat) (c42 : Nat) (x43 : Int) (x44 : Int) (w : World) : Prop := ∃ k, thicketlaw07_TreesSums.rl28 R k a1 n1 c1 a2 n2 c2 p3 a7 n7 c7 a9 n9 c9 p10 a42 n42 c42 x43 x44 w
def thicketlaw07_TreesSums.l28 (R : Value → World → Prop) : Nat → (Option Addr) → Nat → Nat → (Option Addr) → Nat → Nat → (Option Addr) → (Option Addr) → Nat → Nat → (Option Addr) → Nat → Nat → (Option Addr) → (Option Addr) → Nat → Nat → Int → Int → World → Prop
  | 0, _, _, _, _, _, _, _, _, _, _, _, _, _, _, _, _, _, _, _, _ => False
  | k + 1, a1, n1, c1, a2, n2, c2, p3, a7, n7, c7, a9, n9, c9, p10, a42, n42, c42, x43, x44, w => thicketlaw07_TreesSums.g28 R (thicketlaw07_TreesSums.l28 R k) a1 n1 c1 a2 n2 c2 p3 a7 n7 c7 a9 n9 c9 p10 a42 n42 c42 x43 x44 w
def thicketlaw07_TreesSums.e28 (R : Value → World → Prop) (a1 : Option Addr) (n1 : Nat) (c1 : Nat) (a2 : Option Addr) (n2 : Nat) (c2 : Nat) (p3 : Option Addr) (a7 : Option Addr) (n7 : Nat) (c7 : Nat) (a9 : Option Addr) (n9 : Nat) (c9 : Nat) (p10 : Option Addr) (a42 : Option Addr) (n42 : Nat) (c42 : Nat) (x43 : Int) (x44 : Int) (w : World) : Prop := ∃ k, thicketlaw07_TreesSums.l28 R k a1 n1 c1 a2 n2 c2 p3 a7 n7 c7 a9 n9 c9 p10 a42 n42 c42 x43 x44 w
theorem thicketlaw07_TreesSums.s28 (R : Value → World → Prop) (k : Nat) (a1 : Option Addr) (n1 : Nat) (c1 : Nat) (a2 : Option Addr) (n2 : Nat) (c2 : Nat) (p3 : Option Addr) (a7 : Option Addr) (n7 : Nat) (c7 : Nat) (a9 : Option Addr) (n9 : Nat) (c9 : Nat) (p10 : Option Addr) (a42 : Option Addr) (n42 : Nat) (c42 : Nat) (x43 : Int) (x44 : Int) (w : World) : thicketlaw07_TreesSums.rl28 R (k + 1) a1 n1 c1 a2 n2 c2 p3 a7 n7 c7 a9 n9 c9 p10 a42 n42 c42 x43 x44 w = ∀ _ : Nat → Value, thicketlaw07_TreesSums.g28 R (thicketlaw07_TreesSums.rl28 R k) a1 n1 c1 a2 n2 c2 p3 a7 n7 c7 a9 n9 c9 p10 a42 n42 c42 x43 x44 w := by kernel_rfl
theorem thicketlaw07_TreesSums.lq28 (R : Value → World → Prop) : ∀ k, thicketlaw07_TreesSums.l28 R k = thicketlaw07_TreesSums.rl28 R k
  | 0 => by funext a1 n1 c1 a2 n2 c2 p3 a7 n7 c7 a9 n9 c9 p10 a42 n42 c42 x43 x44 w; first | rfl | kernel_rfl
  | k + 1 => by
    funext a1 n1 c1 a2 n2 c2 p3 a7 n7 c7 a9 n9 c9 p10 a42 n42 c42 x43 x44 w
    rw [thicketlaw07_TreesSums.s28, forall_const]
    unfold thicketlaw07_TreesSums.l28
    have ih := thicketlaw07_TreesSums.lq28 R k
    rw [ih]
    all_goals rfl
theorem thicketlaw07_TreesSums.eq28 (R : Value → World → Prop) : thicketlaw07_TreesSums.e28 R = thicketlaw07_TreesSums.re28 R := by
  funext a1 n1 c1 a2 n2 c2 p3 a7 n7 c7 a9 n9 c9 p10 a42 n42 c42 x43 x44 w
  unfold thicketlaw07_TreesSums.e28 thicketlaw07_TreesSums.re28
  simp only [thicketlaw07_TreesSums.lq28 R]
def thicketlaw07_TreesSums (R : Value → World → Prop) (s0_0 : ByteArray) (a0_1 : Option Addr) (n0_1 : Nat) (c0_1 : Nat) (x0_2 : Int) (a0_3 : Option Addr) (n0_3 : Nat) (c0_3 : Nat) (a0_4 : Option Addr) (n0_4 : Nat) (c0_4 : Nat) (a1 : Option Addr) (n1 : Nat) (c1 : Nat) (a2 : Option Addr) (n2 : Nat) (c2 : Nat) (w : World) : Prop := thicketlaw07_TreesSums.g0 R (thicketlaw07_TreesSums.e28 R) s0_0 a0_1 n0_1 c0_1 x0_2 a0_3 n0_3 c0_3 a0_4 n0_4 c0_4 a1 n1 c1 a2 n2 c2 w
theorem thicketlaw07_TreesSums.root0 (R : Value → World → Prop) (s0_0 : ByteArray) (a0_1 : Option Addr) (n0_1 : Nat) (c0_1 : Nat) (x0_2 : Int) (a0_3 : Option Addr) (n0_3 : Nat) (c0_3 : Nat) (a0_4 : Option Addr) (n0_4 : Nat) (c0_4 : Nat) (a1 : Option Addr) (n1 : Nat) (c1 : Nat) (a2 : Option Addr) (n2 : Nat) (c2 : Nat) (w : World) : fnN Go.Proofs.Try.prog Go.Proofs.Try.f7 thicketlaw07_TreesSums.an #[.agg #[.string s0_0, .slice a0_1 n0_1 c0_1, .int .i64 x0_2, .slice a0_3 n0_3 c0_3, .slice a0_4 n0_4 c0_4], .slice a1 n1 c1, .slice a2 n2 c2] w R = thicketlaw07_TreesSums.g0 R (thicketlaw07_TreesSums.re28 R) s0_0 a0_1 n0_1 c0_1 x0_2 a0_3 n0_3 c0_3 a0_4 n0_4 c0_4 a1 n1 c1 a2 n2 c2 w := by kernel_rfl
theorem thicketlaw07_TreesSums.calls {R : Value → World → Prop} {s0_0 : ByteArray} {a0_1 : Option Addr} {n0_1 : Nat} {c0_1 : Nat} {x0_2 : Int} {a0_3 : Option Addr} {n0_3 : Nat} {c0_3 : Nat} {a0_4 : Option Addr} {n0_4 : Nat} {c0_4 : Nat} {a1 : Option Addr} {n1 : Nat} {c1 : Nat} {a2 : Option Addr} {n2 : Nat} {c2 : Nat} {w : World} (h : thicketlaw07_TreesSums R s0_0 a0_1 n0_1 c0_1 x0_2 a0_3 n0_3 c0_3 a0_4 n0_4 c0_4 a1 n1 c1 a2 n2 c2 w) : Go.E.CallsD Go.Proofs.Try.prog 7 #[.agg #[.string s0_0, .slice a0_1 n0_1 c0_1, .int .i64 x0_2, .slice a0_3 n0_3 c0_3, .slice a0_4 n0_4 c0_4], .slice a1 n1 c1, .slice a2 n2 c2] w R := by
  refine callsD_of (n := thicketlaw07_TreesSums.an) M_follows M_sizes Go.Proofs.Try.func7 (by rfl) ?_
  rw [thicketlaw07_TreesSums.root0]
  unfold thicketlaw07_TreesSums at h
  rw [thicketlaw07_TreesSums.eq28 R] at h
  exact h
-- thicket/thicketlaw07.TreesOwn
def thicketlaw07_TreesOwn.an : An := (.mk none .nil (.mk none .nil (.mk none .nil (.mk none .nil (.mk none .nil (.mk none .nil (.mk none .nil (.mk none .nil (.mk none .nil (.mk none .nil (.mk none .nil (.mk none .nil (.mk none .nil (.mk none (.mk none .nil (.mk none (.mk (some [1, 2, 10, 13, 15, 17, 97, 98]) .nil .nil) .nil)) (.mk none .nil (.mk none .nil (.mk none (.mk none .nil (.mk none (.mk (some [1, 2, 10, 130, 131, 132]) (.mk none .nil (.mk none .nil (.mk none (.mk none (.mk none .nil (.mk none .nil (.mk none .nil (.mk none .nil (.mk none .nil (.mk none .nil (.mk none .nil (.mk none (.mk none .nil (.mk none (.mk (some [1, 2, 10, 22, 24, 26, 28, 30, 32, 130, 131, 132, 169, 170]) .nil .nil) .nil)) (.mk none (.mk none .nil (.mk none (.mk (some [1, 2, 10, 22, 24, 26, 28, 30, 32, 130, 131, 132, 178, 179]) .nil .nil) .nil)) (.mk none .nil (.mk none .nil (.mk none .nil (.mk none (.mk none .nil (.mk none (.mk (some [1, 2, 10, 22, 24, 30, 130, 131, 132, 213, 214]) .nil .nil) .nil)) (.mk none .nil (.mk none (.mk (some [1, 2, 10, 24, 130, 131, 132, 224, 225]) .nil .nil) .nil))))))))))))))) .nil) .nil))) .nil) .nil)) .nil)))))))))))))))))
def thicketlaw07_TreesOwn.g0 (R : Value → World → Prop) (e42 : (Option Addr) → Nat → Nat → (Option Addr) → (Option Addr) → (Option Addr) → Nat → Nat → (Option Addr) → Nat → Nat → (Option Addr) → Nat → Nat → Int → Int → World → Prop) (s0_0 : ByteArray) (a0_1 : Option Addr) (n0_1 : Nat) (c0_1 : Nat) (x0_2 : Int) (a0_3 : Option Addr) (n0_3 : Nat) (c0_3 : Nat) (a0_4 : Option Addr) (n0_4 : Nat) (c0_4 : Nat) (a1 : Option Addr) (n1 : Nat) (c1 : Nat) (w : World) : Prop :=
 nw (w.alloc (.cells #[.string s0_0, .slice a0_1 n0_1 c0_1, .int .i64 x0_2, .slice a0_3 n0_3 c0_3, .slice a0_4 n0_4 c0_4] 46)) fun w223 =>
 Go.E.CallsD Go.Proofs.Try.prog 12 #[] w223 fun yv224 u225 =>
 ∃ yb_226 : Bool, yv224 = .bool yb_226 ∧
 (onBool (!yb_226)
 (R (.bool false) u225)
 (∃ ys_227 : ByteArray, u225.cell? ((na w).add 0) = some (.string ys_227) ∧
 (∃ ya_228 : Option Addr, ∃ yn_228 : Nat, ∃ yc_228 : Nat, u225.cell? ((na w).add 1) = some (.slice ya_228 yn_228 yc_228) ∧
 (∃ yx_229 : Int, u225.cell? ((na w).add 2) = some (.int .i64 yx_229) ∧
 (∃ ya_230 : Option Addr, ∃ yn_230 : Nat, ∃ yc_230 : Nat, u225.cell? ((na w).add 3) = some (.slice ya_230 yn_230 yc_230) ∧
 (∃ ya_231 : Option Addr, ∃ yn_231 : Nat, ∃ yc_231 : Nat, u225.cell? ((na w).add 4) = some (.slice ya_231 yn_231 yc_231) ∧
 (Go.E.CallsD Go.Proofs.Try.prog 34 #[.agg #[.string ys_227, .slice ya_228 yn_228 yc_228, .int .i64 yx_229, .slice ya_230 yn_230 yc_230, .slice ya_231 yn_231 yc_231]] u225 fun yv232 u233 =>
 ∃ ys_234_0 : ByteArray, ∃ ya_234_1 : Option Addr, ∃ yn_234_1 : Nat, ∃ yc_234_1 : Nat, ∃ yx_234_2 : Int, ∃ ya_234_3 : Option Addr, ∃ yn_234_3 : Nat, ∃ yc_234_3 : Nat, ∃ ya_234_4 : Option Addr, ∃ yn_234_4 : Nat, ∃ yc_234_4 : Nat, yv232 = .agg #[.string ys_234_0, .slice ya_234_1 yn_234_1 yc_234_1, .int .i64 yx_234_2, .slice ya_234_3 yn_234_3 yc_234_3, .slice ya_234_4 yn_234_4 yc_234_4] ∧
 (nw (u233.alloc (.cells #[.string ⟨#[]⟩, .slice none 0 0, .int .i64 0, .slice none 0 0, .slice none 0 0] 46)) fun w235 =>
 okSt w235 ((na u233).add 0) ∧
 (nw (w235.setCell ((na u233).add 0) (.string ys_234_0)) fun w236 =>
 okSt w236 ((na u233).add 1) ∧
 (nw (w236.setCell ((na u233).add 1) (.slice ya_234_1 yn_234_1 yc_234_1)) fun w237 =>
 okSt w237 ((na u233).add 2) ∧
 (nw (w237.setCell ((na u233).add 2) (.int .i64 yx_234_2)) fun w238 =>
 okSt w238 ((na u233).add 3) ∧
 (nw (w238.setCell ((na u233).add 3) (.slice ya_234_3 yn_234_3 yc_234_3)) fun w239 =>
 okSt w239 ((na u233).add 4) ∧
 (nw (w239.setCell ((na u233).add 4) (.slice ya_234_4 yn_234_4 yc_234_4)) fun w240 =>
 ∃ ys_241 : ByteArray, w240.cell? ((na w).add 0) = some (.string ys_241) ∧
 (∃ ya_242 : Option Addr, ∃ yn_242 : Nat, ∃ yc_242 : Nat, w240.cell? ((na w).add 1) = some (.slice ya_242 yn_242 yc_242) ∧
 (∃ yx_243 : Int, w240.cell? ((na w).add 2) = some (.int .i64 yx_243) ∧
 (∃ ya_244 : Option Addr, ∃ yn_244 : Nat, ∃ yc_244 : Nat, w240.cell? ((na w).add 3) = some (.slice ya_244 yn_244 yc_244) ∧
 (∃ ya_245 : Option Addr, ∃ yn_245 : Nat, ∃ yc_245 : Nat, w240.cell? ((na w).add 4) = some (.slice ya_245 yn_245 yc_245) ∧
 (Go.E.CallsD Go.Proofs.Try.prog 33 #[.agg #[.string ys_241, .slice ya_242 yn_242 yc_242, .int .i64 yx_243, .slice ya_244 yn_244 yc_244, .slice ya_245 yn_245 yc_245]] w240 fun yv246 u247 =>
 ∃ ys_248_0_0 : ByteArray, ∃ ya_248_0_1 : Option Addr, ∃ yn_248_0_1 : Nat, ∃ yc_248_0_1 : Nat, ∃ yx_248_0_2 : Int, ∃ ya_248_0_3 : Option Addr, ∃ yn_248_0_3 : Nat, ∃ yc_248_0_3 : Nat, ∃ ya_248_0_4 : Option Addr, ∃ yn_248_0_4 : Nat, ∃ yc_248_0_4 : Nat, ∃ yx_248_1 : Int, yv246 = .tuple #[.agg #[.string ys_248_0_0, .slice ya_248_0_1 yn_248_0_1 yc_248_0_1, .int .i64 yx_248_0_2, .slice ya_248_0_3 yn_248_0_3 yc_248_0_3, .slice ya_248_0_4 yn_248_0_4 yc_248_0_4], .int .i64 yx_248_1] ∧
 (nw (u247.alloc (.cells #[.string ⟨#[]⟩, .slice none 0 0, .int .i64 0, .slice none 0 0, .slice none 0 0] 46)) fun w249 =>
 okSt w249 ((na u247).add 0) ∧
 (nw (w249.setCell ((na u247).add 0) (.string ys_248_0_0)) fun w250 =>
 okSt w250 ((na u247).add 1) ∧
 (nw (w250.setCell ((na u247).add 1) (.slice ya_248_0_1 yn_248_0_1 yc_248_0_1)) fun w251 =>
 okSt w251 ((na u247).add 2) ∧
 (nw (w251.setCell ((na u247).add 2) (.int .i64 yx_248_0_2)) fun w252 =>
 okSt w252 ((na u247).add 3) ∧
 (nw (w252.setCell ((na u247).add 3) (.slice ya_248_0_3 yn_248_0_3 yc_248_0_3)) fun w253 =>
 okSt w253 ((na u247).add 4) ∧
 (nw (w253.setCell ((na u247).add 4) (.slice ya_248_0_4 yn_248_0_4 yc_248_0_4)) fun w254 =>
 ∃ ys_255 : ByteArray, w254.cell? ((na w).add 0) = some (.string ys_255) ∧
 (∃ ya_256 : Option Addr, ∃ yn_256 : Nat, ∃ yc_256 : Nat, w254.cell? ((na w).add 1) = some (.slice ya_256 yn_256 yc_256) ∧
 (∃ yx_257 : Int, w254.cell? ((na w).add 2) = some (.int .i64 yx_257) ∧
 (∃ ya_258 : Option Addr, ∃ yn_258 : Nat, ∃ yc_258 : Nat, w254.cell? ((na w).add 3) = some (.slice ya_258 yn_258 yc_258) ∧
 (∃ ya_259 : Option Addr, ∃ yn_259 : Nat, ∃ yc_259 : Nat, w254.cell? ((na w).add 4) = some (.slice ya_259 yn_259 yc_259) ∧
 (Go.E.CallsD Go.Proofs.Try.prog 35 #[.agg #[.string ys_255, .slice ya_256 yn_256 yc_256, .int .i64 yx_257, .slice ya_258 yn_258 yc_258, .slice ya_259 yn_259 yc_259]] w254 fun yv260 u261 =>
 ∃ ys_262_0_0 : ByteArray, ∃ ya_262_0_1 : Option Addr, ∃ yn_262_0_1 : Nat, ∃ yc_262_0_1 : Nat, ∃ yx_262_0_2 : Int, ∃ ya_262_0_3 : Option Addr, ∃ yn_262_0_3 : Nat, ∃ yc_262_0_3 : Nat, ∃ ya_262_0_4 : Option Addr, ∃ yn_262_0_4 : Nat, ∃ yc_262_0_4 : Nat, ∃ yx_262_1 : Int, yv260 = .tuple #[.agg #[.string ys_262_0_0, .slice ya_262_0_1 yn_262_0_1 yc_262_0_1, .int .i64 yx_262_0_2, .slice ya_262_0_3 yn_262_0_3 yc_262_0_3, .slice ya_262_0_4 yn_262_0_4 yc_262_0_4], .int .i64 yx_262_1] ∧
 (nw (u261.alloc (.cells #[.string ⟨#[]⟩, .slice none 0 0, .int .i64 0, .slice none 0 0, .slice none 0 0] 46)) fun w263 =>
 okSt w263 ((na u261).add 0) ∧
 (nw (w263.setCell ((na u261).add 0) (.string ys_262_0_0)) fun w264 =>
 okSt w264 ((na u261).add 1) ∧
 (nw (w264.setCell ((na u261).add 1) (.slice ya_262_0_1 yn_262_0_1 yc_262_0_1)) fun w265 =>
 okSt w265 ((na u261).add 2) ∧
 (nw (w265.setCell ((na u261).add 2) (.int .i64 yx_262_0_2)) fun w266 =>
 okSt w266 ((na u261).add 3) ∧
 (nw (w266.setCell ((na u261).add 3) (.slice ya_262_0_3 yn_262_0_3 yc_262_0_3)) fun w267 =>
 okSt w267 ((na u261).add 4) ∧
 (nw (w267.setCell ((na u261).add 4) (.slice ya_262_0_4 yn_262_0_4 yc_262_0_4)) fun w268 =>
 ∃ ys_269 : ByteArray, w268.cell? ((na w).add 0) = some (.string ys_269) ∧
 (∃ ya_270 : Option Addr, ∃ yn_270 : Nat, ∃ yc_270 : Nat, w268.cell? ((na w).add 1) = some (.slice ya_270 yn_270 yc_270) ∧
 (∃ yx_271 : Int, w268.cell? ((na w).add 2) = some (.int .i64 yx_271) ∧
 (∃ ya_272 : Option Addr, ∃ yn_272 : Nat, ∃ yc_272 : Nat, w268.cell? ((na w).add 3) = some (.slice ya_272 yn_272 yc_272) ∧
 (∃ ya_273 : Option Addr, ∃ yn_273 : Nat, ∃ yc_273 : Nat, w268.cell? ((na w).add 4) = some (.slice ya_273 yn_273 yc_273) ∧
 (Go.E.CallsD Go.Proofs.Try.prog 20 #[.agg #[.string ys_269, .slice ya_270 yn_270 yc_270, .int .i64 yx_271, .slice ya_272 yn_272 yc_272, .slice ya_273 yn_273 yc_273]] w268 fun yv274 u275 =>
 ∃ ys_276_0 : ByteArray, ∃ ya_276_1 : Option Addr, ∃ yn_276_1 : Nat, ∃ yc_276_1 : Nat, ∃ yx_276_2 : Int, ∃ ya_276_3 : Option Addr, ∃ yn_276_3 : Nat, ∃ yc_276_3 : Nat, ∃ ya_276_4 : Option Addr, ∃ yn_276_4 : Nat, ∃ yc_276_4 : Nat, yv274 = .agg #[.string ys_276_0, .slice ya_276_1 yn_276_1 yc_276_1, .int .i64 yx_276_2, .slice ya_276_3 yn_276_3 yc_276_3, .slice ya_276_4 yn_276_4 yc_276_4] ∧
 (nw (u275.alloc (.cells #[.string ⟨#[]⟩, .slice none 0 0, .int .i64 0, .slice none 0 0, .slice none 0 0] 46)) fun w277 =>
 okSt w277 ((na u275).add 0) ∧
 (nw (w277.setCell ((na u275).add 0) (.string ys_276_0)) fun w278 =>
 okSt w278 ((na u275).add 1) ∧
 (nw (w278.setCell ((na u275).add 1) (.slice ya_276_1 yn_276_1 yc_276_1)) fun w279 =>
 okSt w279 ((na u275).add 2) ∧
 (nw (w279.setCell ((na u275).add 2) (.int .i64 yx_276_2)) fun w280 =>
 okSt w280 ((na u275).add 3) ∧
 (nw (w280.setCell ((na u275).add 3) (.slice ya_276_3 yn_276_3 yc_276_3)) fun w281 =>
 okSt w281 ((na u275).add 4) ∧
 (nw (w281.setCell ((na u275).add 4) (.slice ya_276_4 yn_276_4 yc_276_4)) fun w282 =>
 ∃ ys_283 : ByteArray, w282.cell? ((na u233).add 0) = some (.string ys_283) ∧
 (∃ ya_284 : Option Addr, ∃ yn_284 : Nat, ∃ yc_284 : Nat, w282.cell? ((na u233).add 1) = some (.slice ya_284 yn_284 yc_284) ∧
 (∃ yx_285 : Int, w282.cell? ((na u233).add 2) = some (.int .i64 yx_285) ∧
 (∃ ya_286 : Option Addr, ∃ yn_286 : Nat, ∃ yc_286 : Nat, w282.cell? ((na u233).add 3) = some (.slice ya_286 yn_286 yc_286) ∧
 (∃ ya_287 : Option Addr, ∃ yn_287 : Nat, ∃ yc_287 : Nat, w282.cell? ((na u233).add 4) = some (.slice ya_287 yn_287 yc_287) ∧
 (Go.E.CallsD Go.Proofs.Try.prog 36 #[.agg #[.string ys_283, .slice ya_284 yn_284 yc_284, .int .i64 yx_285, .slice ya_286 yn_286 yc_286, .slice ya_287 yn_287 yc_287]] w282 fun yv288 u289 =>
 yv288 = .tuple #[] ∧
 (∃ ys_291 : ByteArray, u289.cell? ((na u247).add 0) = some (.string ys_291) ∧
 (∃ ya_292 : Option Addr, ∃ yn_292 : Nat, ∃ yc_292 : Nat, u289.cell? ((na u247).add 1) = some (.slice ya_292 yn_292 yc_292) ∧
 (∃ yx_293 : Int, u289.cell? ((na u247).add 2) = some (.int .i64 yx_293) ∧
 (∃ ya_294 : Option Addr, ∃ yn_294 : Nat, ∃ yc_294 : Nat, u289.cell? ((na u247).add 3) = some (.slice ya_294 yn_294 yc_294) ∧
 (∃ ya_295 : Option Addr, ∃ yn_295 : Nat, ∃ yc_295 : Nat, u289.cell? ((na u247).add 4) = some (.slice ya_295 yn_295 yc_295) ∧
 (Go.E.CallsD Go.Proofs.Try.prog 36 #[.agg #[.string ys_291, .slice ya_292 yn_292 yc_292, .int .i64 yx_293, .slice ya_294 yn_294 yc_294, .slice ya_295 yn_295 yc_295]] u289 fun yv296 u297 =>
 yv296 = .tuple #[] ∧
 (∃ ys_299 : ByteArray, u297.cell? ((na w).add 0) = some (.string ys_299) ∧
 (∃ ya_300 : Option Addr, ∃ yn_300 : Nat, ∃ yc_300 : Nat, u297.cell? ((na w).add 1) = some (.slice ya_300 yn_300 yc_300) ∧
 (∃ yx_301 : Int, u297.cell? ((na w).add 2) = some (.int .i64 yx_301) ∧
 (∃ ya_302 : Option Addr, ∃ yn_302 : Nat, ∃ yc_302 : Nat, u297.cell? ((na w).add 3) = some (.slice ya_302 yn_302 yc_302) ∧
 (∃ ya_303 : Option Addr, ∃ yn_303 : Nat, ∃ yc_303 : Nat, u297.cell? ((na w).add 4) = some (.slice ya_303 yn_303 yc_303) ∧
 (Go.E.CallsD Go.Proofs.Try.prog 33 #[.agg #[.string ys_299, .slice ya_300 yn_300 yc_300, .int .i64 yx_301, .slice ya_302 yn_302 yc_302, .slice ya_303 yn_303 yc_303]] u297 fun yv304 u305 =>
 ∃ ys_306_0_0 : ByteArray, ∃ ya_306_0_1 : Option Addr, ∃ yn_306_0_1 : Nat, ∃ yc_306_0_1 : Nat, ∃ yx_306_0_2 : Int, ∃ ya_306_0_3 : Option Addr, ∃ yn_306_0_3 : Nat, ∃ yc_306_0_3 : Nat, ∃ ya_306_0_4 : Option Addr, ∃ yn_306_0_4 : Nat, ∃ yc_306_0_4 : Nat, ∃ yx_306_1 : Int, yv304 = .tuple #[.agg #[.string ys_306_0_0, .slice ya_306_0_1 yn_306_0_1 yc_306_0_1, .int .i64 yx_306_0_2, .slice ya_306_0_3 yn_306_0_3 yc_306_0_3, .slice ya_306_0_4 yn_306_0_4 yc_306_0_4], .int .i64 yx_306_1] ∧
 (nw (u305.alloc (.cells #[.string ⟨#[]⟩, .slice none 0 0, .int .i64 0, .slice none 0 0, .slice none 0 0] 46)) fun w307 =>
 okSt w307 ((na u305).add 0) ∧
 (nw (w307.setCell ((na u305).add 0) (.string ys_306_0_0)) fun w308 =>
 okSt w308 ((na u305).add 1) ∧
 (nw (w308.setCell ((na u305).add 1) (.slice ya_306_0_1 yn_306_0_1 yc_306_0_1)) fun w309 =>
 okSt w309 ((na u305).add 2) ∧
 (nw (w309.setCell ((na u305).add 2) (.int .i64 yx_306_0_2)) fun w310 =>
 okSt w310 ((na u305).add 3) ∧
 (nw (w310.setCell ((na u305).add 3) (.slice ya_306_0_3 yn_306_0_3 yc_306_0_3)) fun w311 =>
 okSt w311 ((na u305).add 4) ∧
 (nw (w311.setCell ((na u305).add 4) (.slice ya_306_0_4 yn_306_0_4 yc_306_0_4)) fun w312 =>
 ∃ ys_313 : ByteArray, w312.cell? ((na w).add 0) = some (.string ys_313) ∧
 (∃ ya_314 : Option Addr, ∃ yn_314 : Nat, ∃ yc_314 : Nat, w312.cell? ((na w).add 1) = some (.slice ya_314 yn_314 yc_314) ∧
 (∃ yx_315 : Int, w312.cell? ((na w).add 2) = some (.int .i64 yx_315) ∧
 (∃ ya_316 : Option Addr, ∃ yn_316 : Nat, ∃ yc_316 : Nat, w312.cell? ((na w).add 3) = some (.slice ya_316 yn_316 yc_316) ∧
 (∃ ya_317 : Option Addr, ∃ yn_317 : Nat, ∃ yc_317 : Nat, w312.cell? ((na w).add 4) = some (.slice ya_317 yn_317 yc_317) ∧
 (∃ ys_318 : ByteArray, w312.cell? ((na u275).add 0) = some (.string ys_318) ∧
 (∃ ya_319 : Option Addr, ∃ yn_319 : Nat, ∃ yc_319 : Nat, w312.cell? ((na u275).add 1) = some (.slice ya_319 yn_319 yc_319) ∧
 (∃ yx_320 : Int, w312.cell? ((na u275).add 2) = some (.int .i64 yx_320) ∧
 (∃ ya_321 : Option Addr, ∃ yn_321 : Nat, ∃ yc_321 : Nat, w312.cell? ((na u275).add 3) = some (.slice ya_321 yn_321 yc_321) ∧
 (∃ ya_322 : Option Addr, ∃ yn_322 : Nat, ∃ yc_322 : Nat, w312.cell? ((na u275).add 4) = some (.slice ya_322 yn_322 yc_322) ∧
 (Go.E.CallsD Go.Proofs.Try.prog 24 #[.agg #[.string ys_313, .slice ya_314 yn_314 yc_314, .int .i64 yx_315, .slice ya_316 yn_316 yc_316, .slice ya_317 yn_317 yc_317], .agg #[.string ys_318, .slice ya_319 yn_319 yc_319, .int .i64 yx_320, .slice ya_321 yn_321 yc_321, .slice ya_322 yn_322 yc_322]] w312 fun yv323 u324 =>
 ∃ yb_325 : Bool, yv323 = .bool yb_325 ∧
 (onBool (!yb_325)
 (R (.bool false) u324)
 (∃ ys_326 : ByteArray, u324.cell? ((na u305).add 0) = some (.string ys_326) ∧
 (∃ ya_327 : Option Addr, ∃ yn_327 : Nat, ∃ yc_327 : Nat, u324.cell? ((na u305).add 1) = some (.slice ya_327 yn_327 yc_327) ∧
 (∃ yx_328 : Int, u324.cell? ((na u305).add 2) = some (.int .i64 yx_328) ∧
 (∃ ya_329 : Option Addr, ∃ yn_329 : Nat, ∃ yc_329 : Nat, u324.cell? ((na u305).add 3) = some (.slice ya_329 yn_329 yc_329) ∧
 (∃ ya_330 : Option Addr, ∃ yn_330 : Nat, ∃ yc_330 : Nat, u324.cell? ((na u305).add 4) = some (.slice ya_330 yn_330 yc_330) ∧
 (∃ ys_331 : ByteArray, u324.cell? ((na u261).add 0) = some (.string ys_331) ∧
 (∃ ya_332 : Option Addr, ∃ yn_332 : Nat, ∃ yc_332 : Nat, u324.cell? ((na u261).add 1) = some (.slice ya_332 yn_332 yc_332) ∧
 (∃ yx_333 : Int, u324.cell? ((na u261).add 2) = some (.int .i64 yx_333) ∧
 (∃ ya_334 : Option Addr, ∃ yn_334 : Nat, ∃ yc_334 : Nat, u324.cell? ((na u261).add 3) = some (.slice ya_334 yn_334 yc_334) ∧
 (∃ ya_335 : Option Addr, ∃ yn_335 : Nat, ∃ yc_335 : Nat, u324.cell? ((na u261).add 4) = some (.slice ya_335 yn_335 yc_335) ∧
 (Go.E.CallsD Go.Proofs.Try.prog 24 #[.agg #[.string ys_326, .slice ya_327 yn_327 yc_327, .int .i64 yx_328, .slice ya_329 yn_329 yc_329, .slice ya_330 yn_330 yc_330], .agg #[.string ys_331, .slice ya_332 yn_332 yc_332, .int .i64 yx_333, .slice ya_334 yn_334 yc_334, .slice ya_335 yn_335 yc_335]] u324 fun yv336 u337 =>
 ∃ yb_338 : Bool, yv336 = .bool yb_338 ∧
 (onBool (!yb_338)
 (R (.bool false) u337)
 (onBool (yx_248_1 != yx_306_1)
 (R (.bool false) u337)
 (∃ ys_339 : ByteArray, u337.cell? ((na w).add 0) = some (.string ys_339) ∧
 (∃ ya_340 : Option Addr, ∃ yn_340 : Nat, ∃ yc_340 : Nat, u337.cell? ((na w).add 1) = some (.slice ya_340 yn_340 yc_340) ∧
 (∃ yx_341 : Int, u337.cell? ((na w).add 2) = some (.int .i64 yx_341) ∧
 (∃ ya_342 : Option Addr, ∃ yn_342 : Nat, ∃ yc_342 : Nat, u337.cell? ((na w).add 3) = some (.slice ya_342 yn_342 yc_342) ∧
 (∃ ya_343 : Option Addr, ∃ yn_343 : Nat, ∃ yc_343 : Nat, u337.cell? ((na w).add 4) = some (.slice ya_343 yn_343 yc_343) ∧
 (Go.E.CallsD Go.Proofs.Try.prog 21 #[.agg #[.string ys_339, .slice ya_340 yn_340 yc_340, .int .i64 yx_341, .slice ya_342 yn_342 yc_342, .slice ya_343 yn_343 yc_343], .slice a1 n1 c1] u337 fun yv344 u345 =>
 ∃ ya_346_0 : Option Addr, ∃ yn_346_0 : Nat, ∃ yc_346_0 : Nat, ∃ yx_346_1 : Int, yv344 = .tuple #[.slice ya_346_0 yn_346_0 yc_346_0, .int .i64 yx_346_1] ∧
 (∃ ys_347 : ByteArray, u345.cell? ((na w).add 0) = some (.string ys_347) ∧
 (∃ ya_348 : Option Addr, ∃ yn_348 : Nat, ∃ yc_348 : Nat, u345.cell? ((na w).add 1) = some (.slice ya_348 yn_348 yc_348) ∧
 (∃ yx_349 : Int, u345.cell? ((na w).add 2) = some (.int .i64 yx_349) ∧
 (∃ ya_350 : Option Addr, ∃ yn_350 : Nat, ∃ yc_350 : Nat, u345.cell? ((na w).add 3) = some (.slice ya_350 yn_350 yc_350) ∧
 (∃ ya_351 : Option Addr, ∃ yn_351 : Nat, ∃ yc_351 : Nat, u345.cell? ((na w).add 4) = some (.slice ya_351 yn_351 yc_351) ∧
 (Go.E.CallsD Go.Proofs.Try.prog 21 #[.agg #[.string ys_347, .slice ya_348 yn_348 yc_348, .int .i64 yx_349, .slice ya_350 yn_350 yc_350, .slice ya_351 yn_351 yc_351], .slice a1 n1 c1] u345 fun yv352 u353 =>
 ∃ ya_354_0 : Option Addr, ∃ yn_354_0 : Nat, ∃ yc_354_0 : Nat, ∃ yx_354_1 : Int, yv352 = .tuple #[.slice ya_354_0 yn_354_0 yc_354_0, .int .i64 yx_354_1] ∧
 (∃ ys_355 : ByteArray, u353.cell? ((na u275).add 0) = some (.string ys_355) ∧
 (∃ ya_356 : Option Addr, ∃ yn_356 : Nat, ∃ yc_356 : Nat, u353.cell? ((na u275).add 1) = some (.slice ya_356 yn_356 yc_356) ∧
 (∃ yx_357 : Int, u353.cell? ((na u275).add 2) = some (.int .i64 yx_357) ∧
 (∃ ya_358 : Option Addr, ∃ yn_358 : Nat, ∃ yc_358 : Nat, u353.cell? ((na u275).add 3) = some (.slice ya_358 yn_358 yc_358) ∧
 (∃ ya_359 : Option Addr, ∃ yn_359 : Nat, ∃ yc_359 : Nat, u353.cell? ((na u275).add 4) = some (.slice ya_359 yn_359 yc_359) ∧
 (Go.E.CallsD Go.Proofs.Try.prog 22 #[.agg #[.string ys_355, .slice ya_356 yn_356 yc_356, .int .i64 yx_357, .slice ya_358 yn_358 yc_358, .slice ya_359 yn_359 yc_359], .slice a1 n1 c1] u353 fun yv360 u361 =>
 ∃ ya_362_0 : Option Addr, ∃ yn_362_0 : Nat, ∃ yc_362_0 : Nat, ∃ yx_362_1 : Int, yv360 = .tuple #[.slice ya_362_0 yn_362_0 yc_362_0, .int .i64 yx_362_1] ∧
 (e42 a1 n1 c1 (some (na w)) (some (na u275)) ya_346_0 yn_346_0 yc_346_0 ya_354_0 yn_354_0 yc_354_0 ya_362_0 yn_362_0 yc_362_0 (yn_346_0 : Int) 0 u361))))))))))))))))))))))))))))))))))))))))))))))))))))))))))))))))))))))))))))))))))))))))))))))))))))))))))))))))
def thicketlaw07_TreesOwn.g42 (R : Value → World → Prop) (b42 : (Option Addr) → Nat → Nat → (Option Addr) → (Option Addr) → (Option Addr) → Nat → Nat → (Option Addr) → Nat → Nat → (Option Addr) → Nat → Nat → Int → Int → World → Prop) (e69 : (Option Addr) → Nat → Nat → (Option Addr) → (Option Addr) → (Option Addr) → Nat → Nat → Int → Int → World → Prop) (a1 : Option Addr) (n1 : Nat) (c1 : Nat) (p2 : Option Addr) (p10 : Option Addr) (a13 : Option Addr) (n13 : Nat) (c13 : Nat) (a15 : Option Addr) (n15 : Nat) (c15 : Nat) (a17 : Option Addr) (n17 : Nat) (c17 : Nat) (x97 : Int) (x98 : Int) (w : World) : Prop :=
 onBool (decide (x98 < x97))
 (optN a13 fun q363 =>
 chk ((0 : Int) ≤ x98 ∧ x98 < (n13 : Int))
 (∃ yx_364 : Int, w.cell? (q363.add (x98.toNat * 1)) = some (.int .i64 yx_364) ∧
 (nv (IntKind.i64.wrap (yx_364 + 1)) fun t365 =>
 optN a13 fun q366 =>
 chk ((0 : Int) ≤ x98 ∧ x98 < (n13 : Int))
 (okSt w ((q366.add (x98.toNat * 1)).add 0) ∧
 (nw (w.setCell ((q366.add (x98.toNat * 1)).add 0) (.int .i64 t365)) fun w367 =>
 nv (IntKind.i64.wrap (x98 + 1)) fun t368 =>
 b42 a1 n1 c1 p2 p10 a13 n13 c13 a15 n15 c15 a17 n17 c17 x97 t368 w367)))))
 (nw (w.alloc (.cells #[.int .i64 1, .int .i64 2, .int .i64 3] 2)) fun w369 =>
 rawN Go.Proofs.Try.prog (Builtin.append_ #[43, 43] 43 #[.slice a13 n13 c13, .slice (some (na w)) 3 3]) w369 fun yv370 u371 =>
 ∃ ya_372 : Option Addr, ∃ yn_372 : Nat, ∃ yc_372 : Nat, yv370 = .slice ya_372 yn_372 yc_372 ∧
 (Go.E.CallsD Go.Proofs.Try.prog 23 #[.slice a15 n15 c15, .slice a17 n17 c17] u371 fun yv373 u374 =>
 ∃ yb_375 : Bool, yv373 = .bool yb_375 ∧
 (onBool (!yb_375)
 (R (.bool false) u374)
 (nv (IntKind.i64.wrap ((n17 : Int) + 3)) fun t376 =>
 onBool ((yn_372 : Int) != t376)
 (R (.bool false) u374)
 (optN p2 fun q377 =>
 ∃ ys_378 : ByteArray, u374.cell? (q377.add 0) = some (.string ys_378) ∧
 (∃ ya_379 : Option Addr, ∃ yn_379 : Nat, ∃ yc_379 : Nat, u374.cell? (q377.add 1) = some (.slice ya_379 yn_379 yc_379) ∧
 (∃ yx_380 : Int, u374.cell? (q377.add 2) = some (.int .i64 yx_380) ∧
 (∃ ya_381 : Option Addr, ∃ yn_381 : Nat, ∃ yc_381 : Nat, u374.cell? (q377.add 3) = some (.slice ya_381 yn_381 yc_381) ∧
 (∃ ya_382 : Option Addr, ∃ yn_382 : Nat, ∃ yc_382 : Nat, u374.cell? (q377.add 4) = some (.slice ya_382 yn_382 yc_382) ∧
 (optN p10 fun q383 =>
 ∃ ys_384 : ByteArray, u374.cell? (q383.add 0) = some (.string ys_384) ∧
 (∃ ya_385 : Option Addr, ∃ yn_385 : Nat, ∃ yc_385 : Nat, u374.cell? (q383.add 1) = some (.slice ya_385 yn_385 yc_385) ∧
 (∃ yx_386 : Int, u374.cell? (q383.add 2) = some (.int .i64 yx_386) ∧
 (∃ ya_387 : Option Addr, ∃ yn_387 : Nat, ∃ yc_387 : Nat, u374.cell? (q383.add 3) = some (.slice ya_387 yn_387 yc_387) ∧
 (∃ ya_388 : Option Addr, ∃ yn_388 : Nat, ∃ yc_388 : Nat, u374.cell? (q383.add 4) = some (.slice ya_388 yn_388 yc_388) ∧
 (Go.E.CallsD Go.Proofs.Try.prog 24 #[.agg #[.string ys_378, .slice ya_379 yn_379 yc_379, .int .i64 yx_380, .slice ya_381 yn_381 yc_381, .slice ya_382 yn_382 yc_382], .agg #[.string ys_384, .slice ya_385 yn_385 yc_385, .int .i64 yx_386, .slice ya_387 yn_387 yc_387, .slice ya_388 yn_388 yc_388]] u374 fun yv389 u390 =>
 ∃ yb_391 : Bool, yv389 = .bool yb_391 ∧
 (onBool (!yb_391)
 (R (.bool false) u390)
 (optN p2 fun q392 =>
 ∃ ya_393 : Option Addr, ∃ yn_393 : Nat, ∃ yc_393 : Nat, u390.cell? (q392.add 4) = some (.slice ya_393 yn_393 yc_393) ∧
 (e69 a1 n1 c1 p2 p10 ya_393 yn_393 yc_393 (yn_393 : Int) 0 u390))))))))))))))))))
def thicketlaw07_TreesOwn.g69 (R : Value → World → Prop) (e96 : (Option Addr) → Nat → Nat → (Option Addr) → (Option Addr) → (Option Addr) → Nat → Nat → (Option Addr) → Nat → Nat → (Option Addr) → Nat → Nat → (Option Addr) → Nat → Nat → (Option Addr) → Nat → Nat → (Option Addr) → Nat → Nat → (Option Addr) → Nat → Nat → Int → Int → Int → Int → World → Prop) (a1 : Option Addr) (n1 : Nat) (c1 : Nat) (p2 : Option Addr) (p10 : Option Addr) (a130 : Option Addr) (n130 : Nat) (c130 : Nat) (x131 : Int) (x132 : Int) (w : World) : Prop :=
 onBool (decide (x132 < x131))
 (optN a130 fun q394 =>
 chk ((0 : Int) ≤ x132 ∧ x132 < (n130 : Int))
 (∃ yx_395 : Int, w.cell? ((q394.add (x132.toNat * 2)).add 0) = some (.int .i64 yx_395) ∧
 (∃ ya_396 : Option Addr, ∃ yn_396 : Nat, ∃ yc_396 : Nat, w.cell? ((q394.add (x132.toNat * 2)).add 1) = some (.slice ya_396 yn_396 yc_396) ∧
 (nw (w.alloc (.cells #[.int .i64 0, .slice none 0 0] 33)) fun w397 =>
 okSt w397 ((na w).add 0) ∧
 (nw (w397.setCell ((na w).add 0) (.int .i64 yx_395)) fun w398 =>
 okSt w398 ((na w).add 1) ∧
 (nw (w398.setCell ((na w).add 1) (.slice ya_396 yn_396 yc_396)) fun w399 =>
 ∃ yx_400 : Int, w399.cell? ((na w).add 0) = some (.int .i64 yx_400) ∧
 (∃ ya_401 : Option Addr, ∃ yn_401 : Nat, ∃ yc_401 : Nat, w399.cell? ((na w).add 1) = some (.slice ya_401 yn_401 yc_401) ∧
 (Go.E.CallsD Go.Proofs.Try.prog 27 #[.agg #[.int .i64 yx_400, .slice ya_401 yn_401 yc_401]] w399 fun yv402 u403 =>
 ∃ ya_404_0 : Option Addr, ∃ yn_404_0 : Nat, ∃ yc_404_0 : Nat, ∃ yx_404_1 : Int, yv402 = .tuple #[.slice ya_404_0 yn_404_0 yc_404_0, .int .i64 yx_404_1] ∧
 (∃ yx_405 : Int, u403.cell? ((na w).add 0) = some (.int .i64 yx_405) ∧
 (∃ ya_406 : Option Addr, ∃ yn_406 : Nat, ∃ yc_406 : Nat, u403.cell? ((na w).add 1) = some (.slice ya_406 yn_406 yc_406) ∧
 (Go.E.CallsD Go.Proofs.Try.prog 28 #[.agg #[.int .i64 yx_405, .slice ya_406 yn_406 yc_406]] u403 fun yv407 u408 =>
 ∃ ya_409_0 : Option Addr, ∃ yn_409_0 : Nat, ∃ yc_409_0 : Nat, ∃ yx_409_1 : Int, yv407 = .tuple #[.slice ya_409_0 yn_409_0 yc_409_0, .int .i64 yx_409_1] ∧
 (∃ yx_410 : Int, u408.cell? ((na w).add 0) = some (.int .i64 yx_410) ∧
 (∃ ya_411 : Option Addr, ∃ yn_411 : Nat, ∃ yc_411 : Nat, u408.cell? ((na w).add 1) = some (.slice ya_411 yn_411 yc_411) ∧
 (Go.E.CallsD Go.Proofs.Try.prog 15 #[.agg #[.int .i64 yx_410, .slice ya_411 yn_411 yc_411], .slice a1 n1 c1] u408 fun yv412 u413 =>
 ∃ ya_414_0 : Option Addr, ∃ yn_414_0 : Nat, ∃ yc_414_0 : Nat, ∃ yx_414_1 : Int, yv412 = .tuple #[.slice ya_414_0 yn_414_0 yc_414_0, .int .i64 yx_414_1] ∧
 (∃ yx_415 : Int, u413.cell? ((na w).add 0) = some (.int .i64 yx_415) ∧
 (∃ ya_416 : Option Addr, ∃ yn_416 : Nat, ∃ yc_416 : Nat, u413.cell? ((na w).add 1) = some (.slice ya_416 yn_416 yc_416) ∧
 (Go.E.CallsD Go.Proofs.Try.prog 30 #[.agg #[.int .i64 yx_415, .slice ya_416 yn_416 yc_416]] u413 fun yv417 u418 =>
 ∃ ya_419_0 : Option Addr, ∃ yn_419_0 : Nat, ∃ yc_419_0 : Nat, ∃ yx_419_1 : Int, yv417 = .tuple #[.slice ya_419_0 yn_419_0 yc_419_0, .int .i64 yx_419_1] ∧
 (∃ yx_420 : Int, u418.cell? ((na w).add 0) = some (.int .i64 yx_420) ∧
 (∃ ya_421 : Option Addr, ∃ yn_421 : Nat, ∃ yc_421 : Nat, u418.cell? ((na w).add 1) = some (.slice ya_421 yn_421 yc_421) ∧
 (Go.E.CallsD Go.Proofs.Try.prog 31 #[.agg #[.int .i64 yx_420, .slice ya_421 yn_421 yc_421]] u418 fun yv422 u423 =>
 ∃ ya_424_0 : Option Addr, ∃ yn_424_0 : Nat, ∃ yc_424_0 : Nat, ∃ yx_424_1 : Int, yv422 = .tuple #[.slice ya_424_0 yn_424_0 yc_424_0, .int .i64 yx_424_1] ∧
 (∃ yx_425 : Int, u423.cell? ((na w).add 0) = some (.int .i64 yx_425) ∧
 (∃ ya_426 : Option Addr, ∃ yn_426 : Nat, ∃ yc_426 : Nat, u423.cell? ((na w).add 1) = some (.slice ya_426 yn_426 yc_426) ∧
 (Go.E.CallsD Go.Proofs.Try.prog 16 #[.agg #[.int .i64 yx_425, .slice ya_426 yn_426 yc_426], .slice a1 n1 c1] u423 fun yv427 u428 =>
 ∃ ya_429_0 : Option Addr, ∃ yn_429_0 : Nat, ∃ yc_429_0 : Nat, ∃ yx_429_1 : Int, yv427 = .tuple #[.slice ya_429_0 yn_429_0 yc_429_0, .int .i64 yx_429_1] ∧
 (e96 a1 n1 c1 p2 p10 ya_404_0 yn_404_0 yc_404_0 ya_409_0 yn_409_0 yc_409_0 ya_414_0 yn_414_0 yc_414_0 ya_419_0 yn_419_0 yc_419_0 ya_424_0 yn_424_0 yc_424_0 ya_429_0 yn_429_0 yc_429_0 a130 n130 c130 x131 x132 (yn_404_0 : Int) 0 u428))))))))))))))))))))))))
 (optN p2 fun q430 =>
 ∃ ys_431 : ByteArray, w.cell? (q430.add 0) = some (.string ys_431) ∧
 (∃ ya_432 : Option Addr, ∃ yn_432 : Nat, ∃ yc_432 : Nat, w.cell? (q430.add 1) = some (.slice ya_432 yn_432 yc_432) ∧
 (∃ yx_433 : Int, w.cell? (q430.add 2) = some (.int .i64 yx_433) ∧
 (∃ ya_434 : Option Addr, ∃ yn_434 : Nat, ∃ yc_434 : Nat, w.cell? (q430.add 3) = some (.slice ya_434 yn_434 yc_434) ∧
 (∃ ya_435 : Option Addr, ∃ yn_435 : Nat, ∃ yc_435 : Nat, w.cell? (q430.add 4) = some (.slice ya_435 yn_435 yc_435) ∧
 (optN p10 fun q436 =>
 ∃ ys_437 : ByteArray, w.cell? (q436.add 0) = some (.string ys_437) ∧
 (∃ ya_438 : Option Addr, ∃ yn_438 : Nat, ∃ yc_438 : Nat, w.cell? (q436.add 1) = some (.slice ya_438 yn_438 yc_438) ∧
 (∃ yx_439 : Int, w.cell? (q436.add 2) = some (.int .i64 yx_439) ∧
 (∃ ya_440 : Option Addr, ∃ yn_440 : Nat, ∃ yc_440 : Nat, w.cell? (q436.add 3) = some (.slice ya_440 yn_440 yc_440) ∧
 (∃ ya_441 : Option Addr, ∃ yn_441 : Nat, ∃ yc_441 : Nat, w.cell? (q436.add 4) = some (.slice ya_441 yn_441 yc_441) ∧
 (Go.E.CallsD Go.Proofs.Try.prog 24 #[.agg #[.string ys_431, .slice ya_432 yn_432 yc_432, .int .i64 yx_433, .slice ya_434 yn_434 yc_434, .slice ya_435 yn_435 yc_435], .agg #[.string ys_437, .slice ya_438 yn_438 yc_438, .int .i64 yx_439, .slice ya_440 yn_440 yc_440, .slice ya_441 yn_441 yc_441]] w fun yv442 u443 =>
 ∃ yb_444 : Bool, yv442 = .bool yb_444 ∧
 (R (.bool yb_444) u443))))))))))))
def thicketlaw07_TreesOwn.g96 (R : Value → World → Prop) (b96 : (Option Addr) → Nat → Nat → (Option Addr) → (Option Addr) → (Option Addr) → Nat → Nat → (Option Addr) → Nat → Nat → (Option Addr) → Nat → Nat → (Option Addr) → Nat → Nat → (Option Addr) → Nat → Nat → (Option Addr) → Nat → Nat → (Option Addr) → Nat → Nat → Int → Int → Int → Int → World → Prop) (e113 : (Option Addr) → Nat → Nat → (Option Addr) → (Option Addr) → (Option Addr) → Nat → Nat → (Option Addr) → Nat → Nat → (Option Addr) → Nat → Nat → (Option Addr) → Nat → Nat → (Option Addr) → Nat → Nat → (Option Addr) → Nat → Nat → (Option Addr) → Nat → Nat → Int → Int → Int → Int → World → Prop) (a1 : Option Addr) (n1 : Nat) (c1 : Nat) (p2 : Option Addr) (p10 : Option Addr) (a22 : Option Addr) (n22 : Nat) (c22 : Nat) (a24 : Option Addr) (n24 : Nat) (c24 : Nat) (a26 : Option Addr) (n26 : Nat) (c26 : Nat) (a28 : Option Addr) (n28 : Nat) (c28 : Nat) (a30 : Option Addr) (n30 : Nat) (c30 : Nat) (a32 : Option Addr) (n32 : Nat) (c32 : Nat) (a130 : Option Addr) (n130 : Nat) (c130 : Nat) (x131 : Int) (x132 : Int) (x169 : Int) (x170 : Int) (w : World) : Prop :=
 onBool (decide (x170 < x169))
 (optN a22 fun q445 =>
 chk ((0 : Int) ≤ x170 ∧ x170 < (n22 : Int))
 (okSt w ((q445.add (x170.toNat * 1)).add 0) ∧
 (nw (w.setCell ((q445.add (x170.toNat * 1)).add 0) (.int .i64 (-1))) fun w446 =>
 nv (IntKind.i64.wrap (x170 + 1)) fun t447 =>
 b96 a1 n1 c1 p2 p10 a22 n22 c22 a24 n24 c24 a26 n26 c26 a28 n28 c28 a30 n30 c30 a32 n32 c32 a130 n130 c130 x131 x132 x169 t447 w446)))
 (e113 a1 n1 c1 p2 p10 a22 n22 c22 a24 n24 c24 a26 n26 c26 a28 n28 c28 a30 n30 c30 a32 n32 c32 a130 n130 c130 x131 x132 (n24 : Int) 0 w)
def thicketlaw07_TreesOwn.g113 (R : Value → World → Prop) (b113 : (Option Addr) → Nat → Nat → (Option Addr) → (Option Addr) → (Option Addr) → Nat → Nat → (Option Addr) → Nat → Nat → (Option Addr) → Nat → Nat → (Option Addr) → Nat → Nat → (Option Addr) → Nat → Nat → (Option Addr) → Nat → Nat → (Option Addr) → Nat → Nat → Int → Int → Int → Int → World → Prop) (e142 : (Option Addr) → Nat → Nat → (Option Addr) → (Option Addr) → (Option Addr) → Nat → Nat → (Option Addr) → Nat → Nat → (Option Addr) → Nat → Nat → (Option Addr) → Nat → Nat → Int → Int → Int → Int → World → Prop) (a1 : Option Addr) (n1 : Nat) (c1 : Nat) (p2 : Option Addr) (p10 : Option Addr) (a22 : Option Addr) (n22 : Nat) (c22 : Nat) (a24 : Option Addr) (n24 : Nat) (c24 : Nat) (a26 : Option Addr) (n26 : Nat) (c26 : Nat) (a28 : Option Addr) (n28 : Nat) (c28 : Nat) (a30 : Option Addr) (n30 : Nat) (c30 : Nat) (a32 : Option Addr) (n32 : Nat) (c32 : Nat) (a130 : Option Addr) (n130 : Nat) (c130 : Nat) (x131 : Int) (x132 : Int) (x178 : Int) (x179 : Int) (w : World) : Prop :=
 onBool (decide (x179 < x178))
 (optN a24 fun q448 =>
 chk ((0 : Int) ≤ x179 ∧ x179 < (n24 : Int))
 (okSt w ((q448.add (x179.toNat * 1)).add 0) ∧
 (nw (w.setCell ((q448.add (x179.toNat * 1)).add 0) (.int .i64 (-2))) fun w449 =>
 nv (IntKind.i64.wrap (x179 + 1)) fun t450 =>
 b113 a1 n1 c1 p2 p10 a22 n22 c22 a24 n24 c24 a26 n26 c26 a28 n28 c28 a30 n30 c30 a32 n32 c32 a130 n130 c130 x131 x132 x178 t450 w449)))
 (nw (w.alloc (.cells #[.int .i64 9, .int .i64 9, .int .i64 9, .int .i64 9] 3)) fun w451 =>
 rawN Go.Proofs.Try.prog (Builtin.append_ #[24, 24] 24 #[.slice a22 n22 c22, .slice (some (na w)) 4 4]) w451 fun yv452 u453 =>
 ∃ ya_454 : Option Addr, ∃ yn_454 : Nat, ∃ yc_454 : Nat, yv452 = .slice ya_454 yn_454 yc_454 ∧
 (nw (u453.alloc (.cells #[.int .i64 8, .int .i64 8, .int .i64 8, .int .i64 8] 3)) fun w455 =>
 rawN Go.Proofs.Try.prog (Builtin.append_ #[24, 24] 24 #[.slice a24 n24 c24, .slice (some (na u453)) 4 4]) w455 fun yv456 u457 =>
 ∃ ya_458 : Option Addr, ∃ yn_458 : Nat, ∃ yc_458 : Nat, yv456 = .slice ya_458 yn_458 yc_458 ∧
 (Go.E.CallsD Go.Proofs.Try.prog 19 #[.slice a26 n26 c26, .slice a32 n32 c32] u457 fun yv459 u460 =>
 ∃ yb_461 : Bool, yv459 = .bool yb_461 ∧
 (onBool (!yb_461)
 (R (.bool false) u460)
 (nv (IntKind.i64.wrap ((n28 : Int) + 4)) fun t462 =>
 onBool ((yn_454 : Int) != t462)
 (R (.bool false) u460)
 (nv (IntKind.i64.wrap ((n30 : Int) + 4)) fun t463 =>
 onBool ((yn_458 : Int) != t463)
 (R (.bool false) u460)
 (e142 a1 n1 c1 p2 p10 ya_454 yn_454 yc_454 ya_458 yn_458 yc_458 a30 n30 c30 a130 n130 c130 x131 x132 (n28 : Int) 0 u460)))))))
def thicketlaw07_TreesOwn.g142 (R : Value → World → Prop) (b142 : (Option Addr) → Nat → Nat → (Option Addr) → (Option Addr) → (Option Addr) → Nat → Nat → (Option Addr) → Nat → Nat → (Option Addr) → Nat → Nat → (Option Addr) → Nat → Nat → Int → Int → Int → Int → World → Prop) (e164 : (Option Addr) → Nat → Nat → (Option Addr) → (Option Addr) → (Option Addr) → Nat → Nat → (Option Addr) → Nat → Nat → Int → Int → Int → Int → World → Prop) (a1 : Option Addr) (n1 : Nat) (c1 : Nat) (p2 : Option Addr) (p10 : Option Addr) (a22 : Option Addr) (n22 : Nat) (c22 : Nat) (a24 : Option Addr) (n24 : Nat) (c24 : Nat) (a30 : Option Addr) (n30 : Nat) (c30 : Nat) (a130 : Option Addr) (n130 : Nat) (c130 : Nat) (x131 : Int) (x132 : Int) (x213 : Int) (x214 : Int) (w : World) : Prop :=
 onBool (decide (x214 < x213))
 (optN a22 fun q464 =>
 chk ((0 : Int) ≤ x214 ∧ x214 < (n22 : Int))
 (∃ yx_465 : Int, w.cell? (q464.add (x214.toNat * 1)) = some (.int .i64 yx_465) ∧
 (onBool (yx_465 != (-1))
 (R (.bool false) w)
 (nv (IntKind.i64.wrap (x214 + 1)) fun t466 =>
 b142 a1 n1 c1 p2 p10 a22 n22 c22 a24 n24 c24 a30 n30 c30 a130 n130 c130 x131 x132 x213 t466 w))))
 (e164 a1 n1 c1 p2 p10 a24 n24 c24 a130 n130 c130 x131 x132 (n30 : Int) 0 w)
def thicketlaw07_TreesOwn.g164 (R : Value → World → Prop) (b69 : (Option Addr) → Nat → Nat → (Option Addr) → (Option Addr) → (Option Addr) → Nat → Nat → Int → Int → World → Prop) (b164 : (Option Addr) → Nat → Nat → (Option Addr) → (Option Addr) → (Option Addr) → Nat → Nat → (Option Addr) → Nat → Nat → Int → Int → Int → Int → World → Prop) (a1 : Option Addr) (n1 : Nat) (c1 : Nat) (p2 : Option Addr) (p10 : Option Addr) (a24 : Option Addr) (n24 : Nat) (c24 : Nat) (a130 : Option Addr) (n130 : Nat) (c130 : Nat) (x131 : Int) (x132 : Int) (x224 : Int) (x225 : Int) (w : World) : Prop :=
 onBool (decide (x225 < x224))
 (optN a24 fun q467 =>
 chk ((0 : Int) ≤ x225 ∧ x225 < (n24 : Int))
 (∃ yx_468 : Int, w.cell? (q467.add (x225.toNat * 1)) = some (.int .i64 yx_468) ∧
 (onBool (yx_468 != (-2))
 (R (.bool false) w)
 (nv (IntKind.i64.wrap (x225 + 1)) fun t469 =>
 b164 a1 n1 c1 p2 p10 a24 n24 c24 a130 n130 c130 x131 x132 x224 t469 w))))
 (nv (IntKind.i64.wrap (x132 + 1)) fun t470 =>
 b69 a1 n1 c1 p2 p10 a130 n130 c130 x131 t470 w)
def thicketlaw07_TreesOwn.q2 (R : Value → World → Prop) : Exit → Act → World → Prop := (fin Go.Proofs.Try.prog Go.Proofs.Try.f8 R)
def thicketlaw07_TreesOwn.q10 (R : Value → World → Prop) : Exit → Act → World → Prop := (thicketlaw07_TreesOwn.q2 R)
def thicketlaw07_TreesOwn.q12 (R : Value → World → Prop) : Exit → Act → World → Prop := (thicketlaw07_TreesOwn.q10 R)
def thicketlaw07_TreesOwn.q14 (R : Value → World → Prop) : Exit → Act → World → Prop := (thicketlaw07_TreesOwn.q12 R)
def thicketlaw07_TreesOwn.q16 (R : Value → World → Prop) : Exit → Act → World → Prop := (thicketlaw07_TreesOwn.q14 R)
def thicketlaw07_TreesOwn.q18 (R : Value → World → Prop) : Exit → Act → World → Prop := (thicketlaw07_TreesOwn.q16 R)
def thicketlaw07_TreesOwn.q20 (R : Value → World → Prop) : Exit → Act → World → Prop := (thicketlaw07_TreesOwn.q18 R)
def thicketlaw07_TreesOwn.q22 (R : Value → World → Prop) : Exit → Act → World → Prop := (thicketlaw07_TreesOwn.q20 R)
def thicketlaw07_TreesOwn.q24 (R : Value → World → Prop) : Exit → Act → World → Prop := (thicketlaw07_TreesOwn.q22 R)
def thicketlaw07_TreesOwn.q32 (R : Value → World → Prop) : Exit → Act → World → Prop := (thicketlaw07_TreesOwn.q24 R)
def thicketlaw07_TreesOwn.q34 (R : Value → World → Prop) : Exit → Act → World → Prop := (thicketlaw07_TreesOwn.q32 R)
def thicketlaw07_TreesOwn.q36 (R : Value → World → Prop) : Exit → Act → World → Prop := (thicketlaw07_TreesOwn.q34 R)
def thicketlaw07_TreesOwn.q38 (R : Value → World → Prop) : Exit → Act → World → Prop := (thicketlaw07_TreesOwn.q36 R)
def thicketlaw07_TreesOwn.q39 (R : Value → World → Prop) : Exit → Act → World → Prop := Exit.then (startN none (codeN Go.Proofs.Try.prog (sub (codeOf Go.Proofs.Try.f8) [1, 1, 1, 1, 1, 1, 1, 1, 1, 1, 1, 1, 1, 1]) (nsub thicketlaw07_TreesOwn.an [1, 1, 1, 1, 1, 1, 1, 1, 1, 1, 1, 1, 1, 1]) (thicketlaw07_TreesOwn.q38 R))) (thicketlaw07_TreesOwn.q38 R)
def thicketlaw07_TreesOwn.q41 (R : Value → World → Prop) : Exit → Act → World → Prop := (thicketlaw07_TreesOwn.q39 R)
def thicketlaw07_TreesOwn.q42 (R : Value → World → Prop) : Exit → Act → World → Prop := Exit.inBlock 0 (thicketlaw07_TreesOwn.q41 R)
def thicketlaw07_TreesOwn.rl42 (R : Value → World → Prop) (k : Nat) (a1 : Option Addr) (n1 : Nat) (c1 : Nat) (p2 : Option Addr) (p10 : Option Addr) (a13 : Option Addr) (n13 : Nat) (c13 : Nat) (a15 : Option Addr) (n15 : Nat) (c15 : Nat) (a17 : Option Addr) (n17 : Nat) (c17 : Nat) (x97 : Int) (x98 : Int) (w : World) : Prop := loopN [1, 2, 10, 13, 15, 17, 97, 98] (codeN Go.Proofs.Try.prog (sub (codeOf Go.Proofs.Try.f8) [1, 1, 1, 1, 1, 1, 1, 1, 1, 1, 1, 1, 1, 0, 1, 0, 0]) (nsub thicketlaw07_TreesOwn.an [1, 1, 1, 1, 1, 1, 1, 1, 1, 1, 1, 1, 1, 0, 1, 0, 0])) (thicketlaw07_TreesOwn.q42 R) k ⟨#[undef, .slice a1 n1 c1, .pointer p2, undef, undef, undef, undef, undef, undef, undef, .pointer p10, undef, undef, .slice a13 n13 c13, undef, .slice a15 n15 c15, undef, .slice a17 n17 c17, undef, undef, undef, undef, undef, undef, undef, undef, undef, undef, undef, undef, undef, undef, undef, undef, undef, undef, undef, undef, undef, undef, undef, undef, undef, undef, undef, undef, undef, undef, undef, undef, undef, undef, undef, undef, undef, undef, undef, undef, undef, undef, undef, undef, undef, undef, undef, undef, undef, undef, undef, undef, undef, undef, undef, undef, undef, undef, undef, undef, undef, undef, undef, undef, undef, undef, undef, undef, undef, undef, undef, undef, undef, undef, undef, undef, undef, undef, undef, .int .i64 x97, .int .i64 x98, undef, undef, undef, undef, undef, undef, undef, undef, undef, undef, undef, undef, undef, undef, undef, undef, undef, undef, undef, undef, undef, undef, undef, undef, undef, undef, undef, undef, undef, undef, undef, undef, undef, undef, undef, undef, undef, undef, undef, undef, undef, undef, undef, undef, undef, undef, undef, undef, undef, undef, undef, undef, undef, undef, undef, undef, undef, undef, undef, undef, undef, undef, undef, undef, undef, undef, undef, undef, undef, undef, undef, undef, undef, undef, undef, undef, undef, undef, undef, undef, undef, undef, undef, undef, undef, undef, undef, undef, undef, undef, undef, undef, undef, undef, undef, undef, undef, undef, undef, undef, undef, undef, undef, undef, undef, undef, undef, undef, undef, undef, undef, undef, undef, undef, undef, undef, undef, undef, undef, undef, undef, undef, undef, undef, undef, undef, undef, undef, undef, undef, undef, undef, undef, undef, undef, undef, undef, undef, undef], []⟩ w
def thicketlaw07_TreesOwn.re42 (R : Value → World → Prop) (a1 : Option Addr) (n1 : Nat) (c1 : Nat) (p2 : Option Addr) (p10 : Option Addr) (a13 : Option Addr) (n13 : Nat) (c13 : Nat) (a15 : Option Addr) (n15 : Nat) (c15 : Nat) (a17 : Option Addr) (n17 : Nat) (c17 : Nat) (x97 : Int) (x98 : Int) (w : World) : Prop := ∃ k, thicketlaw07_TreesOwn.rl42 R k a1 n1 c1 p2 p10 a13 n13 c13 a15 n15 c15 a17 n17 c17 x97 x98 w
def thicketlaw07_TreesOwn.q55 (R : Value → World → Prop) : Exit → Act → World → Prop := (thicketlaw07_TreesOwn.q38 R)
def thicketlaw07_TreesOwn.q57 (R : Value → World → Prop) : Exit → Act → World → Prop := (thicketlaw07_TreesOwn.q55 R)
def thicketlaw07_TreesOwn.q65 (R : Value → World → Prop) : Exit → Act → World → Prop := (thicketlaw07_TreesOwn.q57 R)
def thicketlaw07_TreesOwn.q66 (R : Value → World → Prop) : Exit → Act → World → Prop := Exit.then (startN none (codeN Go.Proofs.Try.prog (sub (codeOf Go.Proofs.Try.f8) [1, 1, 1, 1, 1, 1, 1, 1, 1, 1, 1, 1, 1, 1, 1, 1, 1]) (nsub thicketlaw07_TreesOwn.an [1, 1, 1, 1, 1, 1, 1, 1, 1, 1, 1, 1, 1, 1, 1, 1, 1]) (thicketlaw07_TreesOwn.q65 R))) (thicketlaw07_TreesOwn.q65 R)
def thicketlaw07_TreesOwn.q68 (R : Value → World → Prop) : Exit → Act → World → Prop := (thicketlaw07_TreesOwn.q66 R)
def thicketlaw07_TreesOwn.q69 (R : Value → World → Prop) : Exit → Act → World → Prop := Exit.inBlock 2 (thicketlaw07_TreesOwn.q68 R)
def thicketlaw07_TreesOwn.rl69 (R : Value → World → Prop) (k : Nat) (a1 : Option Addr) (n1 : Nat) (c1 : Nat) (p2 : Option Addr) (p10 : Option Addr) (a130 : Option Addr) (n130 : Nat) (c130 : Nat) (x131 : Int) (x132 : Int) (w : World) : Prop := loopN [1, 2, 10, 130, 131, 132] (codeN Go.Proofs.Try.prog (sub (codeOf Go.Proofs.Try.f8) [1, 1, 1, 1, 1, 1, 1, 1, 1, 1, 1, 1, 1, 1, 1, 1, 0, 1, 0, 0]) (nsub thicketlaw07_TreesOwn.an [1, 1, 1, 1, 1, 1, 1, 1, 1, 1, 1, 1, 1, 1, 1, 1, 0, 1, 0, 0])) (thicketlaw07_TreesOwn.q69 R) k ⟨#[undef, .slice a1 n1 c1, .pointer p2, undef, undef, undef, undef, undef, undef, undef, .pointer p10, undef, undef, undef, undef, undef, undef, undef, undef, undef, undef, undef, undef, undef, undef, undef, undef, undef, undef, undef, undef, undef, undef, undef, undef, undef, undef, undef, undef, undef, undef, undef, undef, undef, undef, undef, undef, undef, undef, undef, undef, undef, undef, undef, undef, undef, undef, undef, undef, undef, undef, undef, undef, undef, undef, undef, undef, undef, undef, undef, undef, undef, undef, undef, undef, undef, undef, undef, undef, undef, undef, undef, undef, undef, undef, undef, undef, undef, undef, undef, undef, undef, undef, undef, undef, undef, undef, undef, undef, undef, undef, undef, undef, undef, undef, undef, undef, undef, undef, undef, undef, undef, undef, undef, undef, undef, undef, undef, undef, undef, undef, undef, undef, undef, undef, undef, undef, undef, undef, undef, .slice a130 n130 c130, .int .i64 x131, .int .i64 x132, undef, undef, undef, undef, undef, undef, undef, undef, undef, undef, undef, undef, undef, undef, undef, undef, undef, undef, undef, undef, undef, undef, undef, undef, undef, undef, undef, undef, undef, undef, undef, undef, undef, undef, undef, undef, undef, undef, undef, undef, undef, undef, undef, undef, undef, undef, undef, undef, undef, undef, undef, undef, undef, undef, undef, undef, undef, undef, undef, undef, undef, undef, undef, undef, undef, undef, undef, undef, undef, undef, undef, undef, undef, undef, undef, undef, undef, undef, undef, undef, undef, undef, undef, undef, undef, undef, undef, undef, undef, undef, undef, undef, undef, undef, undef, undef, undef, undef, undef, undef, undef, undef, undef, undef, undef], []⟩ w
def thicketlaw07_TreesOwn.re69 (R : Value → World → Prop) (a1 : Option Addr) (n1 : Nat) (c1 : Nat) (p2 : Option Addr) (p10 : Option Addr) (a130 : Option Addr) (n130 : Nat) (c130 : Nat) (x131 : Int) (x132 : Int) (w : World) : Prop := ∃ k, thicketlaw07_TreesOwn.rl69 R k a1 n1 c1 p2 p10 a130 n130 c130 x131 x132 w
def thicketlaw07_TreesOwn.q70 (R : Value → World → Prop) (k69 : Nat) : Exit → Act → World → Prop := Exit.then (fun a w => loopN [1, 2, 10, 130, 131, 132] (codeN Go.Proofs.Try.prog (sub (codeOf Go.Proofs.Try.f8) [1, 1, 1, 1, 1, 1, 1, 1, 1, 1, 1, 1, 1, 1, 1, 1, 0, 1, 0, 0]) (nsub thicketlaw07_TreesOwn.an [1, 1, 1, 1, 1, 1, 1, 1, 1, 1, 1, 1, 1, 1, 1, 1, 0, 1, 0, 0])) (thicketlaw07_TreesOwn.q69 R) k69 (clr [1, 2, 10, 130, 131, 132] a) w) (thicketlaw07_TreesOwn.q69 R)
def thicketlaw07_TreesOwn.q72 (R : Value → World → Prop) (k69 : Nat) : Exit → Act → World → Prop := (thicketlaw07_TreesOwn.q70 R k69)
def thicketlaw07_TreesOwn.q76 (R : Value → World → Prop) (k69 : Nat) : Exit → Act → World → Prop := (thicketlaw07_TreesOwn.q72 R k69)
def thicketlaw07_TreesOwn.q77 (R : Value → World → Prop) (k69 : Nat) : Exit → Act → World → Prop := Exit.then (startN none (codeN Go.Proofs.Try.prog (sub (codeOf Go.Proofs.Try.f8) [1, 1, 1, 1, 1, 1, 1, 1, 1, 1, 1, 1, 1, 1, 1, 1, 0, 1, 0, 0, 1, 1, 1]) (nsub thicketlaw07_TreesOwn.an [1, 1, 1, 1, 1, 1, 1, 1, 1, 1, 1, 1, 1, 1, 1, 1, 0, 1, 0, 0, 1, 1, 1]) (thicketlaw07_TreesOwn.q76 R k69))) (thicketlaw07_TreesOwn.q76 R k69)
def thicketlaw07_TreesOwn.q78 (R : Value → World → Prop) (k69 : Nat) : Exit → Act → World → Prop := Exit.inBlock 3 (thicketlaw07_TreesOwn.q77 R k69)
def thicketlaw07_TreesOwn.q80 (R : Value → World → Prop) (k69 : Nat) : Exit → Act → World → Prop := (thicketlaw07_TreesOwn.q78 R k69)
def thicketlaw07_TreesOwn.q82 (R : Value → World → Prop) (k69 : Nat) : Exit → Act → World → Prop := (thicketlaw07_TreesOwn.q80 R k69)
def thicketlaw07_TreesOwn.q84 (R : Value → World → Prop) (k69 : Nat) : Exit → Act → World → Prop := (thicketlaw07_TreesOwn.q82 R k69)
def thicketlaw07_TreesOwn.q86 (R : Value → World → Prop) (k69 : Nat) : Exit → Act → World → Prop := (thicketlaw07_TreesOwn.q84 R k69)
def thicketlaw07_TreesOwn.q88 (R : Value → World → Prop) (k69 : Nat) : Exit → Act → World → Prop := (thicketlaw07_TreesOwn.q86 R k69)
def thicketlaw07_TreesOwn.q90 (R : Value → World → Prop) (k69 : Nat) : Exit → Act → World → Prop := (thicketlaw07_TreesOwn.q88 R k69)
def thicketlaw07_TreesOwn.q92 (R : Value → World → Prop) (k69 : Nat) : Exit → Act → World → Prop := (thicketlaw07_TreesOwn.q90 R k69)
def thicketlaw07_TreesOwn.q93 (R : Value → World → Prop) (k69 : Nat) : Exit → Act → World → Prop := Exit.then (startN none (codeN Go.Proofs.Try.prog (sub (codeOf Go.Proofs.Try.f8) [1, 1, 1, 1, 1, 1, 1, 1, 1, 1, 1, 1, 1, 1, 1, 1, 0, 1, 0, 0, 1, 1, 0, 0, 1, 1, 1, 1, 1, 1, 1, 1]) (nsub thicketlaw07_TreesOwn.an [1, 1, 1, 1, 1, 1, 1, 1, 1, 1, 1, 1, 1, 1, 1, 1, 0, 1, 0, 0, 1, 1, 0, 0, 1, 1, 1, 1, 1, 1, 1, 1]) (thicketlaw07_TreesOwn.q92 R k69))) (thicketlaw07_TreesOwn.q92 R k69)
def thicketlaw07_TreesOwn.q95 (R : Value → World → Prop) (k69 : Nat) : Exit → Act → World → Prop := (thicketlaw07_TreesOwn.q93 R k69)
def thicketlaw07_TreesOwn.q96 (R : Value → World → Prop) (k69 : Nat) : Exit → Act → World → Prop := Exit.inBlock 4 (thicketlaw07_TreesOwn.q95 R k69)
def thicketlaw07_TreesOwn.rl96 (R : Value → World → Prop) (k69 : Nat) (k : Nat) (a1 : Option Addr) (n1 : Nat) (c1 : Nat) (p2 : Option Addr) (p10 : Option Addr) (a22 : Option Addr) (n22 : Nat) (c22 : Nat) (a24 : Option Addr) (n24 : Nat) (c24 : Nat) (a26 : Option Addr) (n26 : Nat) (c26 : Nat) (a28 : Option Addr) (n28 : Nat) (c28 : Nat) (a30 : Option Addr) (n30 : Nat) (c30 : Nat) (a32 : Option Addr) (n32 : Nat) (c32 : Nat) (a130 : Option Addr) (n130 : Nat) (c130 : Nat) (x131 : Int) (x132 : Int) (x169 : Int) (x170 : Int) (w : World) : Prop := loopN [1, 2, 10, 22, 24, 26, 28, 30, 32, 130, 131, 132, 169, 170] (codeN Go.Proofs.Try.prog (sub (codeOf Go.Proofs.Try.f8) [1, 1, 1, 1, 1, 1, 1, 1, 1, 1, 1, 1, 1, 1, 1, 1, 0, 1, 0, 0, 1, 1, 0, 0, 1, 1, 1, 1, 1, 1, 1, 0, 1, 0, 0]) (nsub thicketlaw07_TreesOwn.an [1, 1, 1, 1, 1, 1, 1, 1, 1, 1, 1, 1, 1, 1, 1, 1, 0, 1, 0, 0, 1, 1, 0, 0, 1, 1, 1, 1, 1, 1, 1, 0, 1, 0, 0])) (thicketlaw07_TreesOwn.q96 R k69) k ⟨#[undef, .slice a1 n1 c1, .pointer p2, undef, undef, undef, undef, undef, undef, undef, .pointer p10, undef, undef, undef, undef, undef, undef, undef, undef, undef, undef, undef, .slice a22 n22 c22, undef, .slice a24 n24 c24, undef, .slice a26 n26 c26, undef, .slice a28 n28 c28, undef, .slice a30 n30 c30, undef, .slice a32 n32 c32, undef, undef, undef, undef, undef, undef, undef, undef, undef, undef, undef, undef, undef, undef, undef, undef, undef, undef, undef, undef, undef, undef, undef, undef, undef, undef, undef, undef, undef, undef, undef, undef, undef, undef, undef, undef, undef, undef, undef, undef, undef, undef, undef, undef, undef, undef, undef, undef, undef, undef, undef, undef, undef, undef, undef, undef, undef, undef, undef, undef, undef, undef, undef, undef, undef, undef, undef, undef, undef, undef, undef, undef, undef, undef, undef, undef, undef, undef, undef, undef, undef, undef, undef, undef, undef, undef, undef, undef, undef, undef, undef, undef, undef, undef, undef, undef, undef, .slice a130 n130 c130, .int .i64 x131, .int .i64 x132, undef, undef, undef, undef, undef, undef, undef, undef, undef, undef, undef, undef, undef, undef, undef, undef, undef, undef, undef, undef, undef, undef, undef, undef, undef, undef, undef, undef, undef, undef, undef, undef, undef, undef, undef, undef, .int .i64 x169, .int .i64 x170, undef, undef, undef, undef, undef, undef, undef, undef, undef, undef, undef, undef, undef, undef, undef, undef, undef, undef, undef, undef, undef, undef, undef, undef, undef, undef, undef, undef, undef, undef, undef, undef, undef, undef, undef, undef, undef, undef, undef, undef, undef, undef, undef, undef, undef, undef, undef, undef, undef, undef, undef, undef, undef, undef, undef, undef, undef, undef, undef, undef, undef, undef, undef, undef, undef, undef, undef], []⟩ w
def thicketlaw07_TreesOwn.re96 (R : Value → World → Prop) (k69 : Nat) (a1 : Option Addr) (n1 : Nat) (c1 : Nat) (p2 : Option Addr) (p10 : Option Addr) (a22 : Option Addr) (n22 : Nat) (c22 : Nat) (a24 : Option Addr) (n24 : Nat) (c24 : Nat) (a26 : Option Addr) (n26 : Nat) (c26 : Nat) (a28 : Option Addr) (n28 : Nat) (c28 : Nat) (a30 : Option Addr) (n30 : Nat) (c30 : Nat) (a32 : Option Addr) (n32 : Nat) (c32 : Nat) (a130 : Option Addr) (n130 : Nat) (c130 : Nat) (x131 : Int) (x132 : Int) (x169 : Int) (x170 : Int) (w : World) : Prop := ∃ k, thicketlaw07_TreesOwn.rl96 R k69 k a1 n1 c1 p2 p10 a22 n22 c22 a24 n24 c24 a26 n26 c26 a28 n28 c28 a30 n30 c30 a32 n32 c32 a130 n130 c130 x131 x132 x169 x170 w
def thicketlaw07_TreesOwn.q109 (R : Value → World → Prop) (k69 : Nat) : Exit → Act → World → Prop := (thicketlaw07_TreesOwn.q92 R k69)
def thicketlaw07_TreesOwn.q110 (R : Value → World → Prop) (k69 : Nat) : Exit → Act → World → Prop := Exit.then (startN none (codeN Go.Proofs.Try.prog (sub (codeOf Go.Proofs.Try.f8) [1, 1, 1, 1, 1, 1, 1, 1, 1, 1, 1, 1, 1, 1, 1, 1, 0, 1, 0, 0, 1, 1, 0, 0, 1, 1, 1, 1, 1, 1, 1, 1, 1]) (nsub thicketlaw07_TreesOwn.an [1, 1, 1, 1, 1, 1, 1, 1, 1, 1, 1, 1, 1, 1, 1, 1, 0, 1, 0, 0, 1, 1, 0, 0, 1, 1, 1, 1, 1, 1, 1, 1, 1]) (thicketlaw07_TreesOwn.q109 R k69))) (thicketlaw07_TreesOwn.q109 R k69)
def thicketlaw07_TreesOwn.q112 (R : Value → World → Prop) (k69 : Nat) : Exit → Act → World → Prop := (thicketlaw07_TreesOwn.q110 R k69)
def thicketlaw07_TreesOwn.q113 (R : Value → World → Prop) (k69 : Nat) : Exit → Act → World → Prop := Exit.inBlock 6 (thicketlaw07_TreesOwn.q112 R k69)
def thicketlaw07_TreesOwn.rl113 (R : Value → World → Prop) (k69 : Nat) (k : Nat) (a1 : Option Addr) (n1 : Nat) (c1 : Nat) (p2 : Option Addr) (p10 : Option Addr) (a22 : Option Addr) (n22 : Nat) (c22 : Nat) (a24 : Option Addr) (n24 : Nat) (c24 : Nat) (a26 : Option Addr) (n26 : Nat) (c26 : Nat) (a28 : Option Addr) (n28 : Nat) (c28 : Nat) (a30 : Option Addr) (n30 : Nat) (c30 : Nat) (a32 : Option Addr) (n32 : Nat) (c32 : Nat) (a130 : Option Addr) (n130 : Nat) (c130 : Nat) (x131 : Int) (x132 : Int) (x178 : Int) (x179 : Int) (w : World) : Prop := loopN [1, 2, 10, 22, 24, 26, 28, 30, 32, 130, 131, 132, 178, 179] (codeN Go.Proofs.Try.prog (sub (codeOf Go.Proofs.Try.f8) [1, 1, 1, 1, 1, 1, 1, 1, 1, 1, 1, 1, 1, 1, 1, 1, 0, 1, 0, 0, 1, 1, 0, 0, 1, 1, 1, 1, 1, 1, 1, 1, 0, 1, 0, 0]) (nsub thicketlaw07_TreesOwn.an [1, 1, 1, 1, 1, 1, 1, 1, 1, 1, 1, 1, 1, 1, 1, 1, 0, 1, 0, 0, 1, 1, 0, 0, 1, 1, 1, 1, 1, 1, 1, 1, 0, 1, 0, 0])) (thicketlaw07_TreesOwn.q113 R k69) k ⟨#[undef, .slice a1 n1 c1, .pointer p2, undef, undef, undef, undef, undef, undef, undef, .pointer p10, undef, undef, undef, undef, undef, undef, undef, undef, undef, undef, undef, .slice a22 n22 c22, undef, .slice a24 n24 c24, undef, .slice a26 n26 c26, undef, .slice a28 n28 c28, undef, .slice a30 n30 c30, undef, .slice a32 n32 c32, undef, undef, undef, undef, undef, undef, undef, undef, undef, undef, undef, undef, undef, undef, undef, undef, undef, undef, undef, undef, undef, undef, undef, undef, undef, undef, undef, undef, undef, undef, undef, undef, undef, undef, undef, undef, undef, undef, undef, undef, undef, undef, undef, undef, undef, undef, undef, undef, undef, undef, undef, undef, undef, undef, undef, undef, undef, undef, undef, undef, undef, undef, undef, undef, undef, undef, undef, undef, undef, undef, undef, undef, undef, undef, undef, undef, undef, undef, undef, undef, undef, undef, undef, undef, undef, undef, undef, undef, undef, undef, undef, undef, undef, undef, undef, undef, undef, .slice a130 n130 c130, .int .i64 x131, .int .i64 x132, undef, undef, undef, undef, undef, undef, undef, undef, undef, undef, undef, undef, undef, undef, undef, undef, undef, undef, undef, undef, undef, undef, undef, undef, undef, undef, undef, undef, undef, undef, undef, undef, undef, undef, undef, undef, undef, undef, undef, undef, undef, undef, undef, undef, undef, .int .i64 x178, .int .i64 x179, undef, undef, undef, undef, undef, undef, undef, undef, undef, undef, undef, undef, undef, undef, undef, undef, undef, undef, undef, undef, undef, undef, undef, undef, undef, undef, undef, undef, undef, undef, undef, undef, undef, undef, undef, undef, undef, undef, undef, undef, undef, undef, undef, undef, undef, undef, undef, undef, undef, undef, undef, undef, undef, undef, undef, undef, undef, undef], []⟩ w
def thicketlaw07_TreesOwn.re113 (R : Value → World → Prop) (k69 : Nat) (a1 : Option Addr) (n1 : Nat) (c1 : Nat) (p2 : Option Addr) (p10 : Option Addr) (a22 : Option Addr) (n22 : Nat) (c22 : Nat) (a24 : Option Addr) (n24 : Nat) (c24 : Nat) (a26 : Option Addr) (n26 : Nat) (c26 : Nat) (a28 : Option Addr) (n28 : Nat) (c28 : Nat) (a30 : Option Addr) (n30 : Nat) (c30 : Nat) (a32 : Option Addr) (n32 : Nat) (c32 : Nat) (a130 : Option Addr) (n130 : Nat) (c130 : Nat) (x131 : Int) (x132 : Int) (x178 : Int) (x179 : Int) (w : World) : Prop := ∃ k, thicketlaw07_TreesOwn.rl113 R k69 k a1 n1 c1 p2 p10 a22 n22 c22 a24 n24 c24 a26 n26 c26 a28 n28 c28 a30 n30 c30 a32 n32 c32 a130 n130 c130 x131 x132 x178 x179 w
def thicketlaw07_TreesOwn.q126 (R : Value → World → Prop) (k69 : Nat) : Exit → Act → World → Prop := (thicketlaw07_TreesOwn.q109 R k69)
def thicketlaw07_TreesOwn.q128 (R : Value → World → Prop) (k69 : Nat) : Exit → Act → World → Prop := (thicketlaw07_TreesOwn.q126 R k69)
def thicketlaw07_TreesOwn.q130 (R : Value → World → Prop) (k69 : Nat) : Exit → Act → World → Prop := (thicketlaw07_TreesOwn.q128 R k69)
def thicketlaw07_TreesOwn.q138 (R : Value → World → Prop) (k69 : Nat) : Exit → Act → World → Prop := (thicketlaw07_TreesOwn.q130 R k69)
def thicketlaw07_TreesOwn.q139 (R : Value → World → Prop) (k69 : Nat) : Exit → Act → World → Prop := Exit.then (startN none (codeN Go.Proofs.Try.prog (sub (codeOf Go.Proofs.Try.f8) [1, 1, 1, 1, 1, 1, 1, 1, 1, 1, 1, 1, 1, 1, 1, 1, 0, 1, 0, 0, 1, 1, 0, 0, 1, 1, 1, 1, 1, 1, 1, 1, 1, 1, 1, 1, 1]) (nsub thicketlaw07_TreesOwn.an [1, 1, 1, 1, 1, 1, 1, 1, 1, 1, 1, 1, 1, 1, 1, 1, 0, 1, 0, 0, 1, 1, 0, 0, 1, 1, 1, 1, 1, 1, 1, 1, 1, 1, 1, 1, 1]) (thicketlaw07_TreesOwn.q138 R k69))) (thicketlaw07_TreesOwn.q138 R k69)
def thicketlaw07_TreesOwn.q141 (R : Value → World → Prop) (k69 : Nat) : Exit → Act → World → Prop := (thicketlaw07_TreesOwn.q139 R k69)
def thicketlaw07_TreesOwn.q142 (R : Value → World → Prop) (k69 : Nat) : Exit → Act → World → Prop := Exit.inBlock 8 (thicketlaw07_TreesOwn.q141 R k69)
def thicketlaw07_TreesOwn.rl142 (R : Value → World → Prop) (k69 : Nat) (k : Nat) (a1 : Option Addr) (n1 : Nat) (c1 : Nat) (p2 : Option Addr) (p10 : Option Addr) (a22 : Option Addr) (n22 : Nat) (c22 : Nat) (a24 : Option Addr) (n24 : Nat) (c24 : Nat) (a30 : Option Addr) (n30 : Nat) (c30 : Nat) (a130 : Option Addr) (n130 : Nat) (c130 : Nat) (x131 : Int) (x132 : Int) (x213 : Int) (x214 : Int) (w : World) : Prop := loopN [1, 2, 10, 22, 24, 30, 130, 131, 132, 213, 214] (codeN Go.Proofs.Try.prog (sub (codeOf Go.Proofs.Try.f8) [1, 1, 1, 1, 1, 1, 1, 1, 1, 1, 1, 1, 1, 1, 1, 1, 0, 1, 0, 0, 1, 1, 0, 0, 1, 1, 1, 1, 1, 1, 1, 1, 1, 1, 1, 1, 0, 1, 0, 0]) (nsub thicketlaw07_TreesOwn.an [1, 1, 1, 1, 1, 1, 1, 1, 1, 1, 1, 1, 1, 1, 1, 1, 0, 1, 0, 0, 1, 1, 0, 0, 1, 1, 1, 1, 1, 1, 1, 1, 1, 1, 1, 1, 0, 1, 0, 0])) (thicketlaw07_TreesOwn.q142 R k69) k ⟨#[undef, .slice a1 n1 c1, .pointer p2, undef, undef, undef, undef, undef, undef, undef, .pointer p10, undef, undef, undef, undef, undef, undef, undef, undef, undef, undef, undef, .slice a22 n22 c22, undef, .slice a24 n24 c24, undef, undef, undef, undef, undef, .slice a30 n30 c30, undef, undef, undef, undef, undef, undef, undef, undef, undef, undef, undef, undef, undef, undef, undef, undef, undef, undef, undef, undef, undef, undef, undef, undef, undef, undef, undef, undef, undef, undef, undef, undef, undef, undef, undef, undef, undef, undef, undef, undef, undef, undef, undef, undef, undef, undef, undef, undef, undef, undef, undef, undef, undef, undef, undef, undef, undef, undef, undef, undef, undef, undef, undef, undef, undef, undef, undef, undef, undef, undef, undef, undef, undef, undef, undef, undef, undef, undef, undef, undef, undef, undef, undef, undef, undef, undef, undef, undef, undef, undef, undef, undef, undef, undef, undef, undef, undef, undef, undef, .slice a130 n130 c130, .int .i64 x131, .int .i64 x132, undef, undef, undef, undef, undef, undef, undef, undef, undef, undef, undef, undef, undef, undef, undef, undef, undef, undef, undef, undef, undef, undef, undef, undef, undef, undef, undef, undef, undef, undef, undef, undef, undef, undef, undef, undef, undef, undef, undef, undef, undef, undef, undef, undef, undef, undef, undef, undef, undef, undef, undef, undef, undef, undef, undef, undef, undef, undef, undef, undef, undef, undef, undef, undef, undef, undef, undef, undef, undef, undef, undef, undef, undef, undef, undef, undef, undef, undef, undef, undef, .int .i64 x213, .int .i64 x214, undef, undef, undef, undef, undef, undef, undef, undef, undef, undef, undef, undef, undef, undef, undef, undef, undef, undef, undef, undef, undef, undef, undef], []⟩ w
def thicketlaw07_TreesOwn.re142 (R : Value → World → Prop) (k69 : Nat) (a1 : Option Addr) (n1 : Nat) (c1 : Nat) (p2 : Option Addr) (p10 : Option Addr) (a22 : Option Addr) (n22 : Nat) (c22 : Nat) (a24 : Option Addr) (n24 : Nat) (c24 : Nat) (a30 : Option Addr) (n30 : Nat) (c30 : Nat) (a130 : Option Addr) (n130 : Nat) (c130 : Nat) (x131 : Int) (x132 : Int) (x213 : Int) (x214 : Int) (w : World) : Prop := ∃ k, thicketlaw07_TreesOwn.rl142 R k69 k a1 n1 c1 p2 p10 a22 n22 c22 a24 n24 c24 a30 n30 c30 a130 n130 c130 x131 x132 x213 x214 w
def thicketlaw07_TreesOwn.q161 (R : Value → World → Prop) (k69 : Nat) : Exit → Act → World → Prop := (thicketlaw07_TreesOwn.q138 R k69)
def thicketlaw07_TreesOwn.q163 (R : Value → World → Prop) (k69 : Nat) : Exit → Act → World → Prop := (thicketlaw07_TreesOwn.q161 R k69)
def thicketlaw07_TreesOwn.q164 (R : Value → World → Prop) (k69 : Nat) : Exit → Act → World → Prop := Exit.inBlock 10 (thicketlaw07_TreesOwn.q163 R k69)
def thicketlaw07_TreesOwn.rl164 (R : Value → World → Prop) (k69 : Nat) (k : Nat) (a1 : Option Addr) (n1 : Nat) (c1 : Nat) (p2 : Option Addr) (p10 : Option Addr) (a24 : Option Addr) (n24 : Nat) (c24 : Nat) (a130 : Option Addr) (n130 : Nat) (c130 : Nat) (x131 : Int) (x132 : Int) (x224 : Int) (x225 : Int) (w : World) : Prop := loopN [1, 2, 10, 24, 130, 131, 132, 224, 225] (codeN Go.Proofs.Try.prog (sub (codeOf Go.Proofs.Try.f8) [1, 1, 1, 1, 1, 1, 1, 1, 1, 1, 1, 1, 1, 1, 1, 1, 0, 1, 0, 0, 1, 1, 0, 0, 1, 1, 1, 1, 1, 1, 1, 1, 1, 1, 1, 1, 1, 1, 0, 0]) (nsub thicketlaw07_TreesOwn.an [1, 1, 1, 1, 1, 1, 1, 1, 1, 1, 1, 1, 1, 1, 1, 1, 0, 1, 0, 0, 1, 1, 0, 0, 1, 1, 1, 1, 1, 1, 1, 1, 1, 1, 1, 1, 1, 1, 0, 0])) (thicketlaw07_TreesOwn.q164 R k69) k ⟨#[undef, .slice a1 n1 c1, .pointer p2, undef, undef, undef, undef, undef, undef, undef, .pointer p10, undef, undef, undef, undef, undef, undef, undef, undef, undef, undef, undef, undef, undef, .slice a24 n24 c24, undef, undef, undef, undef, undef, undef, undef, undef, undef, undef, undef, undef, undef, undef, undef, undef, undef, undef, undef, undef, undef, undef, undef, undef, undef, undef, undef, undef, undef, undef, undef, undef, undef, undef, undef, undef, undef, undef, undef, undef, undef, undef, undef, undef, undef, undef, undef, undef, undef, undef, undef, undef, undef, undef, undef, undef, undef, undef, undef, undef, undef, undef, undef, undef, undef, undef, undef, undef, undef, undef, undef, undef, undef, undef, undef, undef, undef, undef, undef, undef, undef, undef, undef, undef, undef, undef, undef, undef, undef, undef, undef, undef, undef, undef, undef, undef, undef, undef, undef, undef, undef, undef, undef, undef, undef, .slice a130 n130 c130, .int .i64 x131, .int .i64 x132, undef, undef, undef, undef, undef, undef, undef, undef, undef, undef, undef, undef, undef, undef, undef, undef, undef, undef, undef, undef, undef, undef, undef, undef, undef, undef, undef, undef, undef, undef, undef, undef, undef, undef, undef, undef, undef, undef, undef, undef, undef, undef, undef, undef, undef, undef, undef, undef, undef, undef, undef, undef, undef, undef, undef, undef, undef, undef, undef, undef, undef, undef, undef, undef, undef, undef, undef, undef, undef, undef, undef, undef, undef, undef, undef, undef, undef, undef, undef, undef, undef, undef, undef, undef, undef, undef, undef, undef, undef, undef, undef, .int .i64 x224, .int .i64 x225, undef, undef, undef, undef, undef, undef, undef, undef, undef, undef, undef, undef], []⟩ w
def thicketlaw07_TreesOwn.re164 (R : Value → World → Prop) (k69 : Nat) (a1 : Option Addr) (n1 : Nat) (c1 : Nat) (p2 : Option Addr) (p10 : Option Addr) (a24 : Option Addr) (n24 : Nat) (c24 : Nat) (a130 : Option Addr) (n130 : Nat) (c130 : Nat) (x131 : Int) (x132 : Int) (x224 : Int) (x225 : Int) (w : World) : Prop := ∃ k, thicketlaw07_TreesOwn.rl164 R k69 k a1 n1 c1 p2 p10 a24 n24 c24 a130 n130 c130 x131 x132 x224 x225 w
def thicketlaw07_TreesOwn.l164 (R : Value → World → Prop) (b69 : (Option Addr) → Nat → Nat → (Option Addr) → (Option Addr) → (Option Addr) → Nat → Nat → Int → Int → World → Prop) : Nat → (Option Addr) → Nat → Nat → (Option Addr) → (Option Addr) → (Option Addr) → Nat → Nat → (Option Addr) → Nat → Nat → Int → Int → Int → Int → World → Prop
  | 0, _, _, _, _, _, _, _, _, _, _, _, _, _, _, _, _ => False
  | k + 1, a1, n1, c1, p2, p10, a24, n24, c24, a130, n130, c130, x131, x132, x224, x225, w => thicketlaw07_TreesOwn.g164 R b69 (thicketlaw07_TreesOwn.l164 R b69 k) a1 n1 c1 p2 p10 a24 n24 c24 a130 n130 c130 x131 x132 x224 x225 w
def thicketlaw07_TreesOwn.e164 (R : Value → World → Prop) (b69 : (Option Addr) → Nat → Nat → (Option Addr) → (Option Addr) → (Option Addr) → Nat → Nat → Int → Int → World → Prop) (a1 : Option Addr) (n1 : Nat) (c1 : Nat) (p2 : Option Addr) (p10 : Option Addr) (a24 : Option Addr) (n24 : Nat) (c24 : Nat) (a130 : Option Addr) (n130 : Nat) (c130 : Nat) (x131 : Int) (x132 : Int) (x224 : Int) (x225 : Int) (w : World) : Prop := ∃ k, thicketlaw07_TreesOwn.l164 R b69 k a1 n1 c1 p2 p10 a24 n24 c24 a130 n130 c130 x131 x132 x224 x225 w
theorem thicketlaw07_TreesOwn.s164 (R : Value → World → Prop) (k69 : Nat) (k : Nat) (a1 : Option Addr) (n1 : Nat) (c1 : Nat) (p2 : Option Addr) (p10 : Option Addr) (a24 : Option Addr) (n24 : Nat) (c24 : Nat) (a130 : Option Addr) (n130 : Nat) (c130 : Nat) (x131 : Int) (x132 : Int) (x224 : Int) (x225 : Int) (w : World) : thicketlaw07_TreesOwn.rl164 R k69 (k + 1) a1 n1 c1 p2 p10 a24 n24 c24 a130 n130 c130 x131 x132 x224 x225 w = ∀ _ : Nat → Value, thicketlaw07_TreesOwn.g164 R (thicketlaw07_TreesOwn.rl69 R k69) (thicketlaw07_TreesOwn.rl164 R k69 k) a1 n1 c1 p2 p10 a24 n24 c24 a130 n130 c130 x131 x132 x224 x225 w := by kernel_rfl
theorem thicketlaw07_TreesOwn.lq164 (R : Value → World → Prop) (k69 : Nat) (b69 : (Option Addr) → Nat → Nat → (Option Addr) → (Option Addr) → (Option Addr) → Nat → Nat → Int → Int → World → Prop) (hb69 : b69 = thicketlaw07_TreesOwn.rl69 R k69) : ∀ k, thicketlaw07_TreesOwn.l164 R b69 k = thicketlaw07_TreesOwn.rl164 R k69 k
  | 0 => by funext a1 n1 c1 p2 p10 a24 n24 c24 a130 n130 c130 x131 x132 x224 x225 w; first | rfl | kernel_rfl
  | k + 1 => by
    funext a1 n1 c1 p2 p10 a24 n24 c24 a130 n130 c130 x131 x132 x224 x225 w
    rw [thicketlaw07_TreesOwn.s164, forall_const]
    unfold thicketlaw07_TreesOwn.l164
    have ih := thicketlaw07_TreesOwn.lq164 R k69 b69 hb69 k
    subst hb69
    rw [ih]
    all_goals rfl
theorem thicketlaw07_TreesOwn.eq164 (R : Value → World → Prop) (k69 : Nat) (b69 : (Option Addr) → Nat → Nat → (Option Addr) → (Option Addr) → (Option Addr) → Nat → Nat → Int → Int → World → Prop) (hb69 : b69 = thicketlaw07_TreesOwn.rl69 R k69) : thicketlaw07_TreesOwn.e164 R b69 = thicketlaw07_TreesOwn.re164 R k69 := by
  funext a1 n1 c1 p2 p10 a24 n24 c24 a130 n130 c130 x131 x132 x224 x225 w
  unfold thicketlaw07_TreesOwn.e164 thicketlaw07_TreesOwn.re164
  simp only [thicketlaw07_TreesOwn.lq164 R k69 b69 hb69]
def thicketlaw07_TreesOwn.l142 (R : Value → World → Prop) (b69 : (Option Addr) → Nat → Nat → (Option Addr) → (Option Addr) → (Option Addr) → Nat → Nat → Int → Int → World → Prop) : Nat → (Option Addr) → Nat → Nat → (Option Addr) → (Option Addr) → (Option Addr) → Nat → Nat → (Option Addr) → Nat → Nat → (Option Addr) → Nat → Nat → (Option Addr) → Nat → Nat → Int → Int → Int → Int → World → Prop
  | 0, _, _, _, _, _, _, _, _, _, _, _, _, _, _, _, _, _, _, _, _, _, _ => False
  | k + 1, a1, n1, c1, p2, p10, a22, n22, c22, a24, n24, c24, a30, n30, c30, a130, n130, c130, x131, x132, x213, x214, w => thicketlaw07_TreesOwn.g142 R (thicketlaw07_TreesOwn.l142 R b69 k) (thicketlaw07_TreesOwn.e164 R b69) a1 n1 c1 p2 p10 a22 n22 c22 a24 n24 c24 a30 n30 c30 a130 n130 c130 x131 x132 x213 x214 w
def thicketlaw07_TreesOwn.e142 (R : Value → World → Prop) (b69 : (Option Addr) → Nat → Nat → (Option Addr) → (Option Addr) → (Option Addr) → Nat → Nat → Int → Int → World → Prop) (a1 : Option Addr) (n1 : Nat) (c1 : Nat) (p2 : Option Addr) (p10 : Option Addr) (a22 : Option Addr) (n22 : Nat) (c22 : Nat) (a24 : Option Addr) (n24 : Nat) (c24 : Nat) (a30 : Option Addr) (n30 : Nat) (c30 : Nat) (a130 : Option Addr) (n130 : Nat) (c130 : Nat) (x131 : Int) (x132 : Int) (x213 : Int) (x214 : Int) (w : World) : Prop := ∃ k, thicketlaw07_TreesOwn.l142 R b69 k a1 n1 c1 p2 p10 a22 n22 c22 a24 n24 c24 a30 n30 c30 a130 n130 c130 x131 x132 x213 x214 w
theorem thicketlaw07_TreesOwn.s142 (R : Value → World → Prop) (k69 : Nat) (k : Nat) (a1 : Option Addr) (n1 : Nat) (c1 : Nat) (p2 : Option Addr) (p10 : Option Addr) (a22 : Option Addr) (n22 : Nat) (c22 : Nat) (a24 : Option Addr) (n24 : Nat) (c24 : Nat) (a30 : Option Addr) (n30 : Nat) (c30 : Nat) (a130 : Option Addr) (n130 : Nat) (c130 : Nat) (x131 : Int) (x132 : Int) (x213 : Int) (x214 : Int) (w : World) : thicketlaw07_TreesOwn.rl142 R k69 (k + 1) a1 n1 c1 p2 p10 a22 n22 c22 a24 n24 c24 a30 n30 c30 a130 n130 c130 x131 x132 x213 x214 w = ∀ _ : Nat → Value, thicketlaw07_TreesOwn.g142 R (thicketlaw07_TreesOwn.rl142 R k69 k) (thicketlaw07_TreesOwn.re164 R k69) a1 n1 c1 p2 p10 a22 n22 c22 a24 n24 c24 a30 n30 c30 a130 n130 c130 x131 x132 x213 x214 w := by kernel_rfl
theorem thicketlaw07_TreesOwn.lq142 (R : Value → World → Prop) (k69 : Nat) (b69 : (Option Addr) → Nat → Nat → (Option Addr) → (Option Addr) → (Option Addr) → Nat → Nat → Int → Int → World → Prop) (hb69 : b69 = thicketlaw07_TreesOwn.rl69 R k69) : ∀ k, thicketlaw07_TreesOwn.l142 R b69 k = thicketlaw07_TreesOwn.rl142 R k69 k
  | 0 => by funext a1 n1 c1 p2 p10 a22 n22 c22 a24 n24 c24 a30 n30 c30 a130 n130 c130 x131 x132 x213 x214 w; first | rfl | kernel_rfl
  | k + 1 => by
    funext a1 n1 c1 p2 p10 a22 n22 c22 a24 n24 c24 a30 n30 c30 a130 n130 c130 x131 x132 x213 x214 w
    rw [thicketlaw07_TreesOwn.s142, forall_const]
    unfold thicketlaw07_TreesOwn.l142
    have ih := thicketlaw07_TreesOwn.lq142 R k69 b69 hb69 k
    subst hb69
    rw [thicketlaw07_TreesOwn.eq164 R k69 _ rfl]
    rw [ih]
    all_goals rfl
theorem thicketlaw07_TreesOwn.eq142 (R : Value → World → Prop) (k69 : Nat) (b69 : (Option Addr) → Nat → Nat → (Option Addr) → (Option Addr) → (Option Addr) → Nat → Nat → Int → Int → World → Prop) (hb69 : b69 = thicketlaw07_TreesOwn.rl69 R k69) : thicketlaw07_TreesOwn.e142 R b69 = thicketlaw07_TreesOwn.re142 R k69 := by
  funext a1 n1 c1 p2 p10 a22 n22 c22 a24 n24 c24 a30 n30 c30 a130 n130 c130 x131 x132 x213 x214 w
  unfold thicketlaw07_TreesOwn.e142 thicketlaw07_TreesOwn.re142
  simp only [thicketlaw07_TreesOwn.lq142 R k69 b69 hb69]
def thicketlaw07_TreesOwn.l113 (R : Value → World → Prop) (b69 : (Option Addr) → Nat → Nat → (Option Addr) → (Option Addr) → (Option Addr) → Nat → Nat → Int → Int → World → Prop) : Nat → (Option Addr) → Nat → Nat → (Option Addr) → (Option Addr) → (Option Addr) → Nat → Nat → (Option Addr) → Nat → Nat → (Option Addr) → Nat → Nat → (Option Addr) → Nat → Nat → (Option Addr) → Nat → Nat → (Option Addr) → Nat → Nat → (Option Addr) → Nat → Nat → Int → Int → Int → Int → World → Prop
  | 0, _, _, _, _, _, _, _, _, _, _, _, _, _, _, _, _, _, _, _, _, _, _, _, _, _, _, _, _, _, _, _ => False
  | k + 1, a1, n1, c1, p2, p10, a22, n22, c22, a24, n24, c24, a26, n26, c26, a28, n28, c28, a30, n30, c30, a32, n32, c32, a130, n130, c130, x131, x132, x178, x179, w => thicketlaw07_TreesOwn.g113 R (thicketlaw07_TreesOwn.l113 R b69 k) (thicketlaw07_TreesOwn.e142 R b69) a1 n1 c1 p2 p10 a22 n22 c22 a24 n24 c24 a26 n26 c26 a28 n28 c28 a30 n30 c30 a32 n32 c32 a130 n130 c130 x131 x132 x178 x179 w
def thicketlaw07_TreesOwn.e113 (R : Value → World → Prop) (b69 : (Option Addr) → Nat → Nat → (Option Addr) → (Option Addr) → (Option Addr) → Nat → Nat → Int → Int → World → Prop) (a1 : Option Addr) (n1 : Nat) (c1 : Nat) (p2 : Option Addr) (p10 : Option Addr) (a22 : Option Addr) (n22 : Nat) (c22 : Nat) (a24 : Option Addr) (n24 : Nat) (c24 : Nat) (a26 : Option Addr) (n26 : Nat) (c26 : Nat) (a28 : Option Addr) (n28 : Nat) (c28 : Nat) (a30 : Option Addr) (n30 : Nat) (c30 : Nat) (a32 : Option Addr) (n32 : Nat) (c32 : Nat) (a130 : Option Addr) (n130 : Nat) (c130 : Nat) (x131 : Int) (x132 : Int) (x178 : Int) (x179 : Int) (w : World) : Prop := ∃ k, thicketlaw07_TreesOwn.l113 R b69 k a1 n1 c1 p2 p10 a22 n22 c22 a24 n24 c24 a26 n26 c26 a28 n28 c28 a30 n30 c30 a32 n32 c32 a130 n130 c130 x131 x132 x178 x179 w
theorem thicketlaw07_TreesOwn.s113 (R : Value → World → Prop) (k69 : Nat) (k : Nat) (a1 : Option Addr) (n1 : Nat) (c1 : Nat) (p2 : Option Addr) (p10 : Option Addr) (a22 : Option Addr) (n22 : Nat) (c22 : Nat) (a24 : Option Addr) (n24 : Nat) (c24 : Nat) (a26 : Option Addr) (n26 : Nat) (c26 : Nat) (a28 : Option Addr) (n28 : Nat) (c28 : Nat) (a30 : Option Addr) (n30 : Nat) (c30 : Nat) (a32 : Option Addr) (n32 : Nat) (c32 : Nat) (a130 : Option Addr) (n130 : Nat) (c130 : Nat) (x131 : Int) (x132 : Int) (x178 : Int) (x179 : Int) (w : World) : thicketlaw07_TreesOwn.rl113 R k69 (k + 1) a1 n1 c1 p2 p10 a22 n22 c22 a24 n24 c24 a26 n26 c26 a28 n28 c28 a30 n30 c30 a32 n32 c32 a130 n130 c130 x131 x132 x178 x179 w = ∀ _ : Nat → Value, thicketlaw07_TreesOwn.g113 R (thicketlaw07_TreesOwn.rl113 R k69 k) (thicketlaw07_TreesOwn.re142 R k69) a1 n1 c1 p2 p10 a22 n22 c22 a24 n24 c24 a26 n26 c26 a28 n28 c28 a30 n30 c30 a32 n32 c32 a130 n130 c130 x131 x132 x178 x179 w := by kernel_rfl
theorem thicketlaw07_TreesOwn.lq113 (R : Value → World → Prop) (k69 : Nat) (b69 : (Option Addr) → Nat → Nat → (Option Addr) → (Option Addr) → (Option Addr) → Nat → Nat → Int → Int → World → Prop) (hb69 : b69 = thicketlaw07_TreesOwn.rl69 R k69) : ∀ k, thicketlaw07_TreesOwn.l113 R b69 k = thicketlaw07_TreesOwn.rl113 R k69 k
  | 0 => by funext a1 n1 c1 p2 p10 a22 n22 c22 a24 n24 c24 a26 n26 c26 a28 n28 c28 a30 n30 c30 a32 n32 c32 a130 n130 c130 x131 x132 x178 x179 w; first | rfl | kernel_rfl
  | k + 1 => by
    funext a1 n1 c1 p2 p10 a22 n22 c22 a24 n24 c24 a26 n26 c26 a28 n28 c28 a30 n30 c30 a32 n32 c32 a130 n130 c130 x131 x132 x178 x179 w
    rw [thicketlaw07_TreesOwn.s113, forall_const]
    unfold thicketlaw07_TreesOwn.l113
    have ih := thicketlaw07_TreesOwn.lq113 R k69 b69 hb69 k
    subst hb69
    rw [thicketlaw07_TreesOwn.eq142 R k69 _ rfl]
    rw [ih]
    all_goals rfl
theorem thicketlaw07_TreesOwn.eq113 (R : Value → World → Prop) (k69 : Nat) (b69 : (Option Addr) → Nat → Nat → (Option Addr) → (Option Addr) → (Option Addr) → Nat → Nat → Int → Int → World → Prop) (hb69 : b69 = thicketlaw07_TreesOwn.rl69 R k69) : thicketlaw07_TreesOwn.e113 R b69 = thicketlaw07_TreesOwn.re113 R k69 := by
  funext a1 n1 c1 p2 p10 a22 n22 c22 a24 n24 c24 a26 n26 c26 a28 n28 c28 a30 n30 c30 a32 n32 c32 a130 n130 c130 x131 x132 x178 x179 w
  unfold thicketlaw07_TreesOwn.e113 thicketlaw07_TreesOwn.re113
  simp only [thicketlaw07_TreesOwn.lq113 R k69 b69 hb69]
def thicketlaw07_TreesOwn.l96 (R : Value → World → Prop) (b69 : (Option Addr) → Nat → Nat → (Option Addr) → (Option Addr) → (Option Addr) → Nat → Nat → Int → Int → World → Prop) : Nat → (Option Addr) → Nat → Nat → (Option Addr) → (Option Addr) → (Option Addr) → Nat → Nat → (Option Addr) → Nat → Nat → (Option Addr) → Nat → Nat → (Option Addr) → Nat → Nat → (Option Addr) → Nat → Nat → (Option Addr) → Nat → Nat → (Option Addr) → Nat → Nat → Int → Int → Int → Int → World → Prop
  | 0, _, _, _, _, _, _, _, _, _, _, _, _, _, _, _, _, _, _, _, _, _, _, _, _, _, _, _, _, _, _, _ => False
  | k + 1, a1, n1, c1, p2, p10, a22, n22, c22, a24, n24, c24, a26, n26, c26, a28, n28, c28, a30, n30, c30, a32, n32, c32, a130, n130, c130, x131, x132, x169, x170, w => thicketlaw07_TreesOwn.g96 R (thicketlaw07_TreesOwn.l96 R b69 k) (thicketlaw07_TreesOwn.e113 R b69) a1 n1 c1 p2 p10 a22 n22 c22 a24 n24 c24 a26 n26 c26 a28 n28 c28 a30 n30 c30 a32 n32 c32 a130 n130 c130 x131 x132 x169 x170 w
def thicketlaw07_TreesOwn.e96 (R : Value → World → Prop) (b69 : (Option Addr) → Nat → Nat → (Option Addr) → (Option Addr) → (Option Addr) → Nat → Nat → Int → Int → World → Prop) (a1 : Option Addr) (n1 : Nat) (c1 : Nat) (p2 : Option Addr) (p10 : Option Addr) (a22 : Option Addr) (n22 : Nat) (c22 : Nat) (a24 : Option Addr) (n24 : Nat) (c24 : Nat) (a26 : Option Addr) (n26 : Nat) (c26 : Nat) (a28 : Option Addr) (n28 : Nat) (c28 : Nat) (a30 : Option Addr) (n30 : Nat) (c30 : Nat) (a32 : Option Addr) (n32 : Nat) (c32 : Nat) (a130 : Option Addr) (n130 : Nat) (c130 : Nat) (x131 : Int) (x132 : Int) (x169 : Int) (x170 : Int) (w : World) : Prop := ∃ k, thicketlaw07_TreesOwn.l96 R b69 k a1 n1 c1 p2 p10 a22 n22 c22 a24 n24 c24 a26 n26 c26 a28 n28 c28 a30 n30 c30 a32 n32 c32 a130 n130 c130 x131 x132 x169 x170 w
theorem thicketlaw07_TreesOwn.s96 (R : Value → World → Prop) (k69 : Nat) (k : Nat) (a1 : Option Addr) (n1 : Nat) (c1 : Nat) (p2 : Option Addr) (p10 : Option Addr) (a22 : Option Addr) (n22 : Nat) (c22 : Nat) (a24 : Option Addr) (n24 : Nat) (c24 : Nat) (a26 : Option Addr) (n26 : Nat) (c26 : Nat) (a28 : Option Addr) (n28 : Nat) (c28 : Nat) (a30 : Option Addr) (n30 : Nat) (c30 : Nat) (a32 : Option Addr) (n32 : Nat) (c32 : Nat) (a130 : Option Addr) (n130 : Nat) (c130 : Nat) (x131 : Int) (x132 : Int) (x169 : Int) (x170 : Int) (w : World) : thicketlaw07_TreesOwn.rl96 R k69 (k + 1) a1 n1 c1 p2 p10 a22 n22 c22 a24 n24 c24 a26 n26 c26 a28 n28 c28 a30 n30 c30 a32 n32 c32 a130 n130 c130 x131 x132 x169 x170 w = ∀ _ : Nat → Value, thicketlaw07_TreesOwn.g96 R (thicketlaw07_TreesOwn.rl96 R k69 k) (thicketlaw07_TreesOwn.re113 R k69) a1 n1 c1 p2 p10 a22 n22 c22 a24 n24 c24 a26 n26 c26 a28 n28 c28 a30 n30 c30 a32 n32 c32 a130 n130 c130 x131 x132 x169 x170 w := by kernel_rfl
theorem thicketlaw07_TreesOwn.lq96 (R : Value → World → Prop) (k69 : Nat) (b69 : (Option Addr) → Nat → Nat → (Option Addr) → (Option Addr) → (Option Addr) → Nat → Nat → Int → Int → World → Prop) (hb69 : b69 = thicketlaw07_TreesOwn.rl69 R k69) : ∀ k, thicketlaw07_TreesOwn.l96 R b69 k = thicketlaw07_TreesOwn.rl96 R k69 k
  | 0 => by funext a1 n1 c1 p2 p10 a22 n22 c22 a24 n24 c24 a26 n26 c26 a28 n28 c28 a30 n30 c30 a32 n32 c32 a130 n130 c130 x131 x132 x169 x170 w; first | rfl | kernel_rfl
  | k + 1 => by
    funext a1 n1 c1 p2 p10 a22 n22 c22 a24 n24 c24 a26 n26 c26 a28 n28 c28 a30 n30 c30 a32 n32 c32 a130 n130 c130 x131 x132 x169 x170 w
    rw [thicketlaw07_TreesOwn.s96, forall_const]
    unfold thicketlaw07_TreesOwn.l96
    have ih := thicketlaw07_TreesOwn.lq96 R k69 b69 hb69 k
    subst hb69
    rw [thicketlaw07_TreesOwn.eq113 R k69 _ rfl]
    rw [ih]
    all_goals rfl
theorem thicketlaw07_TreesOwn.eq96 (R : Value → World → Prop) (k69 : Nat) (b69 : (Option Addr) → Nat → Nat → (Option Addr) → (Option Addr) → (Option Addr) → Nat → Nat → Int → Int → World → Prop) (hb69 : b69 = thicketlaw07_TreesOwn.rl69 R k69) : thicketlaw07_TreesOwn.e96 R b69 = thicketlaw07_TreesOwn.re96 R k69 := by
  funext a1 n1 c1 p2 p10 a22 n22 c22 a24 n24 c24 a26 n26 c26 a28 n28 c28 a30 n30 c30 a32 n32 c32 a130 n130 c130 x131 x132 x169 x170 w
  unfold thicketlaw07_TreesOwn.e96 thicketlaw07_TreesOwn.re96
  simp only [thicketlaw07_TreesOwn.lq96 R k69 b69 hb69]
def thicketlaw07_TreesOwn.l69 (R : Value → World → Prop) : Nat → (Option Addr) → Nat → Nat → (Option Addr) → (Option Addr) → (Option Addr) → Nat → Nat → Int → Int → World → Prop
  | 0, _, _, _, _, _, _, _, _, _, _, _ => False
  | k + 1, a1, n1, c1, p2, p10, a130, n130, c130, x131, x132, w => thicketlaw07_TreesOwn.g69 R (thicketlaw07_TreesOwn.e96 R (thicketlaw07_TreesOwn.l69 R k)) a1 n1 c1 p2 p10 a130 n130 c130 x131 x132 w
def thicketlaw07_TreesOwn.e69 (R : Value → World → Prop) (a1 : Option Addr) (n1 : Nat) (c1 : Nat) (p2 : Option Addr) (p10 : Option Addr) (a130 : Option Addr) (n130 : Nat) (c130 : Nat) (x131 : Int) (x132 : Int) (w : World) : Prop := ∃ k, thicketlaw07_TreesOwn.l69 R k a1 n1 c1 p2 p10 a130 n130 c130 x131 x132 w
theorem thicketlaw07_TreesOwn.s69 (R : Value → World → Prop) (k : Nat) (a1 : Option Addr) (n1 : Nat) (c1 : Nat) (p2 : Option Addr) (p10 : Option Addr) (a130 : Option Addr) (n130 : Nat) (c130 : Nat) (x131 : Int) (x132 : Int) (w : World) : thicketlaw07_TreesOwn.rl69 R (k + 1) a1 n1 c1 p2 p10 a130 n130 c130 x131 x132 w = ∀ _ : Nat → Value, thicketlaw07_TreesOwn.g69 R (thicketlaw07_TreesOwn.re96 R k) a1 n1 c1 p2 p10 a130 n130 c130 x131 x132 w := by kernel_rfl
theorem thicketlaw07_TreesOwn.lq69 (R : Value → World → Prop) : ∀ k, thicketlaw07_TreesOwn.l69 R k = thicketlaw07_TreesOwn.rl69 R k
  | 0 => by funext a1 n1 c1 p2 p10 a130 n130 c130 x131 x132 w; first | rfl | kernel_rfl
  | k + 1 => by
    funext a1 n1 c1 p2 p10 a130 n130 c130 x131 x132 w
    rw [thicketlaw07_TreesOwn.s69, forall_const]
    unfold thicketlaw07_TreesOwn.l69
    have ih := thicketlaw07_TreesOwn.lq69 R k
    rw [thicketlaw07_TreesOwn.eq96 R k _ ih]
    all_goals rfl
theorem thicketlaw07_TreesOwn.eq69 (R : Value → World → Prop) : thicketlaw07_TreesOwn.e69 R = thicketlaw07_TreesOwn.re69 R := by
  funext a1 n1 c1 p2 p10 a130 n130 c130 x131 x132 w
  unfold thicketlaw07_TreesOwn.e69 thicketlaw07_TreesOwn.re69
  simp only [thicketlaw07_TreesOwn.lq69 R]
def thicketlaw07_TreesOwn.l42 (R : Value → World → Prop) : Nat → (Option Addr) → Nat → Nat → (Option Addr) → (Option Addr) → (Option Addr) → Nat → Nat → (Option Addr) → Nat → Nat → (Option Addr) → Nat → Nat → Int → Int → World → Prop
  | 0, _, _, _, _, _, _, _, _, _, _, _, _, _, _, _, _, _ => False
  | k + 1, a1, n1, c1, p2, p10, a13, n13, c13, a15, n15, c15, a17, n17, c17, x97, x98, w => thicketlaw07_TreesOwn.g42 R (thicketlaw07_TreesOwn.l42 R k) (thicketlaw07_TreesOwn.e69 R) a1 n1 c1 p2 p10 a13 n13 c13 a15 n15 c15 a17 n17 c17 x97 x98 w
def thicketlaw07_TreesOwn.e42 (R : Value → World → Prop) (a1 : Option Addr) (n1 : Nat) (c1 : Nat) (p2 : Option Addr) (p10 : Option Addr) (a13 : Option Addr) (n13 : Nat) (c13 : Nat) (a15 : Option Addr) (n15 : Nat) (c15 : Nat) (a17 : Option Addr) (n17 : Nat) (c17 : Nat) (x97 : Int) (x98 : Int) (w : World) : Prop := ∃ k, thicketlaw07_TreesOwn.l42 R k a1 n1 c1 p2 p10 a13 n13 c13 a15 n15 c15 a17 n17 c17 x97 x98 w
theorem thicketlaw07_TreesOwn.s42 (R : Value → World → Prop) (k : Nat) (a1 : Option Addr) (n1 : Nat) (c1 : Nat) (p2 : Option Addr) (p10 : Option Addr) (a13 : Option Addr) (n13 : Nat) (c13 : Nat) (a15 : Option Addr) (n15 : Nat) (c15 : Nat) (a17 : Option Addr) (n17 : Nat) (c17 : Nat) (x97 : Int) (x98 : Int) (w : World) : thicketlaw07_TreesOwn.rl42 R (k + 1) a1 n1 c1 p2 p10 a13 n13 c13 a15 n15 c15 a17 n17 c17 x97 x98 w = ∀ _ : Nat → Value, thicketlaw07_TreesOwn.g42 R (thicketlaw07_TreesOwn.rl42 R k) (thicketlaw07_TreesOwn.re69 R) a1 n1 c1 p2 p10 a13 n13 c13 a15 n15 c15 a17 n17 c17 x97 x98 w := by kernel_rfl
theorem thicketlaw07_TreesOwn.lq42 (R : Value → World → Prop) : ∀ k, thicketlaw07_TreesOwn.l42 R k = thicketlaw07_TreesOwn.rl42 R k
  | 0 => by funext a1 n1 c1 p2 p10 a13 n13 c13 a15 n15 c15 a17 n17 c17 x97 x98 w; first | rfl | kernel_rfl
  | k + 1 => by
    funext a1 n1 c1 p2 p10 a13 n13 c13 a15 n15 c15 a17 n17 c17 x97 x98 w
    rw [thicketlaw07_TreesOwn.s42, forall_const]
    unfold thicketlaw07_TreesOwn.l42
    have ih := thicketlaw07_TreesOwn.lq42 R k
    rw [thicketlaw07_TreesOwn.eq69 R]
    rw [ih]
    all_goals rfl
theorem thicketlaw07_TreesOwn.eq42 (R : Value → World → Prop) : thicketlaw07_TreesOwn.e42 R = thicketlaw07_TreesOwn.re42 R := by
  funext a1 n1 c1 p2 p10 a13 n13 c13 a15 n15 c15 a17 n17 c17 x97 x98 w
  unfold thicketlaw07_TreesOwn.e42 thicketlaw07_TreesOwn.re42
  simp only [thicketlaw07_TreesOwn.lq42 R]
def thicketlaw07_TreesOwn (R : Value → World → Prop) (s0_0 : ByteArray) (a0_1 : Option Addr) (n0_1 : Nat) (c0_1 : Nat) (x0_2 : Int) (a0_3 : Option Addr) (n0_3 : Nat) (c0_3 : Nat) (a0_4 : Option Addr) (n0_4 : Nat) (c0_4 : Nat) (a1 : Option Addr) (n1 : Nat) (c1 : Nat) (w : World) : Prop := thicketlaw07_TreesOwn.g0 R (thicketlaw07_TreesOwn.e42 R) s0_0 a0_1 n0_1 c0_1 x0_2 a0_3 n0_3 c0_3 a0_4 n0_4 c0_4 a1 n1 c1 w
theorem thicketlaw07_TreesOwn.root0 (R : Value → World → Prop) (s0_0 : ByteArray) (a0_1 : Option Addr) (n0_1 : Nat) (c0_1 : Nat) (x0_2 : Int) (a0_3 : Option Addr) (n0_3 : Nat) (c0_3 : Nat) (a0_4 : Option Addr) (n0_4 : Nat) (c0_4 : Nat) (a1 : Option Addr) (n1 : Nat) (c1 : Nat) (w : World) : fnN Go.Proofs.Try.prog Go.Proofs.Try.f8 thicketlaw07_TreesOwn.an #[.agg #[.string s0_0, .slice a0_1 n0_1 c0_1, .int .i64 x0_2, .slice a0_3 n0_3 c0_3, .slice a0_4 n0_4 c0_4], .slice a1 n1 c1] w R = thicketlaw07_TreesOwn.g0 R (thicketlaw07_TreesOwn.re42 R) s0_0 a0_1 n0_1 c0_1 x0_2 a0_3 n0_3 c0_3 a0_4 n0_4 c0_4 a1 n1 c1 w := by kernel_rfl
theorem thicketlaw07_TreesOwn.calls {R : Value → World → Prop} {s0_0 : ByteArray} {a0_1 : Option Addr} {n0_1 : Nat} {c0_1 : Nat} {x0_2 : Int} {a0_3 : Option Addr} {n0_3 : Nat} {c0_3 : Nat} {a0_4 : Option Addr} {n0_4 : Nat} {c0_4 : Nat} {a1 : Option Addr} {n1 : Nat} {c1 : Nat} {w : World} (h : thicketlaw07_TreesOwn R s0_0 a0_1 n0_1 c0_1 x0_2 a0_3 n0_3 c0_3 a0_4 n0_4 c0_4 a1 n1 c1 w) : Go.E.CallsD Go.Proofs.Try.prog 8 #[.agg #[.string s0_0, .slice a0_1 n0_1 c0_1, .int .i64 x0_2, .slice a0_3 n0_3 c0_3, .slice a0_4 n0_4 c0_4], .slice a1 n1 c1] w R := by
  refine callsD_of (n := thicketlaw07_TreesOwn.an) M_follows M_sizes Go.Proofs.Try.func8 (by rfl) ?_
  rw [thicketlaw07_TreesOwn.root0]
  unfold thicketlaw07_TreesOwn at h
  rw [thicketlaw07_TreesOwn.eq42 R] at h
  exact h
-- thicket/thicketlaw07.TreesOne
def thicketlaw07_TreesOne.an : An := (.mk none .nil (.mk none .nil (.mk none .nil (.mk none .nil (.mk none .nil (.mk none .nil (.mk none .nil (.mk none (.mk none .nil (.mk none (.mk (some [1, 2, 5, 7, 8, 10, 12]) .nil .nil) .nil)) .nil))))))))
def thicketlaw07_TreesOne.g0 (R : Value → World → Prop) (e36 : (Option Addr) → Nat → Nat → (Option Addr) → (Option Addr) → Nat → Nat → Int → Int → (Option Addr) → Nat → Nat → Int → World → Prop) (x0_0 : Int) (a0_1 : Option Addr) (n0_1 : Nat) (c0_1 : Nat) (a1 : Option Addr) (n1 : Nat) (c1 : Nat) (w : World) : Prop :=
 nw (w.alloc (.cells #[.int .i64 x0_0, .slice a0_1 n0_1 c0_1] 33)) fun w107 =>
 Go.E.CallsD Go.Proofs.Try.prog 12 #[] w107 fun yv108 u109 =>
 ∃ yb_110 : Bool, yv108 = .bool yb_110 ∧
 (onBool (!yb_110)
 (R (.bool false) u109)
 (∃ yx_111 : Int, u109.cell? ((na w).add 0) = some (.int .i64 yx_111) ∧
 (∃ ya_112 : Option Addr, ∃ yn_112 : Nat, ∃ yc_112 : Nat, u109.cell? ((na w).add 1) = some (.slice ya_112 yn_112 yc_112) ∧
 (Go.E.CallsD Go.Proofs.Try.prog 15 #[.agg #[.int .i64 yx_111, .slice ya_112 yn_112 yc_112], .slice a1 n1 c1] u109 fun yv113 u114 =>
 ∃ ya_115_0 : Option Addr, ∃ yn_115_0 : Nat, ∃ yc_115_0 : Nat, ∃ yx_115_1 : Int, yv113 = .tuple #[.slice ya_115_0 yn_115_0 yc_115_0, .int .i64 yx_115_1] ∧
 (∃ yx_116 : Int, u114.cell? ((na w).add 0) = some (.int .i64 yx_116) ∧
 (∃ ya_117 : Option Addr, ∃ yn_117 : Nat, ∃ yc_117 : Nat, u114.cell? ((na w).add 1) = some (.slice ya_117 yn_117 yc_117) ∧
 (Go.E.CallsD Go.Proofs.Try.prog 17 #[.agg #[.int .i64 yx_116, .slice ya_117 yn_117 yc_117], .slice a1 n1 c1] u114 fun yv118 u119 =>
 ∃ yx_120_0 : Int, ∃ yx_120_1 : Int, ∃ yx_120_2 : Int, yv118 = .tuple #[.int .i64 yx_120_0, .int .i64 yx_120_1, .int .i64 yx_120_2] ∧
 (onBool (yx_115_1 != 0)
 (onBool (yx_120_2 == yx_115_1)
 (R (.bool ((yn_115_0 : Int) == 0)) u119)
 (R (.bool false) u119))
 (∃ yx_121 : Int, u119.cell? ((na w).add 0) = some (.int .i64 yx_121) ∧
 (∃ ya_122 : Option Addr, ∃ yn_122 : Nat, ∃ yc_122 : Nat, u119.cell? ((na w).add 1) = some (.slice ya_122 yn_122 yc_122) ∧
 (Go.E.CallsD Go.Proofs.Try.prog 27 #[.agg #[.int .i64 yx_121, .slice ya_122 yn_122 yc_122]] u119 fun yv123 u124 =>
 ∃ ya_125_0 : Option Addr, ∃ yn_125_0 : Nat, ∃ yc_125_0 : Nat, ∃ yx_125_1 : Int, yv123 = .tuple #[.slice ya_125_0 yn_125_0 yc_125_0, .int .i64 yx_125_1] ∧
 (onBool (yx_120_2 != 0)
 (R (.bool false) u124)
 (onBool (yx_125_1 != 0)
 (R (.bool false) u124)
 (onBool ((yn_115_0 : Int) == 0)
 (R (.bool false) u124)
 (optN ya_115_0 fun q126 =>
 chk ((0 : Int) ≤ 0 ∧ 0 < (yn_115_0 : Int))
 (∃ yx_127 : Int, u124.cell? (q126.add 0) = some (.int .i64 yx_127) ∧
 (onBool (yx_127 != 0)
 (R (.bool false) u124)
 (onBool (decide (yx_120_0 < 0))
 (R (.bool false) u124)
 (onBool (decide (yx_120_0 ≥ (yn_125_0 : Int)))
 (R (.bool false) u124)
 (e36 a1 n1 c1 (some (na w)) ya_115_0 yn_115_0 yc_115_0 yx_120_0 yx_120_1 ya_125_0 yn_125_0 yc_125_0 0 u124))))))))))))))))))))
def thicketlaw07_TreesOne.g36 (R : Value → World → Prop) (b36 : (Option Addr) → Nat → Nat → (Option Addr) → (Option Addr) → Nat → Nat → Int → Int → (Option Addr) → Nat → Nat → Int → World → Prop) (a1 : Option Addr) (n1 : Nat) (c1 : Nat) (p2 : Option Addr) (a5 : Option Addr) (n5 : Nat) (c5 : Nat) (x7 : Int) (x8 : Int) (a10 : Option Addr) (n10 : Nat) (c10 : Nat) (x12 : Int) (w : World) : Prop :=
 nv (IntKind.i64.wrap (x12 + 1)) fun t128 =>
 onBool (decide (t128 < (n5 : Int)))
 (∃ F129 : Nat → Value → World → Prop, (∀ i v u u', F129 i v u → Below u.heap.size u u' → F129 i v u') ∧
 (optN p2 fun q130 =>
 ∃ ya_131 : Option Addr, ∃ yn_131 : Nat, ∃ yc_131 : Nat, w.cell? (q130.add 1) = some (.slice ya_131 yn_131 yc_131) ∧
 (optN a5 fun q132 =>
 chk ((0 : Int) ≤ x12 ∧ x12 < (n5 : Int))
 (∃ yx_133 : Int, w.cell? (q132.add (x12.toNat * 1)) = some (.int .i64 yx_133) ∧
 (optN ya_131 fun q134 =>
 chk ((0 : Int) ≤ yx_133 ∧ yx_133 < (yn_131 : Int))
 (∃ yx_135 : Int, w.cell? ((q134.add (yx_133.toNat * 8)).add 0) = some (.int .u8 yx_135) ∧
 (∃ yx_136 : Int, w.cell? ((q134.add (yx_133.toNat * 8)).add 1) = some (.int .i64 yx_136) ∧
 (∃ yx_137 : Int, w.cell? ((q134.add (yx_133.toNat * 8)).add 2) = some (.int .i64 yx_137) ∧
 (∃ yf_138 : Nat, w.cell? ((q134.add (yx_133.toNat * 8)).add 3) = some (.float .f64 yf_138) ∧
 (∃ ya_139 : Option Addr, ∃ yn_139 : Nat, ∃ yc_139 : Nat, w.cell? ((q134.add (yx_133.toNat * 8)).add 4) = some (.slice ya_139 yn_139 yc_139) ∧
 (∃ yx_140 : Int, w.cell? ((q134.add (yx_133.toNat * 8)).add 5) = some (.int .u8 yx_140) ∧
 (∃ yx_141 : Int, w.cell? ((q134.add (yx_133.toNat * 8)).add 6) = some (.int .i64 yx_141) ∧
 (∃ yx_142 : Int, w.cell? ((q134.add (yx_133.toNat * 8)).add 7) = some (.int .i64 yx_142) ∧
 ((∀ u143 : World, Below w.heap.size w u143 → F129 8 (.pointer (some (na u143))) (u143.alloc (.cells #[.int .u8 0, .int .i64 0, .int .i64 0, .float .f64 0, .slice none 0 0, .int .u8 0, .int .i64 0, .int .i64 0] 27))) ∧
 (∀ q144 : Addr, (∃ u, Below w.heap.size w u ∧ F129 8 (.pointer (some q144)) u) →
 ∀ u145 : World, Below w.heap.size w u145 → F129 8 (.pointer (some q144)) u145 → 
 okSt u145 (q144.add 0) ∧
 (nw (u145.setCell (q144.add 0) (.int .u8 yx_135)) fun w146 =>
 okSt w146 (q144.add 1) ∧
 (nw (w146.setCell (q144.add 1) (.int .i64 yx_136)) fun w147 =>
 okSt w147 (q144.add 2) ∧
 (nw (w147.setCell (q144.add 2) (.int .i64 yx_137)) fun w148 =>
 okSt w148 (q144.add 3) ∧
 (nw (w148.setCell (q144.add 3) (.float .f64 yf_138)) fun w149 =>
 okSt w149 (q144.add 4) ∧
 (nw (w149.setCell (q144.add 4) (.slice ya_139 yn_139 yc_139)) fun w150 =>
 okSt w150 (q144.add 5) ∧
 (nw (w150.setCell (q144.add 5) (.int .u8 yx_140)) fun w151 =>
 okSt w151 (q144.add 6) ∧
 (nw (w151.setCell (q144.add 6) (.int .i64 yx_141)) fun w152 =>
 okSt w152 (q144.add 7) ∧
 (nw (w152.setCell (q144.add 7) (.int .i64 yx_142)) fun w153 =>
 ∃ yx_154 : Int, w153.cell? (q144.add 0) = some (.int .u8 yx_154) ∧
 (∃ yx_155 : Int, w153.cell? (q144.add 1) = some (.int .i64 yx_155) ∧
 (∃ yx_156 : Int, w153.cell? (q144.add 2) = some (.int .i64 yx_156) ∧
 (∃ yf_157 : Nat, w153.cell? (q144.add 3) = some (.float .f64 yf_157) ∧
 (∃ ya_158 : Option Addr, ∃ yn_158 : Nat, ∃ yc_158 : Nat, w153.cell? (q144.add 4) = some (.slice ya_158 yn_158 yc_158) ∧
 (∃ yx_159 : Int, w153.cell? (q144.add 5) = some (.int .u8 yx_159) ∧
 (∃ yx_160 : Int, w153.cell? (q144.add 6) = some (.int .i64 yx_160) ∧
 (∃ yx_161 : Int, w153.cell? (q144.add 7) = some (.int .i64 yx_161) ∧
 (∃ yx_162 : Int, w153.cell? (q144.add 2) = some (.int .i64 yx_162) ∧
 (optN a1 fun q163 =>
 chk ((0 : Int) ≤ yx_162 ∧ yx_162 < (n1 : Int))
 (∃ yf_164 : Nat, w153.cell? (q163.add (yx_162.toNat * 1)) = some (.float .f64 yf_164) ∧
 (Go.E.CallsD Go.Proofs.Try.prog 13 #[.agg #[.int .u8 yx_154, .int .i64 yx_155, .int .i64 yx_156, .float .f64 yf_157, .slice ya_158 yn_158 yc_158, .int .u8 yx_159, .int .i64 yx_160, .int .i64 yx_161], .float .f64 yf_164] w153 fun yv165 u166 =>
 ∃ yx_167 : Int, yv165 = .int .u8 yx_167 ∧
 (onBool (yx_167 == 0)
 (R (.bool false) u166)
 (onBool (yx_167 == 1)
 (nv (IntKind.i64.wrap (x12 + 1)) fun t168 =>
 optN a5 fun q169 =>
 chk ((0 : Int) ≤ t168 ∧ t168 < (n5 : Int))
 (∃ yx_170 : Int, u166.cell? (q169.add (t168.toNat * 1)) = some (.int .i64 yx_170) ∧
 (∃ yx_171 : Int, u166.cell? (q144.add 6) = some (.int .i64 yx_171) ∧
 (onBool (yx_170 != yx_171)
 (R (.bool false) u166)
 (onBool (yx_167 != 1)
 (nv (IntKind.i64.wrap (x12 + 1)) fun t172 =>
 optN a5 fun q173 =>
 chk ((0 : Int) ≤ t172 ∧ t172 < (n5 : Int))
 (∃ yx_174 : Int, u166.cell? (q173.add (t172.toNat * 1)) = some (.int .i64 yx_174) ∧
 (∃ yx_175 : Int, u166.cell? (q144.add 7) = some (.int .i64 yx_175) ∧
 (onBool (yx_174 != yx_175)
 (R (.bool false) u166)
 (nv (IntKind.i64.wrap (x12 + 1)) fun t176 =>
 b36 a1 n1 c1 p2 a5 n5 c5 x7 x8 a10 n10 c10 t176 u166)))))
 (nv (IntKind.i64.wrap (x12 + 1)) fun t177 =>
 b36 a1 n1 c1 p2 a5 n5 c5 x7 x8 a10 n10 c10 t177 u166))))))
 (onBool (yx_167 != 1)
 (nv (IntKind.i64.wrap (x12 + 1)) fun t178 =>
 optN a5 fun q179 =>
 chk ((0 : Int) ≤ t178 ∧ t178 < (n5 : Int))
 (∃ yx_180 : Int, u166.cell? (q179.add (t178.toNat * 1)) = some (.int .i64 yx_180) ∧
 (∃ yx_181 : Int, u166.cell? (q144.add 7) = some (.int .i64 yx_181) ∧
 (onBool (yx_180 != yx_181)
 (R (.bool false) u166)
 (nv (IntKind.i64.wrap (x12 + 1)) fun t182 =>
 b36 a1 n1 c1 p2 a5 n5 c5 x7 x8 a10 n10 c10 t182 u166)))))
 (nv (IntKind.i64.wrap (x12 + 1)) fun t183 =>
 b36 a1 n1 c1 p2 a5 n5 c5 x7 x8 a10 n10 c10 t183 u166))))))))))))))))))))))))))))))))))))))
 (∃ F184 : Nat → Value → World → Prop, (∀ i v u u', F184 i v u → Below u.heap.size u u' → F184 i v u') ∧
 (optN p2 fun q185 =>
 ∃ ya_186 : Option Addr, ∃ yn_186 : Nat, ∃ yc_186 : Nat, w.cell? (q185.add 1) = some (.slice ya_186 yn_186 yc_186) ∧
 (nv (IntKind.i64.wrap ((n5 : Int) - 1)) fun t187 =>
 optN a5 fun q188 =>
 chk ((0 : Int) ≤ t187 ∧ t187 < (n5 : Int))
 (∃ yx_189 : Int, w.cell? (q188.add (t187.toNat * 1)) = some (.int .i64 yx_189) ∧
 (optN ya_186 fun q190 =>
 chk ((0 : Int) ≤ yx_189 ∧ yx_189 < (yn_186 : Int))
 (∃ yx_191 : Int, w.cell? ((q190.add (yx_189.toNat * 8)).add 0) = some (.int .u8 yx_191) ∧
 (∃ yx_192 : Int, w.cell? ((q190.add (yx_189.toNat * 8)).add 1) = some (.int .i64 yx_192) ∧
 (∃ yx_193 : Int, w.cell? ((q190.add (yx_189.toNat * 8)).add 2) = some (.int .i64 yx_193) ∧
 (∃ yf_194 : Nat, w.cell? ((q190.add (yx_189.toNat * 8)).add 3) = some (.float .f64 yf_194) ∧
 (∃ ya_195 : Option Addr, ∃ yn_195 : Nat, ∃ yc_195 : Nat, w.cell? ((q190.add (yx_189.toNat * 8)).add 4) = some (.slice ya_195 yn_195 yc_195) ∧
 (∃ yx_196 : Int, w.cell? ((q190.add (yx_189.toNat * 8)).add 5) = some (.int .u8 yx_196) ∧
 (∃ yx_197 : Int, w.cell? ((q190.add (yx_189.toNat * 8)).add 6) = some (.int .i64 yx_197) ∧
 (∃ yx_198 : Int, w.cell? ((q190.add (yx_189.toNat * 8)).add 7) = some (.int .i64 yx_198) ∧
 ((∀ u199 : World, Below w.heap.size w u199 → F184 10 (.pointer (some (na u199))) (u199.alloc (.cells #[.int .u8 0, .int .i64 0, .int .i64 0, .float .f64 0, .slice none 0 0, .int .u8 0, .int .i64 0, .int .i64 0] 27))) ∧
 (∀ q200 : Addr, (∃ u, Below w.heap.size w u ∧ F184 10 (.pointer (some q200)) u) →
 ∀ u201 : World, Below w.heap.size w u201 → F184 10 (.pointer (some q200)) u201 → 
 okSt u201 (q200.add 0) ∧
 (nw (u201.setCell (q200.add 0) (.int .u8 yx_191)) fun w202 =>
 okSt w202 (q200.add 1) ∧
 (nw (w202.setCell (q200.add 1) (.int .i64 yx_192)) fun w203 =>
 okSt w203 (q200.add 2) ∧
 (nw (w203.setCell (q200.add 2) (.int .i64 yx_193)) fun w204 =>
 okSt w204 (q200.add 3) ∧
 (nw (w204.setCell (q200.add 3) (.float .f64 yf_194)) fun w205 =>
 okSt w205 (q200.add 4) ∧
 (nw (w205.setCell (q200.add 4) (.slice ya_195 yn_195 yc_195)) fun w206 =>
 okSt w206 (q200.add 5) ∧
 (nw (w206.setCell (q200.add 5) (.int .u8 yx_196)) fun w207 =>
 okSt w207 (q200.add 6) ∧
 (nw (w207.setCell (q200.add 6) (.int .i64 yx_197)) fun w208 =>
 okSt w208 (q200.add 7) ∧
 (nw (w208.setCell (q200.add 7) (.int .i64 yx_198)) fun w209 =>
 ∃ yx_210 : Int, w209.cell? (q200.add 0) = some (.int .u8 yx_210) ∧
 (onBool (yx_210 != 1)
 (R (.bool false) w209)
 (optN a10 fun q211 =>
 chk ((0 : Int) ≤ x7 ∧ x7 < (n10 : Int))
 (∃ yx_212 : Int, w209.cell? (q211.add (x7.toNat * 1)) = some (.int .i64 yx_212) ∧
 (nv (IntKind.i64.wrap ((n5 : Int) - 1)) fun t213 =>
 optN a5 fun q214 =>
 chk ((0 : Int) ≤ t213 ∧ t213 < (n5 : Int))
 (∃ yx_215 : Int, w209.cell? (q214.add (t213.toNat * 1)) = some (.int .i64 yx_215) ∧
 (onBool (yx_212 != yx_215)
 (R (.bool false) w209)
 (∃ yx_216 : Int, w209.cell? (q200.add 1) = some (.int .i64 yx_216) ∧
 (onBool (yx_216 != x8)
 (R (.bool false) w209)
 (optN p2 fun q217 =>
 ∃ yx_218 : Int, w209.cell? (q217.add 0) = some (.int .i64 yx_218) ∧
 (∃ ya_219 : Option Addr, ∃ yn_219 : Nat, ∃ yc_219 : Nat, w209.cell? (q217.add 1) = some (.slice ya_219 yn_219 yc_219) ∧
 (Go.E.CallsD Go.Proofs.Try.prog 37 #[.agg #[.int .i64 yx_218, .slice ya_219 yn_219 yc_219]] w209 fun yv220 u221 =>
 ∃ yx_222_0_0 : Int, ∃ ya_222_0_1 : Option Addr, ∃ yn_222_0_1 : Nat, ∃ yc_222_0_1 : Nat, ∃ yx_222_1 : Int, yv220 = .tuple #[.agg #[.int .i64 yx_222_0_0, .slice ya_222_0_1 yn_222_0_1 yc_222_0_1], .int .i64 yx_222_1] ∧
 (nw (u221.alloc (.cells #[.int .i64 0, .slice none 0 0] 33)) fun w223 =>
 okSt w223 ((na u221).add 0) ∧
 (nw (w223.setCell ((na u221).add 0) (.int .i64 yx_222_0_0)) fun w224 =>
 okSt w224 ((na u221).add 1) ∧
 (nw (w224.setCell ((na u221).add 1) (.slice ya_222_0_1 yn_222_0_1 yc_222_0_1)) fun w225 =>
 onBool (yx_222_1 != 0)
 (R (.bool false) w225)
 (∃ yx_226 : Int, w225.cell? ((na u221).add 0) = some (.int .i64 yx_226) ∧
 (∃ ya_227 : Option Addr, ∃ yn_227 : Nat, ∃ yc_227 : Nat, w225.cell? ((na u221).add 1) = some (.slice ya_227 yn_227 yc_227) ∧
 (Go.E.CallsD Go.Proofs.Try.prog 17 #[.agg #[.int .i64 yx_226, .slice ya_227 yn_227 yc_227], .slice a1 n1 c1] w225 fun yv228 u229 =>
 ∃ yx_230_0 : Int, ∃ yx_230_1 : Int, ∃ yx_230_2 : Int, yv228 = .tuple #[.int .i64 yx_230_0, .int .i64 yx_230_1, .int .i64 yx_230_2] ∧
 (∃ yx_231 : Int, u229.cell? ((na u221).add 0) = some (.int .i64 yx_231) ∧
 (∃ ya_232 : Option Addr, ∃ yn_232 : Nat, ∃ yc_232 : Nat, u229.cell? ((na u221).add 1) = some (.slice ya_232 yn_232 yc_232) ∧
 (Go.E.CallsD Go.Proofs.Try.prog 37 #[.agg #[.int .i64 yx_231, .slice ya_232 yn_232 yc_232]] u229 fun yv233 u234 =>
 ∃ yx_235_0_0 : Int, ∃ ya_235_0_1 : Option Addr, ∃ yn_235_0_1 : Nat, ∃ yc_235_0_1 : Nat, ∃ yx_235_1 : Int, yv233 = .tuple #[.agg #[.int .i64 yx_235_0_0, .slice ya_235_0_1 yn_235_0_1 yc_235_0_1], .int .i64 yx_235_1] ∧
 (nw (u234.alloc (.cells #[.int .i64 0, .slice none 0 0] 33)) fun w236 =>
 okSt w236 ((na u234).add 0) ∧
 (nw (w236.setCell ((na u234).add 0) (.int .i64 yx_235_0_0)) fun w237 =>
 okSt w237 ((na u234).add 1) ∧
 (nw (w237.setCell ((na u234).add 1) (.slice ya_235_0_1 yn_235_0_1 yc_235_0_1)) fun w238 =>
 onBool (yx_230_2 == 0)
 (onBool (yx_235_1 == 0)
 (onBool (yx_230_0 == x7)
 (onBool (yx_230_1 == x8)
 (∃ yx_239 : Int, w238.cell? ((na u221).add 0) = some (.int .i64 yx_239) ∧
 (∃ ya_240 : Option Addr, ∃ yn_240 : Nat, ∃ yc_240 : Nat, w238.cell? ((na u221).add 1) = some (.slice ya_240 yn_240 yc_240) ∧
 (∃ yx_241 : Int, w238.cell? ((na u234).add 0) = some (.int .i64 yx_241) ∧
 (∃ ya_242 : Option Addr, ∃ yn_242 : Nat, ∃ yc_242 : Nat, w238.cell? ((na u234).add 1) = some (.slice ya_242 yn_242 yc_242) ∧
 (Go.E.CallsD Go.Proofs.Try.prog 38 #[.agg #[.int .i64 yx_239, .slice ya_240 yn_240 yc_240], .agg #[.int .i64 yx_241, .slice ya_242 yn_242 yc_242]] w238 fun yv243 u244 =>
 ∃ yb_245 : Bool, yv243 = .bool yb_245 ∧
 (onBool yb_245
 (∃ ya_246 : Option Addr, ∃ yn_246 : Nat, ∃ yc_246 : Nat, u244.cell? ((na u221).add 1) = some (.slice ya_246 yn_246 yc_246) ∧
 (optN p2 fun q247 =>
 ∃ ya_248 : Option Addr, ∃ yn_248 : Nat, ∃ yc_248 : Nat, u244.cell? (q247.add 1) = some (.slice ya_248 yn_248 yc_248) ∧
 (R (.bool ((yn_246 : Int) == (yn_248 : Int))) u244)))
 (R (.bool false) u244)))))))
 (R (.bool false) w238))
 (R (.bool false) w238))
 (R (.bool false) w238))
 (R (.bool false) w238)))))))))))))))))))))))))))))))))))))))))))))))
def thicketlaw07_TreesOne.q2 (R : Value → World → Prop) : Exit → Act → World → Prop := (fin Go.Proofs.Try.prog Go.Proofs.Try.f9 R)
def thicketlaw07_TreesOne.q10 (R : Value → World → Prop) : Exit → Act → World → Prop := (thicketlaw07_TreesOne.q2 R)
def thicketlaw07_TreesOne.q12 (R : Value → World → Prop) : Exit → Act → World → Prop := (thicketlaw07_TreesOne.q10 R)
def thicketlaw07_TreesOne.q14 (R : Value → World → Prop) : Exit → Act → World → Prop := (thicketlaw07_TreesOne.q12 R)
def thicketlaw07_TreesOne.q22 (R : Value → World → Prop) : Exit → Act → World → Prop := (thicketlaw07_TreesOne.q14 R)
def thicketlaw07_TreesOne.q24 (R : Value → World → Prop) : Exit → Act → World → Prop := (thicketlaw07_TreesOne.q22 R)
def thicketlaw07_TreesOne.q32 (R : Value → World → Prop) : Exit → Act → World → Prop := (thicketlaw07_TreesOne.q24 R)
def thicketlaw07_TreesOne.q33 (R : Value → World → Prop) : Exit → Act → World → Prop := Exit.then (startN none (codeN Go.Proofs.Try.prog (sub (codeOf Go.Proofs.Try.f9) [1, 1, 1, 1, 1, 1, 1, 1]) (nsub thicketlaw07_TreesOne.an [1, 1, 1, 1, 1, 1, 1, 1]) (thicketlaw07_TreesOne.q32 R))) (thicketlaw07_TreesOne.q32 R)
def thicketlaw07_TreesOne.q35 (R : Value → World → Prop) : Exit → Act → World → Prop := (thicketlaw07_TreesOne.q33 R)
def thicketlaw07_TreesOne.q36 (R : Value → World → Prop) : Exit → Act → World → Prop := Exit.inBlock 0 (thicketlaw07_TreesOne.q35 R)
def thicketlaw07_TreesOne.rl36 (R : Value → World → Prop) (k : Nat) (a1 : Option Addr) (n1 : Nat) (c1 : Nat) (p2 : Option Addr) (a5 : Option Addr) (n5 : Nat) (c5 : Nat) (x7 : Int) (x8 : Int) (a10 : Option Addr) (n10 : Nat) (c10 : Nat) (x12 : Int) (w : World) : Prop := loopN [1, 2, 5, 7, 8, 10, 12] (codeN Go.Proofs.Try.prog (sub (codeOf Go.Proofs.Try.f9) [1, 1, 1, 1, 1, 1, 1, 0, 1, 0, 0]) (nsub thicketlaw07_TreesOne.an [1, 1, 1, 1, 1, 1, 1, 0, 1, 0, 0])) (thicketlaw07_TreesOne.q36 R) k ⟨#[undef, .slice a1 n1 c1, .pointer p2, undef, undef, .slice a5 n5 c5, undef, .int .i64 x7, .int .i64 x8, undef, .slice a10 n10 c10, undef, .int .i64 x12, undef, undef, undef, undef, undef, undef, undef, undef, undef, undef, undef, undef, undef, undef, undef, undef, undef, undef, undef, undef, undef, undef, undef, undef, undef, undef, undef, undef, undef, undef, undef, undef, undef, undef, undef, undef, undef, undef, undef, undef, undef, undef, undef, undef, undef, undef, undef, undef, undef, undef, undef, undef, undef, undef, undef, undef, undef, undef, undef, undef, undef, undef, undef, undef, undef, undef, undef, undef, undef, undef, undef, undef, undef, undef, undef, undef, undef, undef, undef, undef, undef, undef, undef, undef, undef, undef, undef, undef, undef, undef, undef, undef, undef, undef, undef, undef, undef, undef, undef, undef, undef, undef, undef, undef, undef, undef, undef, undef, undef, undef, undef, undef, undef, undef, undef, undef, undef, undef, undef, undef, undef, undef, undef, undef, undef, undef, undef, undef, undef, undef, undef, undef, undef, undef, undef, undef, undef, undef, undef, undef, undef, undef, undef, undef, undef, undef, undef, undef, undef, undef, undef, undef, undef, undef, undef, undef, undef, undef, undef, undef, undef, undef, undef, undef, undef, undef, undef, undef, undef, undef, undef, undef, undef, undef, undef, undef, undef, undef, undef, undef, undef, undef, undef, undef, undef, undef, undef, undef, undef, undef, undef, undef, undef, undef, undef, undef, undef], []⟩ w
def thicketlaw07_TreesOne.re36 (R : Value → World → Prop) (a1 : Option Addr) (n1 : Nat) (c1 : Nat) (p2 : Option Addr) (a5 : Option Addr) (n5 : Nat) (c5 : Nat) (x7 : Int) (x8 : Int) (a10 : Option Addr) (n10 : Nat) (c10 : Nat) (x12 : Int) (w : World) : Prop := ∃ k, thicketlaw07_TreesOne.rl36 R k a1 n1 c1 p2 a5 n5 c5 x7 x8 a10 n10 c10 x12 w
def thicketlaw07_TreesOne.l36 (R : Value → World → Prop) : Nat → (Option Addr) → Nat → Nat → (Option Addr) → (Option Addr) → Nat → Nat → Int → Int → (Option Addr) → Nat → Nat → Int → World → Prop
  | 0, _, _, _, _, _, _, _, _, _, _, _, _, _, _ => False
  | k + 1, a1, n1, c1, p2, a5, n5, c5, x7, x8, a10, n10, c10, x12, w => thicketlaw07_TreesOne.g36 R (thicketlaw07_TreesOne.l36 R k) a1 n1 c1 p2 a5 n5 c5 x7 x8 a10 n10 c10 x12 w
def thicketlaw07_TreesOne.e36 (R : Value → World → Prop) (a1 : Option Addr) (n1 : Nat) (c1 : Nat) (p2 : Option Addr) (a5 : Option Addr) (n5 : Nat) (c5 : Nat) (x7 : Int) (x8 : Int) (a10 : Option Addr) (n10 : Nat) (c10 : Nat) (x12 : Int) (w : World) : Prop := ∃ k, thicketlaw07_TreesOne.l36 R k a1 n1 c1 p2 a5 n5 c5 x7 x8 a10 n10 c10 x12 w
theorem thicketlaw07_TreesOne.s36 (R : Value → World → Prop) (k : Nat) (a1 : Option Addr) (n1 : Nat) (c1 : Nat) (p2 : Option Addr) (a5 : Option Addr) (n5 : Nat) (c5 : Nat) (x7 : Int) (x8 : Int) (a10 : Option Addr) (n10 : Nat) (c10 : Nat) (x12 : Int) (w : World) : thicketlaw07_TreesOne.rl36 R (k + 1) a1 n1 c1 p2 a5 n5 c5 x7 x8 a10 n10 c10 x12 w = ∀ _ : Nat → Value, thicketlaw07_TreesOne.g36 R (thicketlaw07_TreesOne.rl36 R k) a1 n1 c1 p2 a5 n5 c5 x7 x8 a10 n10 c10 x12 w := by kernel_rfl
theorem thicketlaw07_TreesOne.lq36 (R : Value → World → Prop) : ∀ k, thicketlaw07_TreesOne.l36 R k = thicketlaw07_TreesOne.rl36 R k
  | 0 => by funext a1 n1 c1 p2 a5 n5 c5 x7 x8 a10 n10 c10 x12 w; first | rfl | kernel_rfl
  | k + 1 => by
    funext a1 n1 c1 p2 a5 n5 c5 x7 x8 a10 n10 c10 x12 w
    rw [thicketlaw07_TreesOne.s36, forall_const]
    unfold thicketlaw07_TreesOne.l36
    have ih := thicketlaw07_TreesOne.lq36 R k
    rw [ih]
    all_goals rfl
theorem thicketlaw07_TreesOne.eq36 (R : Value → World → Prop) : thicketlaw07_TreesOne.e36 R = thicketlaw07_TreesOne.re36 R := by
  funext a1 n1 c1 p2 a5 n5 c5 x7 x8 a10 n10 c10 x12 w
  unfold thicketlaw07_TreesOne.e36 thicketlaw07_TreesOne.re36
  simp only [thicketlaw07_TreesOne.lq36 R]
def thicketlaw07_TreesOne (R : Value → World → Prop) (x0_0 : Int) (a0_1 : Option Addr) (n0_1 : Nat) (c0_1 : Nat) (a1 : Option Addr) (n1 : Nat) (c1 : Nat) (w : World) : Prop := thicketlaw07_TreesOne.g0 R (thicketlaw07_TreesOne.e36 R) x0_0 a0_1 n0_1 c0_1 a1 n1 c1 w
theorem thicketlaw07_TreesOne.root0 (R : Value → World → Prop) (x0_0 : Int) (a0_1 : Option Addr) (n0_1 : Nat) (c0_1 : Nat) (a1 : Option Addr) (n1 : Nat) (c1 : Nat) (w : World) : fnN Go.Proofs.Try.prog Go.Proofs.Try.f9 thicketlaw07_TreesOne.an #[.agg #[.int .i64 x0_0, .slice a0_1 n0_1 c0_1], .slice a1 n1 c1] w R = thicketlaw07_TreesOne.g0 R (thicketlaw07_TreesOne.re36 R) x0_0 a0_1 n0_1 c0_1 a1 n1 c1 w := by kernel_rfl
theorem thicketlaw07_TreesOne.calls {R : Value → World → Prop} {x0_0 : Int} {a0_1 : Option Addr} {n0_1 : Nat} {c0_1 : Nat} {a1 : Option Addr} {n1 : Nat} {c1 : Nat} {w : World} (h : thicketlaw07_TreesOne R x0_0 a0_1 n0_1 c0_1 a1 n1 c1 w) : Go.E.CallsD Go.Proofs.Try.prog 9 #[.agg #[.int .i64 x0_0, .slice a0_1 n0_1 c0_1], .slice a1 n1 c1] w R := by
  refine callsD_of (n := thicketlaw07_TreesOne.an) M_follows M_sizes Go.Proofs.Try.func9 (by rfl) ?_
  rw [thicketlaw07_TreesOne.root0]
  unfold thicketlaw07_TreesOne at h
  rw [thicketlaw07_TreesOne.eq36 R] at h
  exact h
-- thicket/thicketlaw07.TreesCopies
def thicketlaw07_TreesCopies.an : An := An.nil
def thicketlaw07_TreesCopies.g0 (R : Value → World → Prop) (x0_0 : Int) (a0_1 : Option Addr) (n0_1 : Nat) (c0_1 : Nat) (w : World) : Prop :=
 nw (w.alloc (.cells #[.int .i64 x0_0, .slice a0_1 n0_1 c0_1] 33)) fun w54 =>
 ∃ yx_55 : Int, w54.cell? ((na w).add 0) = some (.int .i64 yx_55) ∧
 (∃ ya_56 : Option Addr, ∃ yn_56 : Nat, ∃ yc_56 : Nat, w54.cell? ((na w).add 1) = some (.slice ya_56 yn_56 yc_56) ∧
 (Go.E.CallsD Go.Proofs.Try.prog 39 #[.agg #[.int .i64 yx_55, .slice ya_56 yn_56 yc_56]] w54 fun yv57 u58 =>
 ∃ yx_59_0 : Int, ∃ ya_59_1 : Option Addr, ∃ yn_59_1 : Nat, ∃ yc_59_1 : Nat, yv57 = .agg #[.int .i64 yx_59_0, .slice ya_59_1 yn_59_1 yc_59_1] ∧
 (Go.E.CallsD Go.Proofs.Try.prog 37 #[.agg #[.int .i64 yx_59_0, .slice ya_59_1 yn_59_1 yc_59_1]] u58 fun yv60 u61 =>
 ∃ yx_62_0_0 : Int, ∃ ya_62_0_1 : Option Addr, ∃ yn_62_0_1 : Nat, ∃ yc_62_0_1 : Nat, ∃ yx_62_1 : Int, yv60 = .tuple #[.agg #[.int .i64 yx_62_0_0, .slice ya_62_0_1 yn_62_0_1 yc_62_0_1], .int .i64 yx_62_1] ∧
 (nw (u61.alloc (.cells #[.int .i64 0, .slice none 0 0] 33)) fun w63 =>
 okSt w63 ((na u61).add 0) ∧
 (nw (w63.setCell ((na u61).add 0) (.int .i64 yx_62_0_0)) fun w64 =>
 okSt w64 ((na u61).add 1) ∧
 (nw (w64.setCell ((na u61).add 1) (.slice ya_62_0_1 yn_62_0_1 yc_62_0_1)) fun w65 =>
 ∃ yx_66 : Int, w65.cell? ((na w).add 0) = some (.int .i64 yx_66) ∧
 (∃ ya_67 : Option Addr, ∃ yn_67 : Nat, ∃ yc_67 : Nat, w65.cell? ((na w).add 1) = some (.slice ya_67 yn_67 yc_67) ∧
 (Go.E.CallsD Go.Proofs.Try.prog 37 #[.agg #[.int .i64 yx_66, .slice ya_67 yn_67 yc_67]] w65 fun yv68 u69 =>
 ∃ yx_70_0_0 : Int, ∃ ya_70_0_1 : Option Addr, ∃ yn_70_0_1 : Nat, ∃ yc_70_0_1 : Nat, ∃ yx_70_1 : Int, yv68 = .tuple #[.agg #[.int .i64 yx_70_0_0, .slice ya_70_0_1 yn_70_0_1 yc_70_0_1], .int .i64 yx_70_1] ∧
 (nw (u69.alloc (.cells #[.int .i64 0, .slice none 0 0] 33)) fun w71 =>
 okSt w71 ((na u69).add 0) ∧
 (nw (w71.setCell ((na u69).add 0) (.int .i64 yx_70_0_0)) fun w72 =>
 okSt w72 ((na u69).add 1) ∧
 (nw (w72.setCell ((na u69).add 1) (.slice ya_70_0_1 yn_70_0_1 yc_70_0_1)) fun w73 =>
 ∃ F74 : Nat → Value → World → Prop, (∀ i v u u', F74 i v u → Below u.heap.size u u' → F74 i v u') ∧
 ((∀ u75 : World, Below w73.heap.size w73 u75 → Go.E.CallsD Go.Proofs.Try.prog 12 #[] u75 fun yv77 u78 => ∃ yb_76 : Bool, yv77 = .bool yb_76 ∧ F74 0 (.bool yb_76) u78 ∧ Below u75.heap.size u75 u78) ∧
 (∀ yb_79 : Bool, (∃ u, Below w73.heap.size w73 u ∧ F74 0 (.bool yb_79) u) →
 onBool yb_79
 (∃ yx_80 : Int, w73.cell? ((na w).add 0) = some (.int .i64 yx_80) ∧
 (∃ ya_81 : Option Addr, ∃ yn_81 : Nat, ∃ yc_81 : Nat, w73.cell? ((na w).add 1) = some (.slice ya_81 yn_81 yc_81) ∧
 (∃ yx_82 : Int, w73.cell? ((na w).add 0) = some (.int .i64 yx_82) ∧
 (∃ ya_83 : Option Addr, ∃ yn_83 : Nat, ∃ yc_83 : Nat, w73.cell? ((na w).add 1) = some (.slice ya_83 yn_83 yc_83) ∧
 ((∀ u84 : World, Below w73.heap.size w73 u84 → F74 0 (.bool yb_79) u84 → Go.E.CallsD Go.Proofs.Try.prog 39 #[.agg #[.int .i64 yx_82, .slice ya_83 yn_83 yc_83]] u84 fun yv86 u87 => ∃ yx_85_0 : Int, ∃ ya_85_1 : Option Addr, ∃ yn_85_1 : Nat, ∃ yc_85_1 : Nat, yv86 = .agg #[.int .i64 yx_85_0, .slice ya_85_1 yn_85_1 yc_85_1] ∧ F74 4 (.agg #[.int .i64 yx_85_0, .slice ya_85_1 yn_85_1 yc_85_1]) u87 ∧ Below u84.heap.size u84 u87) ∧
 (∀ yx_88_0 : Int, ∀ ya_88_1 : Option Addr, ∀ yn_88_1 : Nat, ∀ yc_88_1 : Nat, (∃ u, Below w73.heap.size w73 u ∧ F74 4 (.agg #[.int .i64 yx_88_0, .slice ya_88_1 yn_88_1 yc_88_1]) u) →
 (∀ u89 : World, Below w73.heap.size w73 u89 → F74 0 (.bool yb_79) u89 → F74 4 (.agg #[.int .i64 yx_88_0, .slice ya_88_1 yn_88_1 yc_88_1]) u89 → Go.E.CallsD Go.Proofs.Try.prog 38 #[.agg #[.int .i64 yx_80, .slice ya_81 yn_81 yc_81], .agg #[.int .i64 yx_88_0, .slice ya_88_1 yn_88_1 yc_88_1]] u89 fun yv91 u92 => ∃ yb_90 : Bool, yv91 = .bool yb_90 ∧ F74 5 (.bool yb_90) u92 ∧ Below u89.heap.size u89 u92) ∧
 (∀ yb_93 : Bool, (∃ u, Below w73.heap.size w73 u ∧ F74 5 (.bool yb_93) u) →
 onBool yb_93
 (onBool (yx_62_1 == yx_70_1)
 (∃ yx_94 : Int, w73.cell? ((na u61).add 0) = some (.int .i64 yx_94) ∧
 (∃ ya_95 : Option Addr, ∃ yn_95 : Nat, ∃ yc_95 : Nat, w73.cell? ((na u61).add 1) = some (.slice ya_95 yn_95 yc_95) ∧
 (∃ yx_96 : Int, w73.cell? ((na u69).add 0) = some (.int .i64 yx_96) ∧
 (∃ ya_97 : Option Addr, ∃ yn_97 : Nat, ∃ yc_97 : Nat, w73.cell? ((na u69).add 1) = some (.slice ya_97 yn_97 yc_97) ∧
 ((∀ u98 : World, Below w73.heap.size w73 u98 → F74 0 (.bool yb_79) u98 → F74 4 (.agg #[.int .i64 yx_88_0, .slice ya_88_1 yn_88_1 yc_88_1]) u98 → F74 5 (.bool yb_93) u98 → Go.E.CallsD Go.Proofs.Try.prog 38 #[.agg #[.int .i64 yx_94, .slice ya_95 yn_95 yc_95], .agg #[.int .i64 yx_96, .slice ya_97 yn_97 yc_97]] u98 fun yv100 u101 => ∃ yb_99 : Bool, yv100 = .bool yb_99 ∧ F74 15 (.bool yb_99) u101 ∧ Below u98.heap.size u98 u101) ∧
 (∀ yb_102 : Bool, (∃ u, Below w73.heap.size w73 u ∧ F74 15 (.bool yb_102) u) →
 ∀ u103 : World, Below w73.heap.size w73 u103 → F74 0 (.bool yb_79) u103 → F74 4 (.agg #[.int .i64 yx_88_0, .slice ya_88_1 yn_88_1 yc_88_1]) u103 → F74 5 (.bool yb_93) u103 → F74 15 (.bool yb_102) u103 → 
 R (.bool yb_102) u103))))))
 (∀ u104 : World, Below w73.heap.size w73 u104 → F74 0 (.bool yb_79) u104 → F74 4 (.agg #[.int .i64 yx_88_0, .slice ya_88_1 yn_88_1 yc_88_1]) u104 → F74 5 (.bool yb_93) u104 → 
 R (.bool false) u104))
 (∀ u105 : World, Below w73.heap.size w73 u105 → F74 0 (.bool yb_79) u105 → F74 4 (.agg #[.int .i64 yx_88_0, .slice ya_88_1 yn_88_1 yc_88_1]) u105 → F74 5 (.bool yb_93) u105 → 
 R (.bool false) u105))))))))
 (∀ u106 : World, Below w73.heap.size w73 u106 → F74 0 (.bool yb_79) u106 → 
 R (.bool false) u106))))))))))))))
def thicketlaw07_TreesCopies (R : Value → World → Prop) (x0_0 : Int) (a0_1 : Option Addr) (n0_1 : Nat) (c0_1 : Nat) (w : World) : Prop := thicketlaw07_TreesCopies.g0 R x0_0 a0_1 n0_1 c0_1 w
theorem thicketlaw07_TreesCopies.root0 (R : Value → World → Prop) (x0_0 : Int) (a0_1 : Option Addr) (n0_1 : Nat) (c0_1 : Nat) (w : World) : fnN Go.Proofs.Try.prog Go.Proofs.Try.f10 thicketlaw07_TreesCopies.an #[.agg #[.int .i64 x0_0, .slice a0_1 n0_1 c0_1]] w R = thicketlaw07_TreesCopies.g0 R x0_0 a0_1 n0_1 c0_1 w := by kernel_rfl
theorem thicketlaw07_TreesCopies.calls {R : Value → World → Prop} {x0_0 : Int} {a0_1 : Option Addr} {n0_1 : Nat} {c0_1 : Nat} {w : World} (h : thicketlaw07_TreesCopies R x0_0 a0_1 n0_1 c0_1 w) : Go.E.CallsD Go.Proofs.Try.prog 10 #[.agg #[.int .i64 x0_0, .slice a0_1 n0_1 c0_1]] w R := by
  refine callsD_of (n := thicketlaw07_TreesCopies.an) M_follows M_sizes Go.Proofs.Try.func10 (by rfl) ?_
  rw [thicketlaw07_TreesCopies.root0]
  unfold thicketlaw07_TreesCopies at h
  exact h
-- thicket/thicketlaw07.TreesCanons
def thicketlaw07_TreesCanons.an : An := (.mk none .nil (.mk none .nil (.mk none .nil (.mk none .nil (.mk none (.mk none .nil (.mk none (.mk (some [3, 62, 63, 64]) .nil .nil) .nil)) .nil)))))
def thicketlaw07_TreesCanons.g0 (R : Value → World → Prop) (e18 : (Option Addr) → (Option Addr) → Nat → Nat → Int → Int → World → Prop) (s0_0 : ByteArray) (a0_1 : Option Addr) (n0_1 : Nat) (c0_1 : Nat) (x0_2 : Int) (a0_3 : Option Addr) (n0_3 : Nat) (c0_3 : Nat) (a0_4 : Option Addr) (n0_4 : Nat) (c0_4 : Nat) (s1_0 : ByteArray) (a1_1 : Option Addr) (n1_1 : Nat) (c1_1 : Nat) (x1_2 : Int) (a1_3 : Option Addr) (n1_3 : Nat) (c1_3 : Nat) (a1_4 : Option Addr) (n1_4 : Nat) (c1_4 : Nat) (w : World) : Prop :=
 nw (w.alloc (.cells #[.string s0_0, .slice a0_1 n0_1 c0_1, .int .i64 x0_2, .slice a0_3 n0_3 c0_3, .slice a0_4 n0_4 c0_4] 46)) fun w157 =>
 nw (w157.alloc (.cells #[.string s1_0, .slice a1_1 n1_1 c1_1, .int .i64 x1_2, .slice a1_3 n1_3 c1_3, .slice a1_4 n1_4 c1_4] 46)) fun w158 =>
 ∃ ys_159 : ByteArray, w158.cell? ((na w).add 0) = some (.string ys_159) ∧
 (∃ ya_160 : Option Addr, ∃ yn_160 : Nat, ∃ yc_160 : Nat, w158.cell? ((na w).add 1) = some (.slice ya_160 yn_160 yc_160) ∧
 (∃ yx_161 : Int, w158.cell? ((na w).add 2) = some (.int .i64 yx_161) ∧
 (∃ ya_162 : Option Addr, ∃ yn_162 : Nat, ∃ yc_162 : Nat, w158.cell? ((na w).add 3) = some (.slice ya_162 yn_162 yc_162) ∧
 (∃ ya_163 : Option Addr, ∃ yn_163 : Nat, ∃ yc_163 : Nat, w158.cell? ((na w).add 4) = some (.slice ya_163 yn_163 yc_163) ∧
 (Go.E.CallsD Go.Proofs.Try.prog 33 #[.agg #[.string ys_159, .slice ya_160 yn_160 yc_160, .int .i64 yx_161, .slice ya_162 yn_162 yc_162, .slice ya_163 yn_163 yc_163]] w158 fun yv164 u165 =>
 ∃ ys_166_0_0 : ByteArray, ∃ ya_166_0_1 : Option Addr, ∃ yn_166_0_1 : Nat, ∃ yc_166_0_1 : Nat, ∃ yx_166_0_2 : Int, ∃ ya_166_0_3 : Option Addr, ∃ yn_166_0_3 : Nat, ∃ yc_166_0_3 : Nat, ∃ ya_166_0_4 : Option Addr, ∃ yn_166_0_4 : Nat, ∃ yc_166_0_4 : Nat, ∃ yx_166_1 : Int, yv164 = .tuple #[.agg #[.string ys_166_0_0, .slice ya_166_0_1 yn_166_0_1 yc_166_0_1, .int .i64 yx_166_0_2, .slice ya_166_0_3 yn_166_0_3 yc_166_0_3, .slice ya_166_0_4 yn_166_0_4 yc_166_0_4], .int .i64 yx_166_1] ∧
 (nw (u165.alloc (.cells #[.string ⟨#[]⟩, .slice none 0 0, .int .i64 0, .slice none 0 0, .slice none 0 0] 46)) fun w167 =>
 okSt w167 ((na u165).add 0) ∧
 (nw (w167.setCell ((na u165).add 0) (.string ys_166_0_0)) fun w168 =>
 okSt w168 ((na u165).add 1) ∧
 (nw (w168.setCell ((na u165).add 1) (.slice ya_166_0_1 yn_166_0_1 yc_166_0_1)) fun w169 =>
 okSt w169 ((na u165).add 2) ∧
 (nw (w169.setCell ((na u165).add 2) (.int .i64 yx_166_0_2)) fun w170 =>
 okSt w170 ((na u165).add 3) ∧
 (nw (w170.setCell ((na u165).add 3) (.slice ya_166_0_3 yn_166_0_3 yc_166_0_3)) fun w171 =>
 okSt w171 ((na u165).add 4) ∧
 (nw (w171.setCell ((na u165).add 4) (.slice ya_166_0_4 yn_166_0_4 yc_166_0_4)) fun w172 =>
 ∃ ys_173 : ByteArray, w172.cell? ((na w).add 0) = some (.string ys_173) ∧
 (∃ ya_174 : Option Addr, ∃ yn_174 : Nat, ∃ yc_174 : Nat, w172.cell? ((na w).add 1) = some (.slice ya_174 yn_174 yc_174) ∧
 (∃ yx_175 : Int, w172.cell? ((na w).add 2) = some (.int .i64 yx_175) ∧
 (∃ ya_176 : Option Addr, ∃ yn_176 : Nat, ∃ yc_176 : Nat, w172.cell? ((na w).add 3) = some (.slice ya_176 yn_176 yc_176) ∧
 (∃ ya_177 : Option Addr, ∃ yn_177 : Nat, ∃ yc_177 : Nat, w172.cell? ((na w).add 4) = some (.slice ya_177 yn_177 yc_177) ∧
 (Go.E.CallsD Go.Proofs.Try.prog 35 #[.agg #[.string ys_173, .slice ya_174 yn_174 yc_174, .int .i64 yx_175, .slice ya_176 yn_176 yc_176, .slice ya_177 yn_177 yc_177]] w172 fun yv178 u179 =>
 ∃ ys_180_0_0 : ByteArray, ∃ ya_180_0_1 : Option Addr, ∃ yn_180_0_1 : Nat, ∃ yc_180_0_1 : Nat, ∃ yx_180_0_2 : Int, ∃ ya_180_0_3 : Option Addr, ∃ yn_180_0_3 : Nat, ∃ yc_180_0_3 : Nat, ∃ ya_180_0_4 : Option Addr, ∃ yn_180_0_4 : Nat, ∃ yc_180_0_4 : Nat, ∃ yx_180_1 : Int, yv178 = .tuple #[.agg #[.string ys_180_0_0, .slice ya_180_0_1 yn_180_0_1 yc_180_0_1, .int .i64 yx_180_0_2, .slice ya_180_0_3 yn_180_0_3 yc_180_0_3, .slice ya_180_0_4 yn_180_0_4 yc_180_0_4], .int .i64 yx_180_1] ∧
 (nw (u179.alloc (.cells #[.string ⟨#[]⟩, .slice none 0 0, .int .i64 0, .slice none 0 0, .slice none 0 0] 46)) fun w181 =>
 okSt w181 ((na u179).add 0) ∧
 (nw (w181.setCell ((na u179).add 0) (.string ys_180_0_0)) fun w182 =>
 okSt w182 ((na u179).add 1) ∧
 (nw (w182.setCell ((na u179).add 1) (.slice ya_180_0_1 yn_180_0_1 yc_180_0_1)) fun w183 =>
 okSt w183 ((na u179).add 2) ∧
 (nw (w183.setCell ((na u179).add 2) (.int .i64 yx_180_0_2)) fun w184 =>
 okSt w184 ((na u179).add 3) ∧
 (nw (w184.setCell ((na u179).add 3) (.slice ya_180_0_3 yn_180_0_3 yc_180_0_3)) fun w185 =>
 okSt w185 ((na u179).add 4) ∧
 (nw (w185.setCell ((na u179).add 4) (.slice ya_180_0_4 yn_180_0_4 yc_180_0_4)) fun w186 =>
 ∃ F187 : Nat → Value → World → Prop, (∀ i v u u', F187 i v u → Below u.heap.size u u' → F187 i v u') ∧
 ((∀ u188 : World, Below w186.heap.size w186 u188 → Go.E.CallsD Go.Proofs.Try.prog 12 #[] u188 fun yv190 u191 => ∃ yb_189 : Bool, yv190 = .bool yb_189 ∧ F187 0 (.bool yb_189) u191 ∧ Below u188.heap.size u188 u191) ∧
 (∀ yb_192 : Bool, (∃ u, Below w186.heap.size w186 u ∧ F187 0 (.bool yb_192) u) →
 onBool (!yb_192)
 (∀ u193 : World, Below w186.heap.size w186 u193 → F187 0 (.bool yb_192) u193 → 
 R (.bool false) u193)
 (∃ ys_194 : ByteArray, w186.cell? ((na u165).add 0) = some (.string ys_194) ∧
 (∃ ya_195 : Option Addr, ∃ yn_195 : Nat, ∃ yc_195 : Nat, w186.cell? ((na u165).add 1) = some (.slice ya_195 yn_195 yc_195) ∧
 (∃ yx_196 : Int, w186.cell? ((na u165).add 2) = some (.int .i64 yx_196) ∧
 (∃ ya_197 : Option Addr, ∃ yn_197 : Nat, ∃ yc_197 : Nat, w186.cell? ((na u165).add 3) = some (.slice ya_197 yn_197 yc_197) ∧
 (∃ ya_198 : Option Addr, ∃ yn_198 : Nat, ∃ yc_198 : Nat, w186.cell? ((na u165).add 4) = some (.slice ya_198 yn_198 yc_198) ∧
 (∃ ys_199 : ByteArray, w186.cell? ((na u179).add 0) = some (.string ys_199) ∧
 (∃ ya_200 : Option Addr, ∃ yn_200 : Nat, ∃ yc_200 : Nat, w186.cell? ((na u179).add 1) = some (.slice ya_200 yn_200 yc_200) ∧
 (∃ yx_201 : Int, w186.cell? ((na u179).add 2) = some (.int .i64 yx_201) ∧
 (∃ ya_202 : Option Addr, ∃ yn_202 : Nat, ∃ yc_202 : Nat, w186.cell? ((na u179).add 3) = some (.slice ya_202 yn_202 yc_202) ∧
 (∃ ya_203 : Option Addr, ∃ yn_203 : Nat, ∃ yc_203 : Nat, w186.cell? ((na u179).add 4) = some (.slice ya_203 yn_203 yc_203) ∧
 ((∀ u204 : World, Below w186.heap.size w186 u204 → F187 0 (.bool yb_192) u204 → Go.E.CallsD Go.Proofs.Try.prog 24 #[.agg #[.string ys_194, .slice ya_195 yn_195 yc_195, .int .i64 yx_196, .slice ya_197 yn_197 yc_197, .slice ya_198 yn_198 yc_198], .agg #[.string ys_199, .slice ya_200 yn_200 yc_200, .int .i64 yx_201, .slice ya_202 yn_202 yc_202, .slice ya_203 yn_203 yc_203]] u204 fun yv206 u207 => ∃ yb_205 : Bool, yv206 = .bool yb_205 ∧ F187 5 (.bool yb_205) u207 ∧ Below u204.heap.size u204 u207) ∧
 (∀ yb_208 : Bool, (∃ u, Below w186.heap.size w186 u ∧ F187 5 (.bool yb_208) u) →
 onBool (!yb_208)
 (∀ u209 : World, Below w186.heap.size w186 u209 → F187 0 (.bool yb_192) u209 → F187 5 (.bool yb_208) u209 → 
 R (.bool false) u209)
 (onBool (yx_166_1 != yx_180_1)
 (∀ u210 : World, Below w186.heap.size w186 u210 → F187 0 (.bool yb_192) u210 → F187 5 (.bool yb_208) u210 → 
 R (.bool false) u210)
 (∃ ys_211 : ByteArray, w186.cell? ((na w).add 0) = some (.string ys_211) ∧
 (∃ ya_212 : Option Addr, ∃ yn_212 : Nat, ∃ yc_212 : Nat, w186.cell? ((na w).add 1) = some (.slice ya_212 yn_212 yc_212) ∧
 (∃ yx_213 : Int, w186.cell? ((na w).add 2) = some (.int .i64 yx_213) ∧
 (∃ ya_214 : Option Addr, ∃ yn_214 : Nat, ∃ yc_214 : Nat, w186.cell? ((na w).add 3) = some (.slice ya_214 yn_214 yc_214) ∧
 (∃ ya_215 : Option Addr, ∃ yn_215 : Nat, ∃ yc_215 : Nat, w186.cell? ((na w).add 4) = some (.slice ya_215 yn_215 yc_215) ∧
 (∃ ys_216 : ByteArray, w186.cell? ((na w157).add 0) = some (.string ys_216) ∧
 (∃ ya_217 : Option Addr, ∃ yn_217 : Nat, ∃ yc_217 : Nat, w186.cell? ((na w157).add 1) = some (.slice ya_217 yn_217 yc_217) ∧
 (∃ yx_218 : Int, w186.cell? ((na w157).add 2) = some (.int .i64 yx_218) ∧
 (∃ ya_219 : Option Addr, ∃ yn_219 : Nat, ∃ yc_219 : Nat, w186.cell? ((na w157).add 3) = some (.slice ya_219 yn_219 yc_219) ∧
 (∃ ya_220 : Option Addr, ∃ yn_220 : Nat, ∃ yc_220 : Nat, w186.cell? ((na w157).add 4) = some (.slice ya_220 yn_220 yc_220) ∧
 ((∀ u221 : World, Below w186.heap.size w186 u221 → F187 0 (.bool yb_192) u221 → F187 5 (.bool yb_208) u221 → Go.E.CallsD Go.Proofs.Try.prog 40 #[.agg #[.string ys_211, .slice ya_212 yn_212 yc_212, .int .i64 yx_213, .slice ya_214 yn_214 yc_214, .slice ya_215 yn_215 yc_215], .agg #[.string ys_216, .slice ya_217 yn_217 yc_217, .int .i64 yx_218, .slice ya_219 yn_219 yc_219, .slice ya_220 yn_220 yc_220]] u221 fun yv223 u224 => ∃ yb_222 : Bool, yv223 = .bool yb_222 ∧ F187 16 (.bool yb_222) u224 ∧ Below u221.heap.size u221 u224) ∧
 (∀ yb_225 : Bool, (∃ u, Below w186.heap.size w186 u ∧ F187 16 (.bool yb_225) u) →
 ∃ ys_226 : ByteArray, w186.cell? ((na w).add 0) = some (.string ys_226) ∧
 (∃ ya_227 : Option Addr, ∃ yn_227 : Nat, ∃ yc_227 : Nat, w186.cell? ((na w).add 1) = some (.slice ya_227 yn_227 yc_227) ∧
 (∃ yx_228 : Int, w186.cell? ((na w).add 2) = some (.int .i64 yx_228) ∧
 (∃ ya_229 : Option Addr, ∃ yn_229 : Nat, ∃ yc_229 : Nat, w186.cell? ((na w).add 3) = some (.slice ya_229 yn_229 yc_229) ∧
 (∃ ya_230 : Option Addr, ∃ yn_230 : Nat, ∃ yc_230 : Nat, w186.cell? ((na w).add 4) = some (.slice ya_230 yn_230 yc_230) ∧
 (∃ ys_231 : ByteArray, w186.cell? ((na w157).add 0) = some (.string ys_231) ∧
 (∃ ya_232 : Option Addr, ∃ yn_232 : Nat, ∃ yc_232 : Nat, w186.cell? ((na w157).add 1) = some (.slice ya_232 yn_232 yc_232) ∧
 (∃ yx_233 : Int, w186.cell? ((na w157).add 2) = some (.int .i64 yx_233) ∧
 (∃ ya_234 : Option Addr, ∃ yn_234 : Nat, ∃ yc_234 : Nat, w186.cell? ((na w157).add 3) = some (.slice ya_234 yn_234 yc_234) ∧
 (∃ ya_235 : Option Addr, ∃ yn_235 : Nat, ∃ yc_235 : Nat, w186.cell? ((na w157).add 4) = some (.slice ya_235 yn_235 yc_235) ∧
 ((∀ u236 : World, Below w186.heap.size w186 u236 → F187 0 (.bool yb_192) u236 → F187 5 (.bool yb_208) u236 → F187 16 (.bool yb_225) u236 → Go.E.CallsD Go.Proofs.Try.prog 24 #[.agg #[.string ys_226, .slice ya_227 yn_227 yc_227, .int .i64 yx_228, .slice ya_229 yn_229 yc_229, .slice ya_230 yn_230 yc_230], .agg #[.string ys_231, .slice ya_232 yn_232 yc_232, .int .i64 yx_233, .slice ya_234 yn_234 yc_234, .slice ya_235 yn_235 yc_235]] u236 fun yv238 u239 => ∃ yb_237 : Bool, yv238 = .bool yb_237 ∧ F187 19 (.bool yb_237) u239 ∧ Below u236.heap.size u236 u239) ∧
 (∀ yb_240 : Bool, (∃ u, Below w186.heap.size w186 u ∧ F187 19 (.bool yb_240) u) →
 onBool (!(yb_225 == yb_240))
 (∀ u241 : World, Below w186.heap.size w186 u241 → F187 0 (.bool yb_192) u241 → F187 5 (.bool yb_208) u241 → F187 16 (.bool yb_225) u241 → F187 19 (.bool yb_240) u241 → 
 R (.bool false) u241)
 (∃ ys_242 : ByteArray, w186.cell? ((na w).add 0) = some (.string ys_242) ∧
 (∃ ya_243 : Option Addr, ∃ yn_243 : Nat, ∃ yc_243 : Nat, w186.cell? ((na w).add 1) = some (.slice ya_243 yn_243 yc_243) ∧
 (∃ yx_244 : Int, w186.cell? ((na w).add 2) = some (.int .i64 yx_244) ∧
 (∃ ya_245 : Option Addr, ∃ yn_245 : Nat, ∃ yc_245 : Nat, w186.cell? ((na w).add 3) = some (.slice ya_245 yn_245 yc_245) ∧
 (∃ ya_246 : Option Addr, ∃ yn_246 : Nat, ∃ yc_246 : Nat, w186.cell? ((na w).add 4) = some (.slice ya_246 yn_246 yc_246) ∧
 (∃ ys_247 : ByteArray, w186.cell? ((na w).add 0) = some (.string ys_247) ∧
 (∃ ya_248 : Option Addr, ∃ yn_248 : Nat, ∃ yc_248 : Nat, w186.cell? ((na w).add 1) = some (.slice ya_248 yn_248 yc_248) ∧
 (∃ yx_249 : Int, w186.cell? ((na w).add 2) = some (.int .i64 yx_249) ∧
 (∃ ya_250 : Option Addr, ∃ yn_250 : Nat, ∃ yc_250 : Nat, w186.cell? ((na w).add 3) = some (.slice ya_250 yn_250 yc_250) ∧
 (∃ ya_251 : Option Addr, ∃ yn_251 : Nat, ∃ yc_251 : Nat, w186.cell? ((na w).add 4) = some (.slice ya_251 yn_251 yc_251) ∧
 ((∀ u252 : World, Below w186.heap.size w186 u252 → F187 0 (.bool yb_192) u252 → F187 5 (.bool yb_208) u252 → F187 16 (.bool yb_225) u252 → F187 19 (.bool yb_240) u252 → Go.E.CallsD Go.Proofs.Try.prog 20 #[.agg #[.string ys_247, .slice ya_248 yn_248 yc_248, .int .i64 yx_249, .slice ya_250 yn_250 yc_250, .slice ya_251 yn_251 yc_251]] u252 fun yv254 u255 => ∃ ys_253_0 : ByteArray, ∃ ya_253_1 : Option Addr, ∃ yn_253_1 : Nat, ∃ yc_253_1 : Nat, ∃ yx_253_2 : Int, ∃ ya_253_3 : Option Addr, ∃ yn_253_3 : Nat, ∃ yc_253_3 : Nat, ∃ ya_253_4 : Option Addr, ∃ yn_253_4 : Nat, ∃ yc_253_4 : Nat, yv254 = .agg #[.string ys_253_0, .slice ya_253_1 yn_253_1 yc_253_1, .int .i64 yx_253_2, .slice ya_253_3 yn_253_3 yc_253_3, .slice ya_253_4 yn_253_4 yc_253_4] ∧ F187 25 (.agg #[.string ys_253_0, .slice ya_253_1 yn_253_1 yc_253_1, .int .i64 yx_253_2, .slice ya_253_3 yn_253_3 yc_253_3, .slice ya_253_4 yn_253_4 yc_253_4]) u255 ∧ Below u252.heap.size u252 u255) ∧
 (∀ ys_256_0 : ByteArray, ∀ ya_256_1 : Option Addr, ∀ yn_256_1 : Nat, ∀ yc_256_1 : Nat, ∀ yx_256_2 : Int, ∀ ya_256_3 : Option Addr, ∀ yn_256_3 : Nat, ∀ yc_256_3 : Nat, ∀ ya_256_4 : Option Addr, ∀ yn_256_4 : Nat, ∀ yc_256_4 : Nat, (∃ u, Below w186.heap.size w186 u ∧ F187 25 (.agg #[.string ys_256_0, .slice ya_256_1 yn_256_1 yc_256_1, .int .i64 yx_256_2, .slice ya_256_3 yn_256_3 yc_256_3, .slice ya_256_4 yn_256_4 yc_256_4]) u) →
 (∀ u257 : World, Below w186.heap.size w186 u257 → F187 0 (.bool yb_192) u257 → F187 5 (.bool yb_208) u257 → F187 16 (.bool yb_225) u257 → F187 19 (.bool yb_240) u257 → F187 25 (.agg #[.string ys_256_0, .slice ya_256_1 yn_256_1 yc_256_1, .int .i64 yx_256_2, .slice ya_256_3 yn_256_3 yc_256_3, .slice ya_256_4 yn_256_4 yc_256_4]) u257 → Go.E.CallsD Go.Proofs.Try.prog 40 #[.agg #[.string ys_242, .slice ya_243 yn_243 yc_243, .int .i64 yx_244, .slice ya_245 yn_245 yc_245, .slice ya_246 yn_246 yc_246], .agg #[.string ys_256_0, .slice ya_256_1 yn_256_1 yc_256_1, .int .i64 yx_256_2, .slice ya_256_3 yn_256_3 yc_256_3, .slice ya_256_4 yn_256_4 yc_256_4]] u257 fun yv259 u260 => ∃ yb_258 : Bool, yv259 = .bool yb_258 ∧ F187 26 (.bool yb_258) u260 ∧ Below u257.heap.size u257 u260) ∧
 (∀ yb_261 : Bool, (∃ u, Below w186.heap.size w186 u ∧ F187 26 (.bool yb_261) u) →
 onBool (!yb_261)
 (∀ u262 : World, Below w186.heap.size w186 u262 → F187 0 (.bool yb_192) u262 → F187 5 (.bool yb_208) u262 → F187 16 (.bool yb_225) u262 → F187 19 (.bool yb_240) u262 → F187 25 (.agg #[.string ys_256_0, .slice ya_256_1 yn_256_1 yc_256_1, .int .i64 yx_256_2, .slice ya_256_3 yn_256_3 yc_256_3, .slice ya_256_4 yn_256_4 yc_256_4]) u262 → F187 26 (.bool yb_261) u262 → 
 R (.bool false) u262)
 (∃ ys_263 : ByteArray, w186.cell? ((na w).add 0) = some (.string ys_263) ∧
 (∃ ya_264 : Option Addr, ∃ yn_264 : Nat, ∃ yc_264 : Nat, w186.cell? ((na w).add 1) = some (.slice ya_264 yn_264 yc_264) ∧
 (∃ yx_265 : Int, w186.cell? ((na w).add 2) = some (.int .i64 yx_265) ∧
 (∃ ya_266 : Option Addr, ∃ yn_266 : Nat, ∃ yc_266 : Nat, w186.cell? ((na w).add 3) = some (.slice ya_266 yn_266 yc_266) ∧
 (∃ ya_267 : Option Addr, ∃ yn_267 : Nat, ∃ yc_267 : Nat, w186.cell? ((na w).add 4) = some (.slice ya_267 yn_267 yc_267) ∧
 ((∀ u268 : World, Below w186.heap.size w186 u268 → F187 0 (.bool yb_192) u268 → F187 5 (.bool yb_208) u268 → F187 16 (.bool yb_225) u268 → F187 19 (.bool yb_240) u268 → F187 25 (.agg #[.string ys_256_0, .slice ya_256_1 yn_256_1 yc_256_1, .int .i64 yx_256_2, .slice ya_256_3 yn_256_3 yc_256_3, .slice ya_256_4 yn_256_4 yc_256_4]) u268 → F187 26 (.bool yb_261) u268 → Go.E.CallsD Go.Proofs.Try.prog 34 #[.agg #[.string ys_263, .slice ya_264 yn_264 yc_264, .int .i64 yx_265, .slice ya_266 yn_266 yc_266, .slice ya_267 yn_267 yc_267]] u268 fun yv270 u271 => ∃ ys_269_0 : ByteArray, ∃ ya_269_1 : Option Addr, ∃ yn_269_1 : Nat, ∃ yc_269_1 : Nat, ∃ yx_269_2 : Int, ∃ ya_269_3 : Option Addr, ∃ yn_269_3 : Nat, ∃ yc_269_3 : Nat, ∃ ya_269_4 : Option Addr, ∃ yn_269_4 : Nat, ∃ yc_269_4 : Nat, yv270 = .agg #[.string ys_269_0, .slice ya_269_1 yn_269_1 yc_269_1, .int .i64 yx_269_2, .slice ya_269_3 yn_269_3 yc_269_3, .slice ya_269_4 yn_269_4 yc_269_4] ∧ F187 31 (.agg #[.string ys_269_0, .slice ya_269_1 yn_269_1 yc_269_1, .int .i64 yx_269_2, .slice ya_269_3 yn_269_3 yc_269_3, .slice ya_269_4 yn_269_4 yc_269_4]) u271 ∧ Below u268.heap.size u268 u271) ∧
 (∀ ys_272_0 : ByteArray, ∀ ya_272_1 : Option Addr, ∀ yn_272_1 : Nat, ∀ yc_272_1 : Nat, ∀ yx_272_2 : Int, ∀ ya_272_3 : Option Addr, ∀ yn_272_3 : Nat, ∀ yc_272_3 : Nat, ∀ ya_272_4 : Option Addr, ∀ yn_272_4 : Nat, ∀ yc_272_4 : Nat, (∃ u, Below w186.heap.size w186 u ∧ F187 31 (.agg #[.string ys_272_0, .slice ya_272_1 yn_272_1 yc_272_1, .int .i64 yx_272_2, .slice ya_272_3 yn_272_3 yc_272_3, .slice ya_272_4 yn_272_4 yc_272_4]) u) →
 ∃ ys_273 : ByteArray, w186.cell? ((na w).add 0) = some (.string ys_273) ∧
 (∃ ya_274 : Option Addr, ∃ yn_274 : Nat, ∃ yc_274 : Nat, w186.cell? ((na w).add 1) = some (.slice ya_274 yn_274 yc_274) ∧
 (∃ yx_275 : Int, w186.cell? ((na w).add 2) = some (.int .i64 yx_275) ∧
 (∃ ya_276 : Option Addr, ∃ yn_276 : Nat, ∃ yc_276 : Nat, w186.cell? ((na w).add 3) = some (.slice ya_276 yn_276 yc_276) ∧
 (∃ ya_277 : Option Addr, ∃ yn_277 : Nat, ∃ yc_277 : Nat, w186.cell? ((na w).add 4) = some (.slice ya_277 yn_277 yc_277) ∧
 ((∀ u278 : World, Below w186.heap.size w186 u278 → F187 0 (.bool yb_192) u278 → F187 5 (.bool yb_208) u278 → F187 16 (.bool yb_225) u278 → F187 19 (.bool yb_240) u278 → F187 25 (.agg #[.string ys_256_0, .slice ya_256_1 yn_256_1 yc_256_1, .int .i64 yx_256_2, .slice ya_256_3 yn_256_3 yc_256_3, .slice ya_256_4 yn_256_4 yc_256_4]) u278 → F187 26 (.bool yb_261) u278 → F187 31 (.agg #[.string ys_272_0, .slice ya_272_1 yn_272_1 yc_272_1, .int .i64 yx_272_2, .slice ya_272_3 yn_272_3 yc_272_3, .slice ya_272_4 yn_272_4 yc_272_4]) u278 → Go.E.CallsD Go.Proofs.Try.prog 24 #[.agg #[.string ys_272_0, .slice ya_272_1 yn_272_1 yc_272_1, .int .i64 yx_272_2, .slice ya_272_3 yn_272_3 yc_272_3, .slice ya_272_4 yn_272_4 yc_272_4], .agg #[.string ys_273, .slice ya_274 yn_274 yc_274, .int .i64 yx_275, .slice ya_276 yn_276 yc_276, .slice ya_277 yn_277 yc_277]] u278 fun yv280 u281 => ∃ yb_279 : Bool, yv280 = .bool yb_279 ∧ F187 33 (.bool yb_279) u281 ∧ Below u278.heap.size u278 u281) ∧
 (∀ yb_282 : Bool, (∃ u, Below w186.heap.size w186 u ∧ F187 33 (.bool yb_282) u) →
 ∀ u283 : World, Below w186.heap.size w186 u283 → F187 0 (.bool yb_192) u283 → F187 5 (.bool yb_208) u283 → F187 16 (.bool yb_225) u283 → F187 19 (.bool yb_240) u283 → F187 25 (.agg #[.string ys_256_0, .slice ya_256_1 yn_256_1 yc_256_1, .int .i64 yx_256_2, .slice ya_256_3 yn_256_3 yc_256_3, .slice ya_256_4 yn_256_4 yc_256_4]) u283 → F187 26 (.bool yb_261) u283 → F187 31 (.agg #[.string ys_272_0, .slice ya_272_1 yn_272_1 yc_272_1, .int .i64 yx_272_2, .slice ya_272_3 yn_272_3 yc_272_3, .slice ya_272_4 yn_272_4 yc_272_4]) u283 → F187 33 (.bool yb_282) u283 → 
 onBool (!yb_282)
 (R (.bool false) u283)
 (∃ ya_284 : Option Addr, ∃ yn_284 : Nat, ∃ yc_284 : Nat, u283.cell? ((na w).add 4) = some (.slice ya_284 yn_284 yc_284) ∧
 (e18 (some (na w157)) ya_284 yn_284 yc_284 (yn_284 : Int) 0 u283))))))))))))))))))))))))))))))))))))))))))))))))))))))))))))))))))))))))))))))))))))))))
def thicketlaw07_TreesCanons.g18 (R : Value → World → Prop) (b18 : (Option Addr) → (Option Addr) → Nat → Nat → Int → Int → World → Prop) (p3 : Option Addr) (a62 : Option Addr) (n62 : Nat) (c62 : Nat) (x63 : Int) (x64 : Int) (w : World) : Prop :=
 onBool (decide (x64 < x63))
 (optN a62 fun q285 =>
 chk ((0 : Int) ≤ x64 ∧ x64 < (n62 : Int))
 (∃ yx_286 : Int, w.cell? ((q285.add (x64.toNat * 2)).add 0) = some (.int .i64 yx_286) ∧
 (∃ ya_287 : Option Addr, ∃ yn_287 : Nat, ∃ yc_287 : Nat, w.cell? ((q285.add (x64.toNat * 2)).add 1) = some (.slice ya_287 yn_287 yc_287) ∧
 (nw (w.alloc (.cells #[.int .i64 0, .slice none 0 0] 33)) fun w288 =>
 okSt w288 ((na w).add 0) ∧
 (nw (w288.setCell ((na w).add 0) (.int .i64 yx_286)) fun w289 =>
 okSt w289 ((na w).add 1) ∧
 (nw (w289.setCell ((na w).add 1) (.slice ya_287 yn_287 yc_287)) fun w290 =>
 ∃ yx_291 : Int, w290.cell? ((na w).add 0) = some (.int .i64 yx_291) ∧
 (∃ ya_292 : Option Addr, ∃ yn_292 : Nat, ∃ yc_292 : Nat, w290.cell? ((na w).add 1) = some (.slice ya_292 yn_292 yc_292) ∧
 (Go.E.CallsD Go.Proofs.Try.prog 37 #[.agg #[.int .i64 yx_291, .slice ya_292 yn_292 yc_292]] w290 fun yv293 u294 =>
 ∃ yx_295_0_0 : Int, ∃ ya_295_0_1 : Option Addr, ∃ yn_295_0_1 : Nat, ∃ yc_295_0_1 : Nat, ∃ yx_295_1 : Int, yv293 = .tuple #[.agg #[.int .i64 yx_295_0_0, .slice ya_295_0_1 yn_295_0_1 yc_295_0_1], .int .i64 yx_295_1] ∧
 (nw (u294.alloc (.cells #[.int .i64 0, .slice none 0 0] 33)) fun w296 =>
 okSt w296 ((na u294).add 0) ∧
 (nw (w296.setCell ((na u294).add 0) (.int .i64 yx_295_0_0)) fun w297 =>
 okSt w297 ((na u294).add 1) ∧
 (nw (w297.setCell ((na u294).add 1) (.slice ya_295_0_1 yn_295_0_1 yc_295_0_1)) fun w298 =>
 ∃ yx_299 : Int, w298.cell? ((na w).add 0) = some (.int .i64 yx_299) ∧
 (∃ ya_300 : Option Addr, ∃ yn_300 : Nat, ∃ yc_300 : Nat, w298.cell? ((na w).add 1) = some (.slice ya_300 yn_300 yc_300) ∧
 (Go.E.CallsD Go.Proofs.Try.prog 41 #[.agg #[.int .i64 yx_299, .slice ya_300 yn_300 yc_300]] w298 fun yv301 u302 =>
 ∃ yx_303_0_0 : Int, ∃ ya_303_0_1 : Option Addr, ∃ yn_303_0_1 : Nat, ∃ yc_303_0_1 : Nat, ∃ yx_303_1 : Int, yv301 = .tuple #[.agg #[.int .i64 yx_303_0_0, .slice ya_303_0_1 yn_303_0_1 yc_303_0_1], .int .i64 yx_303_1] ∧
 (nw (u302.alloc (.cells #[.int .i64 0, .slice none 0 0] 33)) fun w304 =>
 okSt w304 ((na u302).add 0) ∧
 (nw (w304.setCell ((na u302).add 0) (.int .i64 yx_303_0_0)) fun w305 =>
 okSt w305 ((na u302).add 1) ∧
 (nw (w305.setCell ((na u302).add 1) (.slice ya_303_0_1 yn_303_0_1 yc_303_0_1)) fun w306 =>
 ∃ yx_307 : Int, w306.cell? ((na u294).add 0) = some (.int .i64 yx_307) ∧
 (∃ ya_308 : Option Addr, ∃ yn_308 : Nat, ∃ yc_308 : Nat, w306.cell? ((na u294).add 1) = some (.slice ya_308 yn_308 yc_308) ∧
 (∃ yx_309 : Int, w306.cell? ((na u302).add 0) = some (.int .i64 yx_309) ∧
 (∃ ya_310 : Option Addr, ∃ yn_310 : Nat, ∃ yc_310 : Nat, w306.cell? ((na u302).add 1) = some (.slice ya_310 yn_310 yc_310) ∧
 (Go.E.CallsD Go.Proofs.Try.prog 42 #[.agg #[.int .i64 yx_307, .slice ya_308 yn_308 yc_308], .agg #[.int .i64 yx_309, .slice ya_310 yn_310 yc_310]] w306 fun yv311 u312 =>
 ∃ yb_313 : Bool, yv311 = .bool yb_313 ∧
 (onBool (!yb_313)
 (R (.bool false) u312)
 (onBool (yx_295_1 != yx_303_1)
 (R (.bool false) u312)
 (optN p3 fun q314 =>
 ∃ ya_315 : Option Addr, ∃ yn_315 : Nat, ∃ yc_315 : Nat, u312.cell? (q314.add 4) = some (.slice ya_315 yn_315 yc_315) ∧
 (onBool (decide (x64 < (yn_315 : Int)))
 (∃ yx_316 : Int, u312.cell? ((na w).add 0) = some (.int .i64 yx_316) ∧
 (∃ ya_317 : Option Addr, ∃ yn_317 : Nat, ∃ yc_317 : Nat, u312.cell? ((na w).add 1) = some (.slice ya_317 yn_317 yc_317) ∧
 (optN p3 fun q318 =>
 ∃ ya_319 : Option Addr, ∃ yn_319 : Nat, ∃ yc_319 : Nat, u312.cell? (q318.add 4) = some (.slice ya_319 yn_319 yc_319) ∧
 (optN ya_319 fun q320 =>
 chk ((0 : Int) ≤ x64 ∧ x64 < (yn_319 : Int))
 (∃ yx_321 : Int, u312.cell? ((q320.add (x64.toNat * 2)).add 0) = some (.int .i64 yx_321) ∧
 (∃ ya_322 : Option Addr, ∃ yn_322 : Nat, ∃ yc_322 : Nat, u312.cell? ((q320.add (x64.toNat * 2)).add 1) = some (.slice ya_322 yn_322 yc_322) ∧
 (∃ yb_323 : Bool, (∀ u324 : World, Below u312.heap.size u312 u324 → Go.E.CallsD Go.Proofs.Try.prog 38 #[.agg #[.int .i64 yx_316, .slice ya_317 yn_317 yc_317], .agg #[.int .i64 yx_321, .slice ya_322 yn_322 yc_322]] u324 fun yv325 u326 => yv325 = .bool yb_323 ∧ Below u312.heap.size u312 u326) ∧
 (∃ yx_327 : Int, u312.cell? ((na w).add 0) = some (.int .i64 yx_327) ∧
 (∃ ya_328 : Option Addr, ∃ yn_328 : Nat, ∃ yc_328 : Nat, u312.cell? ((na w).add 1) = some (.slice ya_328 yn_328 yc_328) ∧
 (optN p3 fun q329 =>
 ∃ ya_330 : Option Addr, ∃ yn_330 : Nat, ∃ yc_330 : Nat, u312.cell? (q329.add 4) = some (.slice ya_330 yn_330 yc_330) ∧
 (optN ya_330 fun q331 =>
 chk ((0 : Int) ≤ x64 ∧ x64 < (yn_330 : Int))
 (∃ yx_332 : Int, u312.cell? ((q331.add (x64.toNat * 2)).add 0) = some (.int .i64 yx_332) ∧
 (∃ ya_333 : Option Addr, ∃ yn_333 : Nat, ∃ yc_333 : Nat, u312.cell? ((q331.add (x64.toNat * 2)).add 1) = some (.slice ya_333 yn_333 yc_333) ∧
 (∃ yb_334 : Bool, (∀ u335 : World, Below u312.heap.size u312 u335 → Go.E.CallsD Go.Proofs.Try.prog 42 #[.agg #[.int .i64 yx_327, .slice ya_328 yn_328 yc_328], .agg #[.int .i64 yx_332, .slice ya_333 yn_333 yc_333]] u335 fun yv336 u337 => yv336 = .bool yb_334 ∧ Below u312.heap.size u312 u337) ∧
 (∀ u338 : World, Below u312.heap.size u312 u338 →
 onBool (!(yb_323 == yb_334))
 (R (.bool false) u338)
 (nv (IntKind.i64.wrap (x64 + 1)) fun t339 =>
 b18 p3 a62 n62 c62 x63 t339 u338))))))))))))))))
 (∀ u340 : World, Below u312.heap.size u312 u340 →
 nv (IntKind.i64.wrap (x64 + 1)) fun t341 =>
 b18 p3 a62 n62 c62 x63 t341 u340)))))))))))))))))))))))))
 (R (.bool true) w)
def thicketlaw07_TreesCanons.q2 (R : Value → World → Prop) : Exit → Act → World → Prop := (fin Go.Proofs.Try.prog Go.Proofs.Try.f11 R)
def thicketlaw07_TreesCanons.q4 (R : Value → World → Prop) : Exit → Act → World → Prop := (thicketlaw07_TreesCanons.q2 R)
def thicketlaw07_TreesCanons.q6 (R : Value → World → Prop) : Exit → Act → World → Prop := (thicketlaw07_TreesCanons.q4 R)
def thicketlaw07_TreesCanons.q14 (R : Value → World → Prop) : Exit → Act → World → Prop := (thicketlaw07_TreesCanons.q6 R)
def thicketlaw07_TreesCanons.q15 (R : Value → World → Prop) : Exit → Act → World → Prop := Exit.then (startN none (codeN Go.Proofs.Try.prog (sub (codeOf Go.Proofs.Try.f11) [1, 1, 1, 1, 1]) (nsub thicketlaw07_TreesCanons.an [1, 1, 1, 1, 1]) (thicketlaw07_TreesCanons.q14 R))) (thicketlaw07_TreesCanons.q14 R)
def thicketlaw07_TreesCanons.q17 (R : Value → World → Prop) : Exit → Act → World → Prop := (thicketlaw07_TreesCanons.q15 R)
def thicketlaw07_TreesCanons.q18 (R : Value → World → Prop) : Exit → Act → World → Prop := Exit.inBlock 0 (thicketlaw07_TreesCanons.q17 R)
def thicketlaw07_TreesCanons.rl18 (R : Value → World → Prop) (k : Nat) (p3 : Option Addr) (a62 : Option Addr) (n62 : Nat) (c62 : Nat) (x63 : Int) (x64 : Int) (w : World) : Prop := loopN [3, 62, 63, 64] (codeN Go.Proofs.Try.prog (sub (codeOf Go.Proofs.Try.f11) [1, 1, 1, 1, 0, 1, 0, 0]) (nsub thicketlaw07_TreesCanons.an [1, 1, 1, 1, 0, 1, 0, 0])) (thicketlaw07_TreesCanons.q18 R) k ⟨#[undef, undef, undef, .pointer p3, undef, undef, undef, undef, undef, undef, undef, undef, undef, undef, undef, undef, undef, undef, undef, undef, undef, undef, undef, undef, undef, undef, undef, undef, undef, undef, undef, undef, undef, undef, undef, undef, undef, undef, undef, undef, undef, undef, undef, undef, undef, undef, undef, undef, undef, undef, undef, undef, undef, undef, undef, undef, undef, undef, undef, undef, undef, undef, .slice a62 n62 c62, .int .i64 x63, .int .i64 x64, undef, undef, undef, undef, undef, undef, undef, undef, undef, undef, undef, undef, undef, undef, undef, undef, undef, undef, undef, undef, undef, undef, undef, undef, undef, undef, undef, undef, undef, undef, undef, undef, undef, undef, undef, undef, undef, undef, undef, undef, undef, undef, undef, undef, undef, undef], []⟩ w
def thicketlaw07_TreesCanons.re18 (R : Value → World → Prop) (p3 : Option Addr) (a62 : Option Addr) (n62 : Nat) (c62 : Nat) (x63 : Int) (x64 : Int) (w : World) : Prop := ∃ k, thicketlaw07_TreesCanons.rl18 R k p3 a62 n62 c62 x63 x64 w
def thicketlaw07_TreesCanons.l18 (R : Value → World → Prop) : Nat → (Option Addr) → (Option Addr) → Nat → Nat → Int → Int → World → Prop
  | 0, _, _, _, _, _, _, _ => False
  | k + 1, p3, a62, n62, c62, x63, x64, w => thicketlaw07_TreesCanons.g18 R (thicketlaw07_TreesCanons.l18 R k) p3 a62 n62 c62 x63 x64 w
def thicketlaw07_TreesCanons.e18 (R : Value → World → Prop) (p3 : Option Addr) (a62 : Option Addr) (n62 : Nat) (c62 : Nat) (x63 : Int) (x64 : Int) (w : World) : Prop := ∃ k, thicketlaw07_TreesCanons.l18 R k p3 a62 n62 c62 x63 x64 w
theorem thicketlaw07_TreesCanons.s18 (R : Value → World → Prop) (k : Nat) (p3 : Option Addr) (a62 : Option Addr) (n62 : Nat) (c62 : Nat) (x63 : Int) (x64 : Int) (w : World) : thicketlaw07_TreesCanons.rl18 R (k + 1) p3 a62 n62 c62 x63 x64 w = ∀ _ : Nat → Value, thicketlaw07_TreesCanons.g18 R (thicketlaw07_TreesCanons.rl18 R k) p3 a62 n62 c62 x63 x64 w := by kernel_rfl
theorem thicketlaw07_TreesCanons.lq18 (R : Value → World → Prop) : ∀ k, thicketlaw07_TreesCanons.l18 R k = thicketlaw07_TreesCanons.rl18 R k
  | 0 => by funext p3 a62 n62 c62 x63 x64 w; first | rfl | kernel_rfl
  | k + 1 => by
    funext p3 a62 n62 c62 x63 x64 w
    rw [thicketlaw07_TreesCanons.s18, forall_const]
    unfold thicketlaw07_TreesCanons.l18
    have ih := thicketlaw07_TreesCanons.lq18 R k
    rw [ih]
    all_goals rfl
theorem thicketlaw07_TreesCanons.eq18 (R : Value → World → Prop) : thicketlaw07_TreesCanons.e18 R = thicketlaw07_TreesCanons.re18 R := by
  funext p3 a62 n62 c62 x63 x64 w
  unfold thicketlaw07_TreesCanons.e18 thicketlaw07_TreesCanons.re18
  simp only [thicketlaw07_TreesCanons.lq18 R]
def thicketlaw07_TreesCanons (R : Value → World → Prop) (s0_0 : ByteArray) (a0_1 : Option Addr) (n0_1 : Nat) (c0_1 : Nat) (x0_2 : Int) (a0_3 : Option Addr) (n0_3 : Nat) (c0_3 : Nat) (a0_4 : Option Addr) (n0_4 : Nat) (c0_4 : Nat) (s1_0 : ByteArray) (a1_1 : Option Addr) (n1_1 : Nat) (c1_1 : Nat) (x1_2 : Int) (a1_3 : Option Addr) (n1_3 : Nat) (c1_3 : Nat) (a1_4 : Option Addr) (n1_4 : Nat) (c1_4 : Nat) (w : World) : Prop := thicketlaw07_TreesCanons.g0 R (thicketlaw07_TreesCanons.e18 R) s0_0 a0_1 n0_1 c0_1 x0_2 a0_3 n0_3 c0_3 a0_4 n0_4 c0_4 s1_0 a1_1 n1_1 c1_1 x1_2 a1_3 n1_3 c1_3 a1_4 n1_4 c1_4 w
theorem thicketlaw07_TreesCanons.root0 (R : Value → World → Prop) (s0_0 : ByteArray) (a0_1 : Option Addr) (n0_1 : Nat) (c0_1 : Nat) (x0_2 : Int) (a0_3 : Option Addr) (n0_3 : Nat) (c0_3 : Nat) (a0_4 : Option Addr) (n0_4 : Nat) (c0_4 : Nat) (s1_0 : ByteArray) (a1_1 : Option Addr) (n1_1 : Nat) (c1_1 : Nat) (x1_2 : Int) (a1_3 : Option Addr) (n1_3 : Nat) (c1_3 : Nat) (a1_4 : Option Addr) (n1_4 : Nat) (c1_4 : Nat) (w : World) : fnN Go.Proofs.Try.prog Go.Proofs.Try.f11 thicketlaw07_TreesCanons.an #[.agg #[.string s0_0, .slice a0_1 n0_1 c0_1, .int .i64 x0_2, .slice a0_3 n0_3 c0_3, .slice a0_4 n0_4 c0_4], .agg #[.string s1_0, .slice a1_1 n1_1 c1_1, .int .i64 x1_2, .slice a1_3 n1_3 c1_3, .slice a1_4 n1_4 c1_4]] w R = thicketlaw07_TreesCanons.g0 R (thicketlaw07_TreesCanons.re18 R) s0_0 a0_1 n0_1 c0_1 x0_2 a0_3 n0_3 c0_3 a0_4 n0_4 c0_4 s1_0 a1_1 n1_1 c1_1 x1_2 a1_3 n1_3 c1_3 a1_4 n1_4 c1_4 w := by kernel_rfl
theorem thicketlaw07_TreesCanons.calls {R : Value → World → Prop} {s0_0 : ByteArray} {a0_1 : Option Addr} {n0_1 : Nat} {c0_1 : Nat} {x0_2 : Int} {a0_3 : Option Addr} {n0_3 : Nat} {c0_3 : Nat} {a0_4 : Option Addr} {n0_4 : Nat} {c0_4 : Nat} {s1_0 : ByteArray} {a1_1 : Option Addr} {n1_1 : Nat} {c1_1 : Nat} {x1_2 : Int} {a1_3 : Option Addr} {n1_3 : Nat} {c1_3 : Nat} {a1_4 : Option Addr} {n1_4 : Nat} {c1_4 : Nat} {w : World} (h : thicketlaw07_TreesCanons R s0_0 a0_1 n0_1 c0_1 x0_2 a0_3 n0_3 c0_3 a0_4 n0_4 c0_4 s1_0 a1_1 n1_1 c1_1 x1_2 a1_3 n1_3 c1_3 a1_4 n1_4 c1_4 w) : Go.E.CallsD Go.Proofs.Try.prog 11 #[.agg #[.string s0_0, .slice a0_1 n0_1 c0_1, .int .i64 x0_2, .slice a0_3 n0_3 c0_3, .slice a0_4 n0_4 c0_4], .agg #[.string s1_0, .slice a1_1 n1_1 c1_1, .int .i64 x1_2, .slice a1_3 n1_3 c1_3, .slice a1_4 n1_4 c1_4]] w R := by
  refine callsD_of (n := thicketlaw07_TreesCanons.an) M_follows M_sizes Go.Proofs.Try.func11 (by rfl) ?_
  rw [thicketlaw07_TreesCanons.root0]
  unfold thicketlaw07_TreesCanons at h
  rw [thicketlaw07_TreesCanons.eq18 R] at h
  exact h
end Go.Mir
