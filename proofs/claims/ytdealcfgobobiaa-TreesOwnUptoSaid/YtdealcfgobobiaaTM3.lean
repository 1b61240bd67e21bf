/- Part of a proof of laws of the seat Ytdealcfgobobiaa: functions' weakest preconditions, each checked by the kernel, contracts out of them, plain lemmas; no conditions. -/
import Derived.Test.YtdealcfgobobiaaTM0
set_option linter.unusedVariables false
set_option linter.unusedSimpArgs false
set_option linter.unusedVariables false
set_option maxRecDepth 100000
namespace Go.Mir
open Go Go.E Go.RowKit
-- thicket/trees.Leaves
def trees_Leaves.an : An := An.nil
def trees_Leaves.g0 (R : Value → World → Prop) (x0_0 : Int) (a0_1 : Option Addr) (n0_1 : Nat) (c0_1 : Nat) (w : World) : Prop :=
 nw (w.alloc (.cells #[.int .i64 x0_0, .slice a0_1 n0_1 c0_1] 33)) fun w7 =>
 ∃ yx_8 : Int, w7.cell? ((na w).add 0) = some (.int .i64 yx_8) ∧
 (∃ ya_9 : Option Addr, ∃ yn_9 : Nat, ∃ yc_9 : Nat, w7.cell? ((na w).add 1) = some (.slice ya_9 yn_9 yc_9) ∧
 (Go.E.CallsD Go.Proofs.Try.prog 54 #[.agg #[.int .i64 yx_8, .slice ya_9 yn_9 yc_9], .bool false] w7 fun yv10 u11 =>
 ∃ ya_12_0 : Option Addr, ∃ yn_12_0 : Nat, ∃ yc_12_0 : Nat, ∃ yx_12_1 : Int, yv10 = .tuple #[.slice ya_12_0 yn_12_0 yc_12_0, .int .i64 yx_12_1] ∧
 (R (.tuple #[.slice ya_12_0 yn_12_0 yc_12_0, .int .i64 yx_12_1]) u11)))
def trees_Leaves (R : Value → World → Prop) (x0_0 : Int) (a0_1 : Option Addr) (n0_1 : Nat) (c0_1 : Nat) (w : World) : Prop := trees_Leaves.g0 R x0_0 a0_1 n0_1 c0_1 w
theorem trees_Leaves.root0 (R : Value → World → Prop) (x0_0 : Int) (a0_1 : Option Addr) (n0_1 : Nat) (c0_1 : Nat) (w : World) : fnN Go.Proofs.Try.prog Go.Proofs.Try.f27 trees_Leaves.an #[.agg #[.int .i64 x0_0, .slice a0_1 n0_1 c0_1]] w R = trees_Leaves.g0 R x0_0 a0_1 n0_1 c0_1 w := by kernel_rfl
theorem trees_Leaves.calls {R : Value → World → Prop} {x0_0 : Int} {a0_1 : Option Addr} {n0_1 : Nat} {c0_1 : Nat} {w : World} (h : trees_Leaves R x0_0 a0_1 n0_1 c0_1 w) : Go.E.CallsD Go.Proofs.Try.prog 27 #[.agg #[.int .i64 x0_0, .slice a0_1 n0_1 c0_1]] w R := by
  refine callsD_of (n := trees_Leaves.an) M_follows M_sizes Go.Proofs.Try.func27 (by rfl) ?_
  rw [trees_Leaves.root0]
  unfold trees_Leaves at h
  exact h
-- thicket/trees.Inner
def trees_Inner.an : An := An.nil
def trees_Inner.g0 (R : Value → World → Prop) (x0_0 : Int) (a0_1 : Option Addr) (n0_1 : Nat) (c0_1 : Nat) (w : World) : Prop :=
 nw (w.alloc (.cells #[.int .i64 x0_0, .slice a0_1 n0_1 c0_1] 33)) fun w7 =>
 ∃ yx_8 : Int, w7.cell? ((na w).add 0) = some (.int .i64 yx_8) ∧
 (∃ ya_9 : Option Addr, ∃ yn_9 : Nat, ∃ yc_9 : Nat, w7.cell? ((na w).add 1) = some (.slice ya_9 yn_9 yc_9) ∧
 (Go.E.CallsD Go.Proofs.Try.prog 54 #[.agg #[.int .i64 yx_8, .slice ya_9 yn_9 yc_9], .bool true] w7 fun yv10 u11 =>
 ∃ ya_12_0 : Option Addr, ∃ yn_12_0 : Nat, ∃ yc_12_0 : Nat, ∃ yx_12_1 : Int, yv10 = .tuple #[.slice ya_12_0 yn_12_0 yc_12_0, .int .i64 yx_12_1] ∧
 (R (.tuple #[.slice ya_12_0 yn_12_0 yc_12_0, .int .i64 yx_12_1]) u11)))
def trees_Inner (R : Value → World → Prop) (x0_0 : Int) (a0_1 : Option Addr) (n0_1 : Nat) (c0_1 : Nat) (w : World) : Prop := trees_Inner.g0 R x0_0 a0_1 n0_1 c0_1 w
theorem trees_Inner.root0 (R : Value → World → Prop) (x0_0 : Int) (a0_1 : Option Addr) (n0_1 : Nat) (c0_1 : Nat) (w : World) : fnN Go.Proofs.Try.prog Go.Proofs.Try.f28 trees_Inner.an #[.agg #[.int .i64 x0_0, .slice a0_1 n0_1 c0_1]] w R = trees_Inner.g0 R x0_0 a0_1 n0_1 c0_1 w := by kernel_rfl
theorem trees_Inner.calls {R : Value → World → Prop} {x0_0 : Int} {a0_1 : Option Addr} {n0_1 : Nat} {c0_1 : Nat} {w : World} (h : trees_Inner R x0_0 a0_1 n0_1 c0_1 w) : Go.E.CallsD Go.Proofs.Try.prog 28 #[.agg #[.int .i64 x0_0, .slice a0_1 n0_1 c0_1]] w R := by
  refine callsD_of (n := trees_Inner.an) M_follows M_sizes Go.Proofs.Try.func28 (by rfl) ?_
  rw [trees_Inner.root0]
  unfold trees_Inner at h
  exact h
-- thicket/trees.Depth
def trees_Depth.an : An := An.nil
def trees_Depth.g0 (R : Value → World → Prop) (x0_0 : Int) (a0_1 : Option Addr) (n0_1 : Nat) (c0_1 : Nat) (w : World) : Prop :=
 nw (w.alloc (.cells #[.int .i64 x0_0, .slice a0_1 n0_1 c0_1] 33)) fun w25 =>
 ∃ yx_26 : Int, w25.cell? ((na w).add 0) = some (.int .i64 yx_26) ∧
 (∃ ya_27 : Option Addr, ∃ yn_27 : Nat, ∃ yc_27 : Nat, w25.cell? ((na w).add 1) = some (.slice ya_27 yn_27 yc_27) ∧
 (Go.E.CallsD Go.Proofs.Try.prog 25 #[.agg #[.int .i64 yx_26, .slice ya_27 yn_27 yc_27]] w25 fun yv28 u29 =>
 ∃ yx_30_0 : Int, ∃ yx_30_1 : Int, yv28 = .tuple #[.int .i64 yx_30_0, .int .i64 yx_30_1] ∧
 (onBool (yx_30_0 != 0)
 (R (.tuple #[.int .i64 0, .int .i64 yx_30_0]) u29)
 (nw (u29.alloc (.cells #[.int .i64 0] 3)) fun w31 =>
 okSt w31 ((na u29).add 0) ∧
 (nw (w31.setCell ((na u29).add 0) (.int .i64 0)) fun w32 =>
 ∃ yx_33 : Int, w32.cell? ((na w).add 0) = some (.int .i64 yx_33) ∧
 (∃ ya_34 : Option Addr, ∃ yn_34 : Nat, ∃ yc_34 : Nat, w32.cell? ((na w).add 1) = some (.slice ya_34 yn_34 yc_34) ∧
 (Go.E.CallsD Go.Proofs.Try.prog 55 #[.agg #[.int .i64 yx_33, .slice ya_34 yn_34 yc_34]] w32 fun yv35 u36 =>
 ∃ yv_37 : Value, yv35 = yv_37 ∧
 (rangeI Go.Proofs.Try.prog yv_37 u36
 (fun x38 x39 u41 K40 =>
 ∃ yx_44 : Int, u41.cell? (na u29) = some (.int .i64 yx_44) ∧
 (nv ((if yx_44 < x39 then x39 else yx_44)) fun t45 =>
 okSt u41 ((na u29).add 0) ∧
 (nw (u41.setCell ((na u29).add 0) (.int .i64 t45)) fun w46 =>
 K40 w46)))
 (fun D42 u43 =>
 ∃ yx_47 : Int, u43.cell? (na u29) = some (.int .i64 yx_47) ∧
 (u43.heap[D42]? = some (.deferred (some [])) ∧
 nw (u43.putObj D42 (.deferred none)) fun w48 =>
 R (.tuple #[.int .i64 yx_47, .int .i64 0]) w48))))))))))
def trees_Depth (R : Value → World → Prop) (x0_0 : Int) (a0_1 : Option Addr) (n0_1 : Nat) (c0_1 : Nat) (w : World) : Prop := trees_Depth.g0 R x0_0 a0_1 n0_1 c0_1 w
theorem trees_Depth.root0 (R : Value → World → Prop) (x0_0 : Int) (a0_1 : Option Addr) (n0_1 : Nat) (c0_1 : Nat) (w : World) : fnN Go.Proofs.Try.prog Go.Proofs.Try.f29 trees_Depth.an #[.agg #[.int .i64 x0_0, .slice a0_1 n0_1 c0_1]] w R = trees_Depth.g0 R x0_0 a0_1 n0_1 c0_1 w := by kernel_rfl
theorem trees_Depth.calls {R : Value → World → Prop} {x0_0 : Int} {a0_1 : Option Addr} {n0_1 : Nat} {c0_1 : Nat} {w : World} (h : trees_Depth R x0_0 a0_1 n0_1 c0_1 w) : Go.E.CallsD Go.Proofs.Try.prog 29 #[.agg #[.int .i64 x0_0, .slice a0_1 n0_1 c0_1]] w R := by
  refine callsD_of (n := trees_Depth.an) M_follows M_sizes Go.Proofs.Try.func29 (by rfl) ?_
  rw [trees_Depth.root0]
  unfold trees_Depth at h
  exact h
-- thicket/thicketref07.Leaves
def thicketref07_Leaves.an : An := An.nil
def thicketref07_Leaves.g0 (R : Value → World → Prop) (x0_0 : Int) (a0_1 : Option Addr) (n0_1 : Nat) (c0_1 : Nat) (w : World) : Prop :=
 nw (w.alloc (.cells #[.int .i64 x0_0, .slice a0_1 n0_1 c0_1] 33)) fun w7 =>
 ∃ yx_8 : Int, w7.cell? ((na w).add 0) = some (.int .i64 yx_8) ∧
 (∃ ya_9 : Option Addr, ∃ yn_9 : Nat, ∃ yc_9 : Nat, w7.cell? ((na w).add 1) = some (.slice ya_9 yn_9 yc_9) ∧
 (Go.E.CallsD Go.Proofs.Try.prog 56 #[.agg #[.int .i64 yx_8, .slice ya_9 yn_9 yc_9], .bool true] w7 fun yv10 u11 =>
 ∃ ya_12_0 : Option Addr, ∃ yn_12_0 : Nat, ∃ yc_12_0 : Nat, ∃ yx_12_1 : Int, yv10 = .tuple #[.slice ya_12_0 yn_12_0 yc_12_0, .int .i64 yx_12_1] ∧
 (R (.tuple #[.slice ya_12_0 yn_12_0 yc_12_0, .int .i64 yx_12_1]) u11)))
def thicketref07_Leaves (R : Value → World → Prop) (x0_0 : Int) (a0_1 : Option Addr) (n0_1 : Nat) (c0_1 : Nat) (w : World) : Prop := thicketref07_Leaves.g0 R x0_0 a0_1 n0_1 c0_1 w
theorem thicketref07_Leaves.root0 (R : Value → World → Prop) (x0_0 : Int) (a0_1 : Option Addr) (n0_1 : Nat) (c0_1 : Nat) (w : World) : fnN Go.Proofs.Try.prog Go.Proofs.Try.f30 thicketref07_Leaves.an #[.agg #[.int .i64 x0_0, .slice a0_1 n0_1 c0_1]] w R = thicketref07_Leaves.g0 R x0_0 a0_1 n0_1 c0_1 w := by kernel_rfl
theorem thicketref07_Leaves.calls {R : Value → World → Prop} {x0_0 : Int} {a0_1 : Option Addr} {n0_1 : Nat} {c0_1 : Nat} {w : World} (h : thicketref07_Leaves R x0_0 a0_1 n0_1 c0_1 w) : Go.E.CallsD Go.Proofs.Try.prog 30 #[.agg #[.int .i64 x0_0, .slice a0_1 n0_1 c0_1]] w R := by
  refine callsD_of (n := thicketref07_Leaves.an) M_follows M_sizes Go.Proofs.Try.func30 (by rfl) ?_
  rw [thicketref07_Leaves.root0]
  unfold thicketref07_Leaves at h
  exact h
-- thicket/thicketref07.Inner
def thicketref07_Inner.an : An := An.nil
def thicketref07_Inner.g0 (R : Value → World → Prop) (x0_0 : Int) (a0_1 : Option Addr) (n0_1 : Nat) (c0_1 : Nat) (w : World) : Prop :=
 nw (w.alloc (.cells #[.int .i64 x0_0, .slice a0_1 n0_1 c0_1] 33)) fun w7 =>
 ∃ yx_8 : Int, w7.cell? ((na w).add 0) = some (.int .i64 yx_8) ∧
 (∃ ya_9 : Option Addr, ∃ yn_9 : Nat, ∃ yc_9 : Nat, w7.cell? ((na w).add 1) = some (.slice ya_9 yn_9 yc_9) ∧
 (Go.E.CallsD Go.Proofs.Try.prog 56 #[.agg #[.int .i64 yx_8, .slice ya_9 yn_9 yc_9], .bool false] w7 fun yv10 u11 =>
 ∃ ya_12_0 : Option Addr, ∃ yn_12_0 : Nat, ∃ yc_12_0 : Nat, ∃ yx_12_1 : Int, yv10 = .tuple #[.slice ya_12_0 yn_12_0 yc_12_0, .int .i64 yx_12_1] ∧
 (R (.tuple #[.slice ya_12_0 yn_12_0 yc_12_0, .int .i64 yx_12_1]) u11)))
def thicketref07_Inner (R : Value → World → Prop) (x0_0 : Int) (a0_1 : Option Addr) (n0_1 : Nat) (c0_1 : Nat) (w : World) : Prop := thicketref07_Inner.g0 R x0_0 a0_1 n0_1 c0_1 w
theorem thicketref07_Inner.root0 (R : Value → World → Prop) (x0_0 : Int) (a0_1 : Option Addr) (n0_1 : Nat) (c0_1 : Nat) (w : World) : fnN Go.Proofs.Try.prog Go.Proofs.Try.f31 thicketref07_Inner.an #[.agg #[.int .i64 x0_0, .slice a0_1 n0_1 c0_1]] w R = thicketref07_Inner.g0 R x0_0 a0_1 n0_1 c0_1 w := by kernel_rfl
theorem thicketref07_Inner.calls {R : Value → World → Prop} {x0_0 : Int} {a0_1 : Option Addr} {n0_1 : Nat} {c0_1 : Nat} {w : World} (h : thicketref07_Inner R x0_0 a0_1 n0_1 c0_1 w) : Go.E.CallsD Go.Proofs.Try.prog 31 #[.agg #[.int .i64 x0_0, .slice a0_1 n0_1 c0_1]] w R := by
  refine callsD_of (n := thicketref07_Inner.an) M_follows M_sizes Go.Proofs.Try.func31 (by rfl) ?_
  rw [thicketref07_Inner.root0]
  unfold thicketref07_Inner at h
  exact h
-- thicket/thicketref07.Depth
def thicketref07_Depth.an : An := (.mk none .nil (.mk none .nil (.mk none .nil (.mk none .nil (.mk none .nil (.mk none (.mk none .nil (.mk none (.mk (some [1, 6, 7, 24, 25, 26]) .nil .nil) .nil)) .nil))))))
def thicketref07_Depth.g0 (R : Value → World → Prop) (e20 : (Option Addr) → (Option Addr) → Nat → Nat → Int → (Option Addr) → Nat → Nat → Int → Int → World → Prop) (x0_0 : Int) (a0_1 : Option Addr) (n0_1 : Nat) (c0_1 : Nat) (w : World) : Prop :=
 nw (w.alloc (.cells #[.int .i64 x0_0, .slice a0_1 n0_1 c0_1] 33)) fun w54 =>
 ∃ yx_55 : Int, w54.cell? ((na w).add 0) = some (.int .i64 yx_55) ∧
 (∃ ya_56 : Option Addr, ∃ yn_56 : Nat, ∃ yc_56 : Nat, w54.cell? ((na w).add 1) = some (.slice ya_56 yn_56 yc_56) ∧
 (Go.E.CallsD Go.Proofs.Try.prog 26 #[.agg #[.int .i64 yx_55, .slice ya_56 yn_56 yc_56]] w54 fun yv57 u58 =>
 ∃ yx_59_0 : Int, ∃ yx_59_1 : Int, yv57 = .tuple #[.int .i64 yx_59_0, .int .i64 yx_59_1] ∧
 (onBool (yx_59_0 != 0)
 (R (.tuple #[.int .i64 0, .int .i64 yx_59_0]) u58)
 (∃ ya_60 : Option Addr, ∃ yn_60 : Nat, ∃ yc_60 : Nat, u58.cell? ((na w).add 1) = some (.slice ya_60 yn_60 yc_60) ∧
 (chk ((0 : Int) ≤ (yn_60 : Int) ∧ (yn_60 : Int) ≤ (yn_60 : Int) ∧ ((8 : Nat) : Int) * (yn_60 : Int) ≤ 281474976710656 ∧ (yn_60 : Int) ≤ 9223372036854775807)
 (nw (u58.alloc (.cells (madeCells #[.int .i64 0] (((yn_60 : Int)).toNat * 1)) 3)) fun w61 =>
 ∃ yx_62 : Int, w61.cell? ((na w).add 0) = some (.int .i64 yx_62) ∧
 (∃ ya_63 : Option Addr, ∃ yn_63 : Nat, ∃ yc_63 : Nat, w61.cell? ((na w).add 1) = some (.slice ya_63 yn_63 yc_63) ∧
 (Go.E.CallsD Go.Proofs.Try.prog 57 #[.agg #[.int .i64 yx_62, .slice ya_63 yn_63 yc_63]] w61 fun yv64 u65 =>
 ∃ ya_66 : Option Addr, ∃ yn_66 : Nat, ∃ yc_66 : Nat, yv64 = .slice ya_66 yn_66 yc_66 ∧
 (e20 (some (na w)) (some (na u58)) (((yn_60 : Int)).toNat) (((yn_60 : Int)).toNat) 0 ya_66 yn_66 yc_66 (yn_66 : Int) 0 u65)))))))))
def thicketref07_Depth.g20 (R : Value → World → Prop) (b20 : (Option Addr) → (Option Addr) → Nat → Nat → Int → (Option Addr) → Nat → Nat → Int → Int → World → Prop) (p1 : Option Addr) (a6 : Option Addr) (n6 : Nat) (c6 : Nat) (x7 : Int) (a24 : Option Addr) (n24 : Nat) (c24 : Nat) (x25 : Int) (x26 : Int) (w : World) : Prop :=
 onBool (decide (x26 < x25))
 (optN a24 fun q67 =>
 chk ((0 : Int) ≤ x26 ∧ x26 < (n24 : Int))
 (∃ yx_68 : Int, w.cell? (q67.add (x26.toNat * 1)) = some (.int .i64 yx_68) ∧
 (optN p1 fun q69 =>
 ∃ ya_70 : Option Addr, ∃ yn_70 : Nat, ∃ yc_70 : Nat, w.cell? (q69.add 1) = some (.slice ya_70 yn_70 yc_70) ∧
 (optN ya_70 fun q71 =>
 chk ((0 : Int) ≤ yx_68 ∧ yx_68 < (yn_70 : Int))
 (∃ yx_72 : Int, w.cell? ((q71.add (yx_68.toNat * 8)).add 0) = some (.int .u8 yx_72) ∧
 (∃ yx_73 : Int, w.cell? ((q71.add (yx_68.toNat * 8)).add 1) = some (.int .i64 yx_73) ∧
 (∃ yx_74 : Int, w.cell? ((q71.add (yx_68.toNat * 8)).add 2) = some (.int .i64 yx_74) ∧
 (∃ yf_75 : Nat, w.cell? ((q71.add (yx_68.toNat * 8)).add 3) = some (.float .f64 yf_75) ∧
 (∃ ya_76 : Option Addr, ∃ yn_76 : Nat, ∃ yc_76 : Nat, w.cell? ((q71.add (yx_68.toNat * 8)).add 4) = some (.slice ya_76 yn_76 yc_76) ∧
 (∃ yx_77 : Int, w.cell? ((q71.add (yx_68.toNat * 8)).add 5) = some (.int .u8 yx_77) ∧
 (∃ yx_78 : Int, w.cell? ((q71.add (yx_68.toNat * 8)).add 6) = some (.int .i64 yx_78) ∧
 (∃ yx_79 : Int, w.cell? ((q71.add (yx_68.toNat * 8)).add 7) = some (.int .i64 yx_79) ∧
 (nw (w.alloc (.cells #[.int .u8 0, .int .i64 0, .int .i64 0, .float .f64 0, .slice none 0 0, .int .u8 0, .int .i64 0, .int .i64 0] 27)) fun w80 =>
 okSt w80 ((na w).add 0) ∧
 (nw (w80.setCell ((na w).add 0) (.int .u8 yx_72)) fun w81 =>
 okSt w81 ((na w).add 1) ∧
 (nw (w81.setCell ((na w).add 1) (.int .i64 yx_73)) fun w82 =>
 okSt w82 ((na w).add 2) ∧
 (nw (w82.setCell ((na w).add 2) (.int .i64 yx_74)) fun w83 =>
 okSt w83 ((na w).add 3) ∧
 (nw (w83.setCell ((na w).add 3) (.float .f64 yf_75)) fun w84 =>
 okSt w84 ((na w).add 4) ∧
 (nw (w84.setCell ((na w).add 4) (.slice ya_76 yn_76 yc_76)) fun w85 =>
 okSt w85 ((na w).add 5) ∧
 (nw (w85.setCell ((na w).add 5) (.int .u8 yx_77)) fun w86 =>
 okSt w86 ((na w).add 6) ∧
 (nw (w86.setCell ((na w).add 6) (.int .i64 yx_78)) fun w87 =>
 okSt w87 ((na w).add 7) ∧
 (nw (w87.setCell ((na w).add 7) (.int .i64 yx_79)) fun w88 =>
 ∃ yx_89 : Int, w88.cell? ((na w).add 0) = some (.int .u8 yx_89) ∧
 (onBool (yx_89 != 1)
 (∃ yx_90 : Int, w88.cell? ((na w).add 6) = some (.int .i64 yx_90) ∧
 (optN a6 fun q91 =>
 chk ((0 : Int) ≤ yx_68 ∧ yx_68 < (n6 : Int))
 (∃ yx_92 : Int, w88.cell? (q91.add (yx_68.toNat * 1)) = some (.int .i64 yx_92) ∧
 (nv (IntKind.i64.wrap (yx_92 + 1)) fun t93 =>
 optN a6 fun q94 =>
 chk ((0 : Int) ≤ yx_90 ∧ yx_90 < (n6 : Int))
 (okSt w88 ((q94.add (yx_90.toNat * 1)).add 0) ∧
 (nw (w88.setCell ((q94.add (yx_90.toNat * 1)).add 0) (.int .i64 t93)) fun w95 =>
 ∃ yx_96 : Int, w95.cell? ((na w).add 7) = some (.int .i64 yx_96) ∧
 (optN a6 fun q97 =>
 chk ((0 : Int) ≤ yx_68 ∧ yx_68 < (n6 : Int))
 (∃ yx_98 : Int, w95.cell? (q97.add (yx_68.toNat * 1)) = some (.int .i64 yx_98) ∧
 (nv (IntKind.i64.wrap (yx_98 + 1)) fun t99 =>
 optN a6 fun q100 =>
 chk ((0 : Int) ≤ yx_96 ∧ yx_96 < (n6 : Int))
 (okSt w95 ((q100.add (yx_96.toNat * 1)).add 0) ∧
 (nw (w95.setCell ((q100.add (yx_96.toNat * 1)).add 0) (.int .i64 t99)) fun w101 =>
 nv (IntKind.i64.wrap (x26 + 1)) fun t102 =>
 b20 p1 a6 n6 c6 x7 a24 n24 c24 x25 t102 w101)))))))))))
 (optN a6 fun q103 =>
 chk ((0 : Int) ≤ yx_68 ∧ yx_68 < (n6 : Int))
 (∃ yx_104 : Int, w88.cell? (q103.add (yx_68.toNat * 1)) = some (.int .i64 yx_104) ∧
 (onBool (decide (yx_104 > x7))
 (optN a6 fun q105 =>
 chk ((0 : Int) ≤ yx_68 ∧ yx_68 < (n6 : Int))
 (∃ yx_106 : Int, w88.cell? (q105.add (yx_68.toNat * 1)) = some (.int .i64 yx_106) ∧
 (nv (IntKind.i64.wrap (x26 + 1)) fun t107 =>
 b20 p1 a6 n6 c6 yx_106 a24 n24 c24 x25 t107 w88)))
 (nv (IntKind.i64.wrap (x26 + 1)) fun t108 =>
 b20 p1 a6 n6 c6 x7 a24 n24 c24 x25 t108 w88))))))))))))))))))))))))))
 (R (.tuple #[.int .i64 x7, .int .i64 0]) w)
def thicketref07_Depth.q2 (R : Value → World → Prop) : Exit → Act → World → Prop := (fin Go.Proofs.Try.prog Go.Proofs.Try.f32 R)
def thicketref07_Depth.q4 (R : Value → World → Prop) : Exit → Act → World → Prop := (thicketref07_Depth.q2 R)
def thicketref07_Depth.q12 (R : Value → World → Prop) : Exit → Act → World → Prop := (thicketref07_Depth.q4 R)
def thicketref07_Depth.q14 (R : Value → World → Prop) : Exit → Act → World → Prop := (thicketref07_Depth.q12 R)
def thicketref07_Depth.q16 (R : Value → World → Prop) : Exit → Act → World → Prop := (thicketref07_Depth.q14 R)
def thicketref07_Depth.q17 (R : Value → World → Prop) : Exit → Act → World → Prop := Exit.then (startN none (codeN Go.Proofs.Try.prog (sub (codeOf Go.Proofs.Try.f32) [1, 1, 1, 1, 1, 1]) (nsub thicketref07_Depth.an [1, 1, 1, 1, 1, 1]) (thicketref07_Depth.q16 R))) (thicketref07_Depth.q16 R)
def thicketref07_Depth.q19 (R : Value → World → Prop) : Exit → Act → World → Prop := (thicketref07_Depth.q17 R)
def thicketref07_Depth.q20 (R : Value → World → Prop) : Exit → Act → World → Prop := Exit.inBlock 0 (thicketref07_Depth.q19 R)
def thicketref07_Depth.rl20 (R : Value → World → Prop) (k : Nat) (p1 : Option Addr) (a6 : Option Addr) (n6 : Nat) (c6 : Nat) (x7 : Int) (a24 : Option Addr) (n24 : Nat) (c24 : Nat) (x25 : Int) (x26 : Int) (w : World) : Prop := loopN [1, 6, 7, 24, 25, 26] (codeN Go.Proofs.Try.prog (sub (codeOf Go.Proofs.Try.f32) [1, 1, 1, 1, 1, 0, 1, 0, 0]) (nsub thicketref07_Depth.an [1, 1, 1, 1, 1, 0, 1, 0, 0])) (thicketref07_Depth.q20 R) k ⟨#[undef, .pointer p1, undef, undef, undef, undef, .slice a6 n6 c6, .int .i64 x7, undef, undef, undef, undef, undef, undef, undef, undef, undef, undef, undef, undef, undef, undef, undef, undef, .slice a24 n24 c24, .int .i64 x25, .int .i64 x26, undef, undef, undef, undef, undef, undef, undef, undef, undef, undef, undef, undef, undef, undef, undef, undef, undef, undef, undef, undef, undef, undef, undef, undef, undef, undef, undef, undef, undef, undef, undef, undef, undef, undef, undef, undef, undef, undef, undef, undef, undef], []⟩ w
def thicketref07_Depth.re20 (R : Value → World → Prop) (p1 : Option Addr) (a6 : Option Addr) (n6 : Nat) (c6 : Nat) (x7 : Int) (a24 : Option Addr) (n24 : Nat) (c24 : Nat) (x25 : Int) (x26 : Int) (w : World) : Prop := ∃ k, thicketref07_Depth.rl20 R k p1 a6 n6 c6 x7 a24 n24 c24 x25 x26 w
def thicketref07_Depth.l20 (R : Value → World → Prop) : Nat → (Option Addr) → (Option Addr) → Nat → Nat → Int → (Option Addr) → Nat → Nat → Int → Int → World → Prop
  | 0, _, _, _, _, _, _, _, _, _, _, _ => False
  | k + 1, p1, a6, n6, c6, x7, a24, n24, c24, x25, x26, w => thicketref07_Depth.g20 R (thicketref07_Depth.l20 R k) p1 a6 n6 c6 x7 a24 n24 c24 x25 x26 w
def thicketref07_Depth.e20 (R : Value → World → Prop) (p1 : Option Addr) (a6 : Option Addr) (n6 : Nat) (c6 : Nat) (x7 : Int) (a24 : Option Addr) (n24 : Nat) (c24 : Nat) (x25 : Int) (x26 : Int) (w : World) : Prop := ∃ k, thicketref07_Depth.l20 R k p1 a6 n6 c6 x7 a24 n24 c24 x25 x26 w
theorem thicketref07_Depth.s20 (R : Value → World → Prop) (k : Nat) (p1 : Option Addr) (a6 : Option Addr) (n6 : Nat) (c6 : Nat) (x7 : Int) (a24 : Option Addr) (n24 : Nat) (c24 : Nat) (x25 : Int) (x26 : Int) (w : World) : thicketref07_Depth.rl20 R (k + 1) p1 a6 n6 c6 x7 a24 n24 c24 x25 x26 w = ∀ _ : Nat → Value, thicketref07_Depth.g20 R (thicketref07_Depth.rl20 R k) p1 a6 n6 c6 x7 a24 n24 c24 x25 x26 w := by kernel_rfl
theorem thicketref07_Depth.lq20 (R : Value → World → Prop) : ∀ k, thicketref07_Depth.l20 R k = thicketref07_Depth.rl20 R k
  | 0 => by funext p1 a6 n6 c6 x7 a24 n24 c24 x25 x26 w; first | rfl | kernel_rfl
  | k + 1 => by
    funext p1 a6 n6 c6 x7 a24 n24 c24 x25 x26 w
    rw [thicketref07_Depth.s20, forall_const]
    unfold thicketref07_Depth.l20
    have ih := thicketref07_Depth.lq20 R k
    rw [ih]
    all_goals rfl
theorem thicketref07_Depth.eq20 (R : Value → World → Prop) : thicketref07_Depth.e20 R = thicketref07_Depth.re20 R := by
  funext p1 a6 n6 c6 x7 a24 n24 c24 x25 x26 w
  unfold thicketref07_Depth.e20 thicketref07_Depth.re20
  simp only [thicketref07_Depth.lq20 R]
def thicketref07_Depth (R : Value → World → Prop) (x0_0 : Int) (a0_1 : Option Addr) (n0_1 : Nat) (c0_1 : Nat) (w : World) : Prop := thicketref07_Depth.g0 R (thicketref07_Depth.e20 R) x0_0 a0_1 n0_1 c0_1 w
theorem thicketref07_Depth.root0 (R : Value → World → Prop) (x0_0 : Int) (a0_1 : Option Addr) (n0_1 : Nat) (c0_1 : Nat) (w : World) : fnN Go.Proofs.Try.prog Go.Proofs.Try.f32 thicketref07_Depth.an #[.agg #[.int .i64 x0_0, .slice a0_1 n0_1 c0_1]] w R = thicketref07_Depth.g0 R (thicketref07_Depth.re20 R) x0_0 a0_1 n0_1 c0_1 w := by kernel_rfl
theorem thicketref07_Depth.calls {R : Value → World → Prop} {x0_0 : Int} {a0_1 : Option Addr} {n0_1 : Nat} {c0_1 : Nat} {w : World} (h : thicketref07_Depth R x0_0 a0_1 n0_1 c0_1 w) : Go.E.CallsD Go.Proofs.Try.prog 32 #[.agg #[.int .i64 x0_0, .slice a0_1 n0_1 c0_1]] w R := by
  refine callsD_of (n := thicketref07_Depth.an) M_follows M_sizes Go.Proofs.Try.func32 (by rfl) ?_
  rw [thicketref07_Depth.root0]
  unfold thicketref07_Depth at h
  rw [thicketref07_Depth.eq20 R] at h
  exact h
-- thicket/trees.Model
def trees_Model.an : An := (.mk none .nil (.mk none .nil (.mk none (.mk none .nil (.mk none (.mk (some [2, 4, 12, 13, 14]) .nil .nil) .nil)) .nil)))
def trees_Model.g0 (R : Value → World → Prop) (e8 : (Option Addr) → (Option Addr) → (Option Addr) → Nat → Nat → Int → Int → World → Prop) (s0_0 : ByteArray) (a0_1 : Option Addr) (n0_1 : Nat) (c0_1 : Nat) (x0_2 : Int) (a0_3 : Option Addr) (n0_3 : Nat) (c0_3 : Nat) (a0_4 : Option Addr) (n0_4 : Nat) (c0_4 : Nat) (w : World) : Prop :=
 nw (w.alloc (.cells #[.string s0_0, .slice a0_1 n0_1 c0_1, .int .i64 x0_2, .slice a0_3 n0_3 c0_3, .slice a0_4 n0_4 c0_4] 46)) fun w70 =>
 nw (w70.alloc (.cells #[.string ⟨#[]⟩, .slice none 0 0, .int .i64 0, .slice none 0 0, .slice none 0 0] 46)) fun w71 =>
 ∃ ys_72 : ByteArray, w71.cell? ((na w).add 0) = some (.string ys_72) ∧
 (∃ ya_73 : Option Addr, ∃ yn_73 : Nat, ∃ yc_73 : Nat, w71.cell? ((na w).add 1) = some (.slice ya_73 yn_73 yc_73) ∧
 (∃ yx_74 : Int, w71.cell? ((na w).add 2) = some (.int .i64 yx_74) ∧
 (∃ ya_75 : Option Addr, ∃ yn_75 : Nat, ∃ yc_75 : Nat, w71.cell? ((na w).add 3) = some (.slice ya_75 yn_75 yc_75) ∧
 (∃ ya_76 : Option Addr, ∃ yn_76 : Nat, ∃ yc_76 : Nat, w71.cell? ((na w).add 4) = some (.slice ya_76 yn_76 yc_76) ∧
 (Go.E.CallsD Go.Proofs.Try.prog 34 #[.agg #[.string ys_72, .slice ya_73 yn_73 yc_73, .int .i64 yx_74, .slice ya_75 yn_75 yc_75, .slice ya_76 yn_76 yc_76]] w71 fun yv77 u78 =>
 ∃ ys_79_0 : ByteArray, ∃ ya_79_1 : Option Addr, ∃ yn_79_1 : Nat, ∃ yc_79_1 : Nat, ∃ yx_79_2 : Int, ∃ ya_79_3 : Option Addr, ∃ yn_79_3 : Nat, ∃ yc_79_3 : Nat, ∃ ya_79_4 : Option Addr, ∃ yn_79_4 : Nat, ∃ yc_79_4 : Nat, yv77 = .agg #[.string ys_79_0, .slice ya_79_1 yn_79_1 yc_79_1, .int .i64 yx_79_2, .slice ya_79_3 yn_79_3 yc_79_3, .slice ya_79_4 yn_79_4 yc_79_4] ∧
 (nw (u78.alloc (.cells #[.string ⟨#[]⟩, .slice none 0 0, .int .i64 0, .slice none 0 0, .slice none 0 0] 46)) fun w80 =>
 okSt w80 ((na u78).add 0) ∧
 (nw (w80.setCell ((na u78).add 0) (.string ys_79_0)) fun w81 =>
 okSt w81 ((na u78).add 1) ∧
 (nw (w81.setCell ((na u78).add 1) (.slice ya_79_1 yn_79_1 yc_79_1)) fun w82 =>
 okSt w82 ((na u78).add 2) ∧
 (nw (w82.setCell ((na u78).add 2) (.int .i64 yx_79_2)) fun w83 =>
 okSt w83 ((na u78).add 3) ∧
 (nw (w83.setCell ((na u78).add 3) (.slice ya_79_3 yn_79_3 yc_79_3)) fun w84 =>
 okSt w84 ((na u78).add 4) ∧
 (nw (w84.setCell ((na u78).add 4) (.slice ya_79_4 yn_79_4 yc_79_4)) fun w85 =>
 ∃ ya_86 : Option Addr, ∃ yn_86 : Nat, ∃ yc_86 : Nat, w85.cell? ((na w).add 4) = some (.slice ya_86 yn_86 yc_86) ∧
 (e8 (some (na w70)) (some (na u78)) ya_86 yn_86 yc_86 (yn_86 : Int) 0 w85))))))))))))
def trees_Model.g8 (R : Value → World → Prop) (b8 : (Option Addr) → (Option Addr) → (Option Addr) → Nat → Nat → Int → Int → World → Prop) (p2 : Option Addr) (p4 : Option Addr) (a12 : Option Addr) (n12 : Nat) (c12 : Nat) (x13 : Int) (x14 : Int) (w : World) : Prop :=
 onBool (decide (x14 < x13))
 (optN a12 fun q87 =>
 chk ((0 : Int) ≤ x14 ∧ x14 < (n12 : Int))
 (∃ yx_88 : Int, w.cell? ((q87.add (x14.toNat * 2)).add 0) = some (.int .i64 yx_88) ∧
 (∃ ya_89 : Option Addr, ∃ yn_89 : Nat, ∃ yc_89 : Nat, w.cell? ((q87.add (x14.toNat * 2)).add 1) = some (.slice ya_89 yn_89 yc_89) ∧
 (nw (w.alloc (.cells #[.int .i64 0, .slice none 0 0] 33)) fun w90 =>
 okSt w90 ((na w).add 0) ∧
 (nw (w90.setCell ((na w).add 0) (.int .i64 yx_88)) fun w91 =>
 okSt w91 ((na w).add 1) ∧
 (nw (w91.setCell ((na w).add 1) (.slice ya_89 yn_89 yc_89)) fun w92 =>
 ∃ yx_93 : Int, w92.cell? ((na w).add 0) = some (.int .i64 yx_93) ∧
 (∃ ya_94 : Option Addr, ∃ yn_94 : Nat, ∃ yc_94 : Nat, w92.cell? ((na w).add 1) = some (.slice ya_94 yn_94 yc_94) ∧
 (Go.E.CallsD Go.Proofs.Try.prog 37 #[.agg #[.int .i64 yx_93, .slice ya_94 yn_94 yc_94]] w92 fun yv95 u96 =>
 ∃ yx_97_0_0 : Int, ∃ ya_97_0_1 : Option Addr, ∃ yn_97_0_1 : Nat, ∃ yc_97_0_1 : Nat, ∃ yx_97_1 : Int, yv95 = .tuple #[.agg #[.int .i64 yx_97_0_0, .slice ya_97_0_1 yn_97_0_1 yc_97_0_1], .int .i64 yx_97_1] ∧
 (nw (u96.alloc (.cells #[.int .i64 0, .slice none 0 0] 33)) fun w98 =>
 okSt w98 ((na u96).add 0) ∧
 (nw (w98.setCell ((na u96).add 0) (.int .i64 yx_97_0_0)) fun w99 =>
 okSt w99 ((na u96).add 1) ∧
 (nw (w99.setCell ((na u96).add 1) (.slice ya_97_0_1 yn_97_0_1 yc_97_0_1)) fun w100 =>
 onBool (yx_97_1 != 0)
 (optN p2 fun q101 =>
 okSt w100 (q101.add 0) ∧
 (nw (w100.setCell (q101.add 0) (.string ⟨#[]⟩)) fun w102 =>
 okSt w102 (q101.add 1) ∧
 (nw (w102.setCell (q101.add 1) (.slice none 0 0)) fun w103 =>
 okSt w103 (q101.add 2) ∧
 (nw (w103.setCell (q101.add 2) (.int .i64 0)) fun w104 =>
 okSt w104 (q101.add 3) ∧
 (nw (w104.setCell (q101.add 3) (.slice none 0 0)) fun w105 =>
 okSt w105 (q101.add 4) ∧
 (nw (w105.setCell (q101.add 4) (.slice none 0 0)) fun w106 =>
 optN p2 fun q107 =>
 ∃ ys_108 : ByteArray, w106.cell? (q107.add 0) = some (.string ys_108) ∧
 (∃ ya_109 : Option Addr, ∃ yn_109 : Nat, ∃ yc_109 : Nat, w106.cell? (q107.add 1) = some (.slice ya_109 yn_109 yc_109) ∧
 (∃ yx_110 : Int, w106.cell? (q107.add 2) = some (.int .i64 yx_110) ∧
 (∃ ya_111 : Option Addr, ∃ yn_111 : Nat, ∃ yc_111 : Nat, w106.cell? (q107.add 3) = some (.slice ya_111 yn_111 yc_111) ∧
 (∃ ya_112 : Option Addr, ∃ yn_112 : Nat, ∃ yc_112 : Nat, w106.cell? (q107.add 4) = some (.slice ya_112 yn_112 yc_112) ∧
 (R (.tuple #[.agg #[.string ys_108, .slice ya_109 yn_109 yc_109, .int .i64 yx_110, .slice ya_111 yn_111 yc_111, .slice ya_112 yn_112 yc_112], .int .i64 yx_97_1]) w106)))))))))))
 (optN p4 fun q113 =>
 ∃ ya_114 : Option Addr, ∃ yn_114 : Nat, ∃ yc_114 : Nat, w100.cell? (q113.add 4) = some (.slice ya_114 yn_114 yc_114) ∧
 (∃ yx_115 : Int, w100.cell? ((na u96).add 0) = some (.int .i64 yx_115) ∧
 (∃ ya_116 : Option Addr, ∃ yn_116 : Nat, ∃ yc_116 : Nat, w100.cell? ((na u96).add 1) = some (.slice ya_116 yn_116 yc_116) ∧
 (optN ya_114 fun q117 =>
 chk ((0 : Int) ≤ x14 ∧ x14 < (yn_114 : Int))
 (okSt w100 ((q117.add (x14.toNat * 2)).add 0) ∧
 (nw (w100.setCell ((q117.add (x14.toNat * 2)).add 0) (.int .i64 yx_115)) fun w118 =>
 okSt w118 ((q117.add (x14.toNat * 2)).add 1) ∧
 (nw (w118.setCell ((q117.add (x14.toNat * 2)).add 1) (.slice ya_116 yn_116 yc_116)) fun w119 =>
 nv (IntKind.i64.wrap (x14 + 1)) fun t120 =>
 b8 p2 p4 a12 n12 c12 x13 t120 w119))))))))))))))))))
 (optN p4 fun q121 =>
 ∃ ys_122 : ByteArray, w.cell? (q121.add 0) = some (.string ys_122) ∧
 (∃ ya_123 : Option Addr, ∃ yn_123 : Nat, ∃ yc_123 : Nat, w.cell? (q121.add 1) = some (.slice ya_123 yn_123 yc_123) ∧
 (∃ yx_124 : Int, w.cell? (q121.add 2) = some (.int .i64 yx_124) ∧
 (∃ ya_125 : Option Addr, ∃ yn_125 : Nat, ∃ yc_125 : Nat, w.cell? (q121.add 3) = some (.slice ya_125 yn_125 yc_125) ∧
 (∃ ya_126 : Option Addr, ∃ yn_126 : Nat, ∃ yc_126 : Nat, w.cell? (q121.add 4) = some (.slice ya_126 yn_126 yc_126) ∧
 (optN p2 fun q127 =>
 okSt w (q127.add 0) ∧
 (nw (w.setCell (q127.add 0) (.string ys_122)) fun w128 =>
 okSt w128 (q127.add 1) ∧
 (nw (w128.setCell (q127.add 1) (.slice ya_123 yn_123 yc_123)) fun w129 =>
 okSt w129 (q127.add 2) ∧
 (nw (w129.setCell (q127.add 2) (.int .i64 yx_124)) fun w130 =>
 okSt w130 (q127.add 3) ∧
 (nw (w130.setCell (q127.add 3) (.slice ya_125 yn_125 yc_125)) fun w131 =>
 okSt w131 (q127.add 4) ∧
 (nw (w131.setCell (q127.add 4) (.slice ya_126 yn_126 yc_126)) fun w132 =>
 optN p2 fun q133 =>
 ∃ ys_134 : ByteArray, w132.cell? (q133.add 0) = some (.string ys_134) ∧
 (∃ ya_135 : Option Addr, ∃ yn_135 : Nat, ∃ yc_135 : Nat, w132.cell? (q133.add 1) = some (.slice ya_135 yn_135 yc_135) ∧
 (∃ yx_136 : Int, w132.cell? (q133.add 2) = some (.int .i64 yx_136) ∧
 (∃ ya_137 : Option Addr, ∃ yn_137 : Nat, ∃ yc_137 : Nat, w132.cell? (q133.add 3) = some (.slice ya_137 yn_137 yc_137) ∧
 (∃ ya_138 : Option Addr, ∃ yn_138 : Nat, ∃ yc_138 : Nat, w132.cell? (q133.add 4) = some (.slice ya_138 yn_138 yc_138) ∧
 (R (.tuple #[.agg #[.string ys_134, .slice ya_135 yn_135 yc_135, .int .i64 yx_136, .slice ya_137 yn_137 yc_137, .slice ya_138 yn_138 yc_138], .int .i64 0]) w132))))))))))))))))
def trees_Model.q2 (R : Value → World → Prop) : Exit → Act → World → Prop := (fin Go.Proofs.Try.prog Go.Proofs.Try.f33 R)
def trees_Model.q4 (R : Value → World → Prop) : Exit → Act → World → Prop := (trees_Model.q2 R)
def trees_Model.q5 (R : Value → World → Prop) : Exit → Act → World → Prop := Exit.then (startN none (codeN Go.Proofs.Try.prog (sub (codeOf Go.Proofs.Try.f33) [1, 1, 1]) (nsub trees_Model.an [1, 1, 1]) (trees_Model.q4 R))) (trees_Model.q4 R)
def trees_Model.q7 (R : Value → World → Prop) : Exit → Act → World → Prop := (trees_Model.q5 R)
def trees_Model.q8 (R : Value → World → Prop) : Exit → Act → World → Prop := Exit.inBlock 0 (trees_Model.q7 R)
def trees_Model.rl8 (R : Value → World → Prop) (k : Nat) (p2 : Option Addr) (p4 : Option Addr) (a12 : Option Addr) (n12 : Nat) (c12 : Nat) (x13 : Int) (x14 : Int) (w : World) : Prop := loopN [2, 4, 12, 13, 14] (codeN Go.Proofs.Try.prog (sub (codeOf Go.Proofs.Try.f33) [1, 1, 0, 1, 0, 0]) (nsub trees_Model.an [1, 1, 0, 1, 0, 0])) (trees_Model.q8 R) k ⟨#[undef, undef, .pointer p2, undef, .pointer p4, undef, undef, undef, undef, undef, undef, undef, .slice a12 n12 c12, .int .i64 x13, .int .i64 x14, undef, undef, undef, undef, undef, undef, undef, undef, undef, undef, undef, undef, undef, undef, undef, undef, undef, undef, undef, undef], []⟩ w
def trees_Model.re8 (R : Value → World → Prop) (p2 : Option Addr) (p4 : Option Addr) (a12 : Option Addr) (n12 : Nat) (c12 : Nat) (x13 : Int) (x14 : Int) (w : World) : Prop := ∃ k, trees_Model.rl8 R k p2 p4 a12 n12 c12 x13 x14 w
def trees_Model.l8 (R : Value → World → Prop) : Nat → (Option Addr) → (Option Addr) → (Option Addr) → Nat → Nat → Int → Int → World → Prop
  | 0, _, _, _, _, _, _, _, _ => False
  | k + 1, p2, p4, a12, n12, c12, x13, x14, w => trees_Model.g8 R (trees_Model.l8 R k) p2 p4 a12 n12 c12 x13 x14 w
def trees_Model.e8 (R : Value → World → Prop) (p2 : Option Addr) (p4 : Option Addr) (a12 : Option Addr) (n12 : Nat) (c12 : Nat) (x13 : Int) (x14 : Int) (w : World) : Prop := ∃ k, trees_Model.l8 R k p2 p4 a12 n12 c12 x13 x14 w
theorem trees_Model.s8 (R : Value → World → Prop) (k : Nat) (p2 : Option Addr) (p4 : Option Addr) (a12 : Option Addr) (n12 : Nat) (c12 : Nat) (x13 : Int) (x14 : Int) (w : World) : trees_Model.rl8 R (k + 1) p2 p4 a12 n12 c12 x13 x14 w = ∀ _ : Nat → Value, trees_Model.g8 R (trees_Model.rl8 R k) p2 p4 a12 n12 c12 x13 x14 w := by kernel_rfl
theorem trees_Model.lq8 (R : Value → World → Prop) : ∀ k, trees_Model.l8 R k = trees_Model.rl8 R k
  | 0 => by funext p2 p4 a12 n12 c12 x13 x14 w; first | rfl | kernel_rfl
  | k + 1 => by
    funext p2 p4 a12 n12 c12 x13 x14 w
    rw [trees_Model.s8, forall_const]
    unfold trees_Model.l8
    have ih := trees_Model.lq8 R k
    rw [ih]
    all_goals rfl
theorem trees_Model.eq8 (R : Value → World → Prop) : trees_Model.e8 R = trees_Model.re8 R := by
  funext p2 p4 a12 n12 c12 x13 x14 w
  unfold trees_Model.e8 trees_Model.re8
  simp only [trees_Model.lq8 R]
def trees_Model (R : Value → World → Prop) (s0_0 : ByteArray) (a0_1 : Option Addr) (n0_1 : Nat) (c0_1 : Nat) (x0_2 : Int) (a0_3 : Option Addr) (n0_3 : Nat) (c0_3 : Nat) (a0_4 : Option Addr) (n0_4 : Nat) (c0_4 : Nat) (w : World) : Prop := trees_Model.g0 R (trees_Model.e8 R) s0_0 a0_1 n0_1 c0_1 x0_2 a0_3 n0_3 c0_3 a0_4 n0_4 c0_4 w
theorem trees_Model.root0 (R : Value → World → Prop) (s0_0 : ByteArray) (a0_1 : Option Addr) (n0_1 : Nat) (c0_1 : Nat) (x0_2 : Int) (a0_3 : Option Addr) (n0_3 : Nat) (c0_3 : Nat) (a0_4 : Option Addr) (n0_4 : Nat) (c0_4 : Nat) (w : World) : fnN Go.Proofs.Try.prog Go.Proofs.Try.f33 trees_Model.an #[.agg #[.string s0_0, .slice a0_1 n0_1 c0_1, .int .i64 x0_2, .slice a0_3 n0_3 c0_3, .slice a0_4 n0_4 c0_4]] w R = trees_Model.g0 R (trees_Model.re8 R) s0_0 a0_1 n0_1 c0_1 x0_2 a0_3 n0_3 c0_3 a0_4 n0_4 c0_4 w := by kernel_rfl
theorem trees_Model.calls {R : Value → World → Prop} {s0_0 : ByteArray} {a0_1 : Option Addr} {n0_1 : Nat} {c0_1 : Nat} {x0_2 : Int} {a0_3 : Option Addr} {n0_3 : Nat} {c0_3 : Nat} {a0_4 : Option Addr} {n0_4 : Nat} {c0_4 : Nat} {w : World} (h : trees_Model R s0_0 a0_1 n0_1 c0_1 x0_2 a0_3 n0_3 c0_3 a0_4 n0_4 c0_4 w) : Go.E.CallsD Go.Proofs.Try.prog 33 #[.agg #[.string s0_0, .slice a0_1 n0_1 c0_1, .int .i64 x0_2, .slice a0_3 n0_3 c0_3, .slice a0_4 n0_4 c0_4]] w R := by
  refine callsD_of (n := trees_Model.an) M_follows M_sizes Go.Proofs.Try.func33 (by rfl) ?_
  rw [trees_Model.root0]
  unfold trees_Model at h
  rw [trees_Model.eq8 R] at h
  exact h
-- thicket/trees.Copy
def trees_Copy.an : An := (.mk none .nil (.mk none .nil (.mk none .nil (.mk none .nil (.mk none (.mk none .nil (.mk none (.mk (some [1, 2, 3, 20, 21, 22]) (.mk none .nil (.mk none .nil (.mk none (.mk none (.mk none .nil (.mk none .nil (.mk none (.mk none .nil (.mk none (.mk (some [1, 2, 3, 5, 20, 21, 22, 32, 33]) .nil .nil) .nil)) .nil))) .nil) .nil))) .nil) .nil)) .nil)))))
def trees_Copy.g0 (R : Value → World → Prop) (e12 : (Option Addr) → (Option Addr) → (Option Addr) → Nat → Nat → (Option Addr) → Nat → Nat → Int → Int → World → Prop) (s0_0 : ByteArray) (a0_1 : Option Addr) (n0_1 : Nat) (c0_1 : Nat) (x0_2 : Int) (a0_3 : Option Addr) (n0_3 : Nat) (c0_3 : Nat) (a0_4 : Option Addr) (n0_4 : Nat) (c0_4 : Nat) (w : World) : Prop :=
 nw (w.alloc (.cells #[.string s0_0, .slice a0_1 n0_1 c0_1, .int .i64 x0_2, .slice a0_3 n0_3 c0_3, .slice a0_4 n0_4 c0_4] 46)) fun w72 =>
 nw (w72.alloc (.cells #[.string ⟨#[]⟩, .slice none 0 0, .int .i64 0, .slice none 0 0, .slice none 0 0] 46)) fun w73 =>
 ∃ ya_74 : Option Addr, ∃ yn_74 : Nat, ∃ yc_74 : Nat, w73.cell? ((na w).add 1) = some (.slice ya_74 yn_74 yc_74) ∧
 (Go.E.CallsD Go.Proofs.Try.prog 58 #[.slice ya_74 yn_74 yc_74] w73 fun yv75 u76 =>
 ∃ ya_77 : Option Addr, ∃ yn_77 : Nat, ∃ yc_77 : Nat, yv75 = .slice ya_77 yn_77 yc_77 ∧
 (okSt u76 (((na w).add 1).add 0) ∧
 (nw (u76.setCell (((na w).add 1).add 0) (.slice ya_77 yn_77 yc_77)) fun w78 =>
 ∃ ya_79 : Option Addr, ∃ yn_79 : Nat, ∃ yc_79 : Nat, w78.cell? ((na w).add 3) = some (.slice ya_79 yn_79 yc_79) ∧
 (Go.E.CallsD Go.Proofs.Try.prog 51 #[.slice ya_79 yn_79 yc_79] w78 fun yv80 u81 =>
 ∃ ya_82 : Option Addr, ∃ yn_82 : Nat, ∃ yc_82 : Nat, yv80 = .slice ya_82 yn_82 yc_82 ∧
 (okSt u81 (((na w).add 3).add 0) ∧
 (nw (u81.setCell (((na w).add 3).add 0) (.slice ya_82 yn_82 yc_82)) fun w83 =>
 ∃ ya_84 : Option Addr, ∃ yn_84 : Nat, ∃ yc_84 : Nat, w83.cell? ((na w).add 4) = some (.slice ya_84 yn_84 yc_84) ∧
 (chk ((0 : Int) ≤ 0 ∧ 0 ≤ (yn_84 : Int) ∧ ((32 : Nat) : Int) * (yn_84 : Int) ≤ 281474976710656 ∧ (yn_84 : Int) ≤ 9223372036854775807)
 (nw (w83.alloc (.cells (madeCells #[.int .i64 0, .slice none 0 0] (((yn_84 : Int)).toNat * 2)) 33)) fun w85 =>
 ∃ ya_86 : Option Addr, ∃ yn_86 : Nat, ∃ yc_86 : Nat, w85.cell? ((na w).add 4) = some (.slice ya_86 yn_86 yc_86) ∧
 (e12 (some (na w)) (some (na w72)) (some (na w83)) 0 (((yn_84 : Int)).toNat) ya_86 yn_86 yc_86 (yn_86 : Int) 0 w85)))))))))
def trees_Copy.g12 (R : Value → World → Prop) (e29 : (Option Addr) → (Option Addr) → (Option Addr) → Nat → Nat → (Option Addr) → (Option Addr) → Nat → Nat → Int → Int → Int → Int → World → Prop) (p1 : Option Addr) (p2 : Option Addr) (a3 : Option Addr) (n3 : Nat) (c3 : Nat) (a20 : Option Addr) (n20 : Nat) (c20 : Nat) (x21 : Int) (x22 : Int) (w : World) : Prop :=
 onBool (decide (x22 < x21))
 (optN a20 fun q87 =>
 chk ((0 : Int) ≤ x22 ∧ x22 < (n20 : Int))
 (∃ yx_88 : Int, w.cell? ((q87.add (x22.toNat * 2)).add 0) = some (.int .i64 yx_88) ∧
 (∃ ya_89 : Option Addr, ∃ yn_89 : Nat, ∃ yc_89 : Nat, w.cell? ((q87.add (x22.toNat * 2)).add 1) = some (.slice ya_89 yn_89 yc_89) ∧
 (nw (w.alloc (.cells #[.int .i64 0, .slice none 0 0] 33)) fun w90 =>
 okSt w90 ((na w).add 0) ∧
 (nw (w90.setCell ((na w).add 0) (.int .i64 yx_88)) fun w91 =>
 okSt w91 ((na w).add 1) ∧
 (nw (w91.setCell ((na w).add 1) (.slice ya_89 yn_89 yc_89)) fun w92 =>
 ∃ ya_93 : Option Addr, ∃ yn_93 : Nat, ∃ yc_93 : Nat, w92.cell? ((na w).add 1) = some (.slice ya_93 yn_93 yc_93) ∧
 (Go.E.CallsD Go.Proofs.Try.prog 59 #[.slice ya_93 yn_93 yc_93] w92 fun yv94 u95 =>
 ∃ ya_96 : Option Addr, ∃ yn_96 : Nat, ∃ yc_96 : Nat, yv94 = .slice ya_96 yn_96 yc_96 ∧
 (okSt u95 (((na w).add 1).add 0) ∧
 (nw (u95.setCell (((na w).add 1).add 0) (.slice ya_96 yn_96 yc_96)) fun w97 =>
 ∃ ya_98 : Option Addr, ∃ yn_98 : Nat, ∃ yc_98 : Nat, w97.cell? ((na w).add 1) = some (.slice ya_98 yn_98 yc_98) ∧
 (e29 p1 p2 a3 n3 c3 (some (na w)) a20 n20 c20 x21 x22 (yn_98 : Int) 0 w97))))))))))
 (optN p1 fun q99 =>
 okSt w ((q99.add 4).add 0) ∧
 (nw (w.setCell ((q99.add 4).add 0) (.slice a3 n3 c3)) fun w100 =>
 optN p1 fun q101 =>
 ∃ ys_102 : ByteArray, w100.cell? (q101.add 0) = some (.string ys_102) ∧
 (∃ ya_103 : Option Addr, ∃ yn_103 : Nat, ∃ yc_103 : Nat, w100.cell? (q101.add 1) = some (.slice ya_103 yn_103 yc_103) ∧
 (∃ yx_104 : Int, w100.cell? (q101.add 2) = some (.int .i64 yx_104) ∧
 (∃ ya_105 : Option Addr, ∃ yn_105 : Nat, ∃ yc_105 : Nat, w100.cell? (q101.add 3) = some (.slice ya_105 yn_105 yc_105) ∧
 (∃ ya_106 : Option Addr, ∃ yn_106 : Nat, ∃ yc_106 : Nat, w100.cell? (q101.add 4) = some (.slice ya_106 yn_106 yc_106) ∧
 (optN p2 fun q107 =>
 okSt w100 (q107.add 0) ∧
 (nw (w100.setCell (q107.add 0) (.string ys_102)) fun w108 =>
 okSt w108 (q107.add 1) ∧
 (nw (w108.setCell (q107.add 1) (.slice ya_103 yn_103 yc_103)) fun w109 =>
 okSt w109 (q107.add 2) ∧
 (nw (w109.setCell (q107.add 2) (.int .i64 yx_104)) fun w110 =>
 okSt w110 (q107.add 3) ∧
 (nw (w110.setCell (q107.add 3) (.slice ya_105 yn_105 yc_105)) fun w111 =>
 okSt w111 (q107.add 4) ∧
 (nw (w111.setCell (q107.add 4) (.slice ya_106 yn_106 yc_106)) fun w112 =>
 optN p2 fun q113 =>
 ∃ ys_114 : ByteArray, w112.cell? (q113.add 0) = some (.string ys_114) ∧
 (∃ ya_115 : Option Addr, ∃ yn_115 : Nat, ∃ yc_115 : Nat, w112.cell? (q113.add 1) = some (.slice ya_115 yn_115 yc_115) ∧
 (∃ yx_116 : Int, w112.cell? (q113.add 2) = some (.int .i64 yx_116) ∧
 (∃ ya_117 : Option Addr, ∃ yn_117 : Nat, ∃ yc_117 : Nat, w112.cell? (q113.add 3) = some (.slice ya_117 yn_117 yc_117) ∧
 (∃ ya_118 : Option Addr, ∃ yn_118 : Nat, ∃ yc_118 : Nat, w112.cell? (q113.add 4) = some (.slice ya_118 yn_118 yc_118) ∧
 (R (.agg #[.string ys_114, .slice ya_115 yn_115 yc_115, .int .i64 yx_116, .slice ya_117 yn_117 yc_117, .slice ya_118 yn_118 yc_118]) w112)))))))))))))))))
def trees_Copy.g29 (R : Value → World → Prop) (b12 : (Option Addr) → (Option Addr) → (Option Addr) → Nat → Nat → (Option Addr) → Nat → Nat → Int → Int → World → Prop) (b29 : (Option Addr) → (Option Addr) → (Option Addr) → Nat → Nat → (Option Addr) → (Option Addr) → Nat → Nat → Int → Int → Int → Int → World → Prop) (p1 : Option Addr) (p2 : Option Addr) (a3 : Option Addr) (n3 : Nat) (c3 : Nat) (p5 : Option Addr) (a20 : Option Addr) (n20 : Nat) (c20 : Nat) (x21 : Int) (x22 : Int) (x32 : Int) (x33 : Int) (w : World) : Prop :=
 onBool (decide (x33 < x32))
 (∃ F119 : Nat → Value → World → Prop, (∀ i v u u', F119 i v u → Below u.heap.size u u' → F119 i v u') ∧
 (optN p5 fun q120 =>
 ∃ ya_121 : Option Addr, ∃ yn_121 : Nat, ∃ yc_121 : Nat, w.cell? (q120.add 1) = some (.slice ya_121 yn_121 yc_121) ∧
 (optN p5 fun q122 =>
 ∃ ya_123 : Option Addr, ∃ yn_123 : Nat, ∃ yc_123 : Nat, w.cell? (q122.add 1) = some (.slice ya_123 yn_123 yc_123) ∧
 (optN ya_123 fun q124 =>
 chk ((0 : Int) ≤ x33 ∧ x33 < (yn_123 : Int))
 (∃ ya_125 : Option Addr, ∃ yn_125 : Nat, ∃ yc_125 : Nat, w.cell? ((q124.add (x33.toNat * 8)).add 4) = some (.slice ya_125 yn_125 yc_125) ∧
 ((∀ u126 : World, Below w.heap.size w u126 → Go.E.CallsD Go.Proofs.Try.prog 60 #[.slice ya_125 yn_125 yc_125] u126 fun yv128 u129 => ∃ ya_127 : Option Addr, ∃ yn_127 : Nat, ∃ yc_127 : Nat, yv128 = .slice ya_127 yn_127 yc_127 ∧ F119 9 (.slice ya_127 yn_127 yc_127) u129 ∧ Below u126.heap.size u126 u129) ∧
 (∀ ya_130 : Option Addr, ∀ yn_130 : Nat, ∀ yc_130 : Nat, (∃ u, Below w.heap.size w u ∧ F119 9 (.slice ya_130 yn_130 yc_130) u) →
 optN ya_121 fun q131 =>
 chk ((0 : Int) ≤ x33 ∧ x33 < (yn_121 : Int))
 (∀ u132 : World, Below w.heap.size w u132 → F119 9 (.slice ya_130 yn_130 yc_130) u132 → 
 okSt u132 (((q131.add (x33.toNat * 8)).add 4).add 0) ∧
 (nw (u132.setCell (((q131.add (x33.toNat * 8)).add 4).add 0) (.slice ya_130 yn_130 yc_130)) fun w133 =>
 nv (IntKind.i64.wrap (x33 + 1)) fun t134 =>
 b29 p1 p2 a3 n3 c3 p5 a20 n20 c20 x21 x22 x32 t134 w133)))))))))
 (optN p5 fun q135 =>
 ∃ yx_136 : Int, w.cell? (q135.add 0) = some (.int .i64 yx_136) ∧
 (∃ ya_137 : Option Addr, ∃ yn_137 : Nat, ∃ yc_137 : Nat, w.cell? (q135.add 1) = some (.slice ya_137 yn_137 yc_137) ∧
 (nw (w.alloc (.cells #[.int .i64 yx_136, .slice ya_137 yn_137 yc_137] 33)) fun w138 =>
 rawN Go.Proofs.Try.prog (Builtin.append_ #[44, 44] 44 #[.slice a3 n3 c3, .slice (some (na w)) 1 1]) w138 fun yv139 u140 =>
 ∃ ya_141 : Option Addr, ∃ yn_141 : Nat, ∃ yc_141 : Nat, yv139 = .slice ya_141 yn_141 yc_141 ∧
 (nv (IntKind.i64.wrap (x22 + 1)) fun t142 =>
 b12 p1 p2 ya_141 yn_141 yc_141 a20 n20 c20 x21 t142 u140))))
def trees_Copy.q2 (R : Value → World → Prop) : Exit → Act → World → Prop := (fin Go.Proofs.Try.prog Go.Proofs.Try.f34 R)
def trees_Copy.q4 (R : Value → World → Prop) : Exit → Act → World → Prop := (trees_Copy.q2 R)
def trees_Copy.q6 (R : Value → World → Prop) : Exit → Act → World → Prop := (trees_Copy.q4 R)
def trees_Copy.q8 (R : Value → World → Prop) : Exit → Act → World → Prop := (trees_Copy.q6 R)
def trees_Copy.q9 (R : Value → World → Prop) : Exit → Act → World → Prop := Exit.then (startN none (codeN Go.Proofs.Try.prog (sub (codeOf Go.Proofs.Try.f34) [1, 1, 1, 1, 1]) (nsub trees_Copy.an [1, 1, 1, 1, 1]) (trees_Copy.q8 R))) (trees_Copy.q8 R)
def trees_Copy.q11 (R : Value → World → Prop) : Exit → Act → World → Prop := (trees_Copy.q9 R)
def trees_Copy.q12 (R : Value → World → Prop) : Exit → Act → World → Prop := Exit.inBlock 0 (trees_Copy.q11 R)
def trees_Copy.rl12 (R : Value → World → Prop) (k : Nat) (p1 : Option Addr) (p2 : Option Addr) (a3 : Option Addr) (n3 : Nat) (c3 : Nat) (a20 : Option Addr) (n20 : Nat) (c20 : Nat) (x21 : Int) (x22 : Int) (w : World) : Prop := loopN [1, 2, 3, 20, 21, 22] (codeN Go.Proofs.Try.prog (sub (codeOf Go.Proofs.Try.f34) [1, 1, 1, 1, 0, 1, 0, 0]) (nsub trees_Copy.an [1, 1, 1, 1, 0, 1, 0, 0])) (trees_Copy.q12 R) k ⟨#[undef, .pointer p1, .pointer p2, .slice a3 n3 c3, undef, undef, undef, undef, undef, undef, undef, undef, undef, undef, undef, undef, undef, undef, undef, undef, .slice a20 n20 c20, .int .i64 x21, .int .i64 x22, undef, undef, undef, undef, undef, undef, undef, undef, undef, undef, undef, undef, undef, undef, undef, undef, undef, undef, undef, undef, undef, undef, undef, undef, undef, undef, undef, undef, undef, undef, undef, undef, undef, undef], []⟩ w
def trees_Copy.re12 (R : Value → World → Prop) (p1 : Option Addr) (p2 : Option Addr) (a3 : Option Addr) (n3 : Nat) (c3 : Nat) (a20 : Option Addr) (n20 : Nat) (c20 : Nat) (x21 : Int) (x22 : Int) (w : World) : Prop := ∃ k, trees_Copy.rl12 R k p1 p2 a3 n3 c3 a20 n20 c20 x21 x22 w
def trees_Copy.q13 (R : Value → World → Prop) (k12 : Nat) : Exit → Act → World → Prop := Exit.then (fun a w => loopN [1, 2, 3, 20, 21, 22] (codeN Go.Proofs.Try.prog (sub (codeOf Go.Proofs.Try.f34) [1, 1, 1, 1, 0, 1, 0, 0]) (nsub trees_Copy.an [1, 1, 1, 1, 0, 1, 0, 0])) (trees_Copy.q12 R) k12 (clr [1, 2, 3, 20, 21, 22] a) w) (trees_Copy.q12 R)
def trees_Copy.q15 (R : Value → World → Prop) (k12 : Nat) : Exit → Act → World → Prop := (trees_Copy.q13 R k12)
def trees_Copy.q19 (R : Value → World → Prop) (k12 : Nat) : Exit → Act → World → Prop := (trees_Copy.q15 R k12)
def trees_Copy.q20 (R : Value → World → Prop) (k12 : Nat) : Exit → Act → World → Prop := Exit.then (startN none (codeN Go.Proofs.Try.prog (sub (codeOf Go.Proofs.Try.f34) [1, 1, 1, 1, 0, 1, 0, 0, 1, 1, 1]) (nsub trees_Copy.an [1, 1, 1, 1, 0, 1, 0, 0, 1, 1, 1]) (trees_Copy.q19 R k12))) (trees_Copy.q19 R k12)
def trees_Copy.q21 (R : Value → World → Prop) (k12 : Nat) : Exit → Act → World → Prop := Exit.inBlock 1 (trees_Copy.q20 R k12)
def trees_Copy.q23 (R : Value → World → Prop) (k12 : Nat) : Exit → Act → World → Prop := (trees_Copy.q21 R k12)
def trees_Copy.q25 (R : Value → World → Prop) (k12 : Nat) : Exit → Act → World → Prop := (trees_Copy.q23 R k12)
def trees_Copy.q26 (R : Value → World → Prop) (k12 : Nat) : Exit → Act → World → Prop := Exit.then (startN none (codeN Go.Proofs.Try.prog (sub (codeOf Go.Proofs.Try.f34) [1, 1, 1, 1, 0, 1, 0, 0, 1, 1, 0, 0, 1, 1, 1]) (nsub trees_Copy.an [1, 1, 1, 1, 0, 1, 0, 0, 1, 1, 0, 0, 1, 1, 1]) (trees_Copy.q25 R k12))) (trees_Copy.q25 R k12)
def trees_Copy.q28 (R : Value → World → Prop) (k12 : Nat) : Exit → Act → World → Prop := (trees_Copy.q26 R k12)
def trees_Copy.q29 (R : Value → World → Prop) (k12 : Nat) : Exit → Act → World → Prop := Exit.inBlock 2 (trees_Copy.q28 R k12)
def trees_Copy.rl29 (R : Value → World → Prop) (k12 : Nat) (k : Nat) (p1 : Option Addr) (p2 : Option Addr) (a3 : Option Addr) (n3 : Nat) (c3 : Nat) (p5 : Option Addr) (a20 : Option Addr) (n20 : Nat) (c20 : Nat) (x21 : Int) (x22 : Int) (x32 : Int) (x33 : Int) (w : World) : Prop := loopN [1, 2, 3, 5, 20, 21, 22, 32, 33] (codeN Go.Proofs.Try.prog (sub (codeOf Go.Proofs.Try.f34) [1, 1, 1, 1, 0, 1, 0, 0, 1, 1, 0, 0, 1, 1, 0, 1, 0, 0]) (nsub trees_Copy.an [1, 1, 1, 1, 0, 1, 0, 0, 1, 1, 0, 0, 1, 1, 0, 1, 0, 0])) (trees_Copy.q29 R k12) k ⟨#[undef, .pointer p1, .pointer p2, .slice a3 n3 c3, undef, .pointer p5, undef, undef, undef, undef, undef, undef, undef, undef, undef, undef, undef, undef, undef, undef, .slice a20 n20 c20, .int .i64 x21, .int .i64 x22, undef, undef, undef, undef, undef, undef, undef, undef, undef, .int .i64 x32, .int .i64 x33, undef, undef, undef, undef, undef, undef, undef, undef, undef, undef, undef, undef, undef, undef, undef, undef, undef, undef, undef, undef, undef, undef, undef], []⟩ w
def trees_Copy.re29 (R : Value → World → Prop) (k12 : Nat) (p1 : Option Addr) (p2 : Option Addr) (a3 : Option Addr) (n3 : Nat) (c3 : Nat) (p5 : Option Addr) (a20 : Option Addr) (n20 : Nat) (c20 : Nat) (x21 : Int) (x22 : Int) (x32 : Int) (x33 : Int) (w : World) : Prop := ∃ k, trees_Copy.rl29 R k12 k p1 p2 a3 n3 c3 p5 a20 n20 c20 x21 x22 x32 x33 w
def trees_Copy.l29 (R : Value → World → Prop) (b12 : (Option Addr) → (Option Addr) → (Option Addr) → Nat → Nat → (Option Addr) → Nat → Nat → Int → Int → World → Prop) : Nat → (Option Addr) → (Option Addr) → (Option Addr) → Nat → Nat → (Option Addr) → (Option Addr) → Nat → Nat → Int → Int → Int → Int → World → Prop
  | 0, _, _, _, _, _, _, _, _, _, _, _, _, _, _ => False
  | k + 1, p1, p2, a3, n3, c3, p5, a20, n20, c20, x21, x22, x32, x33, w => trees_Copy.g29 R b12 (trees_Copy.l29 R b12 k) p1 p2 a3 n3 c3 p5 a20 n20 c20 x21 x22 x32 x33 w
def trees_Copy.e29 (R : Value → World → Prop) (b12 : (Option Addr) → (Option Addr) → (Option Addr) → Nat → Nat → (Option Addr) → Nat → Nat → Int → Int → World → Prop) (p1 : Option Addr) (p2 : Option Addr) (a3 : Option Addr) (n3 : Nat) (c3 : Nat) (p5 : Option Addr) (a20 : Option Addr) (n20 : Nat) (c20 : Nat) (x21 : Int) (x22 : Int) (x32 : Int) (x33 : Int) (w : World) : Prop := ∃ k, trees_Copy.l29 R b12 k p1 p2 a3 n3 c3 p5 a20 n20 c20 x21 x22 x32 x33 w
theorem trees_Copy.s29 (R : Value → World → Prop) (k12 : Nat) (k : Nat) (p1 : Option Addr) (p2 : Option Addr) (a3 : Option Addr) (n3 : Nat) (c3 : Nat) (p5 : Option Addr) (a20 : Option Addr) (n20 : Nat) (c20 : Nat) (x21 : Int) (x22 : Int) (x32 : Int) (x33 : Int) (w : World) : trees_Copy.rl29 R k12 (k + 1) p1 p2 a3 n3 c3 p5 a20 n20 c20 x21 x22 x32 x33 w = ∀ _ : Nat → Value, trees_Copy.g29 R (trees_Copy.rl12 R k12) (trees_Copy.rl29 R k12 k) p1 p2 a3 n3 c3 p5 a20 n20 c20 x21 x22 x32 x33 w := by kernel_rfl
theorem trees_Copy.lq29 (R : Value → World → Prop) (k12 : Nat) (b12 : (Option Addr) → (Option Addr) → (Option Addr) → Nat → Nat → (Option Addr) → Nat → Nat → Int → Int → World → Prop) (hb12 : b12 = trees_Copy.rl12 R k12) : ∀ k, trees_Copy.l29 R b12 k = trees_Copy.rl29 R k12 k
  | 0 => by funext p1 p2 a3 n3 c3 p5 a20 n20 c20 x21 x22 x32 x33 w; first | rfl | kernel_rfl
  | k + 1 => by
    funext p1 p2 a3 n3 c3 p5 a20 n20 c20 x21 x22 x32 x33 w
    rw [trees_Copy.s29, forall_const]
    unfold trees_Copy.l29
    have ih := trees_Copy.lq29 R k12 b12 hb12 k
    subst hb12
    rw [ih]
    all_goals rfl
theorem trees_Copy.eq29 (R : Value → World → Prop) (k12 : Nat) (b12 : (Option Addr) → (Option Addr) → (Option Addr) → Nat → Nat → (Option Addr) → Nat → Nat → Int → Int → World → Prop) (hb12 : b12 = trees_Copy.rl12 R k12) : trees_Copy.e29 R b12 = trees_Copy.re29 R k12 := by
  funext p1 p2 a3 n3 c3 p5 a20 n20 c20 x21 x22 x32 x33 w
  unfold trees_Copy.e29 trees_Copy.re29
  simp only [trees_Copy.lq29 R k12 b12 hb12]
def trees_Copy.l12 (R : Value → World → Prop) : Nat → (Option Addr) → (Option Addr) → (Option Addr) → Nat → Nat → (Option Addr) → Nat → Nat → Int → Int → World → Prop
  | 0, _, _, _, _, _, _, _, _, _, _, _ => False
  | k + 1, p1, p2, a3, n3, c3, a20, n20, c20, x21, x22, w => trees_Copy.g12 R (trees_Copy.e29 R (trees_Copy.l12 R k)) p1 p2 a3 n3 c3 a20 n20 c20 x21 x22 w
def trees_Copy.e12 (R : Value → World → Prop) (p1 : Option Addr) (p2 : Option Addr) (a3 : Option Addr) (n3 : Nat) (c3 : Nat) (a20 : Option Addr) (n20 : Nat) (c20 : Nat) (x21 : Int) (x22 : Int) (w : World) : Prop := ∃ k, trees_Copy.l12 R k p1 p2 a3 n3 c3 a20 n20 c20 x21 x22 w
theorem trees_Copy.s12 (R : Value → World → Prop) (k : Nat) (p1 : Option Addr) (p2 : Option Addr) (a3 : Option Addr) (n3 : Nat) (c3 : Nat) (a20 : Option Addr) (n20 : Nat) (c20 : Nat) (x21 : Int) (x22 : Int) (w : World) : trees_Copy.rl12 R (k + 1) p1 p2 a3 n3 c3 a20 n20 c20 x21 x22 w = ∀ _ : Nat → Value, trees_Copy.g12 R (trees_Copy.re29 R k) p1 p2 a3 n3 c3 a20 n20 c20 x21 x22 w := by kernel_rfl
theorem trees_Copy.lq12 (R : Value → World → Prop) : ∀ k, trees_Copy.l12 R k = trees_Copy.rl12 R k
  | 0 => by funext p1 p2 a3 n3 c3 a20 n20 c20 x21 x22 w; first | rfl | kernel_rfl
  | k + 1 => by
    funext p1 p2 a3 n3 c3 a20 n20 c20 x21 x22 w
    rw [trees_Copy.s12, forall_const]
    unfold trees_Copy.l12
    have ih := trees_Copy.lq12 R k
    rw [trees_Copy.eq29 R k _ ih]
    all_goals rfl
theorem trees_Copy.eq12 (R : Value → World → Prop) : trees_Copy.e12 R = trees_Copy.re12 R := by
  funext p1 p2 a3 n3 c3 a20 n20 c20 x21 x22 w
  unfold trees_Copy.e12 trees_Copy.re12
  simp only [trees_Copy.lq12 R]
def trees_Copy (R : Value → World → Prop) (s0_0 : ByteArray) (a0_1 : Option Addr) (n0_1 : Nat) (c0_1 : Nat) (x0_2 : Int) (a0_3 : Option Addr) (n0_3 : Nat) (c0_3 : Nat) (a0_4 : Option Addr) (n0_4 : Nat) (c0_4 : Nat) (w : World) : Prop := trees_Copy.g0 R (trees_Copy.e12 R) s0_0 a0_1 n0_1 c0_1 x0_2 a0_3 n0_3 c0_3 a0_4 n0_4 c0_4 w
theorem trees_Copy.root0 (R : Value → World → Prop) (s0_0 : ByteArray) (a0_1 : Option Addr) (n0_1 : Nat) (c0_1 : Nat) (x0_2 : Int) (a0_3 : Option Addr) (n0_3 : Nat) (c0_3 : Nat) (a0_4 : Option Addr) (n0_4 : Nat) (c0_4 : Nat) (w : World) : fnN Go.Proofs.Try.prog Go.Proofs.Try.f34 trees_Copy.an #[.agg #[.string s0_0, .slice a0_1 n0_1 c0_1, .int .i64 x0_2, .slice a0_3 n0_3 c0_3, .slice a0_4 n0_4 c0_4]] w R = trees_Copy.g0 R (trees_Copy.re12 R) s0_0 a0_1 n0_1 c0_1 x0_2 a0_3 n0_3 c0_3 a0_4 n0_4 c0_4 w := by kernel_rfl
theorem trees_Copy.calls {R : Value → World → Prop} {s0_0 : ByteArray} {a0_1 : Option Addr} {n0_1 : Nat} {c0_1 : Nat} {x0_2 : Int} {a0_3 : Option Addr} {n0_3 : Nat} {c0_3 : Nat} {a0_4 : Option Addr} {n0_4 : Nat} {c0_4 : Nat} {w : World} (h : trees_Copy R s0_0 a0_1 n0_1 c0_1 x0_2 a0_3 n0_3 c0_3 a0_4 n0_4 c0_4 w) : Go.E.CallsD Go.Proofs.Try.prog 34 #[.agg #[.string s0_0, .slice a0_1 n0_1 c0_1, .int .i64 x0_2, .slice a0_3 n0_3 c0_3, .slice a0_4 n0_4 c0_4]] w R := by
  refine callsD_of (n := trees_Copy.an) M_follows M_sizes Go.Proofs.Try.func34 (by rfl) ?_
  rw [trees_Copy.root0]
  unfold trees_Copy at h
  rw [trees_Copy.eq12 R] at h
  exact h
end Go.Mir
