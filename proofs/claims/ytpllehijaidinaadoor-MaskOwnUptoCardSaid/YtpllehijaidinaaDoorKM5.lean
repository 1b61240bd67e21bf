/- Part of a proof of laws of the seat YtpllehijaidinaaDoor: functions' weakest preconditions, each checked by the kernel, contracts out of them, plain lemmas; no conditions. -/
import Derived.Test.YtpllehijaidinaaDoorKM0
set_option linter.unusedVariables false
set_option linter.unusedSimpArgs false
set_option linter.unusedVariables false
set_option maxRecDepth 100000
namespace Go.Mir
open Go Go.E Go.RowKit
-- thicket/thicketref05.Lowest
def thicketref05_Lowest.an : An := An.nil
def thicketref05_Lowest.g0 (R : Value → World → Prop) (a0 : Option Addr) (n0 : Nat) (c0 : Nat) (w : World) : Prop :=
 Go.E.CallsD Go.Proofs.Tryd.prog 63 #[.slice a0 n0 c0] w fun yv6 u7 =>
 ∃ ya_8 : Option Addr, ∃ yn_8 : Nat, ∃ yc_8 : Nat, yv6 = .slice ya_8 yn_8 yc_8 ∧
 (onBool ((yn_8 : Int) == 0)
 (R (.int .i64 (-1)) u7)
 (optN ya_8 fun q9 =>
 chk ((0 : Int) ≤ 0 ∧ 0 < (yn_8 : Int))
 (∃ yx_10 : Int, u7.cell? (q9.add 0) = some (.int .i64 yx_10) ∧
 (R (.int .i64 yx_10) u7))))
def thicketref05_Lowest (R : Value → World → Prop) (a0 : Option Addr) (n0 : Nat) (c0 : Nat) (w : World) : Prop := thicketref05_Lowest.g0 R a0 n0 c0 w
theorem thicketref05_Lowest.root0 (R : Value → World → Prop) (a0 : Option Addr) (n0 : Nat) (c0 : Nat) (w : World) : fnN Go.Proofs.Tryd.prog Go.Proofs.Tryd.f43 thicketref05_Lowest.an #[.slice a0 n0 c0] w R = thicketref05_Lowest.g0 R a0 n0 c0 w := by kernel_rfl
theorem thicketref05_Lowest.calls {R : Value → World → Prop} {a0 : Option Addr} {n0 : Nat} {c0 : Nat} {w : World} (h : thicketref05_Lowest R a0 n0 c0 w) : Go.E.CallsD Go.Proofs.Tryd.prog 43 #[.slice a0 n0 c0] w R := by
  refine callsD_of (n := thicketref05_Lowest.an) M_follows M_sizes Go.Proofs.Tryd.func43 (by rfl) ?_
  rw [thicketref05_Lowest.root0]
  unfold thicketref05_Lowest at h
  exact h
-- thicket/masks.Marks$1
def masks_Marks_1.an : An := An.nil
def masks_Marks_1.g0 (R : Value → World → Prop) (x0 : Int) (x1 : Int) (p2 : Addr) (p3 : Addr) (p4 : Addr) (w : World) : Prop :=
 ∃ ya_42 : Option Addr, ∃ yn_42 : Nat, ∃ yc_42 : Nat, w.cell? (p2.add 1) = some (.slice ya_42 yn_42 yc_42) ∧
 (optN ya_42 fun q43 =>
 chk ((0 : Int) ≤ x0 ∧ x0 < (yn_42 : Int))
 (∃ yx_44 : Int, w.cell? ((q43.add (x0.toNat * 8)).add 0) = some (.int .u8 yx_44) ∧
 (∃ yx_45 : Int, w.cell? ((q43.add (x0.toNat * 8)).add 1) = some (.int .i64 yx_45) ∧
 (∃ yx_46 : Int, w.cell? ((q43.add (x0.toNat * 8)).add 2) = some (.int .i64 yx_46) ∧
 (∃ yf_47 : Nat, w.cell? ((q43.add (x0.toNat * 8)).add 3) = some (.float .f64 yf_47) ∧
 (∃ ya_48 : Option Addr, ∃ yn_48 : Nat, ∃ yc_48 : Nat, w.cell? ((q43.add (x0.toNat * 8)).add 4) = some (.slice ya_48 yn_48 yc_48) ∧
 (∃ yx_49 : Int, w.cell? ((q43.add (x0.toNat * 8)).add 5) = some (.int .u8 yx_49) ∧
 (∃ yx_50 : Int, w.cell? ((q43.add (x0.toNat * 8)).add 6) = some (.int .i64 yx_50) ∧
 (∃ yx_51 : Int, w.cell? ((q43.add (x0.toNat * 8)).add 7) = some (.int .i64 yx_51) ∧
 (nw (w.alloc (.cells #[.int .u8 0, .int .i64 0, .int .i64 0, .float .f64 0, .slice none 0 0, .int .u8 0, .int .i64 0, .int .i64 0] 49)) fun w52 =>
 okSt w52 ((na w).add 0) ∧
 (nw (w52.setCell ((na w).add 0) (.int .u8 yx_44)) fun w53 =>
 okSt w53 ((na w).add 1) ∧
 (nw (w53.setCell ((na w).add 1) (.int .i64 yx_45)) fun w54 =>
 okSt w54 ((na w).add 2) ∧
 (nw (w54.setCell ((na w).add 2) (.int .i64 yx_46)) fun w55 =>
 okSt w55 ((na w).add 3) ∧
 (nw (w55.setCell ((na w).add 3) (.float .f64 yf_47)) fun w56 =>
 okSt w56 ((na w).add 4) ∧
 (nw (w56.setCell ((na w).add 4) (.slice ya_48 yn_48 yc_48)) fun w57 =>
 okSt w57 ((na w).add 5) ∧
 (nw (w57.setCell ((na w).add 5) (.int .u8 yx_49)) fun w58 =>
 okSt w58 ((na w).add 6) ∧
 (nw (w58.setCell ((na w).add 6) (.int .i64 yx_50)) fun w59 =>
 okSt w59 ((na w).add 7) ∧
 (nw (w59.setCell ((na w).add 7) (.int .i64 yx_51)) fun w60 =>
 ∃ yx_61 : Int, w60.cell? ((na w).add 0) = some (.int .u8 yx_61) ∧
 (onBool (yx_61 == 1)
 (nv (IntKind.i64.wrap (x1 + 1)) fun t62 =>
 R (.int .i64 t62) w60)
 (∃ ya_63 : Option Addr, ∃ yn_63 : Nat, ∃ yc_63 : Nat, w60.cell? p3 = some (.slice ya_63 yn_63 yc_63) ∧
 (∃ ya_64 : Option Addr, ∃ yn_64 : Nat, ∃ yc_64 : Nat, w60.cell? p3 = some (.slice ya_64 yn_64 yc_64) ∧
 (nw (w60.alloc (.cells #[.int .i64 x0, .int .i64 x1, .int .i64 0] 44)) fun w65 =>
 rawN Go.Proofs.Tryd.prog (Builtin.append_ #[26, 26] 26 #[.slice ya_64 yn_64 yc_64, .slice (some (na w60)) 1 1]) w65 fun yv66 u67 =>
 ∃ ya_68 : Option Addr, ∃ yn_68 : Nat, ∃ yc_68 : Nat, yv66 = .slice ya_68 yn_68 yc_68 ∧
 (okSt u67 (p3.add 0) ∧
 (nw (u67.setCell (p3.add 0) (.slice ya_68 yn_68 yc_68)) fun w69 =>
 ∃ yv_70 : Value, w69.cell? p4 = some (yv_70) ∧
 (∃ yx_71 : Int, w69.cell? ((na w).add 6) = some (.int .i64 yx_71) ∧
 (callF Go.Proofs.Tryd.prog yv_70 #[.int .i64 yx_71, .int .i64 x1] w69 fun yv72 u73 =>
 ∃ yx_74 : Int, yv72 = .int .i64 yx_74 ∧
 (∃ ya_75 : Option Addr, ∃ yn_75 : Nat, ∃ yc_75 : Nat, u73.cell? p3 = some (.slice ya_75 yn_75 yc_75) ∧
 (optN ya_75 fun q76 =>
 chk ((0 : Int) ≤ (yn_63 : Int) ∧ (yn_63 : Int) < (yn_75 : Int))
 (okSt u73 (((q76.add ((yn_63 : Int).toNat * 3)).add 2).add 0) ∧
 (nw (u73.setCell (((q76.add ((yn_63 : Int).toNat * 3)).add 2).add 0) (.int .i64 yx_74)) fun w77 =>
 ∃ yv_78 : Value, w77.cell? p4 = some (yv_78) ∧
 (∃ yx_79 : Int, w77.cell? ((na w).add 7) = some (.int .i64 yx_79) ∧
 (callF Go.Proofs.Tryd.prog yv_78 #[.int .i64 yx_79, .int .i64 yx_74] w77 fun yv80 u81 =>
 ∃ yx_82 : Int, yv80 = .int .i64 yx_82 ∧
 (R (.int .i64 yx_82) u81)))))))))))))))))))))))))))))))))
def masks_Marks_1 (R : Value → World → Prop) (x0 : Int) (x1 : Int) (p2 : Addr) (p3 : Addr) (p4 : Addr) (w : World) : Prop := masks_Marks_1.g0 R x0 x1 p2 p3 p4 w
theorem masks_Marks_1.root0 (R : Value → World → Prop) (x0 : Int) (x1 : Int) (p2 : Addr) (p3 : Addr) (p4 : Addr) (w : World) : fnN Go.Proofs.Tryd.prog Go.Proofs.Tryd.f44 masks_Marks_1.an #[.int .i64 x0, .int .i64 x1, .pointer (some p2), .pointer (some p3), .pointer (some p4)] w R = masks_Marks_1.g0 R x0 x1 p2 p3 p4 w := by kernel_rfl
theorem masks_Marks_1.calls {R : Value → World → Prop} {x0 : Int} {x1 : Int} {p2 : Addr} {p3 : Addr} {p4 : Addr} {w : World} (h : masks_Marks_1 R x0 x1 p2 p3 p4 w) : Go.E.CallsD Go.Proofs.Tryd.prog 44 #[.int .i64 x0, .int .i64 x1, .pointer (some p2), .pointer (some p3), .pointer (some p4)] w R := by
  refine callsD_of (n := masks_Marks_1.an) M_follows M_sizes Go.Proofs.Tryd.func44 (by rfl) ?_
  rw [masks_Marks_1.root0]
  unfold masks_Marks_1 at h
  exact h
-- thicket/trees.those
def trees_those.an : An := An.nil
def trees_those.g0 (R : Value → World → Prop) (x0_0 : Int) (a0_1 : Option Addr) (n0_1 : Nat) (c0_1 : Nat) (b1 : Bool) (w : World) : Prop :=
 nw (w.alloc (.cells #[.int .i64 x0_0, .slice a0_1 n0_1 c0_1] 24)) fun w44 =>
 nw (w44.alloc (.cells #[.bool b1] 4)) fun w45 =>
 ∃ yx_46 : Int, w45.cell? ((na w).add 0) = some (.int .i64 yx_46) ∧
 (∃ ya_47 : Option Addr, ∃ yn_47 : Nat, ∃ yc_47 : Nat, w45.cell? ((na w).add 1) = some (.slice ya_47 yn_47 yc_47) ∧
 (Go.E.CallsD Go.Proofs.Tryd.prog 64 #[.agg #[.int .i64 yx_46, .slice ya_47 yn_47 yc_47]] w45 fun yv48 u49 =>
 ∃ yx_50_0 : Int, ∃ yx_50_1 : Int, yv48 = .tuple #[.int .i64 yx_50_0, .int .i64 yx_50_1] ∧
 (onBool (yx_50_0 != 0)
 (R (.tuple #[.slice none 0 0, .int .i64 yx_50_0]) u49)
 (nw (u49.alloc (.cells #[.slice none 0 0] 40)) fun w51 =>
 ∃ yx_52 : Int, w51.cell? ((na w).add 0) = some (.int .i64 yx_52) ∧
 (∃ ya_53 : Option Addr, ∃ yn_53 : Nat, ∃ yc_53 : Nat, w51.cell? ((na w).add 1) = some (.slice ya_53 yn_53 yc_53) ∧
 (Go.E.CallsD Go.Proofs.Tryd.prog 65 #[.agg #[.int .i64 yx_52, .slice ya_53 yn_53 yc_53]] w51 fun yv54 u55 =>
 ∃ yv_56 : Value, yv54 = yv_56 ∧
 (rangeI Go.Proofs.Tryd.prog yv_56 u55
 (fun x57 x58 u60 K59 =>
 ∃ ya_63 : Option Addr, ∃ yn_63 : Nat, ∃ yc_63 : Nat, u60.cell? ((na w).add 1) = some (.slice ya_63 yn_63 yc_63) ∧
 (optN ya_63 fun q64 =>
 chk ((0 : Int) ≤ x57 ∧ x57 < (yn_63 : Int))
 (∃ yx_65 : Int, u60.cell? ((q64.add (x57.toNat * 8)).add 0) = some (.int .u8 yx_65) ∧
 (∃ yx_66 : Int, u60.cell? ((q64.add (x57.toNat * 8)).add 1) = some (.int .i64 yx_66) ∧
 (∃ yx_67 : Int, u60.cell? ((q64.add (x57.toNat * 8)).add 2) = some (.int .i64 yx_67) ∧
 (∃ yf_68 : Nat, u60.cell? ((q64.add (x57.toNat * 8)).add 3) = some (.float .f64 yf_68) ∧
 (∃ ya_69 : Option Addr, ∃ yn_69 : Nat, ∃ yc_69 : Nat, u60.cell? ((q64.add (x57.toNat * 8)).add 4) = some (.slice ya_69 yn_69 yc_69) ∧
 (∃ yx_70 : Int, u60.cell? ((q64.add (x57.toNat * 8)).add 5) = some (.int .u8 yx_70) ∧
 (∃ yx_71 : Int, u60.cell? ((q64.add (x57.toNat * 8)).add 6) = some (.int .i64 yx_71) ∧
 (∃ yx_72 : Int, u60.cell? ((q64.add (x57.toNat * 8)).add 7) = some (.int .i64 yx_72) ∧
 (∃ yb_73 : Bool, (∀ u74 : World, Below u60.heap.size u60 u74 → Go.E.CallsD Go.Proofs.Tryd.prog 66 #[.agg #[.int .u8 yx_65, .int .i64 yx_66, .int .i64 yx_67, .float .f64 yf_68, .slice ya_69 yn_69 yc_69, .int .u8 yx_70, .int .i64 yx_71, .int .i64 yx_72]] u74 fun yv75 u76 => yv75 = .bool yb_73 ∧ Below u60.heap.size u60 u76) ∧
 (∃ yb_77 : Bool, u60.cell? (na w44) = some (.bool yb_77) ∧
 (∀ u78 : World, Below u60.heap.size u60 u78 →
 onBool (yb_73 == yb_77)
 (∃ ya_79 : Option Addr, ∃ yn_79 : Nat, ∃ yc_79 : Nat, u78.cell? (na u49) = some (.slice ya_79 yn_79 yc_79) ∧
 (nw (u78.alloc (.cells #[.int .i64 x57] 3)) fun w80 =>
 rawN Go.Proofs.Tryd.prog (Builtin.append_ #[40, 40] 40 #[.slice ya_79 yn_79 yc_79, .slice (some (na u78)) 1 1]) w80 fun yv81 u82 =>
 ∃ ya_83 : Option Addr, ∃ yn_83 : Nat, ∃ yc_83 : Nat, yv81 = .slice ya_83 yn_83 yc_83 ∧
 (okSt u82 ((na u49).add 0) ∧
 (nw (u82.setCell ((na u49).add 0) (.slice ya_83 yn_83 yc_83)) fun w84 =>
 K59 w84))))
 (K59 u78))))))))))))))
 (fun D61 u62 =>
 ∃ ya_85 : Option Addr, ∃ yn_85 : Nat, ∃ yc_85 : Nat, u62.cell? (na u49) = some (.slice ya_85 yn_85 yc_85) ∧
 (u62.heap[D61]? = some (.deferred (some [])) ∧
 nw (u62.putObj D61 (.deferred none)) fun w86 =>
 R (.tuple #[.slice ya_85 yn_85 yc_85, .int .i64 0]) w86)))))))))
def trees_those (R : Value → World → Prop) (x0_0 : Int) (a0_1 : Option Addr) (n0_1 : Nat) (c0_1 : Nat) (b1 : Bool) (w : World) : Prop := trees_those.g0 R x0_0 a0_1 n0_1 c0_1 b1 w
theorem trees_those.root0 (R : Value → World → Prop) (x0_0 : Int) (a0_1 : Option Addr) (n0_1 : Nat) (c0_1 : Nat) (b1 : Bool) (w : World) : fnN Go.Proofs.Tryd.prog Go.Proofs.Tryd.f45 trees_those.an #[.agg #[.int .i64 x0_0, .slice a0_1 n0_1 c0_1], .bool b1] w R = trees_those.g0 R x0_0 a0_1 n0_1 c0_1 b1 w := by kernel_rfl
theorem trees_those.calls {R : Value → World → Prop} {x0_0 : Int} {a0_1 : Option Addr} {n0_1 : Nat} {c0_1 : Nat} {b1 : Bool} {w : World} (h : trees_those R x0_0 a0_1 n0_1 c0_1 b1 w) : Go.E.CallsD Go.Proofs.Tryd.prog 45 #[.agg #[.int .i64 x0_0, .slice a0_1 n0_1 c0_1], .bool b1] w R := by
  refine callsD_of (n := trees_those.an) M_follows M_sizes Go.Proofs.Tryd.func45 (by rfl) ?_
  rw [trees_those.root0]
  unfold trees_those at h
  exact h
-- thicket/thicketref07.Order
def thicketref07_Order.an : An := (.mk none .nil (.mk none .nil (.mk none .nil (.mk none (.mk none (.mk (some [1, 3, 4]) .nil .nil) .nil) .nil))))
def thicketref07_Order.g0 (R : Value → World → Prop) (e8 : (Option Addr) → (Option Addr) → Nat → Nat → (Option Addr) → Nat → Nat → World → Prop) (x0_0 : Int) (a0_1 : Option Addr) (n0_1 : Nat) (c0_1 : Nat) (w : World) : Prop :=
 nw (w.alloc (.cells #[.int .i64 x0_0, .slice a0_1 n0_1 c0_1] 24)) fun w38 =>
 nw (w38.alloc (.cells #[.int .i64 0] 3)) fun w39 =>
 e8 (some (na w)) none 0 0 (some (na w38)) 1 1 w39
def thicketref07_Order.g8 (R : Value → World → Prop) (b8 : (Option Addr) → (Option Addr) → Nat → Nat → (Option Addr) → Nat → Nat → World → Prop) (p1 : Option Addr) (a3 : Option Addr) (n3 : Nat) (c3 : Nat) (a4 : Option Addr) (n4 : Nat) (c4 : Nat) (w : World) : Prop :=
 onBool (decide ((n4 : Int) > 0))
 (nv (IntKind.i64.wrap ((n4 : Int) - 1)) fun t40 =>
 optN a4 fun q41 =>
 chk ((0 : Int) ≤ t40 ∧ t40 < (n4 : Int))
 (∃ yx_42 : Int, w.cell? (q41.add (t40.toNat * 1)) = some (.int .i64 yx_42) ∧
 (nv (IntKind.i64.wrap ((n4 : Int) - 1)) fun t43 =>
 chk ((0 : Int) ≤ t43 ∧ t43 ≤ (c4 : Int))
 (nw (w.alloc (.cells #[.int .i64 yx_42] 3)) fun w44 =>
 rawN Go.Proofs.Tryd.prog (Builtin.append_ #[40, 40] 40 #[.slice a3 n3 c3, .slice (some (na w)) 1 1]) w44 fun yv45 u46 =>
 ∃ ya_47 : Option Addr, ∃ yn_47 : Nat, ∃ yc_47 : Nat, yv45 = .slice ya_47 yn_47 yc_47 ∧
 (optN p1 fun q48 =>
 ∃ ya_49 : Option Addr, ∃ yn_49 : Nat, ∃ yc_49 : Nat, u46.cell? (q48.add 1) = some (.slice ya_49 yn_49 yc_49) ∧
 (optN ya_49 fun q50 =>
 chk ((0 : Int) ≤ yx_42 ∧ yx_42 < (yn_49 : Int))
 (∃ yx_51 : Int, u46.cell? ((q50.add (yx_42.toNat * 8)).add 0) = some (.int .u8 yx_51) ∧
 (∃ yx_52 : Int, u46.cell? ((q50.add (yx_42.toNat * 8)).add 1) = some (.int .i64 yx_52) ∧
 (∃ yx_53 : Int, u46.cell? ((q50.add (yx_42.toNat * 8)).add 2) = some (.int .i64 yx_53) ∧
 (∃ yf_54 : Nat, u46.cell? ((q50.add (yx_42.toNat * 8)).add 3) = some (.float .f64 yf_54) ∧
 (∃ ya_55 : Option Addr, ∃ yn_55 : Nat, ∃ yc_55 : Nat, u46.cell? ((q50.add (yx_42.toNat * 8)).add 4) = some (.slice ya_55 yn_55 yc_55) ∧
 (∃ yx_56 : Int, u46.cell? ((q50.add (yx_42.toNat * 8)).add 5) = some (.int .u8 yx_56) ∧
 (∃ yx_57 : Int, u46.cell? ((q50.add (yx_42.toNat * 8)).add 6) = some (.int .i64 yx_57) ∧
 (∃ yx_58 : Int, u46.cell? ((q50.add (yx_42.toNat * 8)).add 7) = some (.int .i64 yx_58) ∧
 (nw (u46.alloc (.cells #[.int .u8 0, .int .i64 0, .int .i64 0, .float .f64 0, .slice none 0 0, .int .u8 0, .int .i64 0, .int .i64 0] 49)) fun w59 =>
 okSt w59 ((na u46).add 0) ∧
 (nw (w59.setCell ((na u46).add 0) (.int .u8 yx_51)) fun w60 =>
 okSt w60 ((na u46).add 1) ∧
 (nw (w60.setCell ((na u46).add 1) (.int .i64 yx_52)) fun w61 =>
 okSt w61 ((na u46).add 2) ∧
 (nw (w61.setCell ((na u46).add 2) (.int .i64 yx_53)) fun w62 =>
 okSt w62 ((na u46).add 3) ∧
 (nw (w62.setCell ((na u46).add 3) (.float .f64 yf_54)) fun w63 =>
 okSt w63 ((na u46).add 4) ∧
 (nw (w63.setCell ((na u46).add 4) (.slice ya_55 yn_55 yc_55)) fun w64 =>
 okSt w64 ((na u46).add 5) ∧
 (nw (w64.setCell ((na u46).add 5) (.int .u8 yx_56)) fun w65 =>
 okSt w65 ((na u46).add 6) ∧
 (nw (w65.setCell ((na u46).add 6) (.int .i64 yx_57)) fun w66 =>
 okSt w66 ((na u46).add 7) ∧
 (nw (w66.setCell ((na u46).add 7) (.int .i64 yx_58)) fun w67 =>
 ∃ yx_68 : Int, w67.cell? ((na u46).add 0) = some (.int .u8 yx_68) ∧
 (onBool (yx_68 != 1)
 (∃ yx_69 : Int, w67.cell? ((na u46).add 7) = some (.int .i64 yx_69) ∧
 (∃ yx_70 : Int, w67.cell? ((na u46).add 6) = some (.int .i64 yx_70) ∧
 (nw (w67.alloc (.cells #[.int .i64 yx_69, .int .i64 yx_70] 3)) fun w71 =>
 rawN Go.Proofs.Tryd.prog (Builtin.append_ #[40, 40] 40 #[.slice (slA a4 c4 0 1) t43.toNat c4, .slice (some (na w67)) 2 2]) w71 fun yv72 u73 =>
 ∃ ya_74 : Option Addr, ∃ yn_74 : Nat, ∃ yc_74 : Nat, yv72 = .slice ya_74 yn_74 yc_74 ∧
 (b8 p1 ya_47 yn_47 yc_47 ya_74 yn_74 yc_74 u73))))
 (b8 p1 ya_47 yn_47 yc_47 (slA a4 c4 0 1) t43.toNat c4 w67)))))))))))))))))))))))))
 (R (.slice a3 n3 c3) w)
def thicketref07_Order.q2 (R : Value → World → Prop) : Exit → Act → World → Prop := (fin Go.Proofs.Tryd.prog Go.Proofs.Tryd.f46 R)
def thicketref07_Order.q4 (R : Value → World → Prop) : Exit → Act → World → Prop := (thicketref07_Order.q2 R)
def thicketref07_Order.q6 (R : Value → World → Prop) : Exit → Act → World → Prop := (thicketref07_Order.q4 R)
def thicketref07_Order.q7 (R : Value → World → Prop) : Exit → Act → World → Prop := Exit.then (startN none (codeN Go.Proofs.Tryd.prog (sub (codeOf Go.Proofs.Tryd.f46) [1, 1, 1, 1]) (nsub thicketref07_Order.an [1, 1, 1, 1]) (thicketref07_Order.q6 R))) (thicketref07_Order.q6 R)
def thicketref07_Order.q8 (R : Value → World → Prop) : Exit → Act → World → Prop := Exit.inBlock 0 (thicketref07_Order.q7 R)
def thicketref07_Order.rl8 (R : Value → World → Prop) (k : Nat) (p1 : Option Addr) (a3 : Option Addr) (n3 : Nat) (c3 : Nat) (a4 : Option Addr) (n4 : Nat) (c4 : Nat) (w : World) : Prop := loopN [1, 3, 4] (codeN Go.Proofs.Tryd.prog (sub (codeOf Go.Proofs.Tryd.f46) [1, 1, 1, 0, 0, 0]) (nsub thicketref07_Order.an [1, 1, 1, 0, 0, 0])) (thicketref07_Order.q8 R) k ⟨#[undef, .pointer p1, undef, .slice a3 n3 c3, .slice a4 n4 c4, undef, undef, undef, undef, undef, undef, undef, undef, undef, undef, undef, undef, undef, undef, undef, undef, undef, undef, undef, undef, undef, undef, undef, undef, undef, undef, undef, undef, undef, undef, undef, undef, undef, undef, undef, undef, undef], []⟩ w
def thicketref07_Order.re8 (R : Value → World → Prop) (p1 : Option Addr) (a3 : Option Addr) (n3 : Nat) (c3 : Nat) (a4 : Option Addr) (n4 : Nat) (c4 : Nat) (w : World) : Prop := ∃ k, thicketref07_Order.rl8 R k p1 a3 n3 c3 a4 n4 c4 w
def thicketref07_Order.l8 (R : Value → World → Prop) : Nat → (Option Addr) → (Option Addr) → Nat → Nat → (Option Addr) → Nat → Nat → World → Prop
  | 0, _, _, _, _, _, _, _, _ => False
  | k + 1, p1, a3, n3, c3, a4, n4, c4, w => thicketref07_Order.g8 R (thicketref07_Order.l8 R k) p1 a3 n3 c3 a4 n4 c4 w
def thicketref07_Order.e8 (R : Value → World → Prop) (p1 : Option Addr) (a3 : Option Addr) (n3 : Nat) (c3 : Nat) (a4 : Option Addr) (n4 : Nat) (c4 : Nat) (w : World) : Prop := ∃ k, thicketref07_Order.l8 R k p1 a3 n3 c3 a4 n4 c4 w
theorem thicketref07_Order.s8 (R : Value → World → Prop) (k : Nat) (p1 : Option Addr) (a3 : Option Addr) (n3 : Nat) (c3 : Nat) (a4 : Option Addr) (n4 : Nat) (c4 : Nat) (w : World) : thicketref07_Order.rl8 R (k + 1) p1 a3 n3 c3 a4 n4 c4 w = ∀ _ : Nat → Value, thicketref07_Order.g8 R (thicketref07_Order.rl8 R k) p1 a3 n3 c3 a4 n4 c4 w := by kernel_rfl
theorem thicketref07_Order.lq8 (R : Value → World → Prop) : ∀ k, thicketref07_Order.l8 R k = thicketref07_Order.rl8 R k
  | 0 => by funext p1 a3 n3 c3 a4 n4 c4 w; first | rfl | kernel_rfl
  | k + 1 => by
    funext p1 a3 n3 c3 a4 n4 c4 w
    rw [thicketref07_Order.s8, forall_const]
    unfold thicketref07_Order.l8
    have ih := thicketref07_Order.lq8 R k
    rw [ih]
    all_goals rfl
theorem thicketref07_Order.eq8 (R : Value → World → Prop) : thicketref07_Order.e8 R = thicketref07_Order.re8 R := by
  funext p1 a3 n3 c3 a4 n4 c4 w
  unfold thicketref07_Order.e8 thicketref07_Order.re8
  simp only [thicketref07_Order.lq8 R]
def thicketref07_Order (R : Value → World → Prop) (x0_0 : Int) (a0_1 : Option Addr) (n0_1 : Nat) (c0_1 : Nat) (w : World) : Prop := thicketref07_Order.g0 R (thicketref07_Order.e8 R) x0_0 a0_1 n0_1 c0_1 w
theorem thicketref07_Order.root0 (R : Value → World → Prop) (x0_0 : Int) (a0_1 : Option Addr) (n0_1 : Nat) (c0_1 : Nat) (w : World) : fnN Go.Proofs.Tryd.prog Go.Proofs.Tryd.f46 thicketref07_Order.an #[.agg #[.int .i64 x0_0, .slice a0_1 n0_1 c0_1]] w R = thicketref07_Order.g0 R (thicketref07_Order.re8 R) x0_0 a0_1 n0_1 c0_1 w := by kernel_rfl
theorem thicketref07_Order.calls {R : Value → World → Prop} {x0_0 : Int} {a0_1 : Option Addr} {n0_1 : Nat} {c0_1 : Nat} {w : World} (h : thicketref07_Order R x0_0 a0_1 n0_1 c0_1 w) : Go.E.CallsD Go.Proofs.Tryd.prog 46 #[.agg #[.int .i64 x0_0, .slice a0_1 n0_1 c0_1]] w R := by
  refine callsD_of (n := thicketref07_Order.an) M_follows M_sizes Go.Proofs.Tryd.func46 (by rfl) ?_
  rw [thicketref07_Order.root0]
  unfold thicketref07_Order at h
  rw [thicketref07_Order.eq8 R] at h
  exact h
-- thicket/thicketref13.below
def thicketref13_below.an : An := (.mk none .nil (.mk none .nil (.mk none .nil (.mk none (.mk none (.mk (some [2, 5, 6]) .nil .nil) .nil) .nil))))
def thicketref13_below.g0 (R : Value → World → Prop) (e8 : (Option Addr) → Int → (Option Addr) → Nat → Nat → World → Prop) (x0_0 : Int) (a0_1 : Option Addr) (n0_1 : Nat) (c0_1 : Nat) (x1 : Int) (w : World) : Prop :=
 nw (w.alloc (.cells #[.int .i64 x0_0, .slice a0_1 n0_1 c0_1] 24)) fun w38 =>
 nw (w38.alloc (.cells #[.int .i64 x1] 3)) fun w39 =>
 e8 (some (na w)) 0 (some (na w38)) 1 1 w39
def thicketref13_below.g8 (R : Value → World → Prop) (b8 : (Option Addr) → Int → (Option Addr) → Nat → Nat → World → Prop) (p2 : Option Addr) (x5 : Int) (a6 : Option Addr) (n6 : Nat) (c6 : Nat) (w : World) : Prop :=
 onBool (decide ((n6 : Int) > 0))
 (∃ F40 : Nat → Value → World → Prop, (∀ i v u u', F40 i v u → Below u.heap.size u u' → F40 i v u') ∧
 (optN p2 fun q41 =>
 ∃ ya_42 : Option Addr, ∃ yn_42 : Nat, ∃ yc_42 : Nat, w.cell? (q41.add 1) = some (.slice ya_42 yn_42 yc_42) ∧
 (nv (IntKind.i64.wrap ((n6 : Int) - 1)) fun t43 =>
 optN a6 fun q44 =>
 chk ((0 : Int) ≤ t43 ∧ t43 < (n6 : Int))
 (∃ yx_45 : Int, w.cell? (q44.add (t43.toNat * 1)) = some (.int .i64 yx_45) ∧
 (optN ya_42 fun q46 =>
 chk ((0 : Int) ≤ yx_45 ∧ yx_45 < (yn_42 : Int))
 (∃ yx_47 : Int, w.cell? ((q46.add (yx_45.toNat * 8)).add 0) = some (.int .u8 yx_47) ∧
 (∃ yx_48 : Int, w.cell? ((q46.add (yx_45.toNat * 8)).add 1) = some (.int .i64 yx_48) ∧
 (∃ yx_49 : Int, w.cell? ((q46.add (yx_45.toNat * 8)).add 2) = some (.int .i64 yx_49) ∧
 (∃ yf_50 : Nat, w.cell? ((q46.add (yx_45.toNat * 8)).add 3) = some (.float .f64 yf_50) ∧
 (∃ ya_51 : Option Addr, ∃ yn_51 : Nat, ∃ yc_51 : Nat, w.cell? ((q46.add (yx_45.toNat * 8)).add 4) = some (.slice ya_51 yn_51 yc_51) ∧
 (∃ yx_52 : Int, w.cell? ((q46.add (yx_45.toNat * 8)).add 5) = some (.int .u8 yx_52) ∧
 (∃ yx_53 : Int, w.cell? ((q46.add (yx_45.toNat * 8)).add 6) = some (.int .i64 yx_53) ∧
 (∃ yx_54 : Int, w.cell? ((q46.add (yx_45.toNat * 8)).add 7) = some (.int .i64 yx_54) ∧
 ((∀ u55 : World, Below w.heap.size w u55 → F40 10 (.pointer (some (na u55))) (u55.alloc (.cells #[.int .u8 0, .int .i64 0, .int .i64 0, .float .f64 0, .slice none 0 0, .int .u8 0, .int .i64 0, .int .i64 0] 49))) ∧
 (∀ q56 : Addr, (∃ u, Below w.heap.size w u ∧ F40 10 (.pointer (some q56)) u) →
 ∀ u57 : World, Below w.heap.size w u57 → F40 10 (.pointer (some q56)) u57 → 
 okSt u57 (q56.add 0) ∧
 (nw (u57.setCell (q56.add 0) (.int .u8 yx_47)) fun w58 =>
 okSt w58 (q56.add 1) ∧
 (nw (w58.setCell (q56.add 1) (.int .i64 yx_48)) fun w59 =>
 okSt w59 (q56.add 2) ∧
 (nw (w59.setCell (q56.add 2) (.int .i64 yx_49)) fun w60 =>
 okSt w60 (q56.add 3) ∧
 (nw (w60.setCell (q56.add 3) (.float .f64 yf_50)) fun w61 =>
 okSt w61 (q56.add 4) ∧
 (nw (w61.setCell (q56.add 4) (.slice ya_51 yn_51 yc_51)) fun w62 =>
 okSt w62 (q56.add 5) ∧
 (nw (w62.setCell (q56.add 5) (.int .u8 yx_52)) fun w63 =>
 okSt w63 (q56.add 6) ∧
 (nw (w63.setCell (q56.add 6) (.int .i64 yx_53)) fun w64 =>
 okSt w64 (q56.add 7) ∧
 (nw (w64.setCell (q56.add 7) (.int .i64 yx_54)) fun w65 =>
 nv (IntKind.i64.wrap ((n6 : Int) - 1)) fun t66 =>
 chk ((0 : Int) ≤ t66 ∧ t66 ≤ (c6 : Int))
 (∃ yx_67 : Int, w65.cell? (q56.add 0) = some (.int .u8 yx_67) ∧
 (onBool (yx_67 == 1)
 (nv (IntKind.i64.wrap (x5 + 1)) fun t68 =>
 b8 p2 t68 (slA a6 c6 0 1) t66.toNat c6 w65)
 (∃ yx_69 : Int, w65.cell? (q56.add 6) = some (.int .i64 yx_69) ∧
 (∃ yx_70 : Int, w65.cell? (q56.add 7) = some (.int .i64 yx_70) ∧
 (nw (w65.alloc (.cells #[.int .i64 yx_69, .int .i64 yx_70] 3)) fun w71 =>
 rawN Go.Proofs.Tryd.prog (Builtin.append_ #[40, 40] 40 #[.slice (slA a6 c6 0 1) t66.toNat c6, .slice (some (na w65)) 2 2]) w71 fun yv72 u73 =>
 ∃ ya_74 : Option Addr, ∃ yn_74 : Nat, ∃ yc_74 : Nat, yv72 = .slice ya_74 yn_74 yc_74 ∧
 (b8 p2 x5 ya_74 yn_74 yc_74 u73)))))))))))))))))))))))))))))
 (R (.int .i64 x5) w)
def thicketref13_below.q2 (R : Value → World → Prop) : Exit → Act → World → Prop := (fin Go.Proofs.Tryd.prog Go.Proofs.Tryd.f47 R)
def thicketref13_below.q4 (R : Value → World → Prop) : Exit → Act → World → Prop := (thicketref13_below.q2 R)
def thicketref13_below.q6 (R : Value → World → Prop) : Exit → Act → World → Prop := (thicketref13_below.q4 R)
def thicketref13_below.q7 (R : Value → World → Prop) : Exit → Act → World → Prop := Exit.then (startN none (codeN Go.Proofs.Tryd.prog (sub (codeOf Go.Proofs.Tryd.f47) [1, 1, 1, 1]) (nsub thicketref13_below.an [1, 1, 1, 1]) (thicketref13_below.q6 R))) (thicketref13_below.q6 R)
def thicketref13_below.q8 (R : Value → World → Prop) : Exit → Act → World → Prop := Exit.inBlock 0 (thicketref13_below.q7 R)
def thicketref13_below.rl8 (R : Value → World → Prop) (k : Nat) (p2 : Option Addr) (x5 : Int) (a6 : Option Addr) (n6 : Nat) (c6 : Nat) (w : World) : Prop := loopN [2, 5, 6] (codeN Go.Proofs.Tryd.prog (sub (codeOf Go.Proofs.Tryd.f47) [1, 1, 1, 0, 0, 0]) (nsub thicketref13_below.an [1, 1, 1, 0, 0, 0])) (thicketref13_below.q8 R) k ⟨#[undef, undef, .pointer p2, undef, undef, .int .i64 x5, .slice a6 n6 c6, undef, undef, undef, undef, undef, undef, undef, undef, undef, undef, undef, undef, undef, undef, undef, undef, undef, undef, undef, undef, undef, undef, undef, undef, undef, undef, undef, undef, undef, undef, undef, undef, undef, undef], []⟩ w
def thicketref13_below.re8 (R : Value → World → Prop) (p2 : Option Addr) (x5 : Int) (a6 : Option Addr) (n6 : Nat) (c6 : Nat) (w : World) : Prop := ∃ k, thicketref13_below.rl8 R k p2 x5 a6 n6 c6 w
def thicketref13_below.l8 (R : Value → World → Prop) : Nat → (Option Addr) → Int → (Option Addr) → Nat → Nat → World → Prop
  | 0, _, _, _, _, _, _ => False
  | k + 1, p2, x5, a6, n6, c6, w => thicketref13_below.g8 R (thicketref13_below.l8 R k) p2 x5 a6 n6 c6 w
def thicketref13_below.e8 (R : Value → World → Prop) (p2 : Option Addr) (x5 : Int) (a6 : Option Addr) (n6 : Nat) (c6 : Nat) (w : World) : Prop := ∃ k, thicketref13_below.l8 R k p2 x5 a6 n6 c6 w
theorem thicketref13_below.s8 (R : Value → World → Prop) (k : Nat) (p2 : Option Addr) (x5 : Int) (a6 : Option Addr) (n6 : Nat) (c6 : Nat) (w : World) : thicketref13_below.rl8 R (k + 1) p2 x5 a6 n6 c6 w = ∀ _ : Nat → Value, thicketref13_below.g8 R (thicketref13_below.rl8 R k) p2 x5 a6 n6 c6 w := by kernel_rfl
theorem thicketref13_below.lq8 (R : Value → World → Prop) : ∀ k, thicketref13_below.l8 R k = thicketref13_below.rl8 R k
  | 0 => by funext p2 x5 a6 n6 c6 w; first | rfl | kernel_rfl
  | k + 1 => by
    funext p2 x5 a6 n6 c6 w
    rw [thicketref13_below.s8, forall_const]
    unfold thicketref13_below.l8
    have ih := thicketref13_below.lq8 R k
    rw [ih]
    all_goals rfl
theorem thicketref13_below.eq8 (R : Value → World → Prop) : thicketref13_below.e8 R = thicketref13_below.re8 R := by
  funext p2 x5 a6 n6 c6 w
  unfold thicketref13_below.e8 thicketref13_below.re8
  simp only [thicketref13_below.lq8 R]
def thicketref13_below (R : Value → World → Prop) (x0_0 : Int) (a0_1 : Option Addr) (n0_1 : Nat) (c0_1 : Nat) (x1 : Int) (w : World) : Prop := thicketref13_below.g0 R (thicketref13_below.e8 R) x0_0 a0_1 n0_1 c0_1 x1 w
theorem thicketref13_below.root0 (R : Value → World → Prop) (x0_0 : Int) (a0_1 : Option Addr) (n0_1 : Nat) (c0_1 : Nat) (x1 : Int) (w : World) : fnN Go.Proofs.Tryd.prog Go.Proofs.Tryd.f47 thicketref13_below.an #[.agg #[.int .i64 x0_0, .slice a0_1 n0_1 c0_1], .int .i64 x1] w R = thicketref13_below.g0 R (thicketref13_below.re8 R) x0_0 a0_1 n0_1 c0_1 x1 w := by kernel_rfl
theorem thicketref13_below.calls {R : Value → World → Prop} {x0_0 : Int} {a0_1 : Option Addr} {n0_1 : Nat} {c0_1 : Nat} {x1 : Int} {w : World} (h : thicketref13_below R x0_0 a0_1 n0_1 c0_1 x1 w) : Go.E.CallsD Go.Proofs.Tryd.prog 47 #[.agg #[.int .i64 x0_0, .slice a0_1 n0_1 c0_1], .int .i64 x1] w R := by
  refine callsD_of (n := thicketref13_below.an) M_follows M_sizes Go.Proofs.Tryd.func47 (by rfl) ?_
  rw [thicketref13_below.root0]
  unfold thicketref13_below at h
  rw [thicketref13_below.eq8 R] at h
  exact h
-- thicket/thicketref05.Mask
def thicketref05_Mask.an : An := An.nil
def thicketref05_Mask.g0 (R : Value → World → Prop) (x0 : Int) (x1 : Int) (x2 : Int) (w : World) : Prop :=
 onBool (decide (x0 < 0))
 (R (.tuple #[.slice none 0 0, .int .i64 2]) w)
 (onBool (decide (x0 > 1048576))
 (R (.tuple #[.slice none 0 0, .int .i64 2]) w)
 (onBool (decide (x1 < 0))
 (R (.tuple #[.slice none 0 0, .int .i64 2]) w)
 (onBool (decide (x1 > x2))
 (R (.tuple #[.slice none 0 0, .int .i64 2]) w)
 (onBool (decide (x2 > x0))
 (R (.tuple #[.slice none 0 0, .int .i64 2]) w)
 (Go.E.CallsD Go.Proofs.Tryd.prog 60 #[.int .i64 x0, .int .i64 x1, .int .i64 x2, .bool false] w fun yv1 u2 =>
 ∃ ya_3 : Option Addr, ∃ yn_3 : Nat, ∃ yc_3 : Nat, yv1 = .slice ya_3 yn_3 yc_3 ∧
 (R (.tuple #[.slice ya_3 yn_3 yc_3, .int .i64 0]) u2))))))
def thicketref05_Mask (R : Value → World → Prop) (x0 : Int) (x1 : Int) (x2 : Int) (w : World) : Prop := thicketref05_Mask.g0 R x0 x1 x2 w
theorem thicketref05_Mask.root0 (R : Value → World → Prop) (x0 : Int) (x1 : Int) (x2 : Int) (w : World) : fnN Go.Proofs.Tryd.prog Go.Proofs.Tryd.f48 thicketref05_Mask.an #[.int .i64 x0, .int .i64 x1, .int .i64 x2] w R = thicketref05_Mask.g0 R x0 x1 x2 w := by kernel_rfl
theorem thicketref05_Mask.calls {R : Value → World → Prop} {x0 : Int} {x1 : Int} {x2 : Int} {w : World} (h : thicketref05_Mask R x0 x1 x2 w) : Go.E.CallsD Go.Proofs.Tryd.prog 48 #[.int .i64 x0, .int .i64 x1, .int .i64 x2] w R := by
  refine callsD_of (n := thicketref05_Mask.an) M_follows M_sizes Go.Proofs.Tryd.func48 (by rfl) ?_
  rw [thicketref05_Mask.root0]
  unfold thicketref05_Mask at h
  exact h
-- thicket/thicketref07.Ints
def thicketref07_Ints.an : An := (.mk none .nil (.mk none .nil (.mk none (.mk none .nil (.mk none (.mk (some [0, 1, 12, 13]) .nil .nil) .nil)) .nil)))
def thicketref07_Ints.g0 (R : Value → World → Prop) (e14 : (Option Addr) → Nat → Nat → (Option Addr) → Nat → Nat → Int → Int → World → Prop) (a0 : Option Addr) (n0 : Nat) (c0 : Nat) (a1 : Option Addr) (n1 : Nat) (c1 : Nat) (w : World) : Prop :=
 onBool ((n0 : Int) != (n1 : Int))
 (R (.bool false) w)
 (e14 a0 n0 c0 a1 n1 c1 (n0 : Int) 0 w)
def thicketref07_Ints.g14 (R : Value → World → Prop) (b14 : (Option Addr) → Nat → Nat → (Option Addr) → Nat → Nat → Int → Int → World → Prop) (a0 : Option Addr) (n0 : Nat) (c0 : Nat) (a1 : Option Addr) (n1 : Nat) (c1 : Nat) (x12 : Int) (x13 : Int) (w : World) : Prop :=
 onBool (decide (x13 < x12))
 (optN a0 fun q6 =>
 chk ((0 : Int) ≤ x13 ∧ x13 < (n0 : Int))
 (∃ yx_7 : Int, w.cell? (q6.add (x13.toNat * 1)) = some (.int .i64 yx_7) ∧
 (optN a1 fun q8 =>
 chk ((0 : Int) ≤ x13 ∧ x13 < (n1 : Int))
 (∃ yx_9 : Int, w.cell? (q8.add (x13.toNat * 1)) = some (.int .i64 yx_9) ∧
 (onBool (yx_7 != yx_9)
 (R (.bool false) w)
 (nv (IntKind.i64.wrap (x13 + 1)) fun t10 =>
 b14 a0 n0 c0 a1 n1 c1 x12 t10 w))))))
 (R (.bool true) w)
def thicketref07_Ints.q2 (R : Value → World → Prop) : Exit → Act → World → Prop := (fin Go.Proofs.Tryd.prog Go.Proofs.Tryd.f50 R)
def thicketref07_Ints.q10 (R : Value → World → Prop) : Exit → Act → World → Prop := (thicketref07_Ints.q2 R)
def thicketref07_Ints.q11 (R : Value → World → Prop) : Exit → Act → World → Prop := Exit.then (startN none (codeN Go.Proofs.Tryd.prog (sub (codeOf Go.Proofs.Tryd.f50) [1, 1, 1]) (nsub thicketref07_Ints.an [1, 1, 1]) (thicketref07_Ints.q10 R))) (thicketref07_Ints.q10 R)
def thicketref07_Ints.q13 (R : Value → World → Prop) : Exit → Act → World → Prop := (thicketref07_Ints.q11 R)
def thicketref07_Ints.q14 (R : Value → World → Prop) : Exit → Act → World → Prop := Exit.inBlock 0 (thicketref07_Ints.q13 R)
def thicketref07_Ints.rl14 (R : Value → World → Prop) (k : Nat) (a0 : Option Addr) (n0 : Nat) (c0 : Nat) (a1 : Option Addr) (n1 : Nat) (c1 : Nat) (x12 : Int) (x13 : Int) (w : World) : Prop := loopN [0, 1, 12, 13] (codeN Go.Proofs.Tryd.prog (sub (codeOf Go.Proofs.Tryd.f50) [1, 1, 0, 1, 0, 0]) (nsub thicketref07_Ints.an [1, 1, 0, 1, 0, 0])) (thicketref07_Ints.q14 R) k ⟨#[.slice a0 n0 c0, .slice a1 n1 c1, undef, undef, undef, undef, undef, undef, undef, undef, undef, undef, .int .i64 x12, .int .i64 x13, undef, undef, undef, undef, undef, undef, undef, undef, undef, undef, undef, undef], []⟩ w
def thicketref07_Ints.re14 (R : Value → World → Prop) (a0 : Option Addr) (n0 : Nat) (c0 : Nat) (a1 : Option Addr) (n1 : Nat) (c1 : Nat) (x12 : Int) (x13 : Int) (w : World) : Prop := ∃ k, thicketref07_Ints.rl14 R k a0 n0 c0 a1 n1 c1 x12 x13 w
def thicketref07_Ints.l14 (R : Value → World → Prop) : Nat → (Option Addr) → Nat → Nat → (Option Addr) → Nat → Nat → Int → Int → World → Prop
  | 0, _, _, _, _, _, _, _, _, _ => False
  | k + 1, a0, n0, c0, a1, n1, c1, x12, x13, w => thicketref07_Ints.g14 R (thicketref07_Ints.l14 R k) a0 n0 c0 a1 n1 c1 x12 x13 w
def thicketref07_Ints.e14 (R : Value → World → Prop) (a0 : Option Addr) (n0 : Nat) (c0 : Nat) (a1 : Option Addr) (n1 : Nat) (c1 : Nat) (x12 : Int) (x13 : Int) (w : World) : Prop := ∃ k, thicketref07_Ints.l14 R k a0 n0 c0 a1 n1 c1 x12 x13 w
theorem thicketref07_Ints.s14 (R : Value → World → Prop) (k : Nat) (a0 : Option Addr) (n0 : Nat) (c0 : Nat) (a1 : Option Addr) (n1 : Nat) (c1 : Nat) (x12 : Int) (x13 : Int) (w : World) : thicketref07_Ints.rl14 R (k + 1) a0 n0 c0 a1 n1 c1 x12 x13 w = ∀ _ : Nat → Value, thicketref07_Ints.g14 R (thicketref07_Ints.rl14 R k) a0 n0 c0 a1 n1 c1 x12 x13 w := by kernel_rfl
theorem thicketref07_Ints.lq14 (R : Value → World → Prop) : ∀ k, thicketref07_Ints.l14 R k = thicketref07_Ints.rl14 R k
  | 0 => by funext a0 n0 c0 a1 n1 c1 x12 x13 w; first | rfl | kernel_rfl
  | k + 1 => by
    funext a0 n0 c0 a1 n1 c1 x12 x13 w
    rw [thicketref07_Ints.s14, forall_const]
    unfold thicketref07_Ints.l14
    have ih := thicketref07_Ints.lq14 R k
    rw [ih]
    all_goals rfl
theorem thicketref07_Ints.eq14 (R : Value → World → Prop) : thicketref07_Ints.e14 R = thicketref07_Ints.re14 R := by
  funext a0 n0 c0 a1 n1 c1 x12 x13 w
  unfold thicketref07_Ints.e14 thicketref07_Ints.re14
  simp only [thicketref07_Ints.lq14 R]
def thicketref07_Ints (R : Value → World → Prop) (a0 : Option Addr) (n0 : Nat) (c0 : Nat) (a1 : Option Addr) (n1 : Nat) (c1 : Nat) (w : World) : Prop := thicketref07_Ints.g0 R (thicketref07_Ints.e14 R) a0 n0 c0 a1 n1 c1 w
theorem thicketref07_Ints.root0 (R : Value → World → Prop) (a0 : Option Addr) (n0 : Nat) (c0 : Nat) (a1 : Option Addr) (n1 : Nat) (c1 : Nat) (w : World) : fnN Go.Proofs.Tryd.prog Go.Proofs.Tryd.f50 thicketref07_Ints.an #[.slice a0 n0 c0, .slice a1 n1 c1] w R = thicketref07_Ints.g0 R (thicketref07_Ints.re14 R) a0 n0 c0 a1 n1 c1 w := by kernel_rfl
theorem thicketref07_Ints.calls {R : Value → World → Prop} {a0 : Option Addr} {n0 : Nat} {c0 : Nat} {a1 : Option Addr} {n1 : Nat} {c1 : Nat} {w : World} (h : thicketref07_Ints R a0 n0 c0 a1 n1 c1 w) : Go.E.CallsD Go.Proofs.Tryd.prog 50 #[.slice a0 n0 c0, .slice a1 n1 c1] w R := by
  refine callsD_of (n := thicketref07_Ints.an) M_follows M_sizes Go.Proofs.Tryd.func50 (by rfl) ?_
  rw [thicketref07_Ints.root0]
  unfold thicketref07_Ints at h
  rw [thicketref07_Ints.eq14 R] at h
  exact h
-- thicket/trees.Way
def trees_Way.an : An := (.mk none .nil (.mk none .nil (.mk none (.mk none .nil (.mk none (.mk (some [1, 2, 22, 23, 24]) .nil .nil) .nil)) (.mk none .nil (.mk none .nil (.mk none (.mk none (.mk (some [1, 2, 10, 11]) .nil .nil) .nil) .nil))))))
def trees_Way.g0 (R : Value → World → Prop) (e16 : (Option Addr) → Nat → Nat → (Option Addr) → (Option Addr) → Nat → Nat → Int → Int → World → Prop) (x0_0 : Int) (a0_1 : Option Addr) (n0_1 : Nat) (c0_1 : Nat) (a1 : Option Addr) (n1 : Nat) (c1 : Nat) (w : World) : Prop :=
 nw (w.alloc (.cells #[.int .i64 x0_0, .slice a0_1 n0_1 c0_1] 24)) fun w94 =>
 ∃ yx_95 : Int, w94.cell? ((na w).add 0) = some (.int .i64 yx_95) ∧
 (∃ ya_96 : Option Addr, ∃ yn_96 : Nat, ∃ yc_96 : Nat, w94.cell? ((na w).add 1) = some (.slice ya_96 yn_96 yc_96) ∧
 (Go.E.CallsD Go.Proofs.Tryd.prog 64 #[.agg #[.int .i64 yx_95, .slice ya_96 yn_96 yc_96]] w94 fun yv97 u98 =>
 ∃ yx_99_0 : Int, ∃ yx_99_1 : Int, yv97 = .tuple #[.int .i64 yx_99_0, .int .i64 yx_99_1] ∧
 (onBool (yx_99_0 != 0)
 (R (.tuple #[.slice none 0 0, .int .i64 yx_99_0]) u98)
 (∃ ya_100 : Option Addr, ∃ yn_100 : Nat, ∃ yc_100 : Nat, u98.cell? ((na w).add 1) = some (.slice ya_100 yn_100 yc_100) ∧
 (e16 a1 n1 c1 (some (na w)) ya_100 yn_100 yc_100 (yn_100 : Int) 0 u98)))))
def trees_Way.g16 (R : Value → World → Prop) (b16 : (Option Addr) → Nat → Nat → (Option Addr) → (Option Addr) → Nat → Nat → Int → Int → World → Prop) (e41 : (Option Addr) → Nat → Nat → (Option Addr) → Int → (Option Addr) → Nat → Nat → World → Prop) (a1 : Option Addr) (n1 : Nat) (c1 : Nat) (p2 : Option Addr) (a22 : Option Addr) (n22 : Nat) (c22 : Nat) (x23 : Int) (x24 : Int) (w : World) : Prop :=
 onBool (decide (x24 < x23))
 (optN a22 fun q101 =>
 chk ((0 : Int) ≤ x24 ∧ x24 < (n22 : Int))
 (∃ yx_102 : Int, w.cell? ((q101.add (x24.toNat * 8)).add 0) = some (.int .u8 yx_102) ∧
 (∃ yx_103 : Int, w.cell? ((q101.add (x24.toNat * 8)).add 1) = some (.int .i64 yx_103) ∧
 (∃ yx_104 : Int, w.cell? ((q101.add (x24.toNat * 8)).add 2) = some (.int .i64 yx_104) ∧
 (∃ yf_105 : Nat, w.cell? ((q101.add (x24.toNat * 8)).add 3) = some (.float .f64 yf_105) ∧
 (∃ ya_106 : Option Addr, ∃ yn_106 : Nat, ∃ yc_106 : Nat, w.cell? ((q101.add (x24.toNat * 8)).add 4) = some (.slice ya_106 yn_106 yc_106) ∧
 (∃ yx_107 : Int, w.cell? ((q101.add (x24.toNat * 8)).add 5) = some (.int .u8 yx_107) ∧
 (∃ yx_108 : Int, w.cell? ((q101.add (x24.toNat * 8)).add 6) = some (.int .i64 yx_108) ∧
 (∃ yx_109 : Int, w.cell? ((q101.add (x24.toNat * 8)).add 7) = some (.int .i64 yx_109) ∧
 (nw (w.alloc (.cells #[.int .u8 0, .int .i64 0, .int .i64 0, .float .f64 0, .slice none 0 0, .int .u8 0, .int .i64 0, .int .i64 0] 49)) fun w110 =>
 okSt w110 ((na w).add 0) ∧
 (nw (w110.setCell ((na w).add 0) (.int .u8 yx_102)) fun w111 =>
 okSt w111 ((na w).add 1) ∧
 (nw (w111.setCell ((na w).add 1) (.int .i64 yx_103)) fun w112 =>
 okSt w112 ((na w).add 2) ∧
 (nw (w112.setCell ((na w).add 2) (.int .i64 yx_104)) fun w113 =>
 okSt w113 ((na w).add 3) ∧
 (nw (w113.setCell ((na w).add 3) (.float .f64 yf_105)) fun w114 =>
 okSt w114 ((na w).add 4) ∧
 (nw (w114.setCell ((na w).add 4) (.slice ya_106 yn_106 yc_106)) fun w115 =>
 okSt w115 ((na w).add 5) ∧
 (nw (w115.setCell ((na w).add 5) (.int .u8 yx_107)) fun w116 =>
 okSt w116 ((na w).add 6) ∧
 (nw (w116.setCell ((na w).add 6) (.int .i64 yx_108)) fun w117 =>
 okSt w117 ((na w).add 7) ∧
 (nw (w117.setCell ((na w).add 7) (.int .i64 yx_109)) fun w118 =>
 ∃ yx_119 : Int, w118.cell? ((na w).add 0) = some (.int .u8 yx_119) ∧
 (∃ yx_120 : Int, w118.cell? ((na w).add 1) = some (.int .i64 yx_120) ∧
 (∃ yx_121 : Int, w118.cell? ((na w).add 2) = some (.int .i64 yx_121) ∧
 (∃ yf_122 : Nat, w118.cell? ((na w).add 3) = some (.float .f64 yf_122) ∧
 (∃ ya_123 : Option Addr, ∃ yn_123 : Nat, ∃ yc_123 : Nat, w118.cell? ((na w).add 4) = some (.slice ya_123 yn_123 yc_123) ∧
 (∃ yx_124 : Int, w118.cell? ((na w).add 5) = some (.int .u8 yx_124) ∧
 (∃ yx_125 : Int, w118.cell? ((na w).add 6) = some (.int .i64 yx_125) ∧
 (∃ yx_126 : Int, w118.cell? ((na w).add 7) = some (.int .i64 yx_126) ∧
 (Go.E.CallsD Go.Proofs.Tryd.prog 66 #[.agg #[.int .u8 yx_119, .int .i64 yx_120, .int .i64 yx_121, .float .f64 yf_122, .slice ya_123 yn_123 yc_123, .int .u8 yx_124, .int .i64 yx_125, .int .i64 yx_126]] w118 fun yv127 u128 =>
 ∃ yb_129 : Bool, yv127 = .bool yb_129 ∧
 (onBool yb_129
 (∃ yx_130 : Int, u128.cell? ((na w).add 2) = some (.int .i64 yx_130) ∧
 (onBool (decide (yx_130 ≥ (n1 : Int)))
 (R (.tuple #[.slice none 0 0, .int .i64 72]) u128)
 (nv (IntKind.i64.wrap (x24 + 1)) fun t131 =>
 b16 a1 n1 c1 p2 a22 n22 c22 x23 t131 u128)))
 (nv (IntKind.i64.wrap (x24 + 1)) fun t132 =>
 b16 a1 n1 c1 p2 a22 n22 c22 x23 t132 u128))))))))))))))))))))))))))))
 (nw (w.alloc (.cells #[.int .i64 0] 3)) fun w133 =>
 e41 a1 n1 c1 p2 0 (some (na w)) 1 1 w133)
def trees_Way.g41 (R : Value → World → Prop) (b41 : (Option Addr) → Nat → Nat → (Option Addr) → Int → (Option Addr) → Nat → Nat → World → Prop) (a1 : Option Addr) (n1 : Nat) (c1 : Nat) (p2 : Option Addr) (x10 : Int) (a11 : Option Addr) (n11 : Nat) (c11 : Nat) (w : World) : Prop :=
 optN p2 fun q134 =>
 ∃ ya_135 : Option Addr, ∃ yn_135 : Nat, ∃ yc_135 : Nat, w.cell? (q134.add 1) = some (.slice ya_135 yn_135 yc_135) ∧
 (optN ya_135 fun q136 =>
 chk ((0 : Int) ≤ x10 ∧ x10 < (yn_135 : Int))
 (∃ yx_137 : Int, w.cell? ((q136.add (x10.toNat * 8)).add 0) = some (.int .u8 yx_137) ∧
 (∃ yx_138 : Int, w.cell? ((q136.add (x10.toNat * 8)).add 1) = some (.int .i64 yx_138) ∧
 (∃ yx_139 : Int, w.cell? ((q136.add (x10.toNat * 8)).add 2) = some (.int .i64 yx_139) ∧
 (∃ yf_140 : Nat, w.cell? ((q136.add (x10.toNat * 8)).add 3) = some (.float .f64 yf_140) ∧
 (∃ ya_141 : Option Addr, ∃ yn_141 : Nat, ∃ yc_141 : Nat, w.cell? ((q136.add (x10.toNat * 8)).add 4) = some (.slice ya_141 yn_141 yc_141) ∧
 (∃ yx_142 : Int, w.cell? ((q136.add (x10.toNat * 8)).add 5) = some (.int .u8 yx_142) ∧
 (∃ yx_143 : Int, w.cell? ((q136.add (x10.toNat * 8)).add 6) = some (.int .i64 yx_143) ∧
 (∃ yx_144 : Int, w.cell? ((q136.add (x10.toNat * 8)).add 7) = some (.int .i64 yx_144) ∧
 (Go.E.CallsD Go.Proofs.Tryd.prog 66 #[.agg #[.int .u8 yx_137, .int .i64 yx_138, .int .i64 yx_139, .float .f64 yf_140, .slice ya_141 yn_141 yc_141, .int .u8 yx_142, .int .i64 yx_143, .int .i64 yx_144]] w fun yv145 u146 =>
 ∃ yb_147 : Bool, yv145 = .bool yb_147 ∧
 (onBool yb_147
 (optN p2 fun q148 =>
 ∃ ya_149 : Option Addr, ∃ yn_149 : Nat, ∃ yc_149 : Nat, u146.cell? (q148.add 1) = some (.slice ya_149 yn_149 yc_149) ∧
 (optN ya_149 fun q150 =>
 chk ((0 : Int) ≤ x10 ∧ x10 < (yn_149 : Int))
 (∃ yx_151 : Int, u146.cell? ((q150.add (x10.toNat * 8)).add 0) = some (.int .u8 yx_151) ∧
 (∃ yx_152 : Int, u146.cell? ((q150.add (x10.toNat * 8)).add 1) = some (.int .i64 yx_152) ∧
 (∃ yx_153 : Int, u146.cell? ((q150.add (x10.toNat * 8)).add 2) = some (.int .i64 yx_153) ∧
 (∃ yf_154 : Nat, u146.cell? ((q150.add (x10.toNat * 8)).add 3) = some (.float .f64 yf_154) ∧
 (∃ ya_155 : Option Addr, ∃ yn_155 : Nat, ∃ yc_155 : Nat, u146.cell? ((q150.add (x10.toNat * 8)).add 4) = some (.slice ya_155 yn_155 yc_155) ∧
 (∃ yx_156 : Int, u146.cell? ((q150.add (x10.toNat * 8)).add 5) = some (.int .u8 yx_156) ∧
 (∃ yx_157 : Int, u146.cell? ((q150.add (x10.toNat * 8)).add 6) = some (.int .i64 yx_157) ∧
 (∃ yx_158 : Int, u146.cell? ((q150.add (x10.toNat * 8)).add 7) = some (.int .i64 yx_158) ∧
 (nw (u146.alloc (.cells #[.int .u8 0, .int .i64 0, .int .i64 0, .float .f64 0, .slice none 0 0, .int .u8 0, .int .i64 0, .int .i64 0] 49)) fun w159 =>
 okSt w159 ((na u146).add 0) ∧
 (nw (w159.setCell ((na u146).add 0) (.int .u8 yx_151)) fun w160 =>
 okSt w160 ((na u146).add 1) ∧
 (nw (w160.setCell ((na u146).add 1) (.int .i64 yx_152)) fun w161 =>
 okSt w161 ((na u146).add 2) ∧
 (nw (w161.setCell ((na u146).add 2) (.int .i64 yx_153)) fun w162 =>
 okSt w162 ((na u146).add 3) ∧
 (nw (w162.setCell ((na u146).add 3) (.float .f64 yf_154)) fun w163 =>
 okSt w163 ((na u146).add 4) ∧
 (nw (w163.setCell ((na u146).add 4) (.slice ya_155 yn_155 yc_155)) fun w164 =>
 okSt w164 ((na u146).add 5) ∧
 (nw (w164.setCell ((na u146).add 5) (.int .u8 yx_156)) fun w165 =>
 okSt w165 ((na u146).add 6) ∧
 (nw (w165.setCell ((na u146).add 6) (.int .i64 yx_157)) fun w166 =>
 okSt w166 ((na u146).add 7) ∧
 (nw (w166.setCell ((na u146).add 7) (.int .i64 yx_158)) fun w167 =>
 ∃ yx_168 : Int, w167.cell? ((na u146).add 7) = some (.int .i64 yx_168) ∧
 (∃ yx_169 : Int, w167.cell? ((na u146).add 0) = some (.int .u8 yx_169) ∧
 (∃ yx_170 : Int, w167.cell? ((na u146).add 1) = some (.int .i64 yx_170) ∧
 (∃ yx_171 : Int, w167.cell? ((na u146).add 2) = some (.int .i64 yx_171) ∧
 (∃ yf_172 : Nat, w167.cell? ((na u146).add 3) = some (.float .f64 yf_172) ∧
 (∃ ya_173 : Option Addr, ∃ yn_173 : Nat, ∃ yc_173 : Nat, w167.cell? ((na u146).add 4) = some (.slice ya_173 yn_173 yc_173) ∧
 (∃ yx_174 : Int, w167.cell? ((na u146).add 5) = some (.int .u8 yx_174) ∧
 (∃ yx_175 : Int, w167.cell? ((na u146).add 6) = some (.int .i64 yx_175) ∧
 (∃ yx_176 : Int, w167.cell? ((na u146).add 7) = some (.int .i64 yx_176) ∧
 (∃ yx_177 : Int, w167.cell? ((na u146).add 2) = some (.int .i64 yx_177) ∧
 (optN a1 fun q178 =>
 chk ((0 : Int) ≤ yx_177 ∧ yx_177 < (n1 : Int))
 (∃ yf_179 : Nat, w167.cell? (q178.add (yx_177.toNat * 1)) = some (.float .f64 yf_179) ∧
 (Go.E.CallsD Go.Proofs.Tryd.prog 34 #[.agg #[.int .u8 yx_169, .int .i64 yx_170, .int .i64 yx_171, .float .f64 yf_172, .slice ya_173 yn_173 yc_173, .int .u8 yx_174, .int .i64 yx_175, .int .i64 yx_176], .float .f64 yf_179] w167 fun yv180 u181 =>
 ∃ yx_182 : Int, yv180 = .int .u8 yx_182 ∧
 (onBool (yx_182 == 1)
 (∃ yx_183 : Int, u181.cell? ((na u146).add 6) = some (.int .i64 yx_183) ∧
 (nw (u181.alloc (.cells #[.int .i64 yx_183] 3)) fun w184 =>
 rawN Go.Proofs.Tryd.prog (Builtin.append_ #[40, 40] 40 #[.slice a11 n11 c11, .slice (some (na u181)) 1 1]) w184 fun yv185 u186 =>
 ∃ ya_187 : Option Addr, ∃ yn_187 : Nat, ∃ yc_187 : Nat, yv185 = .slice ya_187 yn_187 yc_187 ∧
 (b41 a1 n1 c1 p2 yx_183 ya_187 yn_187 yc_187 u186)))
 (nw (u181.alloc (.cells #[.int .i64 yx_168] 3)) fun w188 =>
 rawN Go.Proofs.Tryd.prog (Builtin.append_ #[40, 40] 40 #[.slice a11 n11 c11, .slice (some (na u181)) 1 1]) w188 fun yv189 u190 =>
 ∃ ya_191 : Option Addr, ∃ yn_191 : Nat, ∃ yc_191 : Nat, yv189 = .slice ya_191 yn_191 yc_191 ∧
 (b41 a1 n1 c1 p2 yx_168 ya_191 yn_191 yc_191 u190))))))))))))))))))))))))))))))))))
 (R (.tuple #[.slice a11 n11 c11, .int .i64 0]) u146))))))))))))
def trees_Way.q2 (R : Value → World → Prop) : Exit → Act → World → Prop := (fin Go.Proofs.Tryd.prog Go.Proofs.Tryd.f51 R)
def trees_Way.q12 (R : Value → World → Prop) : Exit → Act → World → Prop := (trees_Way.q2 R)
def trees_Way.q13 (R : Value → World → Prop) : Exit → Act → World → Prop := Exit.then (startN none (codeN Go.Proofs.Tryd.prog (sub (codeOf Go.Proofs.Tryd.f51) [1, 1, 1]) (nsub trees_Way.an [1, 1, 1]) (trees_Way.q12 R))) (trees_Way.q12 R)
def trees_Way.q15 (R : Value → World → Prop) : Exit → Act → World → Prop := (trees_Way.q13 R)
def trees_Way.q16 (R : Value → World → Prop) : Exit → Act → World → Prop := Exit.inBlock 0 (trees_Way.q15 R)
def trees_Way.rl16 (R : Value → World → Prop) (k : Nat) (a1 : Option Addr) (n1 : Nat) (c1 : Nat) (p2 : Option Addr) (a22 : Option Addr) (n22 : Nat) (c22 : Nat) (x23 : Int) (x24 : Int) (w : World) : Prop := loopN [1, 2, 22, 23, 24] (codeN Go.Proofs.Tryd.prog (sub (codeOf Go.Proofs.Tryd.f51) [1, 1, 0, 1, 0, 0]) (nsub trees_Way.an [1, 1, 0, 1, 0, 0])) (trees_Way.q16 R) k ⟨#[undef, .slice a1 n1 c1, .pointer p2, undef, undef, undef, undef, undef, undef, undef, undef, undef, undef, undef, undef, undef, undef, undef, undef, undef, undef, undef, .slice a22 n22 c22, .int .i64 x23, .int .i64 x24, undef, undef, undef, undef, undef, undef, undef, undef, undef, undef, undef, undef, undef, undef, undef, undef, undef, undef, undef, undef, undef, undef, undef, undef, undef, undef, undef, undef, undef, undef, undef, undef, undef, undef, undef, undef, undef, undef, undef, undef, undef, undef], []⟩ w
def trees_Way.re16 (R : Value → World → Prop) (a1 : Option Addr) (n1 : Nat) (c1 : Nat) (p2 : Option Addr) (a22 : Option Addr) (n22 : Nat) (c22 : Nat) (x23 : Int) (x24 : Int) (w : World) : Prop := ∃ k, trees_Way.rl16 R k a1 n1 c1 p2 a22 n22 c22 x23 x24 w
def trees_Way.q35 (R : Value → World → Prop) : Exit → Act → World → Prop := (trees_Way.q12 R)
def trees_Way.q37 (R : Value → World → Prop) : Exit → Act → World → Prop := (trees_Way.q35 R)
def trees_Way.q39 (R : Value → World → Prop) : Exit → Act → World → Prop := (trees_Way.q37 R)
def trees_Way.q40 (R : Value → World → Prop) : Exit → Act → World → Prop := Exit.then (startN none (codeN Go.Proofs.Tryd.prog (sub (codeOf Go.Proofs.Tryd.f51) [1, 1, 1, 1, 1, 1]) (nsub trees_Way.an [1, 1, 1, 1, 1, 1]) (trees_Way.q39 R))) (trees_Way.q39 R)
def trees_Way.q41 (R : Value → World → Prop) : Exit → Act → World → Prop := Exit.inBlock 2 (trees_Way.q40 R)
def trees_Way.rl41 (R : Value → World → Prop) (k : Nat) (a1 : Option Addr) (n1 : Nat) (c1 : Nat) (p2 : Option Addr) (x10 : Int) (a11 : Option Addr) (n11 : Nat) (c11 : Nat) (w : World) : Prop := loopN [1, 2, 10, 11] (codeN Go.Proofs.Tryd.prog (sub (codeOf Go.Proofs.Tryd.f51) [1, 1, 1, 1, 1, 0, 0, 0]) (nsub trees_Way.an [1, 1, 1, 1, 1, 0, 0, 0])) (trees_Way.q41 R) k ⟨#[undef, .slice a1 n1 c1, .pointer p2, undef, undef, undef, undef, undef, undef, undef, .int .i64 x10, .slice a11 n11 c11, undef, undef, undef, undef, undef, undef, undef, undef, undef, undef, undef, undef, undef, undef, undef, undef, undef, undef, undef, undef, undef, undef, undef, undef, undef, undef, undef, undef, undef, undef, undef, undef, undef, undef, undef, undef, undef, undef, undef, undef, undef, undef, undef, undef, undef, undef, undef, undef, undef, undef, undef, undef, undef, undef, undef], []⟩ w
def trees_Way.re41 (R : Value → World → Prop) (a1 : Option Addr) (n1 : Nat) (c1 : Nat) (p2 : Option Addr) (x10 : Int) (a11 : Option Addr) (n11 : Nat) (c11 : Nat) (w : World) : Prop := ∃ k, trees_Way.rl41 R k a1 n1 c1 p2 x10 a11 n11 c11 w
def trees_Way.l41 (R : Value → World → Prop) : Nat → (Option Addr) → Nat → Nat → (Option Addr) → Int → (Option Addr) → Nat → Nat → World → Prop
  | 0, _, _, _, _, _, _, _, _, _ => False
  | k + 1, a1, n1, c1, p2, x10, a11, n11, c11, w => trees_Way.g41 R (trees_Way.l41 R k) a1 n1 c1 p2 x10 a11 n11 c11 w
def trees_Way.e41 (R : Value → World → Prop) (a1 : Option Addr) (n1 : Nat) (c1 : Nat) (p2 : Option Addr) (x10 : Int) (a11 : Option Addr) (n11 : Nat) (c11 : Nat) (w : World) : Prop := ∃ k, trees_Way.l41 R k a1 n1 c1 p2 x10 a11 n11 c11 w
theorem trees_Way.s41 (R : Value → World → Prop) (k : Nat) (a1 : Option Addr) (n1 : Nat) (c1 : Nat) (p2 : Option Addr) (x10 : Int) (a11 : Option Addr) (n11 : Nat) (c11 : Nat) (w : World) : trees_Way.rl41 R (k + 1) a1 n1 c1 p2 x10 a11 n11 c11 w = ∀ _ : Nat → Value, trees_Way.g41 R (trees_Way.rl41 R k) a1 n1 c1 p2 x10 a11 n11 c11 w := by kernel_rfl
theorem trees_Way.lq41 (R : Value → World → Prop) : ∀ k, trees_Way.l41 R k = trees_Way.rl41 R k
  | 0 => by funext a1 n1 c1 p2 x10 a11 n11 c11 w; first | rfl | kernel_rfl
  | k + 1 => by
    funext a1 n1 c1 p2 x10 a11 n11 c11 w
    rw [trees_Way.s41, forall_const]
    unfold trees_Way.l41
    have ih := trees_Way.lq41 R k
    rw [ih]
    all_goals rfl
theorem trees_Way.eq41 (R : Value → World → Prop) : trees_Way.e41 R = trees_Way.re41 R := by
  funext a1 n1 c1 p2 x10 a11 n11 c11 w
  unfold trees_Way.e41 trees_Way.re41
  simp only [trees_Way.lq41 R]
def trees_Way.l16 (R : Value → World → Prop) : Nat → (Option Addr) → Nat → Nat → (Option Addr) → (Option Addr) → Nat → Nat → Int → Int → World → Prop
  | 0, _, _, _, _, _, _, _, _, _, _ => False
  | k + 1, a1, n1, c1, p2, a22, n22, c22, x23, x24, w => trees_Way.g16 R (trees_Way.l16 R k) (trees_Way.e41 R) a1 n1 c1 p2 a22 n22 c22 x23 x24 w
def trees_Way.e16 (R : Value → World → Prop) (a1 : Option Addr) (n1 : Nat) (c1 : Nat) (p2 : Option Addr) (a22 : Option Addr) (n22 : Nat) (c22 : Nat) (x23 : Int) (x24 : Int) (w : World) : Prop := ∃ k, trees_Way.l16 R k a1 n1 c1 p2 a22 n22 c22 x23 x24 w
theorem trees_Way.s16 (R : Value → World → Prop) (k : Nat) (a1 : Option Addr) (n1 : Nat) (c1 : Nat) (p2 : Option Addr) (a22 : Option Addr) (n22 : Nat) (c22 : Nat) (x23 : Int) (x24 : Int) (w : World) : trees_Way.rl16 R (k + 1) a1 n1 c1 p2 a22 n22 c22 x23 x24 w = ∀ _ : Nat → Value, trees_Way.g16 R (trees_Way.rl16 R k) (trees_Way.re41 R) a1 n1 c1 p2 a22 n22 c22 x23 x24 w := by kernel_rfl
theorem trees_Way.lq16 (R : Value → World → Prop) : ∀ k, trees_Way.l16 R k = trees_Way.rl16 R k
  | 0 => by funext a1 n1 c1 p2 a22 n22 c22 x23 x24 w; first | rfl | kernel_rfl
  | k + 1 => by
    funext a1 n1 c1 p2 a22 n22 c22 x23 x24 w
    rw [trees_Way.s16, forall_const]
    unfold trees_Way.l16
    have ih := trees_Way.lq16 R k
    rw [trees_Way.eq41 R]
    rw [ih]
    all_goals rfl
theorem trees_Way.eq16 (R : Value → World → Prop) : trees_Way.e16 R = trees_Way.re16 R := by
  funext a1 n1 c1 p2 a22 n22 c22 x23 x24 w
  unfold trees_Way.e16 trees_Way.re16
  simp only [trees_Way.lq16 R]
def trees_Way (R : Value → World → Prop) (x0_0 : Int) (a0_1 : Option Addr) (n0_1 : Nat) (c0_1 : Nat) (a1 : Option Addr) (n1 : Nat) (c1 : Nat) (w : World) : Prop := trees_Way.g0 R (trees_Way.e16 R) x0_0 a0_1 n0_1 c0_1 a1 n1 c1 w
theorem trees_Way.root0 (R : Value → World → Prop) (x0_0 : Int) (a0_1 : Option Addr) (n0_1 : Nat) (c0_1 : Nat) (a1 : Option Addr) (n1 : Nat) (c1 : Nat) (w : World) : fnN Go.Proofs.Tryd.prog Go.Proofs.Tryd.f51 trees_Way.an #[.agg #[.int .i64 x0_0, .slice a0_1 n0_1 c0_1], .slice a1 n1 c1] w R = trees_Way.g0 R (trees_Way.re16 R) x0_0 a0_1 n0_1 c0_1 a1 n1 c1 w := by kernel_rfl
theorem trees_Way.calls {R : Value → World → Prop} {x0_0 : Int} {a0_1 : Option Addr} {n0_1 : Nat} {c0_1 : Nat} {a1 : Option Addr} {n1 : Nat} {c1 : Nat} {w : World} (h : trees_Way R x0_0 a0_1 n0_1 c0_1 a1 n1 c1 w) : Go.E.CallsD Go.Proofs.Tryd.prog 51 #[.agg #[.int .i64 x0_0, .slice a0_1 n0_1 c0_1], .slice a1 n1 c1] w R := by
  refine callsD_of (n := trees_Way.an) M_follows M_sizes Go.Proofs.Tryd.func51 (by rfl) ?_
  rw [trees_Way.root0]
  unfold trees_Way at h
  rw [trees_Way.eq16 R] at h
  exact h
-- slices.Index[[]int,int]
def slices_Index.an : An := (.mk none .nil (.mk none (.mk none .nil (.mk none (.mk (some [0, 1, 7, 8]) .nil .nil) .nil)) .nil))
def slices_Index.g0 (R : Value → World → Prop) (e6 : (Option Addr) → Nat → Nat → Int → Int → Int → World → Prop) (a0 : Option Addr) (n0 : Nat) (c0 : Nat) (x1 : Int) (w : World) : Prop :=
 e6 a0 n0 c0 x1 (n0 : Int) 0 w
def slices_Index.g6 (R : Value → World → Prop) (b6 : (Option Addr) → Nat → Nat → Int → Int → Int → World → Prop) (a0 : Option Addr) (n0 : Nat) (c0 : Nat) (x1 : Int) (x7 : Int) (x8 : Int) (w : World) : Prop :=
 onBool (decide (x8 < x7))
 (optN a0 fun q4 =>
 chk ((0 : Int) ≤ x8 ∧ x8 < (n0 : Int))
 (∃ yx_5 : Int, w.cell? (q4.add (x8.toNat * 1)) = some (.int .i64 yx_5) ∧
 (onBool (x1 == yx_5)
 (R (.int .i64 x8) w)
 (nv (IntKind.i64.wrap (x8 + 1)) fun t6 =>
 b6 a0 n0 c0 x1 x7 t6 w))))
 (R (.int .i64 (-1)) w)
def slices_Index.q2 (R : Value → World → Prop) : Exit → Act → World → Prop := (fin Go.Proofs.Tryd.prog Go.Proofs.Tryd.f52 R)
def slices_Index.q3 (R : Value → World → Prop) : Exit → Act → World → Prop := Exit.then (startN none (codeN Go.Proofs.Tryd.prog (sub (codeOf Go.Proofs.Tryd.f52) [1, 1]) (nsub slices_Index.an [1, 1]) (slices_Index.q2 R))) (slices_Index.q2 R)
def slices_Index.q5 (R : Value → World → Prop) : Exit → Act → World → Prop := (slices_Index.q3 R)
def slices_Index.q6 (R : Value → World → Prop) : Exit → Act → World → Prop := Exit.inBlock 0 (slices_Index.q5 R)
def slices_Index.rl6 (R : Value → World → Prop) (k : Nat) (a0 : Option Addr) (n0 : Nat) (c0 : Nat) (x1 : Int) (x7 : Int) (x8 : Int) (w : World) : Prop := loopN [0, 1, 7, 8] (codeN Go.Proofs.Tryd.prog (sub (codeOf Go.Proofs.Tryd.f52) [1, 0, 1, 0, 0]) (nsub slices_Index.an [1, 0, 1, 0, 0])) (slices_Index.q6 R) k ⟨#[.slice a0 n0 c0, .int .i64 x1, undef, undef, undef, undef, undef, .int .i64 x7, .int .i64 x8, undef, undef, undef, undef, undef, undef, undef, undef, undef, undef], []⟩ w
def slices_Index.re6 (R : Value → World → Prop) (a0 : Option Addr) (n0 : Nat) (c0 : Nat) (x1 : Int) (x7 : Int) (x8 : Int) (w : World) : Prop := ∃ k, slices_Index.rl6 R k a0 n0 c0 x1 x7 x8 w
def slices_Index.l6 (R : Value → World → Prop) : Nat → (Option Addr) → Nat → Nat → Int → Int → Int → World → Prop
  | 0, _, _, _, _, _, _, _ => False
  | k + 1, a0, n0, c0, x1, x7, x8, w => slices_Index.g6 R (slices_Index.l6 R k) a0 n0 c0 x1 x7 x8 w
def slices_Index.e6 (R : Value → World → Prop) (a0 : Option Addr) (n0 : Nat) (c0 : Nat) (x1 : Int) (x7 : Int) (x8 : Int) (w : World) : Prop := ∃ k, slices_Index.l6 R k a0 n0 c0 x1 x7 x8 w
theorem slices_Index.s6 (R : Value → World → Prop) (k : Nat) (a0 : Option Addr) (n0 : Nat) (c0 : Nat) (x1 : Int) (x7 : Int) (x8 : Int) (w : World) : slices_Index.rl6 R (k + 1) a0 n0 c0 x1 x7 x8 w = ∀ _ : Nat → Value, slices_Index.g6 R (slices_Index.rl6 R k) a0 n0 c0 x1 x7 x8 w := by kernel_rfl
theorem slices_Index.lq6 (R : Value → World → Prop) : ∀ k, slices_Index.l6 R k = slices_Index.rl6 R k
  | 0 => by funext a0 n0 c0 x1 x7 x8 w; first | rfl | kernel_rfl
  | k + 1 => by
    funext a0 n0 c0 x1 x7 x8 w
    rw [slices_Index.s6, forall_const]
    unfold slices_Index.l6
    have ih := slices_Index.lq6 R k
    rw [ih]
    all_goals rfl
theorem slices_Index.eq6 (R : Value → World → Prop) : slices_Index.e6 R = slices_Index.re6 R := by
  funext a0 n0 c0 x1 x7 x8 w
  unfold slices_Index.e6 slices_Index.re6
  simp only [slices_Index.lq6 R]
def slices_Index (R : Value → World → Prop) (a0 : Option Addr) (n0 : Nat) (c0 : Nat) (x1 : Int) (w : World) : Prop := slices_Index.g0 R (slices_Index.e6 R) a0 n0 c0 x1 w
theorem slices_Index.root0 (R : Value → World → Prop) (a0 : Option Addr) (n0 : Nat) (c0 : Nat) (x1 : Int) (w : World) : fnN Go.Proofs.Tryd.prog Go.Proofs.Tryd.f52 slices_Index.an #[.slice a0 n0 c0, .int .i64 x1] w R = slices_Index.g0 R (slices_Index.re6 R) a0 n0 c0 x1 w := by kernel_rfl
theorem slices_Index.calls {R : Value → World → Prop} {a0 : Option Addr} {n0 : Nat} {c0 : Nat} {x1 : Int} {w : World} (h : slices_Index R a0 n0 c0 x1 w) : Go.E.CallsD Go.Proofs.Tryd.prog 52 #[.slice a0 n0 c0, .int .i64 x1] w R := by
  refine callsD_of (n := slices_Index.an) M_follows M_sizes Go.Proofs.Tryd.func52 (by rfl) ?_
  rw [slices_Index.root0]
  unfold slices_Index at h
  rw [slices_Index.eq6 R] at h
  exact h
end Go.Mir
