/- Part of a proof of laws of the seat Ytmjlipmapfofmaa: functions' weakest preconditions, each checked by the kernel, contracts out of them, plain lemmas; no conditions. -/
import Derived.KernelRfl
import Derived.Test.YtmjlipmapfofmaaEA
import Derived.Test.YtmjlipmapfofmaaProg
set_option linter.unusedVariables false
set_option linter.unusedSimpArgs false
set_option linter.unusedSectionVars false
set_option linter.unusedVariables false
namespace Go.Mir
open Go Go.E Go.RowKit
theorem M_follows : Go.Proofs.Try.prog.follows .mixedOrders = true := by kernel_rfl
theorem M_sizes : Go.Proofs.Try.prog.types.size + Made.depth ≠ 0 := of_decide_eq_true (by kernel_rfl)
abbrev CA := E.CallsD Go.Proofs.Try.prog
theorem cal {f : FuncId} {fn : Func} {n : An} {args : Array Value} {w : World} {R : VP} {p : Prop} (hf : Go.Proofs.Try.prog.funcs[f]? = some fn) (hb : fn.body.isSome = true) (h : p) (e : fnN Go.Proofs.Try.prog fn n args w R = p) : CA f args w R := callsD_eq M_follows M_sizes hf hb h e
abbrev cl25 (x0 : ByteArray) (a1 : OA) (n1 : Nat) (c1 : Nat) (x2 : Int) (a3 : OA) (n3 : Nat) (c3 : Nat) (a4 : OA) (n4 : Nat) (c4 : Nat) : Array Value := #[.string x0, .slice a1 n1 c1, .int .i64 x2, .slice a3 n3 c3, .slice a4 n4 c4]
abbrev ag25 (x0 : ByteArray) (a1 : OA) (n1 : Nat) (c1 : Nat) (x2 : Int) (a3 : OA) (n3 : Nat) (c3 : Nat) (a4 : OA) (n4 : Nat) (c4 : Nat) : Value := .agg (cl25 x0 a1 n1 c1 x2 a3 n3 c3 a4 n4 c4)
abbrev ld25 (w : World) (a : Addr) (K : ByteArray → OA → Nat → Nat → Int → OA → Nat → Nat → OA → Nat → Nat → Prop) : Prop := cS w (a.add 0) fun x0 => cL w (a.add 1) fun a1 n1 c1 => cI w (a.add 2) .i64 fun x2 => cL w (a.add 3) fun a3 n3 c3 => cL w (a.add 4) fun a4 n4 c4 => K x0 a1 n1 c1 x2 a3 n3 c3 a4 n4 c4
abbrev st25 (w : World) (a : Addr) (x0 : ByteArray) (a1 : OA) (n1 : Nat) (c1 : Nat) (x2 : Int) (a3 : OA) (n3 : Nat) (c3 : Nat) (a4 : OA) (n4 : Nat) (c4 : Nat) (K : World → Prop) : Prop := st w (a.add 0) (.string x0) fun w => st w (a.add 1) (.slice a1 n1 c1) fun w => st w (a.add 2) (.int .i64 x2) fun w => st w (a.add 3) (.slice a3 n3 c3) fun w => st w (a.add 4) (.slice a4 n4 c4) fun w => K w
abbrev cl36 (x0 : Int) (x1 : Int) (a2 : OA) (n2 : Nat) (c2 : Nat) (a3 : OA) (n3 : Nat) (c3 : Nat) : Array Value := #[.int .i64 x0, .int .i64 x1, .slice a2 n2 c2, .slice a3 n3 c3]
abbrev ag36 (x0 : Int) (x1 : Int) (a2 : OA) (n2 : Nat) (c2 : Nat) (a3 : OA) (n3 : Nat) (c3 : Nat) : Value := .agg (cl36 x0 x1 a2 n2 c2 a3 n3 c3)
abbrev ld36 (w : World) (a : Addr) (K : Int → Int → OA → Nat → Nat → OA → Nat → Nat → Prop) : Prop := cI w (a.add 0) .i64 fun x0 => cI w (a.add 1) .i64 fun x1 => cL w (a.add 2) fun a2 n2 c2 => cL w (a.add 3) fun a3 n3 c3 => K x0 x1 a2 n2 c2 a3 n3 c3
abbrev st36 (w : World) (a : Addr) (x0 : Int) (x1 : Int) (a2 : OA) (n2 : Nat) (c2 : Nat) (a3 : OA) (n3 : Nat) (c3 : Nat) (K : World → Prop) : Prop := st w (a.add 0) (.int .i64 x0) fun w => st w (a.add 1) (.int .i64 x1) fun w => st w (a.add 2) (.slice a2 n2 c2) fun w => st w (a.add 3) (.slice a3 n3 c3) fun w => K w
abbrev cl40 (x0 : Int) (x1 : Int) : Array Value := #[.int .i64 x0, .int .i64 x1]
abbrev ld40 (w : World) (a : Addr) (K : Int → Int → Prop) : Prop := cI w (a.add 0) .i64 fun x0 => cI w (a.add 1) .i64 fun x1 => K x0 x1
abbrev st40 (w : World) (a : Addr) (x0 : Int) (x1 : Int) (K : World → Prop) : Prop := st w (a.add 0) (.int .i64 x0) fun w => st w (a.add 1) (.int .i64 x1) fun w => K w
abbrev cl43 (x0 : Int) (a1 : OA) (n1 : Nat) (c1 : Nat) : Array Value := #[.int .i64 x0, .slice a1 n1 c1]
abbrev ag43 (x0 : Int) (a1 : OA) (n1 : Nat) (c1 : Nat) : Value := .agg (cl43 x0 a1 n1 c1)
abbrev ld43 (w : World) (a : Addr) (K : Int → OA → Nat → Nat → Prop) : Prop := cI w (a.add 0) .i64 fun x0 => cL w (a.add 1) fun a1 n1 c1 => K x0 a1 n1 c1
abbrev st43 (w : World) (a : Addr) (x0 : Int) (a1 : OA) (n1 : Nat) (c1 : Nat) (K : World → Prop) : Prop := st w (a.add 0) (.int .i64 x0) fun w => st w (a.add 1) (.slice a1 n1 c1) fun w => K w
abbrev cl65 (x0 : Int) (a1 : OA) (n1 : Nat) (c1 : Nat) (a2 : OA) (n2 : Nat) (c2 : Nat) (a3 : OA) (n3 : Nat) (c3 : Nat) (a4 : OA) (n4 : Nat) (c4 : Nat) : Array Value := #[.int .i64 x0, .slice a1 n1 c1, .slice a2 n2 c2, .slice a3 n3 c3, .slice a4 n4 c4]
abbrev ag65 (x0 : Int) (a1 : OA) (n1 : Nat) (c1 : Nat) (a2 : OA) (n2 : Nat) (c2 : Nat) (a3 : OA) (n3 : Nat) (c3 : Nat) (a4 : OA) (n4 : Nat) (c4 : Nat) : Value := .agg (cl65 x0 a1 n1 c1 a2 n2 c2 a3 n3 c3 a4 n4 c4)
abbrev ld65 (w : World) (a : Addr) (K : Int → OA → Nat → Nat → OA → Nat → Nat → OA → Nat → Nat → OA → Nat → Nat → Prop) : Prop := cI w (a.add 0) .i64 fun x0 => cL w (a.add 1) fun a1 n1 c1 => cL w (a.add 2) fun a2 n2 c2 => cL w (a.add 3) fun a3 n3 c3 => cL w (a.add 4) fun a4 n4 c4 => K x0 a1 n1 c1 a2 n2 c2 a3 n3 c3 a4 n4 c4
abbrev st65 (w : World) (a : Addr) (x0 : Int) (a1 : OA) (n1 : Nat) (c1 : Nat) (a2 : OA) (n2 : Nat) (c2 : Nat) (a3 : OA) (n3 : Nat) (c3 : Nat) (a4 : OA) (n4 : Nat) (c4 : Nat) (K : World → Prop) : Prop := st w (a.add 0) (.int .i64 x0) fun w => st w (a.add 1) (.slice a1 n1 c1) fun w => st w (a.add 2) (.slice a2 n2 c2) fun w => st w (a.add 3) (.slice a3 n3 c3) fun w => st w (a.add 4) (.slice a4 n4 c4) fun w => K w
abbrev cl68 (x0 : Int) (a1 : OA) (n1 : Nat) (c1 : Nat) (a2 : OA) (n2 : Nat) (c2 : Nat) (a3 : OA) (n3 : Nat) (c3 : Nat) : Array Value := #[.int .i64 x0, .slice a1 n1 c1, .slice a2 n2 c2, .slice a3 n3 c3]
abbrev ag68 (x0 : Int) (a1 : OA) (n1 : Nat) (c1 : Nat) (a2 : OA) (n2 : Nat) (c2 : Nat) (a3 : OA) (n3 : Nat) (c3 : Nat) : Value := .agg (cl68 x0 a1 n1 c1 a2 n2 c2 a3 n3 c3)
abbrev ld68 (w : World) (a : Addr) (K : Int → OA → Nat → Nat → OA → Nat → Nat → OA → Nat → Nat → Prop) : Prop := cI w (a.add 0) .i64 fun x0 => cL w (a.add 1) fun a1 n1 c1 => cL w (a.add 2) fun a2 n2 c2 => cL w (a.add 3) fun a3 n3 c3 => K x0 a1 n1 c1 a2 n2 c2 a3 n3 c3
abbrev st68 (w : World) (a : Addr) (x0 : Int) (a1 : OA) (n1 : Nat) (c1 : Nat) (a2 : OA) (n2 : Nat) (c2 : Nat) (a3 : OA) (n3 : Nat) (c3 : Nat) (K : World → Prop) : Prop := st w (a.add 0) (.int .i64 x0) fun w => st w (a.add 1) (.slice a1 n1 c1) fun w => st w (a.add 2) (.slice a2 n2 c2) fun w => st w (a.add 3) (.slice a3 n3 c3) fun w => K w
abbrev cl71 (x0 : Nat) (a1 : OA) (n1 : Nat) (c1 : Nat) (x2 : Int) (x3 : Int) (x4 : Int) : Array Value := #[.float .f64 x0, .slice a1 n1 c1, .int .i64 x2, .int .i64 x3, .int .i64 x4]
abbrev ag71 (x0 : Nat) (a1 : OA) (n1 : Nat) (c1 : Nat) (x2 : Int) (x3 : Int) (x4 : Int) : Value := .agg (cl71 x0 a1 n1 c1 x2 x3 x4)
abbrev ld71 (w : World) (a : Addr) (K : Nat → OA → Nat → Nat → Int → Int → Int → Prop) : Prop := cF w (a.add 0) .f64 fun x0 => cL w (a.add 1) fun a1 n1 c1 => cI w (a.add 2) .i64 fun x2 => cI w (a.add 3) .i64 fun x3 => cI w (a.add 4) .i64 fun x4 => K x0 a1 n1 c1 x2 x3 x4
abbrev st71 (w : World) (a : Addr) (x0 : Nat) (a1 : OA) (n1 : Nat) (c1 : Nat) (x2 : Int) (x3 : Int) (x4 : Int) (K : World → Prop) : Prop := st w (a.add 0) (.float .f64 x0) fun w => st w (a.add 1) (.slice a1 n1 c1) fun w => st w (a.add 2) (.int .i64 x2) fun w => st w (a.add 3) (.int .i64 x3) fun w => st w (a.add 4) (.int .i64 x4) fun w => K w
abbrev cl100 (x0 : Int) (x1 : Int) (x2 : Int) (x3 : Nat) (a4 : OA) (n4 : Nat) (c4 : Nat) (x5 : Int) (x6 : Int) (x7 : Int) : Array Value := #[.int .u8 x0, .int .i64 x1, .int .i64 x2, .float .f64 x3, .slice a4 n4 c4, .int .u8 x5, .int .i64 x6, .int .i64 x7]
abbrev ag100 (x0 : Int) (x1 : Int) (x2 : Int) (x3 : Nat) (a4 : OA) (n4 : Nat) (c4 : Nat) (x5 : Int) (x6 : Int) (x7 : Int) : Value := .agg (cl100 x0 x1 x2 x3 a4 n4 c4 x5 x6 x7)
abbrev ld100 (w : World) (a : Addr) (K : Int → Int → Int → Nat → OA → Nat → Nat → Int → Int → Int → Prop) : Prop := cI w (a.add 0) .u8 fun x0 => cI w (a.add 1) .i64 fun x1 => cI w (a.add 2) .i64 fun x2 => cF w (a.add 3) .f64 fun x3 => cL w (a.add 4) fun a4 n4 c4 => cI w (a.add 5) .u8 fun x5 => cI w (a.add 6) .i64 fun x6 => cI w (a.add 7) .i64 fun x7 => K x0 x1 x2 x3 a4 n4 c4 x5 x6 x7
abbrev st100 (w : World) (a : Addr) (x0 : Int) (x1 : Int) (x2 : Int) (x3 : Nat) (a4 : OA) (n4 : Nat) (c4 : Nat) (x5 : Int) (x6 : Int) (x7 : Int) (K : World → Prop) : Prop := st w (a.add 0) (.int .u8 x0) fun w => st w (a.add 1) (.int .i64 x1) fun w => st w (a.add 2) (.int .i64 x2) fun w => st w (a.add 3) (.float .f64 x3) fun w => st w (a.add 4) (.slice a4 n4 c4) fun w => st w (a.add 5) (.int .u8 x5) fun w => st w (a.add 6) (.int .i64 x6) fun w => st w (a.add 7) (.int .i64 x7) fun w => K w
abbrev cl121 (x0 : Int) (x1 : Int) (x2 : Int) (x3 : Int) : Array Value := #[.int .i64 x0, .int .i64 x1, .int .i64 x2, .int .i64 x3]
abbrev ag121 (x0 : Int) (x1 : Int) (x2 : Int) (x3 : Int) : Value := .agg (cl121 x0 x1 x2 x3)
abbrev cl125 (x0 : Int) (x1 : Int) (x2 : Int) (x3 : Nat) (a4 : OA) (n4 : Nat) (c4 : Nat) (x5 : Int) (x6 : Int) (x7 : Int) (x8 : Int) (x9 : Int) : Array Value := #[.int .u8 x0, .int .i64 x1, .int .i64 x2, .float .f64 x3, .slice a4 n4 c4, .int .u8 x5, .int .i64 x6, .int .i64 x7, .int .i64 x8, .int .i64 x9]
abbrev ag125 (x0 : Int) (x1 : Int) (x2 : Int) (x3 : Nat) (a4 : OA) (n4 : Nat) (c4 : Nat) (x5 : Int) (x6 : Int) (x7 : Int) (x8 : Int) (x9 : Int) : Value := .agg (cl125 x0 x1 x2 x3 a4 n4 c4 x5 x6 x7 x8 x9)
abbrev ld125 (w : World) (a : Addr) (K : Int → Int → Int → Nat → OA → Nat → Nat → Int → Int → Int → Int → Int → Prop) : Prop := cI w (a.add 0) .u8 fun x0 => cI w (a.add 1) .i64 fun x1 => cI w (a.add 2) .i64 fun x2 => cF w (a.add 3) .f64 fun x3 => cL w (a.add 4) fun a4 n4 c4 => cI w (a.add 5) .u8 fun x5 => cI w (a.add 6) .i64 fun x6 => cI w (a.add 7) .i64 fun x7 => cI w (a.add 8) .i64 fun x8 => cI w (a.add 9) .i64 fun x9 => K x0 x1 x2 x3 a4 n4 c4 x5 x6 x7 x8 x9
abbrev st125 (w : World) (a : Addr) (x0 : Int) (x1 : Int) (x2 : Int) (x3 : Nat) (a4 : OA) (n4 : Nat) (c4 : Nat) (x5 : Int) (x6 : Int) (x7 : Int) (x8 : Int) (x9 : Int) (K : World → Prop) : Prop := st w (a.add 0) (.int .u8 x0) fun w => st w (a.add 1) (.int .i64 x1) fun w => st w (a.add 2) (.int .i64 x2) fun w => st w (a.add 3) (.float .f64 x3) fun w => st w (a.add 4) (.slice a4 n4 c4) fun w => st w (a.add 5) (.int .u8 x5) fun w => st w (a.add 6) (.int .i64 x6) fun w => st w (a.add 7) (.int .i64 x7) fun w => st w (a.add 8) (.int .i64 x8) fun w => st w (a.add 9) (.int .i64 x9) fun w => K w
abbrev cl134 (x0 : Int) (x1 : Int) (x2 : Int) : Array Value := #[.int .i64 x0, .int .i64 x1, .int .i64 x2]
abbrev ld134 (w : World) (a : Addr) (K : Int → Int → Int → Prop) : Prop := cI w (a.add 0) .i64 fun x0 => cI w (a.add 1) .i64 fun x1 => cI w (a.add 2) .i64 fun x2 => K x0 x1 x2
abbrev st134 (w : World) (a : Addr) (x0 : Int) (x1 : Int) (x2 : Int) (K : World → Prop) : Prop := st w (a.add 0) (.int .i64 x0) fun w => st w (a.add 1) (.int .i64 x1) fun w => st w (a.add 2) (.int .i64 x2) fun w => K w
end Go.Mir

set_option linter.unusedVariables false
set_option maxRecDepth 100000
namespace Go.Mir
open Go Go.E Go.RowKit
open Go.Proofs.Try (prog)
open Go.Proofs.Try (f7 func7)
namespace blocks_Split
def an : An := (aR (aR (aR (aL (aR (aL (.mk (some [0, 1, 6, 7]) .nil .nil)))))))
def qf (R : VP) : QT := fin prog f7 R
def C := cdN prog f7 an
abbrev T16 := Int → Int → OA → Nat → Nat → Int → World → Prop
def g0 (R : VP) (e16 : T16) (a b : Int) (c : World) : Prop :=
 onBool (decide (a < 0))
 (R (.tuple #[.slice none 0 0, .int .i64 2]) c)
 (onBool (decide (a > 65536))
 (R (.tuple #[.slice none 0 0, .int .i64 2]) c)
 (onBool (decide (b < 1))
 (R (.tuple #[.slice none 0 0, .int .i64 2]) c)
 (onBool (decide (b > 65536))
 (R (.tuple #[.slice none 0 0, .int .i64 2]) c)
 (e16 a b none 0 0 0 c))))
def g16 (R : VP) (b16 : T16) (a b : Int) (c : OA) (d e : Nat) (f : Int) (g : World) : Prop :=
 onBool (decide (f < a))
 (nv (IntKind.i64.wrap (f + b)) fun h =>
 nv ((if a < h then a else h)) fun h =>
 nw (g.alloc (.cells (cl40 f h) 41)) fun h =>
 rawN prog (Builtin.append_ #[27, 27] 27 #[.slice c d e, .slice (some (na g)) 1 1]) h fun h i =>
 ∃ j k l, h = .slice j k l ∧
 (nv (IntKind.i64.wrap (f + b)) fun f =>
 b16 a b j k l f i))
 (R (.tuple #[.slice c d e, .int .i64 0]) g)
def q16 (R : VP) : QT := (Exit.inBlock 0 (qS none (C [1,1,1,1]) (qf R)))
@[irreducible] def l16 (R : VP) (k : Nat) : T16 := fun a b c d e f w => loopN [0,1,6,7] (C [1,1,1,0,1,0,0]) (q16 R) k (fr ((.int .i64 a :: (.int .i64 b :: U 4 (.slice c d e :: (.int .i64 f :: U 31 [])))))) w
def e16 (R : VP) : T16 := fun a b c d e f w => ∃ k, l16 R k a b c d e f w
theorem u16 (R k a b c d e f w) : l16 R (k + 1) a b c d e f w = g16 R (l16 R k) a b c d e f w := ju (by kernel_rfl)
end blocks_Split
def blocks_Split (R : VP) := blocks_Split.g0 R (blocks_Split.e16 R)
theorem blocks_Split.calls {R a b w} (k : blocks_Split R a b w) : CA 7 #[.int .i64 a, .int .i64 b] w R := cal (n := blocks_Split.an) func7 rfl k (by kernel_rfl)
open Go.Proofs.Try (f9 func9)
namespace blocks_Plan
def an : An := (aR (aR (aR (aR (aR (aL (aR (aL (.mk (some [1, 7, 8, 20, 21, 22]) .nil .nil)))))))))
def qf (R : VP) : QT := fin prog f9 R
def C := cdN prog f9 an
abbrev T28 := Int → OA → Nat → Nat → Int → OA → Nat → Nat → Int → Int → World → Prop
def g0 (R : VP) (e28 : T28) (a : ByteArray) (b : OA) (c d : Nat) (e : Int) (f : OA) (g h : Nat) (i : OA) (j k : Nat) (l : Int) (m : World) : Prop :=
 nw (m.alloc (.cells (cl25 a b c d e f g h i j k) 26)) fun a =>
 ld25 a (na m) fun b c d e f g h i j k n =>
 CA 24 #[ag25 b c d e f g h i j k n] a fun a b =>
 ∃ c, a = .int .i64 c ∧
 (onBool (c != 0)
 (R (.tuple #[.slice none 0 0, .int .i64 c]) b)
 (onBool (decide (l < 0))
 (R (.tuple #[.slice none 0 0, .int .i64 2]) b)
 (cL b ((na m).add 4) fun a c d =>
 e28 l none 0 0 0 a c d (c : Int) 0 b)))
def g28 (R : VP) (b28 : T28) (a : Int) (b : OA) (c d : Nat) (e : Int) (f : OA) (g h : Nat) (i j : Int) (k : World) : Prop :=
 onBool (decide (j < i))
 (ix f g j fun l =>
 ld43 k (l.add (j.toNat * 2)) fun l m n o =>
 nw (k.alloc (.cells (cl43 0 none 0 0) 44)) fun p =>
 st43 p (na k) l m n o fun l =>
 cL l ((na k).add 1) fun m m n =>
 nv (IntKind.i64.wrap (Int.tdiv (m : Int) 2)) fun m =>
 onBool (j == 0)
 (nw (l.alloc (.cells (cl40 j 0) 41)) fun n =>
 rawN prog (Builtin.append_ #[27, 27] 27 #[.slice b c d, .slice (some (na l)) 1 1]) n fun n o =>
 ∃ p q r, n = .slice p q r ∧
 (nv (IntKind.i64.wrap (0 + m)) fun n =>
 nv (IntKind.i64.wrap ((q : Int) - 1)) fun s =>
 inc j fun t =>
 ix p q s fun u =>
 st o (((u.add (s.toNat * 2)).add 1).add 0) (.int .i64 t) fun o =>
 inc j fun s =>
 b28 a p q r n f g h i s o))
 (nv (IntKind.i64.wrap (e + m)) fun n =>
 onBool (decide (n > a))
 (nw (l.alloc (.cells (cl40 j 0) 41)) fun n =>
 rawN prog (Builtin.append_ #[27, 27] 27 #[.slice b c d, .slice (some (na l)) 1 1]) n fun n o =>
 ∃ p q r, n = .slice p q r ∧
 (nv (IntKind.i64.wrap (0 + m)) fun n =>
 nv (IntKind.i64.wrap ((q : Int) - 1)) fun s =>
 inc j fun t =>
 ix p q s fun u =>
 st o (((u.add (s.toNat * 2)).add 1).add 0) (.int .i64 t) fun o =>
 inc j fun s =>
 b28 a p q r n f g h i s o))
 (nv (IntKind.i64.wrap (e + m)) fun e =>
 nv (IntKind.i64.wrap ((c : Int) - 1)) fun m =>
 inc j fun n =>
 ix b c m fun o =>
 st l (((o.add (m.toNat * 2)).add 1).add 0) (.int .i64 n) fun l =>
 inc j fun j =>
 b28 a b c d e f g h i j l)))
 (R (.tuple #[.slice b c d, .int .i64 0]) k)
def q28 (R : VP) : QT := (Exit.inBlock 0 (qS none (C [1,1,1,1,1,1]) (qf R)))
@[irreducible] def l28 (R : VP) (k : Nat) : T28 := fun a b c d e f g h i j w => loopN [1,7,8,20,21,22] (C [1,1,1,1,1,0,1,0,0]) (q28 R) k (fr (U 1 (.int .i64 a :: U 5 (.slice b c d :: (.int .i64 e :: U 11 (.slice f g h :: (.int .i64 i :: (.int .i64 j :: U 35 [])))))))) w
def e28 (R : VP) : T28 := fun a b c d e f g h i j w => ∃ k, l28 R k a b c d e f g h i j w
theorem u28 (R k a b c d e f g h i j w) : l28 R (k + 1) a b c d e f g h i j w = g28 R (l28 R k) a b c d e f g h i j w := ju (by kernel_rfl)
end blocks_Plan
def blocks_Plan (R : VP) := blocks_Plan.g0 R (blocks_Plan.e28 R)
theorem blocks_Plan.calls {R a b c d e f g h i j l m w} (k : blocks_Plan R a b c d e f g h i j l m w) : CA 9 #[ag25 a b c d e f g h i j l, .int .i64 m] w R := cal (n := blocks_Plan.an) func9 rfl k (by kernel_rfl)
open Go.Proofs.Try (f11 func11)
namespace thicketlaw15_lives
def an : An := An.nil
def g0 (R : VP) (a : World) : Prop :=
 CA 27 #[] a fun a b =>
 ∃ c d e f g h i j k l m, a = ag25 c d e f g h i j k l m ∧
 (CA 20 #[ag25 c d e f g h i j k l m, .int .i64 2] b fun a b =>
 ∃ c d e f g h i j k, a = .tuple #[ag36 c d e f g h i j, .int .i64 k] ∧
 (nw (b.alloc (.cells (cl36 0 0 none 0 0 none 0 0) 37)) fun a =>
 st36 a (na b) c d e f g h i j fun a =>
 onBool (k != 0)
 (R (.bool false) a)
 (cL a ((na b).add 3) fun c c d =>
 onBool ((c : Int) != 1)
 (R (.bool false) a)
 (cL a ((na b).add 3) fun c d e =>
 ix c d 0 fun c =>
 cL a ((c.add 0).add 4) fun c c d =>
 onBool ((c : Int) != 2)
 (R (.bool false) a)
 (cL a ((na b).add 3) fun c d e =>
 ix c d 0 fun c =>
 cL a ((c.add 0).add 4) fun c d e =>
 ix c d 1 fun c =>
 ld68 a (c.add 4) fun c d e f g h i j k l =>
 nw (a.alloc (.cells (cl68 0 none 0 0 none 0 0 none 0 0) 69)) fun m =>
 st68 m (na a) c d e f g h i j k l fun c =>
 ld36 c (na b) fun d e f g h i j k =>
 CA 21 #[ag36 d e f g h i j k] c fun c d =>
 ∃ e f g h, c = .tuple #[.slice e f g, .int .i64 h] ∧
 (ld36 d (na b) fun b c g i j k l m =>
 CA 22 #[ag36 b c g i j k l m] d fun b c =>
 ∃ d g, b = .tuple #[.int .i64 d, .int .i64 g] ∧
 (∃ b : Nat → Value → World → Prop, KpF b ∧
 (cL c ((na a).add 1) fun i i j =>
 onBool ((i : Int) == 2)
 (cL c ((na a).add 1) fun i j k =>
 ix i j 0 fun i =>
 cI c ((i.add 0).add 2) .i64 fun i =>
 onBool (i == 1)
 (cL c ((na a).add 1) fun i j k =>
 ix i j 0 fun i =>
 cI c ((i.add 0).add 4) .i64 fun i =>
 onBool (i == 2)
 (cL c ((na a).add 3) fun a a i =>
 onBool ((a : Int) == 1)
 (onBool (h == 0)
 (onBool ((f : Int) == 2)
 (ix e f 1 fun a =>
 ld43 c (a.add 2) fun a e f h =>
 (∀ i : World, Below c.heap.size c i → CA 27 #[] i fun j k => ∃ l m n o p q r s t u v, j = ag25 l m n o p q r s t u v ∧ b 39 (ag25 l m n o p q r s t u v) k ∧ Below i.heap.size i k) ∧
 (∀ i : ByteArray, ∀ j : Option Addr, ∀ k : Nat, ∀ l : Nat, ∀ m : Int, ∀ n : Option Addr, ∀ o : Nat, ∀ p : Nat, ∀ q : Option Addr, ∀ r : Nat, ∀ s : Nat, (∃ t, Below c.heap.size c t ∧ b 39 (ag25 i j k l m n o p q r s) t) →
 ix q r 1 fun t =>
 (∀ u : World, Below c.heap.size c u → b 39 (ag25 i j k l m n o p q r s) u → ld43 u (t.add 2) fun t v w x =>
 b 42 (ag43 t v w x) u) ∧
 (∀ t : Int, ∀ u : Option Addr, ∀ v : Nat, ∀ w : Nat, (∃ x, Below c.heap.size c x ∧ b 42 (ag43 t u v w) x) →
 (∀ x : World, Below c.heap.size c x → b 39 (ag25 i j k l m n o p q r s) x → b 42 (ag43 t u v w) x → CA 28 #[ag43 a e f h, ag43 t u v w] x fun a e => ∃ f, a = .bool f ∧ b 43 (.bool f) e ∧ Below x.heap.size x e) ∧
 (∀ a : Bool, (∃ e, Below c.heap.size c e ∧ b 43 (.bool a) e) →
 onBool a
 (onBool (d == 0)
 (∀ d : World, Below c.heap.size c d → b 39 (ag25 i j k l m n o p q r s) d → b 42 (ag43 t u v w) d → b 43 (.bool a) d → 
 R (.bool (g == 0)) d)
 (∀ d : World, Below c.heap.size c d → b 39 (ag25 i j k l m n o p q r s) d → b 42 (ag43 t u v w) d → b 43 (.bool a) d → 
 R (.bool false) d))
 (∀ d : World, Below c.heap.size c d → b 39 (ag25 i j k l m n o p q r s) d → b 42 (ag43 t u v w) d → b 43 (.bool a) d → 
 R (.bool false) d)))))
 (∀ a : World, Below c.heap.size c a → 
 R (.bool false) a))
 (∀ a : World, Below c.heap.size c a → 
 R (.bool false) a))
 (∀ a : World, Below c.heap.size c a → 
 R (.bool false) a))
 (∀ a : World, Below c.heap.size c a → 
 R (.bool false) a))
 (∀ a : World, Below c.heap.size c a → 
 R (.bool false) a))
 (∀ a : World, Below c.heap.size c a → 
 R (.bool false) a)))))))))
end thicketlaw15_lives
def thicketlaw15_lives (R : VP) := thicketlaw15_lives.g0 R
theorem thicketlaw15_lives.calls {R w} (k : thicketlaw15_lives R  w) : CA 11 #[] w R := cal (n := thicketlaw15_lives.an) func11 rfl k (by kernel_rfl)
open Go.Proofs.Try (f13 func13)
namespace blocks_Of
def an : An := (aR (aR (aR (.mk none (aR (aL (.mk (some [1, 2, 4, 7, 19, 20, 21]) .nil .nil))) (aR (aR (aL (aR (aL (.mk (some [2, 4, 10, 63, 64, 65]) .nil .nil))))))))))
def qf (R : VP) : QT := fin prog f13 R
def C := cdN prog f13 an
abbrev T18 := OA → Nat → Nat → OA → OA → Int → OA → Nat → Nat → Int → Int → World → Prop
abbrev T53 := OA → OA → OA → OA → Nat → Nat → Int → Int → World → Prop
def g0 (R : VP) (e18 : T18) (a : ByteArray) (b : OA) (c d : Nat) (e : Int) (f : OA) (g h : Nat) (i : OA) (j k : Nat) (l : OA) (m n : Nat) (o : World) : Prop :=
 nw (o.alloc (.cells (cl25 a b c d e f g h i j k) 26)) fun a =>
 nw (a.alloc (.cells (cl36 0 0 none 0 0 none 0 0) 37)) fun b =>
 ld25 b (na o) fun c d e f g h i j k p q =>
 CA 24 #[ag25 c d e f g h i j k p q] b fun b c =>
 ∃ d, b = .int .i64 d ∧
 (onBool (d != 0)
 (st36 c (na a) 0 0 none 0 0 none 0 0 fun b =>
 ld36 b (na a) fun e f g h i j k p =>
 R (.tuple #[ag36 e f g h i j k p, .int .i64 d]) b)
 (e18 l m n (some (na o)) (some (na a)) 0 l m n (m : Int) 0 c))
def g18 (R : VP) (b18 : T18) (e53 : T53) (a : OA) (b c : Nat) (d e : OA) (f : Int) (g : OA) (h i : Nat) (j k : Int) (l : World) : Prop :=
 onBool (decide (k < j))
 (ix g h k fun m =>
 ld40 l (m.add (k.toNat * 2)) fun m n =>
 nw (l.alloc (.cells (cl40 0 0) 41)) fun o =>
 st40 o (na l) m n fun m =>
 cI m ((na l).add 0) .i64 fun n =>
 onBool (n != f)
 (optN e fun n =>
 st36 m n 0 0 none 0 0 none 0 0 fun n =>
 optN e fun o =>
 ld36 n o fun o p q r s t u v =>
 R (.tuple #[ag36 o p q r s t u v, .int .i64 6]) n)
 (cI m ((na l).add 1) .i64 fun n =>
 cI m ((na l).add 0) .i64 fun o =>
 onBool (decide (n ≤ o))
 (optN e fun n =>
 st36 m n 0 0 none 0 0 none 0 0 fun n =>
 optN e fun o =>
 ld36 n o fun o p q r s t u v =>
 R (.tuple #[ag36 o p q r s t u v, .int .i64 6]) n)
 (cI m ((na l).add 1) .i64 fun n =>
 optN d fun o =>
 cL m (o.add 4) fun o o p =>
 onBool (decide (n > (o : Int)))
 (optN e fun n =>
 st36 m n 0 0 none 0 0 none 0 0 fun n =>
 optN e fun o =>
 ld36 n o fun o p q r s t u v =>
 R (.tuple #[ag36 o p q r s t u v, .int .i64 6]) n)
 (cI m ((na l).add 1) .i64 fun n =>
 inc k fun k =>
 b18 a b c d e n g h i j k m))))
 (optN d fun g =>
 cL l (g.add 4) fun g g h =>
 onBool (f != (g : Int))
 (optN e fun f =>
 st36 l f 0 0 none 0 0 none 0 0 fun f =>
 optN e fun g =>
 ld36 f g fun g h i j k m n o =>
 R (.tuple #[ag36 g h i j k m n o, .int .i64 6]) f)
 (∃ f : Nat → Value → World → Prop, KpF f ∧
 (optN d fun g =>
 cL l (g.add 1) fun g g h =>
 optN d fun h =>
 cI l (h.add 2) .i64 fun h =>
 optN d fun i =>
 cL l (i.add 3) fun i j k =>
 (∀ m : World, Below l.heap.size l m → CA 29 #[.slice i j k] m fun i j => ∃ k n o, i = .slice k n o ∧ f 7 (.slice k n o) j ∧ Below m.heap.size m j) ∧
 (∀ i : Option Addr, ∀ j : Nat, ∀ k : Nat, (∃ m, Below l.heap.size l m ∧ f 7 (.slice i j k) m) →
 (∀ m : World, Below l.heap.size l m → f 9 (.pointer (some (na m))) (m.alloc (.cells (cl36 0 0 none 0 0 none 0 0) 37))) ∧
 (∀ m : Addr, (∃ n, Below l.heap.size l n ∧ f 9 (.pointer (some m)) n) →
 ∀ n : World, Below l.heap.size l n → f 7 (.slice i j k) n → f 9 (.pointer (some m)) n → 
 st36 n m (g : Int) h i j k none 0 0 fun f =>
 e53 d e (some m) a b c (b : Int) 0 f)))))
def g53 (R : VP) (b53 : T53) (a b c d : OA) (e f : Nat) (g h : Int) (i : World) : Prop :=
 onBool (decide (h < g))
 (ix d e h fun j =>
 ld40 i (j.add (h.toNat * 2)) fun j k =>
 nw (i.alloc (.cells (cl40 0 0) 41)) fun l =>
 st40 l (na i) j k fun j =>
 ∃ k : Nat → Value → World → Prop, KpF k ∧
 (optN c fun l =>
 cL j (l.add 3) fun l m n =>
 optN a fun o =>
 cL j (o.add 4) fun o p p =>
 cI j ((na i).add 0) .i64 fun q =>
 cI j ((na i).add 1) .i64 fun r =>
 chk ((0 : Int) ≤ r ∧ r ≤ (p : Int))
 (chk ((0 : Int) ≤ q ∧ q ≤ (r.toNat : Int))
 (cI j ((na i).add 0) .i64 fun s =>
 optN c fun t =>
 cI j (t.add 0) .i64 fun t =>
 (∀ u : World, Below j.heap.size j u → CA 30 #[.slice (slA o p q.toNat 2) (r.toNat - q.toNat) (p - q.toNat), .int .i64 s, .int .i64 t] u fun o p => ∃ q r s t v w x y z A B C D, o = ag65 q r s t v w x y z A B C D ∧ k 13 (ag65 q r s t v w x y z A B C D) p ∧ Below u.heap.size u p) ∧
 (∀ o : Int, ∀ p : Option Addr, ∀ q : Nat, ∀ r : Nat, ∀ s : Option Addr, ∀ t : Nat, ∀ u : Nat, ∀ v : Option Addr, ∀ w : Nat, ∀ x : Nat, ∀ y : Option Addr, ∀ z : Nat, ∀ A : Nat, (∃ B, Below j.heap.size j B ∧ k 13 (ag65 o p q r s t u v w x y z A) B) →
 (∀ B : World, Below j.heap.size j B → k 13 (ag65 o p q r s t u v w x y z A) B → k 14 (.slice (some (na B)) 1 1) (B.alloc (.cells (cl65 o p q r s t u v w x y z A) 66))) ∧
 (∀ B : Addr, (∃ C, Below j.heap.size j C ∧ k 14 (.slice (some B) 1 1) C) →
 ∀ C : World, Below j.heap.size j C → k 13 (ag65 o p q r s t u v w x y z A) C → k 14 (.slice (some B) 1 1) C → 
 rawN prog (Builtin.append_ #[35, 35] 35 #[.slice l m n, .slice (some B) 1 1]) C fun j k =>
 ∃ l m n, j = .slice l m n ∧
 (optN c fun j =>
 st k ((j.add 3).add 0) (.slice l m n) fun j =>
 inc h fun h =>
 b53 a b c d e f g h j)))))))
 (optN c fun a =>
 ld36 i a fun a c d e f g h j =>
 optN b fun k =>
 st36 i k a c d e f g h j fun a =>
 optN b fun b =>
 ld36 a b fun b c d e f g h i =>
 R (.tuple #[ag36 b c d e f g h i, .int .i64 0]) a)
def q18 (R : VP) : QT := (Exit.inBlock 0 (qS none (C [1,1,1,1]) (qf R)))
@[irreducible] def l18 (R : VP) (k : Nat) : T18 := fun a b c d e f g h i j l w => loopN [1,2,4,7,19,20,21] (C [1,1,1,0,1,0,0]) (q18 R) k (fr (U 1 (.slice a b c :: (.pointer d :: U 1 (.pointer e :: U 2 (.int .i64 f :: U 11 (.slice g h i :: (.int .i64 j :: (.int .i64 l :: U 66 []))))))))) w
def e18 (R : VP) : T18 := fun a b c d e f g h i j l w => ∃ k, l18 R k a b c d e f g h i j l w
def q53 (R : VP) : QT := (Exit.inBlock 2 (qS none (C [1,1,1,1,1,1,1]) (qf R)))
@[irreducible] def l53 (R : VP) (k : Nat) : T53 := fun a b c d e f g h w => loopN [2,4,10,63,64,65] (C [1,1,1,1,1,1,0,1,0,0]) (q53 R) k (fr (U 2 (.pointer a :: U 1 (.pointer b :: U 5 (.pointer c :: U 52 (.slice d e f :: (.int .i64 g :: (.int .i64 h :: U 22 [])))))))) w
def e53 (R : VP) : T53 := fun a b c d e f g h w => ∃ k, l53 R k a b c d e f g h w
theorem u53 (R k a b c d e f g h w) : l53 R (k + 1) a b c d e f g h w = g53 R (l53 R k) a b c d e f g h w := ju (by kernel_rfl)
theorem u18 (R k a b c d e f g h i j l w) : l18 R (k + 1) a b c d e f g h i j l w = g18 R (l18 R k) (e53 R) a b c d e f g h i j l w := ju (by kernel_rfl)
end blocks_Of
def blocks_Of (R : VP) := blocks_Of.g0 R (blocks_Of.e18 R)
theorem blocks_Of.calls {R a b c d e f g h i j l m n o w} (k : blocks_Of R a b c d e f g h i j l m n o w) : CA 13 #[ag25 a b c d e f g h i j l, .slice m n o] w R := cal (n := blocks_Of.an) func13 rfl k (by kernel_rfl)
open Go.Proofs.Try (f14 func14)
namespace trees_Inner
def an : An := An.nil
def g0 (R : VP) (a : Int) (b : OA) (c d : Nat) (e : World) : Prop :=
 nw (e.alloc (.cells (cl43 a b c d) 44)) fun a =>
 ld43 a (na e) fun b c d e =>
 CA 31 #[ag43 b c d e, .bool true] a fun a b =>
 ∃ c d e f, a = .tuple #[.slice c d e, .int .i64 f] ∧
 (R (.tuple #[.slice c d e, .int .i64 f]) b)
end trees_Inner
def trees_Inner (R : VP) := trees_Inner.g0 R
theorem trees_Inner.calls {R a b c d w} (k : trees_Inner R a b c d w) : CA 14 #[ag43 a b c d] w R := cal (n := trees_Inner.an) func14 rfl k (by kernel_rfl)
end Go.Mir

set_option linter.unusedVariables false
set_option maxRecDepth 100000
namespace Go.Mir
open Go Go.E Go.RowKit
open Go.Proofs.Try (prog)
open Go.Proofs.Try (f15 func15)
namespace blocks_Same
def an : An := An.nil
def g0 (R : VP) (a b : Int) (c : OA) (d e : Nat) (f : OA) (g h : Nat) (i j : Int) (k : OA) (l m : Nat) (n : OA) (o p : Nat) (q : World) : Prop :=
 nw (q.alloc (.cells (cl36 a b c d e f g h) 37)) fun a =>
 nw (a.alloc (.cells (cl36 i j k l m n o p) 37)) fun b =>
 cI b ((na q).add 0) .i64 fun c =>
 cI b ((na a).add 0) .i64 fun d =>
 onBool (c == d)
 (cI b ((na q).add 1) .i64 fun c =>
 cI b ((na a).add 1) .i64 fun d =>
 onBool (c == d)
 (cL b ((na q).add 2) fun c d e =>
 cL b ((na a).add 2) fun f g h =>
 CA 32 #[.slice c d e, .slice f g h] b fun c d =>
 ∃ e, c = .bool e ∧
 (onBool e
 (cL d ((na q).add 3) fun c e f =>
 cL d ((na a).add 3) fun a g h =>
 CA 33 #[.slice c e f, .slice a g h, .func (.func 34) #[] #[]] d fun a c =>
 ∃ e, a = .bool e ∧
 (R (.bool e) c))
 (R (.bool false) d)))
 (R (.bool false) b))
 (R (.bool false) b)
end blocks_Same
def blocks_Same (R : VP) := blocks_Same.g0 R
theorem blocks_Same.calls {R a b c d e f g h i j l m n o p q w} (k : blocks_Same R a b c d e f g h i j l m n o p q w) : CA 15 #[ag36 a b c d e f g h, ag36 i j l m n o p q] w R := cal (n := blocks_Same.an) func15 rfl k (by kernel_rfl)
open Go.Proofs.Try (f20 func20)
namespace blocks_Compile
def an : An := An.nil
def g0 (R : VP) (a : ByteArray) (b : OA) (c d : Nat) (e : Int) (f : OA) (g h : Nat) (i : OA) (j k : Nat) (l : Int) (m : World) : Prop :=
 nw (m.alloc (.cells (cl25 a b c d e f g h i j k) 26)) fun a =>
 nw (a.alloc (.cells (cl36 0 0 none 0 0 none 0 0) 37)) fun b =>
 ld25 b (na m) fun c d e f g h i j k n o =>
 CA 24 #[ag25 c d e f g h i j k n o] b fun b c =>
 ∃ d, b = .int .i64 d ∧
 (onBool (d != 0)
 (st36 c (na a) 0 0 none 0 0 none 0 0 fun b =>
 ld36 b (na a) fun e f g h i j k n =>
 R (.tuple #[ag36 e f g h i j k n, .int .i64 d]) b)
 (cL c ((na m).add 4) fun b b d =>
 CA 7 #[.int .i64 (b : Int), .int .i64 l] c fun b c =>
 ∃ d e f g, b = .tuple #[.slice d e f, .int .i64 g] ∧
 (onBool (g != 0)
 (st36 c (na a) 0 0 none 0 0 none 0 0 fun b =>
 ld36 b (na a) fun h i j k l n o p =>
 R (.tuple #[ag36 h i j k l n o p, .int .i64 g]) b)
 (ld25 c (na m) fun b g h i j k l m n o p =>
 CA 13 #[ag25 b g h i j k l m n o p, .slice d e f] c fun b c =>
 ∃ d e f g h i j k l, b = .tuple #[ag36 d e f g h i j k, .int .i64 l] ∧
 (st36 c (na a) d e f g h i j k fun b =>
 ld36 b (na a) fun a c d e f g h i =>
 R (.tuple #[ag36 a c d e f g h i, .int .i64 l]) b)))))
end blocks_Compile
def blocks_Compile (R : VP) := blocks_Compile.g0 R
theorem blocks_Compile.calls {R a b c d e f g h i j l m w} (k : blocks_Compile R a b c d e f g h i j l m w) : CA 20 #[ag25 a b c d e f g h i j l, .int .i64 m] w R := cal (n := blocks_Compile.an) func20 rfl k (by kernel_rfl)
open Go.Proofs.Try (f21 func21)
namespace blocks_Back
def an : An := (aR (aR (aR (aR (aR (aL (aR (aL (.mk (some [1, 4, 5, 30, 31, 32]) .nil .nil)))))))))
def qf (R : VP) : QT := fin prog f21 R
def C := cdN prog f21 an
abbrev T20 := OA → OA → OA → Nat → Nat → OA → Nat → Nat → Int → Int → World → Prop
def g0 (R : VP) (e20 : T20) (a b : Int) (c : OA) (d e : Nat) (f : OA) (g h : Nat) (i : World) : Prop :=
 nw (i.alloc (.cells (cl36 a b c d e f g h) 37)) fun a =>
 cI a ((na i).add 1) .i64 fun b =>
 cL a ((na i).add 2) fun c d e =>
 nw (a.alloc (.cells (cl25 ⟨#[]⟩ none 0 0 0 none 0 0 none 0 0) 26)) fun f =>
 st25 f (na a) ⟨#[]⟩ none 0 0 b c d e none 0 0 fun b =>
 cI b ((na i).add 0) .i64 fun c =>
 onBool (decide (c < 0))
 (R (.tuple #[.slice none 0 0, .int .i64 150]) b)
 (cI b ((na i).add 0) .i64 fun c =>
 onBool (decide (c > 65536))
 (R (.tuple #[.slice none 0 0, .int .i64 150]) b)
 (cI b ((na i).add 0) .i64 fun c =>
 chk ((0 : Int) ≤ c ∧ c ≤ c ∧ ((16 : Nat) : Int) * c ≤ 281474976710656 ∧ c ≤ 9223372036854775807)
 (nw (b.alloc (.cells (madeCells #[.string ⟨#[]⟩] ((c).toNat * 1)) 9)) fun d =>
 st d (((na a).add 1).add 0) (.slice (some (na b)) ((c).toNat) ((c).toNat)) fun b =>
 cL b ((na i).add 3) fun c d e =>
 e20 (some (na i)) (some (na a)) none 0 0 c d e (d : Int) 0 b)))
def g20 (R : VP) (b20 : T20) (a b c : OA) (d e : Nat) (f : OA) (g h : Nat) (i j : Int) (k : World) : Prop :=
 onBool (decide (j < i))
 (ix f g j fun l =>
 ld65 k (l.add (j.toNat * 5)) fun l m n o p q r s t u v w x =>
 nw (k.alloc (.cells (cl65 0 none 0 0 none 0 0 none 0 0 none 0 0) 66)) fun y =>
 st65 y (na k) l m n o p q r s t u v w x fun l =>
 ld65 l (na k) fun m n o p q r s t u v w x y =>
 CA 51 #[ag65 m n o p q r s t u v w x y] l fun l m =>
 ∃ n o p q, l = .tuple #[.slice n o p, .bool q] ∧
 (onBool (!q)
 (R (.tuple #[.slice none 0 0, .int .i64 150]) m)
 (cI m ((na k).add 0) .i64 fun l =>
 optN b fun q =>
 cL m (q.add 4) fun q q r =>
 onBool (l != (q : Int))
 (R (.tuple #[.slice none 0 0, .int .i64 150]) m)
 (optN b fun l =>
 cL m (l.add 4) fun l q r =>
 rawN prog (Builtin.append_ #[24, 24] 24 #[.slice l q r, .slice n o p]) m fun l m =>
 ∃ n o p, l = .slice n o p ∧
 (optN b fun l =>
 st m ((l.add 4).add 0) (.slice n o p) fun l =>
 cI l ((na k).add 0) .i64 fun m =>
 optN b fun n =>
 cL l (n.add 4) fun n n o =>
 nw (l.alloc (.cells (cl40 m (n : Int)) 41)) fun m =>
 rawN prog (Builtin.append_ #[27, 27] 27 #[.slice c d e, .slice (some (na l)) 1 1]) m fun l m =>
 ∃ n o p, l = .slice n o p ∧
 (inc j fun j =>
 b20 a b n o p f g h i j m))))))
 (optN b fun f =>
 ld25 k f fun f g h i j l m n o p q =>
 CA 13 #[ag25 f g h i j l m n o p q, .slice c d e] k fun c d =>
 ∃ e f g h i j k l m, c = .tuple #[ag36 e f g h i j k l, .int .i64 m] ∧
 (nw (d.alloc (.cells (cl36 0 0 none 0 0 none 0 0) 37)) fun c =>
 st36 c (na d) e f g h i j k l fun c =>
 onBool (m != 0)
 (R (.tuple #[.slice none 0 0, .int .i64 150]) c)
 (ld36 c (na d) fun d e f g h i j k =>
 optN a fun a =>
 ld36 c a fun a l m n o p q r =>
 CA 15 #[ag36 d e f g h i j k, ag36 a l m n o p q r] c fun a c =>
 ∃ d, a = .bool d ∧
 (onBool (!d)
 (R (.tuple #[.slice none 0 0, .int .i64 150]) c)
 (optN b fun a =>
 cL c (a.add 4) fun a b d =>
 R (.tuple #[.slice a b d, .int .i64 0]) c)))))
def q20 (R : VP) : QT := (Exit.inBlock 0 (qS none (C [1,1,1,1,1,1]) (qf R)))
@[irreducible] def l20 (R : VP) (k : Nat) : T20 := fun a b c d e f g h i j w => loopN [1,4,5,30,31,32] (C [1,1,1,1,1,0,1,0,0]) (q20 R) k (fr (U 1 (.pointer a :: U 2 (.pointer b :: (.slice c d e :: U 24 (.slice f g h :: (.int .i64 i :: (.int .i64 j :: U 49 [])))))))) w
def e20 (R : VP) : T20 := fun a b c d e f g h i j w => ∃ k, l20 R k a b c d e f g h i j w
theorem u20 (R k a b c d e f g h i j w) : l20 R (k + 1) a b c d e f g h i j w = g20 R (l20 R k) a b c d e f g h i j w := ju (by kernel_rfl)
end blocks_Back
def blocks_Back (R : VP) := blocks_Back.g0 R (blocks_Back.e20 R)
theorem blocks_Back.calls {R a b c d e f g h w} (k : blocks_Back R a b c d e f g h w) : CA 21 #[ag36 a b c d e f g h] w R := cal (n := blocks_Back.an) func21 rfl k (by kernel_rfl)
open Go.Proofs.Try (f22 func22)
namespace blocks_Check
def an : An := (aR (aR (aR (aR (aR (aL (aR (aL (.mk (some [1, 6, 30, 31]) .nil .nil)))))))))
def qf (R : VP) : QT := fin prog f22 R
def C := cdN prog f22 an
abbrev T30 := OA → OA → Int → Int → World → Prop
def g0 (R : VP) (e30 : T30) (a b : Int) (c : OA) (d e : Nat) (f : OA) (g h : Nat) (i : World) : Prop :=
 nw (i.alloc (.cells (cl36 a b c d e f g h) 37)) fun a =>
 ld36 a (na i) fun b c d e f g h j =>
 CA 21 #[ag36 b c d e f g h j] a fun a b =>
 ∃ c d e f, a = .tuple #[.slice c d e, .int .i64 f] ∧
 (onBool (f == 0)
 (R (.tuple #[.int .i64 0, .int .i64 0]) b)
 (ld36 b (na i) fun a c d e f g h j =>
 nw (b.alloc (.cells (cl36 0 0 none 0 0 none 0 0) 37)) fun k =>
 st36 k (na b) a c d e f g h j fun a =>
 st a (((na b).add 3).add 0) (.slice none 0 0) fun a =>
 ld36 a (na b) fun c d e f g h j k =>
 CA 21 #[ag36 c d e f g h j k] a fun a c =>
 ∃ d e f g, a = .tuple #[.slice d e f, .int .i64 g] ∧
 (onBool (g != 0)
 (R (.tuple #[.int .i64 150, .int .i64 0]) c)
 (cL c ((na i).add 3) fun a a d =>
 e30 (some (na i)) (some (na b)) (a : Int) 0 c))))
def g30 (R : VP) (b30 : T30) (a b : OA) (c d : Int) (e : World) : Prop :=
 onBool (decide (d < c))
 (optN a fun f =>
 cL e (f.add 3) fun f g g =>
 inc d fun h =>
 chk ((0 : Int) ≤ h ∧ h ≤ (g : Int))
 (optN b fun i =>
 st e ((i.add 3).add 0) (.slice (slA f g 0 5) h.toNat g) fun f =>
 optN b fun g =>
 ld36 f g fun g h i j k l m n =>
 CA 21 #[ag36 g h i j k l m n] f fun f g =>
 ∃ h i j k, f = .tuple #[.slice h i j, .int .i64 k] ∧
 (onBool (k != 0)
 (R (.tuple #[.int .i64 150, .int .i64 d]) g)
 (inc d fun d =>
 b30 a b c d g))))
 (R (.tuple #[.int .i64 0, .int .i64 0]) e)
def q30 (R : VP) : QT := (Exit.inBlock 0 (qS none (C [1,1,1,1,1,1]) (qf R)))
@[irreducible] def l30 (R : VP) (k : Nat) : T30 := fun a b c d w => loopN [1,6,30,31] (C [1,1,1,1,1,0,1,0,0]) (q30 R) k (fr (U 1 (.pointer a :: U 4 (.pointer b :: U 23 (.int .i64 c :: (.int .i64 d :: U 17 [])))))) w
def e30 (R : VP) : T30 := fun a b c d w => ∃ k, l30 R k a b c d w
theorem u30 (R k a b c d w) : l30 R (k + 1) a b c d w = g30 R (l30 R k) a b c d w := ju (by kernel_rfl)
end blocks_Check
def blocks_Check (R : VP) := blocks_Check.g0 R (blocks_Check.e30 R)
theorem blocks_Check.calls {R a b c d e f g h w} (k : blocks_Check R a b c d e f g h w) : CA 22 #[ag36 a b c d e f g h] w R := cal (n := blocks_Check.an) func22 rfl k (by kernel_rfl)
end Go.Mir

set_option linter.unusedVariables false
set_option maxRecDepth 100000
namespace Go.Mir
open Go Go.E Go.RowKit
open Go.Proofs.Try (prog)
open Go.Proofs.Try (f24 func24)
namespace blocks_wrong
def an : An := (aR (aR (aR (aL (aR (aL (.mk (some [1, 36, 37, 38]) (aR (aR (aL (aL (aR (aR (aR (aR (aL (.mk (some [1, 36, 37, 38, 67, 68, 69]) .nil .nil)))))))))) .nil)))))))
def qf (R : VP) : QT := fin prog f24 R
def C := cdN prog f24 an
abbrev T22 := OA → OA → Nat → Nat → Int → Int → World → Prop
abbrev T59 := OA → OA → Nat → Nat → Int → Int → OA → Nat → Nat → Int → Int → World → Prop
def g0 (R : VP) (e22 : T22) (a : ByteArray) (b : OA) (c d : Nat) (e : Int) (f : OA) (g h : Nat) (i : OA) (j k : Nat) (l : World) : Prop :=
 nw (l.alloc (.cells (cl25 a b c d e f g h i j k) 26)) fun a =>
 cI a ((na l).add 2) .i64 fun b =>
 onBool (decide (b < 1))
 (R (.int .i64 6) a)
 (cI a ((na l).add 2) .i64 fun b =>
 onBool (decide (b > 64))
 (R (.int .i64 6) a)
 (cL a ((na l).add 3) fun b b c =>
 cI a ((na l).add 2) .i64 fun c =>
 onBool ((b : Int) != c)
 (R (.int .i64 6) a)
 (cL a ((na l).add 1) fun b b c =>
 onBool (decide ((b : Int) > 65536))
 (R (.int .i64 6) a)
 (cL a ((na l).add 4) fun b b c =>
 onBool (decide ((b : Int) > 65536))
 (R (.int .i64 3) a)
 (cL a ((na l).add 4) fun b c d =>
 e22 (some (na l)) b c d (c : Int) 0 a)))))
def g22 (R : VP) (e59 : T59) (a b : OA) (c d : Nat) (e f : Int) (g : World) : Prop :=
 onBool (decide (f < e))
 (ix b c f fun h =>
 ld43 g (h.add (f.toNat * 2)) fun h i j k =>
 nw (g.alloc (.cells (cl43 0 none 0 0) 44)) fun l =>
 st43 l (na g) h i j k fun h =>
 ld43 h (na g) fun i j k l =>
 CA 53 #[ag43 i j k l] h fun h i =>
 ∃ j k l m, h = .tuple #[.slice j k l, .int .i64 m] ∧
 (onBool (m != 0)
 (R (.int .i64 m) i)
 (onBool (decide ((k : Int) > 4096))
 (R (.int .i64 3) i)
 (cI i ((na g).add 0) .i64 fun h =>
 onBool (decide (h < 0))
 (R (.int .i64 6) i)
 (cI i ((na g).add 0) .i64 fun h =>
 optN a fun j =>
 cI i (j.add 2) .i64 fun j =>
 onBool (decide (h ≥ j))
 (R (.int .i64 6) i)
 (cL i ((na g).add 1) fun h j k =>
 e59 a b c d e f h j k (j : Int) 0 i))))))
 (R (.int .i64 0) g)
def g59 (R : VP) (b22 : T22) (b59 : T59) (a b : OA) (c d : Nat) (e f : Int) (g : OA) (h i : Nat) (j k : Int) (l : World) : Prop :=
 onBool (decide (k < j))
 (ix g h k fun m =>
 ld100 l (m.add (k.toNat * 8)) fun m n o p q r s t u v =>
 nw (l.alloc (.cells (cl100 0 0 0 0 none 0 0 0 0 0) 101)) fun w =>
 st100 w (na l) m n o p q r s t u v fun m =>
 cI m ((na l).add 0) .u8 fun n =>
 onBool (n != 1)
 (cI m ((na l).add 2) .i64 fun n =>
 optN a fun o =>
 cL m (o.add 1) fun o o p =>
 onBool (decide (n ≥ (o : Int)))
 (R (.int .i64 72) m)
 (inc k fun n =>
 b59 a b c d e f g h i j n m))
 (inc k fun k =>
 b59 a b c d e f g h i j k m))
 (inc f fun f =>
 b22 a b c d e f l)
def q22 (R : VP) : QT := (Exit.inBlock 0 (qS none (C [1,1,1,1]) (qf R)))
@[irreducible] def l22 (R : VP) (k : Nat) : T22 := fun a b c d e f w => loopN [1,36,37,38] (C [1,1,1,0,1,0,0]) (q22 R) k (fr (U 1 (.pointer a :: U 34 (.slice b c d :: (.int .i64 e :: (.int .i64 f :: U 47 [])))))) w
def e22 (R : VP) : T22 := fun a b c d e f w => ∃ k, l22 R k a b c d e f w
def q59 (R : VP) (k22 : Nat) : QT := (Exit.inBlock 3 (Exit.inBlock 1 (qS none (C [1,1,1,0,1,0,0,1,1,1]) (qL [1,36,37,38] (C [1,1,1,0,1,0,0]) (q22 R) k22))))
def rl59 (R : VP) (k22 : Nat) (k : Nat) : T59 := fun a b c d e f g h i j l w => loopN [1,36,37,38,67,68,69] (C [1,1,1,0,1,0,0,1,1,0,0,1,1,1,1,0,0]) (q59 R k22) k (fr (U 1 (.pointer a :: U 34 (.slice b c d :: (.int .i64 e :: (.int .i64 f :: U 28 (.slice g h i :: (.int .i64 j :: (.int .i64 l :: U 16 []))))))))) w
def re59 (R : VP) (k22 : Nat) : T59 := fun a b c d e f g h i j l w => ∃ k, rl59 R k22 k a b c d e f g h i j l w
def l59 (R : VP) (b22 : T22) : Nat → T59
  | 0 => fun _ _ _ _ _ _ _ _ _ _ _ _ => False
  | k + 1 => g59 R b22 (l59 R b22 k)
def e59 (R : VP) (b22 : T22) : T59 := fun a b c d e f g h i j l w => ∃ k, l59 R b22 k a b c d e f g h i j l w
theorem s59 (R : VP) (k22 : Nat) (k : Nat) : rl59 R k22 (k + 1) = fun a b c d e f g h i j l w => ∀ _ : Nat → Value, g59 R (l22 R k22) (rl59 R k22 k) a b c d e f g h i j l w := by kernel_rfl
theorem lq59 (R : VP) (k22 : Nat) (b22 : T22) (hb22 : b22 = l22 R k22) : ∀ k, l59 R b22 k = rl59 R k22 k
  | 0 => by kernel_rfl
  | k + 1 => by
    rw [s59]
    simp only [forall_const]
    unfold l59
    have ih := lq59 R k22 b22 hb22 k
    subst hb22
    rw [ih]
    all_goals rfl
theorem eq59 (R : VP) (k22 : Nat) (b22 : T22) (hb22 : b22 = l22 R k22) : e59 R b22 = re59 R k22 := by
  unfold e59 re59
  simp only [lq59 R k22 b22 hb22]
theorem u22 (R k a b c d e f w) : l22 R (k + 1) a b c d e f w = g22 R (e59 R (l22 R k)) a b c d e f w := by rw [eq59 R k _ rfl]; exact ju (by kernel_rfl)
end blocks_wrong
def blocks_wrong (R : VP) := blocks_wrong.g0 R (blocks_wrong.e22 R)
theorem blocks_wrong.calls {R a b c d e f g h i j l w} (k : blocks_wrong R a b c d e f g h i j l w) : CA 24 #[ag25 a b c d e f g h i j l] w R := cal (n := blocks_wrong.an) func24 rfl k (by kernel_rfl)
open Go.Proofs.Try (f27 func27)
namespace thicketlaw15_sample
def an : An := An.nil
def g0 (R : VP) (a : World) : Prop :=
 nw (a.alloc (.cells (cl25 ⟨#[]⟩ none 0 0 0 none 0 0 none 0 0) 26)) fun b =>
 nw (b.alloc (.cells #[.string ⟨#[97]⟩, .string ⟨#[98]⟩] 9)) fun c =>
 nw (c.alloc (.cells #[.int .i64 0] 2)) fun d =>
 nw (d.alloc (.cells #[.int .u8 2, .int .i64 0, .int .i64 1, .float .f64 4611686018427387904, .slice none 0 0, .int .u8 2, .int .i64 1, .int .i64 2, .int .u8 1, .int .i64 10, .int .i64 0, .float .f64 0, .slice none 0 0, .int .u8 0, .int .i64 0, .int .i64 0, .int .u8 1, .int .i64 20, .int .i64 0, .float .f64 0, .slice none 0 0, .int .u8 0, .int .i64 0, .int .i64 0] 101)) fun e =>
 nw (e.alloc (.cells #[.int .i64 4] 3)) fun f =>
 nw (f.alloc (.cells #[.int .u8 2, .int .i64 0, .int .i64 1, .float .f64 4607182418800017408, .slice none 0 0, .int .u8 1, .int .i64 1, .int .i64 4, .int .u8 3, .int .i64 0, .int .i64 0, .float .f64 0, .slice (some (na e)) 1 1, .int .u8 2, .int .i64 2, .int .i64 3, .int .u8 1, .int .i64 1, .int .i64 0, .float .f64 0, .slice none 0 0, .int .u8 0, .int .i64 0, .int .i64 0, .int .u8 1, .int .i64 2, .int .i64 0, .float .f64 0, .slice none 0 0, .int .u8 0, .int .i64 0, .int .i64 0, .int .u8 1, .int .i64 3, .int .i64 0, .float .f64 0, .slice none 0 0, .int .u8 0, .int .i64 0, .int .i64 0] 101)) fun e =>
 nw (e.alloc (.cells #[.int .i64 0, .slice (some (na d)) 3 3, .int .i64 0, .slice (some (na f)) 5 5] 44)) fun d =>
 st25 d (na a) ⟨#[]⟩ (some (na b)) 2 2 1 (some (na c)) 1 1 (some (na e)) 2 2 fun b =>
 ld25 b (na a) fun a c d e f g h i j k l =>
 R (ag25 a c d e f g h i j k l) b
end thicketlaw15_sample
def thicketlaw15_sample (R : VP) := thicketlaw15_sample.g0 R
theorem thicketlaw15_sample.calls {R w} (k : thicketlaw15_sample R  w) : CA 27 #[] w R := cal (n := thicketlaw15_sample.an) func27 rfl k (by kernel_rfl)
open Go.Proofs.Try (f28 func28)
namespace trees_Alike
def an : An := An.nil
def g0 (R : VP) (a : Int) (b : OA) (c d : Nat) (e : Int) (f : OA) (g h : Nat) (i : World) : Prop :=
 nw (i.alloc (.cells (cl43 a b c d) 44)) fun a =>
 nw (a.alloc (.cells (cl43 e f g h) 44)) fun b =>
 cI b ((na i).add 0) .i64 fun c =>
 cI b ((na a).add 0) .i64 fun d =>
 onBool (c == d)
 (cL b ((na i).add 1) fun c d e =>
 cL b ((na a).add 1) fun a f g =>
 CA 56 #[.slice c d e, .slice a f g, .func (.func 57) #[] #[]] b fun a c =>
 ∃ d, a = .bool d ∧
 (R (.bool d) c))
 (R (.bool false) b)
end trees_Alike
def trees_Alike (R : VP) := trees_Alike.g0 R
theorem trees_Alike.calls {R a b c d e f g h w} (k : trees_Alike R a b c d e f g h w) : CA 28 #[ag43 a b c d, ag43 e f g h] w R := cal (n := trees_Alike.an) func28 rfl k (by kernel_rfl)
open Go.Proofs.Try (f29 func29)
namespace slices_Clone_i64
def an : An := An.nil
def g0 (R : VP) (a : OA) (b c : Nat) (d : World) : Prop :=
 onBool a.isNone
 (R (.slice none 0 0) d)
 (nw (d.alloc (.cells #[] 2)) fun e =>
 rawN prog (Builtin.append_ #[23, 23] 23 #[.slice (some (na d)) 0 0, .slice a b c]) e fun a b =>
 ∃ c d e, a = .slice c d e ∧
 (R (.slice c d e) b))
end slices_Clone_i64
def slices_Clone_i64 (R : VP) := slices_Clone_i64.g0 R
theorem slices_Clone_i64.calls {R a b c w} (k : slices_Clone_i64 R a b c w) : CA 29 #[.slice a b c] w R := cal (n := slices_Clone_i64.an) func29 rfl k (by kernel_rfl)
open Go.Proofs.Try (f30 func30)
namespace blocks_one
def an : An := (aR (aR (aL (aR (aL (.mk (some [0, 2, 6, 7, 17, 18, 19]) (aR (aR (aL (aL (aR (aR (aR (aL (aR (aL (.mk (some [0, 2, 6, 7, 9, 10, 12, 17, 18, 19, 31, 32, 33]) .nil .nil))))))))))) .nil))))))
def qf (R : VP) : QT := fin prog f30 R
def C := cdN prog f30 an
abbrev T8 := OA → Nat → Nat → Int → OA → OA → OA → Nat → Nat → Int → Int → World → Prop
abbrev T27 := OA → Nat → Nat → Int → OA → OA → OA → OA → Nat → Nat → OA → Nat → Nat → OA → Nat → Nat → Int → Int → OA → Nat → Nat → Int → Int → World → Prop
def g0 (R : VP) (e8 : T8) (a : OA) (b c : Nat) (d e : Int) (f : World) : Prop :=
 nw (f.alloc (.cells (cl65 0 none 0 0 none 0 0 none 0 0 none 0 0) 66)) fun g =>
 nw (g.alloc (.cells (cl65 0 none 0 0 none 0 0 none 0 0 none 0 0) 66)) fun h =>
 st65 h (na g) d none 0 0 none 0 0 none 0 0 none 0 0 fun d =>
 e8 a b c e (some (na f)) (some (na g)) a b c (b : Int) 0 d
def g8 (R : VP) (e27 : T27) (a : OA) (b c : Nat) (d : Int) (e f g : OA) (h i : Nat) (j k : Int) (l : World) : Prop :=
 onBool (decide (k < j))
 (ix g h k fun m =>
 ld43 l (m.add (k.toNat * 2)) fun m n o p =>
 nw (l.alloc (.cells (cl43 0 none 0 0) 44)) fun q =>
 st43 q (na l) m n o p fun m =>
 ld43 m (na l) fun n o p q =>
 CA 53 #[ag43 n o p q] m fun m n =>
 ∃ o p q r, m = .tuple #[.slice o p q, .int .i64 r] ∧
 (chk ((0 : Int) ≤ 0 ∧ 0 ≤ (p : Int) ∧ ((8 : Nat) : Int) * (p : Int) ≤ 281474976710656 ∧ (p : Int) ≤ 9223372036854775807)
 (nw (n.alloc (.cells (madeCells #[.int .i64 0] (((p : Int)).toNat * 1)) 2)) fun m =>
 e27 a b c d e f (some (na l)) o p q (some (na n)) 0 (((p : Int)).toNat) g h i j k o p q (p : Int) 0 m)))
 (CA 59 #[.slice a b c, .int .i64 d] l fun a b =>
 ∃ c d g h, a = .tuple #[.slice c d g, .int .i64 h] ∧
 (optN f fun a =>
 st b ((a.add 4).add 0) (.slice c d g) fun a =>
 optN f fun b =>
 ld65 a b fun b c d f g h i j k l m n o =>
 optN e fun p =>
 st65 a p b c d f g h i j k l m n o fun a =>
 optN e fun b =>
 ld65 a b fun b c d e f g h i j k l m n =>
 R (ag65 b c d e f g h i j k l m n) a))
def g27 (R : VP) (b8 : T8) (b27 : T27) (a : OA) (b c : Nat) (d : Int) (e f g h : OA) (i j : Nat) (k : OA) (l m : Nat) (n : OA) (o p : Nat) (q r : Int) (s : OA) (t u : Nat) (v w : Int) (x : World) : Prop :=
 onBool (decide (w < v))
 (ix s t w fun y =>
 cI x (y.add (w.toNat * 1)) .i64 fun y =>
 optN g fun z =>
 cL x (z.add 1) fun z A B =>
 ix z A y fun z =>
 cI x ((z.add (y.toNat * 8)).add 1) .i64 fun y =>
 nw (x.alloc (.cells #[.int .i64 y] 2)) fun y =>
 rawN prog (Builtin.append_ #[23, 23] 23 #[.slice k l m, .slice (some (na x)) 1 1]) y fun y z =>
 ∃ A B C, y = .slice A B C ∧
 (inc w fun w =>
 b27 a b c d e f g h i j A B C n o p q r s t u v w z))
 (optN f fun h =>
 cL x (h.add 1) fun h j s =>
 nw (x.alloc (.cells #[.int .i64 (i : Int)] 3)) fun i =>
 rawN prog (Builtin.append_ #[45, 45] 45 #[.slice h j s, .slice (some (na x)) 1 1]) i fun h i =>
 ∃ j s t, h = .slice j s t ∧
 (optN f fun h =>
 st i ((h.add 1).add 0) (.slice j s t) fun h =>
 optN f fun i =>
 cL h (i.add 2) fun i j s =>
 nw (h.alloc (.cells #[.slice k l m] 23)) fun k =>
 rawN prog (Builtin.append_ #[63, 63] 63 #[.slice i j s, .slice (some (na h)) 1 1]) k fun h i =>
 ∃ j k l, h = .slice j k l ∧
 (optN f fun h =>
 st i ((h.add 2).add 0) (.slice j k l) fun h =>
 optN f fun i =>
 cL h (i.add 3) fun i j k =>
 optN g fun g =>
 cI h (g.add 0) .i64 fun g =>
 nw (h.alloc (.cells #[.int .i64 g] 3)) fun g =>
 rawN prog (Builtin.append_ #[45, 45] 45 #[.slice i j k, .slice (some (na h)) 1 1]) g fun g h =>
 ∃ i j k, g = .slice i j k ∧
 (optN f fun g =>
 st h ((g.add 3).add 0) (.slice i j k) fun g =>
 inc r fun h =>
 b8 a b c d e f n o p q h g))))
def q8 (R : VP) : QT := (Exit.inBlock 0 (qS none (C [1,1,1]) (qf R)))
@[irreducible] def l8 (R : VP) (k : Nat) : T8 := fun a b c d e f g h i j l w => loopN [0,2,6,7,17,18,19] (C [1,1,0,1,0,0]) (q8 R) k (fr ((.slice a b c :: U 1 (.int .i64 d :: U 3 (.pointer e :: (.pointer f :: U 9 (.slice g h i :: (.int .i64 j :: (.int .i64 l :: U 56 []))))))))) w
def e8 (R : VP) : T8 := fun a b c d e f g h i j l w => ∃ k, l8 R k a b c d e f g h i j l w
def q27 (R : VP) (k8 : Nat) : QT := (Exit.inBlock 2 (qS none (C [1,1,0,1,0,0,1,1,0,0,1,1,1,1]) (Exit.inBlock 1 (qS none (C [1,1,0,1,0,0,1,1,1]) (qL [0,2,6,7,17,18,19] (C [1,1,0,1,0,0]) (q8 R) k8)))))
def rl27 (R : VP) (k8 : Nat) (k : Nat) : T27 := fun a b c d e f g h i j l m n o p q r s t u v x y w => loopN [0,2,6,7,9,10,12,17,18,19,31,32,33] (C [1,1,0,1,0,0,1,1,0,0,1,1,1,0,1,0,0]) (q27 R k8) k (fr ((.slice a b c :: U 1 (.int .i64 d :: U 3 (.pointer e :: (.pointer f :: U 1 (.pointer g :: (.slice h i j :: U 1 (.slice l m n :: U 4 (.slice o p q :: (.int .i64 r :: (.int .i64 s :: U 11 (.slice t u v :: (.int .i64 x :: (.int .i64 y :: U 42 []))))))))))))))) w
def re27 (R : VP) (k8 : Nat) : T27 := fun a b c d e f g h i j l m n o p q r s t u v x y w => ∃ k, rl27 R k8 k a b c d e f g h i j l m n o p q r s t u v x y w
def l27 (R : VP) (b8 : T8) : Nat → T27
  | 0 => fun _ _ _ _ _ _ _ _ _ _ _ _ _ _ _ _ _ _ _ _ _ _ _ _ => False
  | k + 1 => g27 R b8 (l27 R b8 k)
def e27 (R : VP) (b8 : T8) : T27 := fun a b c d e f g h i j l m n o p q r s t u v x y w => ∃ k, l27 R b8 k a b c d e f g h i j l m n o p q r s t u v x y w
theorem s27 (R : VP) (k8 : Nat) (k : Nat) : rl27 R k8 (k + 1) = fun a b c d e f g h i j l m n o p q r s t u v x y w => ∀ _ : Nat → Value, g27 R (l8 R k8) (rl27 R k8 k) a b c d e f g h i j l m n o p q r s t u v x y w := by kernel_rfl
theorem lq27 (R : VP) (k8 : Nat) (b8 : T8) (hb8 : b8 = l8 R k8) : ∀ k, l27 R b8 k = rl27 R k8 k
  | 0 => by kernel_rfl
  | k + 1 => by
    rw [s27]
    simp only [forall_const]
    unfold l27
    have ih := lq27 R k8 b8 hb8 k
    subst hb8
    rw [ih]
    all_goals rfl
theorem eq27 (R : VP) (k8 : Nat) (b8 : T8) (hb8 : b8 = l8 R k8) : e27 R b8 = re27 R k8 := by
  unfold e27 re27
  simp only [lq27 R k8 b8 hb8]
theorem u8 (R k a b c d e f g h i j l w) : l8 R (k + 1) a b c d e f g h i j l w = g8 R (e27 R (l8 R k)) a b c d e f g h i j l w := by rw [eq27 R k _ rfl]; exact ju (by kernel_rfl)
end blocks_one
def blocks_one (R : VP) := blocks_one.g0 R (blocks_one.e8 R)
theorem blocks_one.calls {R a b c d e w} (k : blocks_one R a b c d e w) : CA 30 #[.slice a b c, .int .i64 d, .int .i64 e] w R := cal (n := blocks_one.an) func30 rfl k (by kernel_rfl)
open Go.Proofs.Try (f31 func31)
namespace trees_those
def an : An := An.nil
def g0 (R : VP) (a : Int) (b : OA) (c d : Nat) (e : Bool) (f : World) : Prop :=
 nw (f.alloc (.cells (cl43 a b c d) 44)) fun a =>
 nw (a.alloc (.cells #[.bool e] 4)) fun b =>
 ld43 b (na f) fun c d e g =>
 CA 60 #[ag43 c d e g] b fun b c =>
 ∃ d e, b = .tuple #[.int .i64 d, .int .i64 e] ∧
 (onBool (d != 0)
 (R (.tuple #[.slice none 0 0, .int .i64 d]) c)
 (nw (c.alloc (.cells #[.slice none 0 0] 45)) fun b =>
 ld43 b (na f) fun d e g h =>
 CA 61 #[ag43 d e g h] b fun b d =>
 ∃ e, b = e ∧
 (rangeI prog e d
 (fun b d d e =>
 cL d ((na f).add 1) fun f g h =>
 ix f g b fun f =>
 ld100 d (f.add (b.toNat * 8)) fun f g h i j k l m n o =>
 ∃ p, (∀ q : World, Below d.heap.size d q → CA 62 #[ag100 f g h i j k l m n o] q fun f g => f = .bool p ∧ Below d.heap.size d g) ∧
 (cB d (na a) fun a =>
 ∀ f : World, Below d.heap.size d f →
 onBool (p == a)
 (cL f (na c) fun a d g =>
 nw (f.alloc (.cells #[.int .i64 b] 3)) fun b =>
 rawN prog (Builtin.append_ #[45, 45] 45 #[.slice a d g, .slice (some (na f)) 1 1]) b fun a b =>
 ∃ d g h, a = .slice d g h ∧
 (st b ((na c).add 0) (.slice d g h) fun a =>
 e a))
 (e f)))
 (fun a b =>
 cL b (na c) fun c d e =>
 b.heap[a]? = some (.deferred (some [])) ∧
 nw (b.putObj a (.deferred none)) fun a =>
 R (.tuple #[.slice c d e, .int .i64 0]) a))))
end trees_those
def trees_those (R : VP) := trees_those.g0 R
theorem trees_those.calls {R a b c d e w} (k : trees_those R a b c d e w) : CA 31 #[ag43 a b c d, .bool e] w R := cal (n := trees_those.an) func31 rfl k (by kernel_rfl)
open Go.Proofs.Try (f32 func32)
namespace slices_Equal_i64
def an : An := (aR (aR (aL (aR (aL (.mk (some [0, 1, 12, 13]) .nil .nil))))))
def qf (R : VP) : QT := fin prog f32 R
def C := cdN prog f32 an
abbrev T14 := OA → Nat → Nat → OA → Nat → Nat → Int → Int → World → Prop
def g0 (R : VP) (e14 : T14) (a : OA) (b c : Nat) (d : OA) (e f : Nat) (g : World) : Prop :=
 onBool ((b : Int) != (e : Int))
 (R (.bool false) g)
 (e14 a b c d e f (b : Int) 0 g)
def g14 (R : VP) (b14 : T14) (a : OA) (b c : Nat) (d : OA) (e f : Nat) (g h : Int) (i : World) : Prop :=
 onBool (decide (h < g))
 (ix a b h fun j =>
 cI i (j.add (h.toNat * 1)) .i64 fun j =>
 ix d e h fun k =>
 cI i (k.add (h.toNat * 1)) .i64 fun k =>
 onBool (j != k)
 (R (.bool false) i)
 (inc h fun h =>
 b14 a b c d e f g h i))
 (R (.bool true) i)
def q14 (R : VP) : QT := (Exit.inBlock 0 (qS none (C [1,1,1]) (qf R)))
@[irreducible] def l14 (R : VP) (k : Nat) : T14 := fun a b c d e f g h w => loopN [0,1,12,13] (C [1,1,0,1,0,0]) (q14 R) k (fr ((.slice a b c :: (.slice d e f :: U 10 (.int .i64 g :: (.int .i64 h :: U 12 [])))))) w
def e14 (R : VP) : T14 := fun a b c d e f g h w => ∃ k, l14 R k a b c d e f g h w
theorem u14 (R k a b c d e f g h w) : l14 R (k + 1) a b c d e f g h w = g14 R (l14 R k) a b c d e f g h w := ju (by kernel_rfl)
end slices_Equal_i64
def slices_Equal_i64 (R : VP) := slices_Equal_i64.g0 R (slices_Equal_i64.e14 R)
theorem slices_Equal_i64.calls {R a b c d e f w} (k : slices_Equal_i64 R a b c d e f w) : CA 32 #[.slice a b c, .slice d e f] w R := cal (n := slices_Equal_i64.an) func32 rfl k (by kernel_rfl)
end Go.Mir
