/- Part of a proof of laws of the seat Ytmjlipmapfofmaa: functions' weakest preconditions, each checked by the kernel, contracts out of them, plain lemmas; no conditions. -/
import Derived.KernelRfl
import Derived.Test.YtmjlipmapfofmaaEA
import Derived.Test.YtmjlipmapfofmaaProg
set_option linter.unusedVariables false
set_option linter.unusedSimpArgs false
set_option linter.unusedSectionVars false
set_option linter.unusedVariables false
namespace Go.Mir
open Go Go.E Go.RowKit
theorem Ib:Go.Proofs.Try.prog.follows .mixedOrders=true:=by kernel_rfl
theorem Qk:Go.Proofs.Try.prog.types.size+Made.depth≠0:=of_decide_eq_true (by kernel_rfl)
abbrev CA:=E.CallsD Go.Proofs.Try.prog
theorem cal {f:FuncId} {fn:Func} {n:An} {args:Array Value} {w:World} {R:VP} {p:Prop} (hf:Go.Proofs.Try.prog.funcs[f]?=some fn) (hb:fn.body.isSome=true) (h:p) (e:fnN Go.Proofs.Try.prog fn n args w R=p):CA f args w R:=Kt Ib Qk hf hb h e
abbrev qB (x0:ByteArray) (a1:OA) (n1:Nat) (c1:Nat) (x2:Int) (a3:OA) (n3:Nat) (c3:Nat) (a4:OA) (n4:Nat) (c4:Nat):Array Value := #[.string x0,.slice a1 n1 c1,.int .i64 x2,.slice a3 n3 c3,.slice a4 n4 c4]
abbrev ou (x0:ByteArray) (a1:OA) (n1:Nat) (c1:Nat) (x2:Int) (a3:OA) (n3:Nat) (c3:Nat) (a4:OA) (n4:Nat) (c4:Nat):Value := .agg (qB x0 a1 n1 c1 x2 a3 n3 c3 a4 n4 c4)
abbrev C9 (w:World) (a:Addr) (K:ByteArray→OA→Nat→Nat→Int→OA→Nat→Nat→OA→Nat→Nat→Prop):Prop:=cS w (a.add 0) fun x0=>cL w (a.add 1) fun a1 n1 c1=>cI w (a.add 2) .i64 fun x2=>cL w (a.add 3) fun a3 n3 c3=>cL w (a.add 4) fun a4 n4 c4=>K x0 a1 n1 c1 x2 a3 n3 c3 a4 n4 c4
abbrev PX (w:World) (a:Addr) (x0:ByteArray) (a1:OA) (n1:Nat) (c1:Nat) (x2:Int) (a3:OA) (n3:Nat) (c3:Nat) (a4:OA) (n4:Nat) (c4:Nat) (K:World→Prop):Prop:=st w (a.add 0) (.string x0) fun w=>st w (a.add 1) (.slice a1 n1 c1) fun w=>st w (a.add 2) (.int .i64 x2) fun w=>st w (a.add 3) (.slice a3 n3 c3) fun w=>st w (a.add 4) (.slice a4 n4 c4) fun w=>K w
abbrev sZ (x0:Int) (x1:Int) (a2:OA) (n2:Nat) (c2:Nat) (a3:OA) (n3:Nat) (c3:Nat):Array Value := #[.int .i64 x0,.int .i64 x1,.slice a2 n2 c2,.slice a3 n3 c3]
abbrev mg (x0:Int) (x1:Int) (a2:OA) (n2:Nat) (c2:Nat) (a3:OA) (n3:Nat) (c3:Nat):Value := .agg (sZ x0 x1 a2 n2 c2 a3 n3 c3)
abbrev qc (w:World) (a:Addr) (K:Int→Int→OA→Nat→Nat→OA→Nat→Nat→Prop):Prop:=cI w (a.add 0) .i64 fun x0=>cI w (a.add 1) .i64 fun x1=>cL w (a.add 2) fun a2 n2 c2=>cL w (a.add 3) fun a3 n3 c3=>K x0 x1 a2 n2 c2 a3 n3 c3
abbrev zX (w:World) (a:Addr) (x0:Int) (x1:Int) (a2:OA) (n2:Nat) (c2:Nat) (a3:OA) (n3:Nat) (c3:Nat) (K:World→Prop):Prop:=st w (a.add 0) (.int .i64 x0) fun w=>st w (a.add 1) (.int .i64 x1) fun w=>st w (a.add 2) (.slice a2 n2 c2) fun w=>st w (a.add 3) (.slice a3 n3 c3) fun w=>K w
abbrev Qv (x0:Int) (x1:Int):Array Value := #[.int .i64 x0,.int .i64 x1]
abbrev Ve (w:World) (a:Addr) (K:Int→Int→Prop):Prop:=cI w (a.add 0) .i64 fun x0=>cI w (a.add 1) .i64 fun x1=>K x0 x1
abbrev UI (w:World) (a:Addr) (x0:Int) (x1:Int) (K:World→Prop):Prop:=st w (a.add 0) (.int .i64 x0) fun w=>st w (a.add 1) (.int .i64 x1) fun w=>K w
abbrev mi (x0:Int) (a1:OA) (n1:Nat) (c1:Nat):Array Value := #[.int .i64 x0,.slice a1 n1 c1]
abbrev WS (x0:Int) (a1:OA) (n1:Nat) (c1:Nat):Value := .agg (mi x0 a1 n1 c1)
abbrev lY (w:World) (a:Addr) (K:Int→OA→Nat→Nat→Prop):Prop:=cI w (a.add 0) .i64 fun x0=>cL w (a.add 1) fun a1 n1 c1=>K x0 a1 n1 c1
abbrev zZ (w:World) (a:Addr) (x0:Int) (a1:OA) (n1:Nat) (c1:Nat) (K:World→Prop):Prop:=st w (a.add 0) (.int .i64 x0) fun w=>st w (a.add 1) (.slice a1 n1 c1) fun w=>K w
abbrev wY (x0:Int) (a1:OA) (n1:Nat) (c1:Nat) (a2:OA) (n2:Nat) (c2:Nat) (a3:OA) (n3:Nat) (c3:Nat) (a4:OA) (n4:Nat) (c4:Nat):Array Value := #[.int .i64 x0,.slice a1 n1 c1,.slice a2 n2 c2,.slice a3 n3 c3,.slice a4 n4 c4]
abbrev GG (x0:Int) (a1:OA) (n1:Nat) (c1:Nat) (a2:OA) (n2:Nat) (c2:Nat) (a3:OA) (n3:Nat) (c3:Nat) (a4:OA) (n4:Nat) (c4:Nat):Value := .agg (wY x0 a1 n1 c1 a2 n2 c2 a3 n3 c3 a4 n4 c4)
abbrev Ou (w:World) (a:Addr) (K:Int→OA→Nat→Nat→OA→Nat→Nat→OA→Nat→Nat→OA→Nat→Nat→Prop):Prop:=cI w (a.add 0) .i64 fun x0=>cL w (a.add 1) fun a1 n1 c1=>cL w (a.add 2) fun a2 n2 c2=>cL w (a.add 3) fun a3 n3 c3=>cL w (a.add 4) fun a4 n4 c4=>K x0 a1 n1 c1 a2 n2 c2 a3 n3 c3 a4 n4 c4
abbrev Si (w:World) (a:Addr) (x0:Int) (a1:OA) (n1:Nat) (c1:Nat) (a2:OA) (n2:Nat) (c2:Nat) (a3:OA) (n3:Nat) (c3:Nat) (a4:OA) (n4:Nat) (c4:Nat) (K:World→Prop):Prop:=st w (a.add 0) (.int .i64 x0) fun w=>st w (a.add 1) (.slice a1 n1 c1) fun w=>st w (a.add 2) (.slice a2 n2 c2) fun w=>st w (a.add 3) (.slice a3 n3 c3) fun w=>st w (a.add 4) (.slice a4 n4 c4) fun w=>K w
abbrev zK (x0:Int) (a1:OA) (n1:Nat) (c1:Nat) (a2:OA) (n2:Nat) (c2:Nat) (a3:OA) (n3:Nat) (c3:Nat):Array Value := #[.int .i64 x0,.slice a1 n1 c1,.slice a2 n2 c2,.slice a3 n3 c3]
abbrev yB (x0:Int) (a1:OA) (n1:Nat) (c1:Nat) (a2:OA) (n2:Nat) (c2:Nat) (a3:OA) (n3:Nat) (c3:Nat):Value := .agg (zK x0 a1 n1 c1 a2 n2 c2 a3 n3 c3)
abbrev sV (w:World) (a:Addr) (K:Int→OA→Nat→Nat→OA→Nat→Nat→OA→Nat→Nat→Prop):Prop:=cI w (a.add 0) .i64 fun x0=>cL w (a.add 1) fun a1 n1 c1=>cL w (a.add 2) fun a2 n2 c2=>cL w (a.add 3) fun a3 n3 c3=>K x0 a1 n1 c1 a2 n2 c2 a3 n3 c3
abbrev GY (w:World) (a:Addr) (x0:Int) (a1:OA) (n1:Nat) (c1:Nat) (a2:OA) (n2:Nat) (c2:Nat) (a3:OA) (n3:Nat) (c3:Nat) (K:World→Prop):Prop:=st w (a.add 0) (.int .i64 x0) fun w=>st w (a.add 1) (.slice a1 n1 c1) fun w=>st w (a.add 2) (.slice a2 n2 c2) fun w=>st w (a.add 3) (.slice a3 n3 c3) fun w=>K w
abbrev yH (x0:Nat) (a1:OA) (n1:Nat) (c1:Nat) (x2:Int) (x3:Int) (x4:Int):Array Value := #[.float .f64 x0,.slice a1 n1 c1,.int .i64 x2,.int .i64 x3,.int .i64 x4]
abbrev pX (x0:Nat) (a1:OA) (n1:Nat) (c1:Nat) (x2:Int) (x3:Int) (x4:Int):Value := .agg (yH x0 a1 n1 c1 x2 x3 x4)
abbrev oW (w:World) (a:Addr) (K:Nat→OA→Nat→Nat→Int→Int→Int→Prop):Prop:=cF w (a.add 0) .f64 fun x0=>cL w (a.add 1) fun a1 n1 c1=>cI w (a.add 2) .i64 fun x2=>cI w (a.add 3) .i64 fun x3=>cI w (a.add 4) .i64 fun x4=>K x0 a1 n1 c1 x2 x3 x4
abbrev D9 (w:World) (a:Addr) (x0:Nat) (a1:OA) (n1:Nat) (c1:Nat) (x2:Int) (x3:Int) (x4:Int) (K:World→Prop):Prop:=st w (a.add 0) (.float .f64 x0) fun w=>st w (a.add 1) (.slice a1 n1 c1) fun w=>st w (a.add 2) (.int .i64 x2) fun w=>st w (a.add 3) (.int .i64 x3) fun w=>st w (a.add 4) (.int .i64 x4) fun w=>K w
abbrev jQ (x0:Int) (x1:Int) (x2:Int) (x3:Nat) (a4:OA) (n4:Nat) (c4:Nat) (x5:Int) (x6:Int) (x7:Int):Array Value := #[.int .u8 x0,.int .i64 x1,.int .i64 x2,.float .f64 x3,.slice a4 n4 c4,.int .u8 x5,.int .i64 x6,.int .i64 x7]
abbrev qG (x0:Int) (x1:Int) (x2:Int) (x3:Nat) (a4:OA) (n4:Nat) (c4:Nat) (x5:Int) (x6:Int) (x7:Int):Value := .agg (jQ x0 x1 x2 x3 a4 n4 c4 x5 x6 x7)
abbrev iF (w:World) (a:Addr) (K:Int→Int→Int→Nat→OA→Nat→Nat→Int→Int→Int→Prop):Prop:=cI w (a.add 0) .u8 fun x0=>cI w (a.add 1) .i64 fun x1=>cI w (a.add 2) .i64 fun x2=>cF w (a.add 3) .f64 fun x3=>cL w (a.add 4) fun a4 n4 c4=>cI w (a.add 5) .u8 fun x5=>cI w (a.add 6) .i64 fun x6=>cI w (a.add 7) .i64 fun x7=>K x0 x1 x2 x3 a4 n4 c4 x5 x6 x7
abbrev oJ (w:World) (a:Addr) (x0:Int) (x1:Int) (x2:Int) (x3:Nat) (a4:OA) (n4:Nat) (c4:Nat) (x5:Int) (x6:Int) (x7:Int) (K:World→Prop):Prop:=st w (a.add 0) (.int .u8 x0) fun w=>st w (a.add 1) (.int .i64 x1) fun w=>st w (a.add 2) (.int .i64 x2) fun w=>st w (a.add 3) (.float .f64 x3) fun w=>st w (a.add 4) (.slice a4 n4 c4) fun w=>st w (a.add 5) (.int .u8 x5) fun w=>st w (a.add 6) (.int .i64 x6) fun w=>st w (a.add 7) (.int .i64 x7) fun w=>K w
abbrev RF (x0:Int) (x1:Int) (x2:Int) (x3:Int):Array Value := #[.int .i64 x0,.int .i64 x1,.int .i64 x2,.int .i64 x3]
abbrev Gg (x0:Int) (x1:Int) (x2:Int) (x3:Int):Value := .agg (RF x0 x1 x2 x3)
abbrev pK (x0:Int) (x1:Int) (x2:Int) (x3:Nat) (a4:OA) (n4:Nat) (c4:Nat) (x5:Int) (x6:Int) (x7:Int) (x8:Int) (x9:Int):Array Value := #[.int .u8 x0,.int .i64 x1,.int .i64 x2,.float .f64 x3,.slice a4 n4 c4,.int .u8 x5,.int .i64 x6,.int .i64 x7,.int .i64 x8,.int .i64 x9]
abbrev vW (x0:Int) (x1:Int) (x2:Int) (x3:Nat) (a4:OA) (n4:Nat) (c4:Nat) (x5:Int) (x6:Int) (x7:Int) (x8:Int) (x9:Int):Value := .agg (pK x0 x1 x2 x3 a4 n4 c4 x5 x6 x7 x8 x9)
abbrev l9 (w:World) (a:Addr) (K:Int→Int→Int→Nat→OA→Nat→Nat→Int→Int→Int→Int→Int→Prop):Prop:=cI w (a.add 0) .u8 fun x0=>cI w (a.add 1) .i64 fun x1=>cI w (a.add 2) .i64 fun x2=>cF w (a.add 3) .f64 fun x3=>cL w (a.add 4) fun a4 n4 c4=>cI w (a.add 5) .u8 fun x5=>cI w (a.add 6) .i64 fun x6=>cI w (a.add 7) .i64 fun x7=>cI w (a.add 8) .i64 fun x8=>cI w (a.add 9) .i64 fun x9=>K x0 x1 x2 x3 a4 n4 c4 x5 x6 x7 x8 x9
abbrev wH (w:World) (a:Addr) (x0:Int) (x1:Int) (x2:Int) (x3:Nat) (a4:OA) (n4:Nat) (c4:Nat) (x5:Int) (x6:Int) (x7:Int) (x8:Int) (x9:Int) (K:World→Prop):Prop:=st w (a.add 0) (.int .u8 x0) fun w=>st w (a.add 1) (.int .i64 x1) fun w=>st w (a.add 2) (.int .i64 x2) fun w=>st w (a.add 3) (.float .f64 x3) fun w=>st w (a.add 4) (.slice a4 n4 c4) fun w=>st w (a.add 5) (.int .u8 x5) fun w=>st w (a.add 6) (.int .i64 x6) fun w=>st w (a.add 7) (.int .i64 x7) fun w=>st w (a.add 8) (.int .i64 x8) fun w=>st w (a.add 9) (.int .i64 x9) fun w=>K w
abbrev TJ (x0:Int) (x1:Int) (x2:Int):Array Value := #[.int .i64 x0,.int .i64 x1,.int .i64 x2]
abbrev Vf (w:World) (a:Addr) (K:Int→Int→Int→Prop):Prop:=cI w (a.add 0) .i64 fun x0=>cI w (a.add 1) .i64 fun x1=>cI w (a.add 2) .i64 fun x2=>K x0 x1 x2
abbrev Ul (w:World) (a:Addr) (x0:Int) (x1:Int) (x2:Int) (K:World→Prop):Prop:=st w (a.add 0) (.int .i64 x0) fun w=>st w (a.add 1) (.int .i64 x1) fun w=>st w (a.add 2) (.int .i64 x2) fun w=>K w
end Go.Mir
set_option linter.unusedVariables false
set_option maxRecDepth 100000
namespace Go.Mir
open Go Go.E Go.RowKit
open Go.Proofs.Try (prog)
open Go.Proofs.Try (f7 func7)
namespace bC
def an:An:=(aR (aR (aR (aL (aR (aL (.mk (some [0,1,6,7]) .nil .nil)))))))
def qf (R:VP):QT:=fin prog f7 R
def C:=cdN prog f7 an
abbrev T16:=Int→Int→OA→Nat→Nat→Int→World→Prop
def g0 (R:VP) (e16:T16) (a b:Int) (c:World):Prop :=
 ae (decide (a<0))
 (R (.tuple #[.slice none 0 0,.int .i64 2]) c)
 (ae (decide (a>65536))
 (R (.tuple #[.slice none 0 0,.int .i64 2]) c)
 (ae (decide (b<1))
 (R (.tuple #[.slice none 0 0,.int .i64 2]) c)
 (ae (decide (b>65536))
 (R (.tuple #[.slice none 0 0,.int .i64 2]) c)
 (e16 a b none 0 0 0 c))))
def g16 (R:VP) (b16:T16) (a b:Int) (c:OA) (d e:Nat) (f:Int) (g:World):Prop :=
 ae (decide (f<a))
 (nv (IntKind.i64.wrap (f+b)) fun h =>
 nv ((if a<h then a else h)) fun h =>
 nw (g.alloc (.cells (Qv f h) 41)) fun h =>
 cO prog (Builtin.append_ #[27,27] 27 #[.slice c d e,.slice (some (na g)) 1 1]) h fun h i =>
 ∃ j k l,h = .slice j k l ∧
 (nv (IntKind.i64.wrap (f+b)) fun f =>
 b16 a b j k l f i))
 (R (.tuple #[.slice c d e,.int .i64 0]) g)
def q16 (R:VP):QT:=(Exit.inBlock 0 (qS none (C [1,1,1,1]) (qf R)))
@[irreducible] def l16 (R:VP) (k:Nat):T16:=fun a b c d e f w=>aS [0,1,6,7] (C [1,1,1,0,1,0,0]) (q16 R) k (fr ((.int .i64 a::(.int .i64 b::U 4 (.slice c d e::(.int .i64 f::U 31 [])))))) w
def e16 (R:VP):T16:=fun a b c d e f w=>∃ k,l16 R k a b c d e f w
theorem u16 (R k a b c d e f w):l16 R (k+1) a b c d e f w=g16 R (l16 R k) a b c d e f w:=ju (by kernel_rfl)
end bC
def bC (R:VP):=bC.g0 R (bC.e16 R)
theorem bC.calls {R a b w} (k:bC R a b w):CA 7 #[.int .i64 a,.int .i64 b] w R:=cal (n:=bC.an) func7 rfl k (by kernel_rfl)
open Go.Proofs.Try (f11 func11)
namespace bg
def an:An:=An.nil
def g0 (R:VP) (a:World):Prop :=
 CA 27 #[] a fun a b =>
 ∃ c d e f g h i j k l m,a=ou c d e f g h i j k l m ∧
 (CA 20 #[ou c d e f g h i j k l m,.int .i64 2] b fun a b =>
 ∃ c d e f g h i j k,a = .tuple #[mg c d e f g h i j,.int .i64 k] ∧
 (nw (b.alloc (.cells (sZ 0 0 none 0 0 none 0 0) 37)) fun a =>
 zX a (na b) c d e f g h i j fun a =>
 ae (k != 0)
 (R (.bool false) a)
 (cL a ((na b).add 3) fun c c d =>
 ae ((c:Int) != 1)
 (R (.bool false) a)
 (cL a ((na b).add 3) fun c d e =>
 ix c d 0 fun c =>
 cL a ((c.add 0).add 4) fun c c d =>
 ae ((c:Int) != 2)
 (R (.bool false) a)
 (cL a ((na b).add 3) fun c d e =>
 ix c d 0 fun c =>
 cL a ((c.add 0).add 4) fun c d e =>
 ix c d 1 fun c =>
 sV a (c.add 4) fun c d e f g h i j k l =>
 nw (a.alloc (.cells (zK 0 none 0 0 none 0 0 none 0 0) 69)) fun m =>
 GY m (na a) c d e f g h i j k l fun c =>
 qc c (na b) fun d e f g h i j k =>
 CA 21 #[mg d e f g h i j k] c fun c d =>
 ∃ e f g h,c = .tuple #[.slice e f g,.int .i64 h] ∧
 (qc d (na b) fun b c g i j k l m =>
 CA 22 #[mg b c g i j k l m] d fun b c =>
 ∃ d g,b = .tuple #[.int .i64 d,.int .i64 g] ∧
 (∃ b:Nat→Value→World→Prop,KpF b ∧
 (cL c ((na a).add 1) fun i i j =>
 ae ((i:Int)==2)
 (cL c ((na a).add 1) fun i j k =>
 ix i j 0 fun i =>
 cI c ((i.add 0).add 2) .i64 fun i =>
 ae (i==1)
 (cL c ((na a).add 1) fun i j k =>
 ix i j 0 fun i =>
 cI c ((i.add 0).add 4) .i64 fun i =>
 ae (i==2)
 (cL c ((na a).add 3) fun a a i =>
 ae ((a:Int)==1)
 (ae (h==0)
 (ae ((f:Int)==2)
 (ix e f 1 fun a =>
 lY c (a.add 2) fun a e f h =>
 (∀ i:World,Below c.heap.size c i→CA 27 #[] i fun j k=>∃ l m n o p q r s t u v,j=ou l m n o p q r s t u v∧b 39 (ou l m n o p q r s t u v) k∧Below i.heap.size i k) ∧
 (∀ i:ByteArray,∀ j:Option Addr,∀ k:Nat,∀ l:Nat,∀ m:Int,∀ n:Option Addr,∀ o:Nat,∀ p:Nat,∀ q:Option Addr,∀ r:Nat,∀ s:Nat,(∃ t,Below c.heap.size c t∧b 39 (ou i j k l m n o p q r s) t) →
 ix q r 1 fun t =>
 (∀ u:World,Below c.heap.size c u→b 39 (ou i j k l m n o p q r s) u→lY u (t.add 2) fun t v w x =>
 b 42 (WS t v w x) u) ∧
 (∀ t:Int,∀ u:Option Addr,∀ v:Nat,∀ w:Nat,(∃ x,Below c.heap.size c x∧b 42 (WS t u v w) x) →
 (∀ x:World,Below c.heap.size c x→b 39 (ou i j k l m n o p q r s) x→b 42 (WS t u v w) x→CA 28 #[WS a e f h,WS t u v w] x fun a e=>∃ f,a = .bool f∧b 43 (.bool f) e∧Below x.heap.size x e) ∧
 (∀ a:Bool,(∃ e,Below c.heap.size c e∧b 43 (.bool a) e) →
 ae a
 (ae (d==0)
 (∀ d:World,Below c.heap.size c d→b 39 (ou i j k l m n o p q r s) d→b 42 (WS t u v w) d→b 43 (.bool a) d →
 R (.bool (g==0)) d)
 (∀ d:World,Below c.heap.size c d→b 39 (ou i j k l m n o p q r s) d→b 42 (WS t u v w) d→b 43 (.bool a) d →
 R (.bool false) d))
 (∀ d:World,Below c.heap.size c d→b 39 (ou i j k l m n o p q r s) d→b 42 (WS t u v w) d→b 43 (.bool a) d →
 R (.bool false) d)))))
 (∀ a:World,Below c.heap.size c a →
 R (.bool false) a))
 (∀ a:World,Below c.heap.size c a →
 R (.bool false) a))
 (∀ a:World,Below c.heap.size c a →
 R (.bool false) a))
 (∀ a:World,Below c.heap.size c a →
 R (.bool false) a))
 (∀ a:World,Below c.heap.size c a →
 R (.bool false) a))
 (∀ a:World,Below c.heap.size c a →
 R (.bool false) a)))))))))
end bg
def bg (R:VP):=bg.g0 R
theorem bg.calls {R w} (k:bg R  w):CA 11 #[] w R:=cal (n:=bg.an) func11 rfl k (by kernel_rfl)
open Go.Proofs.Try (f13 func13)
namespace bV
def an:An:=(aR (aR (aR (.mk none (aR (aL (.mk (some [1,2,4,7,19,20,21]) .nil .nil))) (aR (aR (aL (aR (aL (.mk (some [2,4,10,63,64,65]) .nil .nil))))))))))
def qf (R:VP):QT:=fin prog f13 R
def C:=cdN prog f13 an
abbrev T18:=OA→Nat→Nat→OA→OA→Int→OA→Nat→Nat→Int→Int→World→Prop
abbrev T53:=OA→OA→OA→OA→Nat→Nat→Int→Int→World→Prop
def g0 (R:VP) (e18:T18) (a:ByteArray) (b:OA) (c d:Nat) (e:Int) (f:OA) (g h:Nat) (i:OA) (j k:Nat) (l:OA) (m n:Nat) (o:World):Prop :=
 nw (o.alloc (.cells (qB a b c d e f g h i j k) 26)) fun a =>
 nw (a.alloc (.cells (sZ 0 0 none 0 0 none 0 0) 37)) fun b =>
 C9 b (na o) fun c d e f g h i j k p q =>
 CA 24 #[ou c d e f g h i j k p q] b fun b c =>
 ∃ d,b = .int .i64 d ∧
 (ae (d != 0)
 (zX c (na a) 0 0 none 0 0 none 0 0 fun b =>
 qc b (na a) fun e f g h i j k p =>
 R (.tuple #[mg e f g h i j k p,.int .i64 d]) b)
 (e18 l m n (some (na o)) (some (na a)) 0 l m n (m:Int) 0 c))
def g18 (R:VP) (b18:T18) (e53:T53) (a:OA) (b c:Nat) (d e:OA) (f:Int) (g:OA) (h i:Nat) (j k:Int) (l:World):Prop :=
 ae (decide (k<j))
 (ix g h k fun m =>
 Ve l (m.add (k.toNat*2)) fun m n =>
 nw (l.alloc (.cells (Qv 0 0) 41)) fun o =>
 UI o (na l) m n fun m =>
 cI m ((na l).add 0) .i64 fun n =>
 ae (n != f)
 (aY e fun n =>
 zX m n 0 0 none 0 0 none 0 0 fun n =>
 aY e fun o =>
 qc n o fun o p q r s t u v =>
 R (.tuple #[mg o p q r s t u v,.int .i64 6]) n)
 (cI m ((na l).add 1) .i64 fun n =>
 cI m ((na l).add 0) .i64 fun o =>
 ae (decide (n≤o))
 (aY e fun n =>
 zX m n 0 0 none 0 0 none 0 0 fun n =>
 aY e fun o =>
 qc n o fun o p q r s t u v =>
 R (.tuple #[mg o p q r s t u v,.int .i64 6]) n)
 (cI m ((na l).add 1) .i64 fun n =>
 aY d fun o =>
 cL m (o.add 4) fun o o p =>
 ae (decide (n>(o:Int)))
 (aY e fun n =>
 zX m n 0 0 none 0 0 none 0 0 fun n =>
 aY e fun o =>
 qc n o fun o p q r s t u v =>
 R (.tuple #[mg o p q r s t u v,.int .i64 6]) n)
 (cI m ((na l).add 1) .i64 fun n =>
 inc k fun k =>
 b18 a b c d e n g h i j k m))))
 (aY d fun g =>
 cL l (g.add 4) fun g g h =>
 ae (f != (g:Int))
 (aY e fun f =>
 zX l f 0 0 none 0 0 none 0 0 fun f =>
 aY e fun g =>
 qc f g fun g h i j k m n o =>
 R (.tuple #[mg g h i j k m n o,.int .i64 6]) f)
 (∃ f:Nat→Value→World→Prop,KpF f ∧
 (aY d fun g =>
 cL l (g.add 1) fun g g h =>
 aY d fun h =>
 cI l (h.add 2) .i64 fun h =>
 aY d fun i =>
 cL l (i.add 3) fun i j k =>
 (∀ m:World,Below l.heap.size l m→CA 29 #[.slice i j k] m fun i j=>∃ k n o,i = .slice k n o∧f 7 (.slice k n o) j∧Below m.heap.size m j) ∧
 (∀ i:Option Addr,∀ j:Nat,∀ k:Nat,(∃ m,Below l.heap.size l m∧f 7 (.slice i j k) m) →
 (∀ m:World,Below l.heap.size l m→f 9 (.pointer (some (na m))) (m.alloc (.cells (sZ 0 0 none 0 0 none 0 0) 37))) ∧
 (∀ m:Addr,(∃ n,Below l.heap.size l n∧f 9 (.pointer (some m)) n) →
 ∀ n:World,Below l.heap.size l n→f 7 (.slice i j k) n→f 9 (.pointer (some m)) n →
 zX n m (g:Int) h i j k none 0 0 fun f =>
 e53 d e (some m) a b c (b:Int) 0 f)))))
def g53 (R:VP) (b53:T53) (a b c d:OA) (e f:Nat) (g h:Int) (i:World):Prop :=
 ae (decide (h<g))
 (ix d e h fun j =>
 Ve i (j.add (h.toNat*2)) fun j k =>
 nw (i.alloc (.cells (Qv 0 0) 41)) fun l =>
 UI l (na i) j k fun j =>
 ∃ k:Nat→Value→World→Prop,KpF k ∧
 (aY c fun l =>
 cL j (l.add 3) fun l m n =>
 aY a fun o =>
 cL j (o.add 4) fun o p p =>
 cI j ((na i).add 0) .i64 fun q =>
 cI j ((na i).add 1) .i64 fun r =>
 chk ((0:Int)≤r∧r≤(p:Int))
 (chk ((0:Int)≤q∧q≤(r.toNat:Int))
 (cI j ((na i).add 0) .i64 fun s =>
 aY c fun t =>
 cI j (t.add 0) .i64 fun t =>
 (∀ u:World,Below j.heap.size j u→CA 30 #[.slice (slA o p q.toNat 2) (r.toNat - q.toNat) (p - q.toNat),.int .i64 s,.int .i64 t] u fun o p=>∃ q r s t v w x y z A B C D,o=GG q r s t v w x y z A B C D∧k 13 (GG q r s t v w x y z A B C D) p∧Below u.heap.size u p) ∧
 (∀ o:Int,∀ p:Option Addr,∀ q:Nat,∀ r:Nat,∀ s:Option Addr,∀ t:Nat,∀ u:Nat,∀ v:Option Addr,∀ w:Nat,∀ x:Nat,∀ y:Option Addr,∀ z:Nat,∀ A:Nat,(∃ B,Below j.heap.size j B∧k 13 (GG o p q r s t u v w x y z A) B) →
 (∀ B:World,Below j.heap.size j B→k 13 (GG o p q r s t u v w x y z A) B→k 14 (.slice (some (na B)) 1 1) (B.alloc (.cells (wY o p q r s t u v w x y z A) 66))) ∧
 (∀ B:Addr,(∃ C,Below j.heap.size j C∧k 14 (.slice (some B) 1 1) C) →
 ∀ C:World,Below j.heap.size j C→k 13 (GG o p q r s t u v w x y z A) C→k 14 (.slice (some B) 1 1) C →
 cO prog (Builtin.append_ #[35,35] 35 #[.slice l m n,.slice (some B) 1 1]) C fun j k =>
 ∃ l m n,j = .slice l m n ∧
 (aY c fun j =>
 st k ((j.add 3).add 0) (.slice l m n) fun j =>
 inc h fun h =>
 b53 a b c d e f g h j)))))))
 (aY c fun a =>
 qc i a fun a c d e f g h j =>
 aY b fun k =>
 zX i k a c d e f g h j fun a =>
 aY b fun b =>
 qc a b fun b c d e f g h i =>
 R (.tuple #[mg b c d e f g h i,.int .i64 0]) a)
def q18 (R:VP):QT:=(Exit.inBlock 0 (qS none (C [1,1,1,1]) (qf R)))
@[irreducible] def l18 (R:VP) (k:Nat):T18:=fun a b c d e f g h i j l w=>aS [1,2,4,7,19,20,21] (C [1,1,1,0,1,0,0]) (q18 R) k (fr (U 1 (.slice a b c::(.pointer d::U 1 (.pointer e::U 2 (.int .i64 f::U 11 (.slice g h i::(.int .i64 j::(.int .i64 l::U 66 []))))))))) w
def e18 (R:VP):T18:=fun a b c d e f g h i j l w=>∃ k,l18 R k a b c d e f g h i j l w
def q53 (R:VP):QT:=(Exit.inBlock 2 (qS none (C [1,1,1,1,1,1,1]) (qf R)))
@[irreducible] def l53 (R:VP) (k:Nat):T53:=fun a b c d e f g h w=>aS [2,4,10,63,64,65] (C [1,1,1,1,1,1,0,1,0,0]) (q53 R) k (fr (U 2 (.pointer a::U 1 (.pointer b::U 5 (.pointer c::U 52 (.slice d e f::(.int .i64 g::(.int .i64 h::U 22 [])))))))) w
def e53 (R:VP):T53:=fun a b c d e f g h w=>∃ k,l53 R k a b c d e f g h w
theorem u53 (R k a b c d e f g h w):l53 R (k+1) a b c d e f g h w=g53 R (l53 R k) a b c d e f g h w:=ju (by kernel_rfl)
theorem u18 (R k a b c d e f g h i j l w):l18 R (k+1) a b c d e f g h i j l w=g18 R (l18 R k) (e53 R) a b c d e f g h i j l w:=ju (by kernel_rfl)
end bV
def bV (R:VP):=bV.g0 R (bV.e18 R)
theorem bV.calls {R a b c d e f g h i j l m n o w} (k:bV R a b c d e f g h i j l m n o w):CA 13 #[ou a b c d e f g h i j l,.slice m n o] w R:=cal (n:=bV.an) func13 rfl k (by kernel_rfl)
end Go.Mir
set_option linter.unusedVariables false
set_option maxRecDepth 100000
namespace Go.Mir
open Go Go.E Go.RowKit
open Go.Proofs.Try (prog)
open Go.Proofs.Try (f15 func15)
namespace fD
def an:An:=An.nil
def g0 (R:VP) (a b:Int) (c:OA) (d e:Nat) (f:OA) (g h:Nat) (i j:Int) (k:OA) (l m:Nat) (n:OA) (o p:Nat) (q:World):Prop :=
 nw (q.alloc (.cells (sZ a b c d e f g h) 37)) fun a =>
 nw (a.alloc (.cells (sZ i j k l m n o p) 37)) fun b =>
 cI b ((na q).add 0) .i64 fun c =>
 cI b ((na a).add 0) .i64 fun d =>
 ae (c==d)
 (cI b ((na q).add 1) .i64 fun c =>
 cI b ((na a).add 1) .i64 fun d =>
 ae (c==d)
 (cL b ((na q).add 2) fun c d e =>
 cL b ((na a).add 2) fun f g h =>
 CA 32 #[.slice c d e,.slice f g h] b fun c d =>
 ∃ e,c = .bool e ∧
 (ae e
 (cL d ((na q).add 3) fun c e f =>
 cL d ((na a).add 3) fun a g h =>
 CA 33 #[.slice c e f,.slice a g h,.func (.func 34) #[] #[]] d fun a c =>
 ∃ e,a = .bool e ∧
 (R (.bool e) c))
 (R (.bool false) d)))
 (R (.bool false) b))
 (R (.bool false) b)
end fD
def fD (R:VP):=fD.g0 R
theorem fD.calls {R a b c d e f g h i j l m n o p q w} (k:fD R a b c d e f g h i j l m n o p q w):CA 15 #[mg a b c d e f g h,mg i j l m n o p q] w R:=cal (n:=fD.an) func15 rfl k (by kernel_rfl)
open Go.Proofs.Try (f16 func16)
namespace gp
def an:An:=(aR (aR (aL (aR (aL (.mk (some [3,39,40,41]) (aR (aR (aL (aL (aR (aR (aR (aR (aL (.mk (some [3,6,7,39,40,41,91,92]) .nil .nil)))))))))) .nil))))))
def qf (R:VP):QT:=fin prog f16 R
def C:=cdN prog f16 an
abbrev T14:=OA→OA→Nat→Nat→Int→Int→World→Prop
abbrev T38:=OA→OA→OA→OA→Nat→Nat→Int→Int→Int→Int→World→Prop
def g0 (R:VP) (e14:T14) (a b:Int) (c:OA) (d e:Nat) (f:OA) (g h:Nat) (i j:Int) (k:OA) (l m:Nat) (n:OA) (o p:Nat) (q:World):Prop :=
 nw (q.alloc (.cells (sZ a b c d e f g h) 37)) fun a =>
 nw (a.alloc (.cells (sZ i j k l m n o p) 37)) fun b =>
 cI b ((na q).add 0) .i64 fun c =>
 cI b ((na a).add 0) .i64 fun d =>
 ae (c != d)
 (R (.bool false) b)
 (cI b ((na q).add 1) .i64 fun c =>
 cI b ((na a).add 1) .i64 fun d =>
 ae (c != d)
 (R (.bool false) b)
 (cL b ((na q).add 2) fun c d e =>
 cL b ((na a).add 2) fun f g h =>
 CA 40 #[.slice c d e,.slice f g h] b fun b c =>
 ∃ d,b = .bool d ∧
 (ae (!d)
 (R (.bool false) c)
 (cL c ((na q).add 3) fun b b d =>
 cL c ((na a).add 3) fun d d e =>
 ae ((b:Int) != (d:Int))
 (R (.bool false) c)
 (cL c ((na q).add 3) fun b d e =>
 e14 (some (na a)) b d e (d:Int) 0 c)))))
def g14 (R:VP) (e38:T38) (a b:OA) (c d:Nat) (e f:Int) (g:World):Prop :=
 ae (decide (f<e))
 (ix b c f fun h =>
 Ou g (h.add (f.toNat*5)) fun h i j k l m n o p q r s t =>
 nw (g.alloc (.cells (wY 0 none 0 0 none 0 0 none 0 0 none 0 0) 66)) fun u =>
 Si u (na g) h i j k l m n o p q r s t fun h =>
 aY a fun i =>
 cL h (i.add 3) fun i j k =>
 ix i j f fun i =>
 Ou h (i.add (f.toNat*5)) fun i j k l m n o p q r s t u =>
 nw (h.alloc (.cells (wY 0 none 0 0 none 0 0 none 0 0 none 0 0) 66)) fun v =>
 Si v (na h) i j k l m n o p q r s t u fun i =>
 cI i ((na g).add 0) .i64 fun j =>
 cI i ((na h).add 0) .i64 fun k =>
 ae (j != k)
 (R (.bool false) i)
 (cL i ((na g).add 1) fun j k l =>
 cL i ((na h).add 1) fun m n o =>
 CA 41 #[.slice j k l,.slice m n o] i fun i j =>
 ∃ k,i = .bool k ∧
 (ae (!k)
 (R (.bool false) j)
 (cL j ((na g).add 3) fun i k l =>
 cL j ((na h).add 3) fun m n o =>
 CA 41 #[.slice i k l,.slice m n o] j fun i j =>
 ∃ k,i = .bool k ∧
 (ae (!k)
 (R (.bool false) j)
 (cL j ((na g).add 2) fun i i k =>
 cL j ((na h).add 2) fun k k l =>
 ae ((i:Int) != (k:Int))
 (R (.bool false) j)
 (cL j ((na g).add 4) fun i k l =>
 cL j ((na h).add 4) fun m n o =>
 CA 42 #[.slice i k l,.slice m n o] j fun i j =>
 ∃ k,i = .bool k ∧
 (ae (!k)
 (R (.bool false) j)
 (cL j ((na g).add 2) fun i i k =>
 e38 a (some (na g)) (some (na h)) b c d e f (i:Int) 0 j)))))))))
 (R (.bool true) g)
def g38 (R:VP) (b14:T14) (b38:T38) (a b c d:OA) (e f:Nat) (g h i j:Int) (k:World):Prop :=
 ae (decide (j<i))
 (aY b fun l =>
 cL k (l.add 2) fun l m n =>
 ix l m j fun l =>
 cL k (l.add (j.toNat*1)) fun l m n =>
 aY c fun o =>
 cL k (o.add 2) fun o p q =>
 ix o p j fun o =>
 cL k (o.add (j.toNat*1)) fun o p q =>
 CA 40 #[.slice l m n,.slice o p q] k fun l m =>
 ∃ n,l = .bool n ∧
 (ae (!n)
 (R (.bool false) m)
 (inc j fun j =>
 b38 a b c d e f g h i j m)))
 (inc h fun b =>
 b14 a d e f g b k)
def q14 (R:VP):QT:=(Exit.inBlock 0 (qS none (C [1,1,1]) (qf R)))
@[irreducible] def l14 (R:VP) (k:Nat):T14:=fun a b c d e f w=>aS [3,39,40,41] (C [1,1,0,1,0,0]) (q14 R) k (fr (U 3 (.pointer a::U 35 (.slice b c d::(.int .i64 e::(.int .i64 f::U 67 [])))))) w
def e14 (R:VP):T14:=fun a b c d e f w=>∃ k,l14 R k a b c d e f w
def q38 (R:VP) (k14:Nat):QT:=(Exit.inBlock 2 (Exit.inBlock 1 (qS none (C [1,1,0,1,0,0,1,1,1]) (qL [3,39,40,41] (C [1,1,0,1,0,0]) (q14 R) k14))))
def XN (R:VP) (k14:Nat) (k:Nat):T38:=fun a b c d e f g h i j w=>aS [3,6,7,39,40,41,91,92] (C [1,1,0,1,0,0,1,1,0,0,1,1,1,1,0,0]) (q38 R k14) k (fr (U 3 (.pointer a::U 2 (.pointer b::(.pointer c::U 31 (.slice d e f::(.int .i64 g::(.int .i64 h::U 49 (.int .i64 i::(.int .i64 j::U 16 [])))))))))) w
def Y1 (R:VP) (k14:Nat):T38:=fun a b c d e f g h i j w=>∃ k,XN R k14 k a b c d e f g h i j w
def l38 (R:VP) (b14:T14):Nat→T38
 | 0=>fun _ _ _ _ _ _ _ _ _ _ _=>False
 | k+1=>g38 R b14 (l38 R b14 k)
def e38 (R:VP) (b14:T14):T38:=fun a b c d e f g h i j w=>∃ k,l38 R b14 k a b c d e f g h i j w
theorem s38 (R:VP) (k14:Nat) (k:Nat):XN R k14 (k+1)=fun a b c d e f g h i j w=>∀ _:Nat→Value,g38 R (l14 R k14) (XN R k14 k) a b c d e f g h i j w:=by kernel_rfl
theorem Y0 (R:VP) (k14:Nat) (b14:T14) (hb14:b14=l14 R k14):∀ k,l38 R b14 k=XN R k14 k
 | 0=>by kernel_rfl
 | k+1=>by
  rw [s38]
  simp only [forall_const]
  unfold l38
  have ih:=Y0 R k14 b14 hb14 k
  subst hb14
  rw [ih]
  all_goals rfl
theorem Y4 (R:VP) (k14:Nat) (b14:T14) (hb14:b14=l14 R k14):e38 R b14=Y1 R k14:=by
 unfold e38 Y1
 simp only [Y0 R k14 b14 hb14]
theorem u14 (R k a b c d e f w):l14 R (k+1) a b c d e f w=g14 R (e38 R (l14 R k)) a b c d e f w:=by rw [Y4 R k _ rfl]; exact ju (by kernel_rfl)
end gp
def gp (R:VP):=gp.g0 R (gp.e14 R)
theorem gp.calls {R a b c d e f g h i j l m n o p q w} (k:gp R a b c d e f g h i j l m n o p q w):CA 16 #[mg a b c d e f g h,mg i j l m n o p q] w R:=cal (n:=gp.an) func16 rfl k (by kernel_rfl)
open Go.Proofs.Try (f17 func17)
namespace dD
def an:An:=(aR (aR (aR (aL (aR (aL (.mk (some [2,3,24,25,26]) (aR (aR (aL (aL (aR (aR (aR (aR (.mk none (aR (aL (.mk (some [2,3,5,6,24,25,26,46,47,48]) .nil .nil))) (aL (aR (aL (.mk (some [2,3,6,24,25,26,62,63,64]) .nil .nil))))))))))))) .nil)))))))
def qf (R:VP):QT:=fin prog f17 R
def C:=cdN prog f17 an
abbrev T10:=OA→OA→OA→Nat→Nat→Int→Int→World→Prop
abbrev T31:=OA→OA→OA→OA→OA→Nat→Nat→Int→Int→OA→Nat→Nat→Int→Int→World→Prop
abbrev T50:=OA→OA→OA→OA→Nat→Nat→Int→Int→OA→Nat→Nat→Int→Int→World→Prop
def g0 (R:VP) (e10:T10) (a b:Int) (c:OA) (d e:Nat) (f:OA) (g h:Nat) (i:World):Prop :=
 nw (i.alloc (.cells (sZ a b c d e f g h) 37)) fun a =>
 nw (a.alloc (.cells (sZ 0 0 none 0 0 none 0 0) 37)) fun b =>
 cI b ((na i).add 0) .i64 fun c =>
 cI b ((na i).add 1) .i64 fun d =>
 nw (b.alloc (.cells (sZ 0 0 none 0 0 none 0 0) 37)) fun e =>
 zX e (na b) c d none 0 0 none 0 0 fun c =>
 cL c ((na b).add 2) fun d e f =>
 cL c ((na i).add 2) fun g h j =>
 cO prog (Builtin.append_ #[23,23] 23 #[.slice d e f,.slice g h j]) c fun c d =>
 ∃ e f g,c = .slice e f g ∧
 (st d (((na b).add 2).add 0) (.slice e f g) fun c =>
 cL c ((na i).add 3) fun d e f =>
 e10 (some (na a)) (some (na b)) d e f (e:Int) 0 c)
def g10 (R:VP) (e31:T31) (a b c:OA) (d e:Nat) (f g:Int) (h:World):Prop :=
 ae (decide (g<f))
 (ix c d g fun i =>
 Ou h (i.add (g.toNat*5)) fun i j k l m n o p q r s t u =>
 nw (h.alloc (.cells (wY 0 none 0 0 none 0 0 none 0 0 none 0 0) 66)) fun v =>
 Si v (na h) i j k l m n o p q r s t u fun i =>
 cI i ((na h).add 0) .i64 fun j =>
 nw (i.alloc (.cells (wY 0 none 0 0 none 0 0 none 0 0 none 0 0) 66)) fun k =>
 Si k (na i) j none 0 0 none 0 0 none 0 0 none 0 0 fun j =>
 cL j ((na i).add 1) fun k l m =>
 cL j ((na h).add 1) fun n o p =>
 cO prog (Builtin.append_ #[45,45] 45 #[.slice k l m,.slice n o p]) j fun j k =>
 ∃ l m n,j = .slice l m n ∧
 (st k (((na i).add 1).add 0) (.slice l m n) fun j =>
 cL j ((na i).add 3) fun k l m =>
 cL j ((na h).add 3) fun n o p =>
 cO prog (Builtin.append_ #[45,45] 45 #[.slice k l m,.slice n o p]) j fun j k =>
 ∃ l m n,j = .slice l m n ∧
 (st k (((na i).add 3).add 0) (.slice l m n) fun j =>
 cL j ((na h).add 2) fun k l m =>
 e31 a b (some (na h)) (some (na i)) c d e f g k l m (l:Int) 0 j)))
 (aY b fun b =>
 qc h b fun b c d e f g i j =>
 aY a fun k =>
 zX h k b c d e f g i j fun b =>
 aY a fun a =>
 qc b a fun a c d e f g h i =>
 R (mg a c d e f g h i) b)
def g31 (R:VP) (b31:T31) (e50:T50) (a b c d e:OA) (f g:Nat) (h i:Int) (j:OA) (k l:Nat) (m n:Int) (o:World):Prop :=
 ae (decide (n<m))
 (ix j k n fun p =>
 cL o (p.add (n.toNat*1)) fun p q r =>
 ∃ s:World,CK s o ∧
 (aY d fun t =>
 cL s (t.add 2) fun t u v =>
 cO prog (Builtin.append_ #[23,23] 23 #[.slice none 0 0,.slice p q r]) o fun p q =>
 ∃ r w x,p = .slice r w x ∧
 (CK s q ∧
 (nw (q.alloc (.cells #[.slice r w x] 23)) fun p =>
 CK s p ∧
 (cO prog (Builtin.append_ #[63,63] 63 #[.slice t u v,.slice (some (na q)) 1 1]) p fun p q =>
 ∃ r t u,p = .slice r t u ∧
 (CK s q ∧
 (aY d fun p =>
 st q ((p.add 2).add 0) (.slice r t u) fun p =>
 inc n fun n =>
 b31 a b c d e f g h i j k l m n p)))))))
 (aY c fun c =>
 cL o (c.add 4) fun c j k =>
 e50 a b d e f g h i c j k (j:Int) 0 o)
def g50 (R:VP) (b10:T10) (b50:T50) (a b c d:OA) (e f:Nat) (g h:Int) (i:OA) (j k:Nat) (l m:Int) (n:World):Prop :=
 ae (decide (m<l))
 (ix i j m fun o =>
 sV n (o.add (m.toNat*4)) fun o p q r s t u v w x =>
 nw (n.alloc (.cells (zK 0 none 0 0 none 0 0 none 0 0) 69)) fun y =>
 GY y (na n) o p q r s t u v w x fun o =>
 ∃ p:Nat→Value→World→Prop,KpF p ∧
 (aY c fun q =>
 cL o (q.add 4) fun q r s =>
 cI o ((na n).add 0) .i64 fun t =>
 cL o ((na n).add 1) fun u v w =>
 (∀ x:World,Below o.heap.size o x→CA 43 #[.slice u v w] x fun u v=>∃ w y z,u = .slice w y z∧p 6 (.slice w y z) v∧Below x.heap.size x v) ∧
 (∀ u:Option Addr,∀ v:Nat,∀ w:Nat,(∃ x,Below o.heap.size o x∧p 6 (.slice u v w) x) →
 cL o ((na n).add 2) fun x y z =>
 (∀ A:World,Below o.heap.size o A→p 6 (.slice u v w) A→CA 43 #[.slice x y z] A fun x y=>∃ z B C,x = .slice z B C∧p 9 (.slice z B C) y∧Below A.heap.size A y) ∧
 (∀ x:Option Addr,∀ y:Nat,∀ z:Nat,(∃ A,Below o.heap.size o A∧p 9 (.slice x y z) A) →
 cL o ((na n).add 3) fun A B C =>
 (∀ D:World,Below o.heap.size o D→p 6 (.slice u v w) D→p 9 (.slice x y z) D→CA 43 #[.slice A B C] D fun A B=>∃ C E F,A = .slice C E F∧p 12 (.slice C E F) B∧Below D.heap.size D B) ∧
 (∀ A:Option Addr,∀ B:Nat,∀ C:Nat,(∃ D,Below o.heap.size o D∧p 12 (.slice A B C) D) →
 (∀ D:World,Below o.heap.size o D→p 6 (.slice u v w) D→p 9 (.slice x y z) D→p 12 (.slice A B C) D→p 14 (.slice (some (na D)) 1 1) (D.alloc (.cells (zK t u v w x y z A B C) 69))) ∧
 (∀ t:Addr,(∃ D,Below o.heap.size o D∧p 14 (.slice (some t) 1 1) D) →
 ∀ D:World,Below o.heap.size o D→p 6 (.slice u v w) D→p 9 (.slice x y z) D→p 12 (.slice A B C) D→p 14 (.slice (some t) 1 1) D →
 cO prog (Builtin.append_ #[64,64] 64 #[.slice q r s,.slice (some t) 1 1]) D fun o p =>
 ∃ q r s,o = .slice q r s ∧
 (aY c fun o =>
 st p ((o.add 4).add 0) (.slice q r s) fun o =>
 inc m fun m =>
 b50 a b c d e f g h i j k l m o)))))))
 (aY b fun i =>
 cL n (i.add 3) fun i j k =>
 aY c fun c =>
 Ou n c fun c l m o p q r s t u v w x =>
 nw (n.alloc (.cells (wY c l m o p q r s t u v w x) 66)) fun c =>
 cO prog (Builtin.append_ #[35,35] 35 #[.slice i j k,.slice (some (na n)) 1 1]) c fun c i =>
 ∃ j k l,c = .slice j k l ∧
 (aY b fun c =>
 st i ((c.add 3).add 0) (.slice j k l) fun c =>
 inc h fun h =>
 b10 a b d e f g h c))
def q10 (R:VP):QT:=(Exit.inBlock 0 (qS none (C [1,1,1,1]) (qf R)))
@[irreducible] def l10 (R:VP) (k:Nat):T10:=fun a b c d e f g w=>aS [2,3,24,25,26] (C [1,1,1,0,1,0,0]) (q10 R) k (fr (U 2 (.pointer a::(.pointer b::U 20 (.slice c d e::(.int .i64 f::(.int .i64 g::U 67 []))))))) w
def e10 (R:VP):T10:=fun a b c d e f g w=>∃ k,l10 R k a b c d e f g w
def q31 (R:VP) (k10:Nat):QT:=(Exit.inBlock 2 (qS none (C [1,1,1,0,1,0,0,1,1,0,0,1,1,1,1,1]) (Exit.inBlock 1 (qS none (C [1,1,1,0,1,0,0,1,1,1]) (qL [2,3,24,25,26] (C [1,1,1,0,1,0,0]) (q10 R) k10)))))
def XL (R:VP) (k10:Nat) (k:Nat):T31:=fun a b c d e f g h i j l m n o w=>aS [2,3,5,6,24,25,26,46,47,48] (C [1,1,1,0,1,0,0,1,1,0,0,1,1,1,1,0,1,0,0]) (q31 R k10) k (fr (U 2 (.pointer a::(.pointer b::U 1 (.pointer c::(.pointer d::U 17 (.slice e f g::(.int .i64 h::(.int .i64 i::U 19 (.slice j l m::(.int .i64 n::(.int .i64 o::U 45 [])))))))))))) w
def XW (R:VP) (k10:Nat):T31:=fun a b c d e f g h i j l m n o w=>∃ k,XL R k10 k a b c d e f g h i j l m n o w
def q50 (R:VP) (k10:Nat):QT:=(Exit.inBlock 4 (qS none (C [1,1,1,0,1,0,0,1,1,0,0,1,1,1,1,1,1]) (Exit.inBlock 1 (qS none (C [1,1,1,0,1,0,0,1,1,1]) (qL [2,3,24,25,26] (C [1,1,1,0,1,0,0]) (q10 R) k10)))))
def XM (R:VP) (k10:Nat) (k:Nat):T50:=fun a b c d e f g h i j l m n w=>aS [2,3,6,24,25,26,62,63,64] (C [1,1,1,0,1,0,0,1,1,0,0,1,1,1,1,1,0,1,0,0]) (q50 R k10) k (fr (U 2 (.pointer a::(.pointer b::U 2 (.pointer c::U 17 (.slice d e f::(.int .i64 g::(.int .i64 h::U 35 (.slice i j l::(.int .i64 m::(.int .i64 n::U 29 []))))))))))) w
def XV (R:VP) (k10:Nat):T50:=fun a b c d e f g h i j l m n w=>∃ k,XM R k10 k a b c d e f g h i j l m n w
def l50 (R:VP) (b10:T10):Nat→T50
 | 0=>fun _ _ _ _ _ _ _ _ _ _ _ _ _ _=>False
 | k+1=>g50 R b10 (l50 R b10 k)
def e50 (R:VP) (b10:T10):T50:=fun a b c d e f g h i j l m n w=>∃ k,l50 R b10 k a b c d e f g h i j l m n w
theorem s50 (R:VP) (k10:Nat) (k:Nat):XM R k10 (k+1)=fun a b c d e f g h i j l m n w=>∀ _:Nat→Value,g50 R (l10 R k10) (XM R k10 k) a b c d e f g h i j l m n w:=by kernel_rfl
theorem Y2 (R:VP) (k10:Nat) (b10:T10) (hb10:b10=l10 R k10):∀ k,l50 R b10 k=XM R k10 k
 | 0=>by kernel_rfl
 | k+1=>by
  rw [s50]
  simp only [forall_const]
  unfold l50
  have ih:=Y2 R k10 b10 hb10 k
  subst hb10
  rw [ih]
  all_goals rfl
theorem Y5 (R:VP) (k10:Nat) (b10:T10) (hb10:b10=l10 R k10):e50 R b10=XV R k10:=by
 unfold e50 XV
 simp only [Y2 R k10 b10 hb10]
def l31 (R:VP) (b10:T10):Nat→T31
 | 0=>fun _ _ _ _ _ _ _ _ _ _ _ _ _ _ _=>False
 | k+1=>g31 R (l31 R b10 k) (e50 R b10)
def e31 (R:VP) (b10:T10):T31:=fun a b c d e f g h i j l m n o w=>∃ k,l31 R b10 k a b c d e f g h i j l m n o w
theorem s31 (R:VP) (k10:Nat) (k:Nat):XL R k10 (k+1)=fun a b c d e f g h i j l m n o w=>∀ _:Nat→Value,g31 R (XL R k10 k) (XV R k10) a b c d e f g h i j l m n o w:=by kernel_rfl
theorem XY (R:VP) (k10:Nat) (b10:T10) (hb10:b10=l10 R k10):∀ k,l31 R b10 k=XL R k10 k
 | 0=>by kernel_rfl
 | k+1=>by
  rw [s31]
  simp only [forall_const]
  unfold l31
  have ih:=XY R k10 b10 hb10 k
  subst hb10
  rw [Y5 R k10 _ rfl]
  rw [ih]
  all_goals rfl
theorem eq31 (R:VP) (k10:Nat) (b10:T10) (hb10:b10=l10 R k10):e31 R b10=XW R k10:=by
 unfold e31 XW
 simp only [XY R k10 b10 hb10]
theorem u10 (R k a b c d e f g w):l10 R (k+1) a b c d e f g w=g10 R (e31 R (l10 R k)) a b c d e f g w:=by rw [eq31 R k _ rfl]; exact ju (by kernel_rfl)
end dD
def dD (R:VP):=dD.g0 R (dD.e10 R)
theorem dD.calls {R a b c d e f g h w} (k:dD R a b c d e f g h w):CA 17 #[mg a b c d e f g h] w R:=cal (n:=dD.an) func17 rfl k (by kernel_rfl)
open Go.Proofs.Try (f18 func18)
namespace su
def an:An:=(aR (aR (aR (aL (aR (aL (.mk (some [1,2,18,19]) (aR (aR (aL (aL (aR (aR (aR (.mk none (aR (aL (.mk (some [1,2,4,18,19,62,63]) .nil .nil))) (aR (aL (.mk (some [1,2,4,18,19,85,86]) .nil .nil))))))))))) .nil)))))))
def qf (R:VP):QT:=fin prog f18 R
def C:=cdN prog f18 an
abbrev T10:=OA→OA→Int→Int→World→Prop
abbrev T29:=OA→OA→OA→Int→Int→Int→Int→World→Prop
abbrev T45:=OA→OA→OA→Int→Int→Int→Int→World→Prop
def g0 (R:VP) (e10:T10) (a b:Int) (c:OA) (d e:Nat) (f:OA) (g h:Nat) (i:World):Prop :=
 nw (i.alloc (.cells (sZ a b c d e f g h) 37)) fun a =>
 nw (a.alloc (.cells (sZ 0 0 none 0 0 none 0 0) 37)) fun b =>
 cL b ((na i).add 2) fun c d e =>
 CA 29 #[.slice c d e] b fun b c =>
 ∃ d e f,b = .slice d e f ∧
 (st c (((na i).add 2).add 0) (.slice d e f) fun b =>
 cL b ((na i).add 3) fun c d e =>
 CA 44 #[.slice c d e] b fun b c =>
 ∃ d e f,b = .slice d e f ∧
 (st c (((na i).add 3).add 0) (.slice d e f) fun b =>
 cL b ((na i).add 3) fun c c d =>
 e10 (some (na i)) (some (na a)) (c:Int) 0 b))
def g10 (R:VP) (e29:T29) (a b:OA) (c d:Int) (e:World):Prop :=
 ae (decide (d<c))
 (aY a fun f =>
 cL e (f.add 3) fun f g h =>
 ix f g d fun f =>
 ∃ g:Nat→Value→World→Prop,KpF g ∧
 (cL e ((f.add (d.toNat*5)).add 1) fun h i j =>
 (∀ k:World,Below e.heap.size e k→CA 45 #[.slice h i j] k fun h i=>∃ j l m,h = .slice j l m∧g 8 (.slice j l m) i∧Below k.heap.size k i) ∧
 (∀ h:Option Addr,∀ i:Nat,∀ j:Nat,(∃ k,Below e.heap.size e k∧g 8 (.slice h i j) k) →
 cL e ((f.add (d.toNat*5)).add 3) fun k l m =>
 (∀ n:World,Below e.heap.size e n→g 8 (.slice h i j) n→CA 45 #[.slice k l m] n fun k l=>∃ m o p,k = .slice m o p∧g 13 (.slice m o p) l∧Below n.heap.size n l) ∧
 (∀ k:Option Addr,∀ l:Nat,∀ m:Nat,(∃ n,Below e.heap.size e n∧g 13 (.slice k l m) n) →
 cL e ((f.add (d.toNat*5)).add 2) fun n o p =>
 (∀ q:World,Below e.heap.size e q→g 8 (.slice h i j) q→g 13 (.slice k l m) q→CA 46 #[.slice n o p] q fun n o=>∃ p r s,n = .slice p r s∧g 18 (.slice p r s) o∧Below q.heap.size q o) ∧
 (∀ n:Option Addr,∀ o:Nat,∀ p:Nat,(∃ q,Below e.heap.size e q∧g 18 (.slice n o p) q) →
 cL e ((f.add (d.toNat*5)).add 4) fun q r s =>
 (∀ t:World,Below e.heap.size e t→g 8 (.slice h i j) t→g 13 (.slice k l m) t→g 18 (.slice n o p) t→CA 47 #[.slice q r s] t fun q r=>∃ s u v,q = .slice s u v∧g 23 (.slice s u v) r∧Below t.heap.size t r) ∧
 (∀ q:Option Addr,∀ r:Nat,∀ s:Nat,(∃ t,Below e.heap.size e t∧g 23 (.slice q r s) t) →
 ∀ t:World,Below e.heap.size e t→g 8 (.slice h i j) t→g 13 (.slice k l m) t→g 18 (.slice n o p) t→g 23 (.slice q r s) t →
 st t (((f.add (d.toNat*5)).add 1).add 0) (.slice h i j) fun g =>
 st g (((f.add (d.toNat*5)).add 3).add 0) (.slice k l m) fun g =>
 st g (((f.add (d.toNat*5)).add 2).add 0) (.slice n o p) fun g =>
 st g (((f.add (d.toNat*5)).add 4).add 0) (.slice q r s) fun g =>
 cL g ((f.add (d.toNat*5)).add 2) fun h h i =>
 e29 a b (some (f.add (d.toNat*5))) c d (h:Int) 0 g))))))
 (aY a fun a =>
 qc e a fun a c d f g h i j =>
 aY b fun k =>
 zX e k a c d f g h i j fun a =>
 aY b fun b =>
 qc a b fun b c d e f g h i =>
 R (mg b c d e f g h i) a)
def g29 (R:VP) (b29:T29) (e45:T45) (a b c:OA) (d e f g:Int) (h:World):Prop :=
 ae (decide (g<f))
 (∃ i:Nat→Value→World→Prop,KpF i ∧
 (aY c fun j =>
 cL h (j.add 2) fun j k l =>
 aY c fun l =>
 cL h (l.add 2) fun l m n =>
 ix l m g fun l =>
 cL h (l.add (g.toNat*1)) fun l m n =>
 (∀ o:World,Below h.heap.size h o→CA 29 #[.slice l m n] o fun l m=>∃ n p q,l = .slice n p q∧i 12 (.slice n p q) m∧Below o.heap.size o m) ∧
 (∀ l:Option Addr,∀ m:Nat,∀ n:Nat,(∃ o,Below h.heap.size h o∧i 12 (.slice l m n) o) →
 ix j k g fun j =>
 ∀ k:World,Below h.heap.size h k→i 12 (.slice l m n) k →
 st k ((j.add (g.toNat*1)).add 0) (.slice l m n) fun i =>
 inc g fun g =>
 b29 a b c d e f g i)))
 (aY c fun f =>
 cL h (f.add 4) fun f f g =>
 e45 a b c d e (f:Int) 0 h)
def g45 (R:VP) (b10:T10) (b45:T45) (a b c:OA) (d e f g:Int) (h:World):Prop :=
 ae (decide (g<f))
 (aY c fun i =>
 cL h (i.add 4) fun i j k =>
 ix i j g fun i =>
 ∃ j:Nat→Value→World→Prop,KpF j ∧
 (cL h ((i.add (g.toNat*4)).add 1) fun k l m =>
 (∀ n:World,Below h.heap.size h n→CA 48 #[.slice k l m] n fun k l=>∃ m o p,k = .slice m o p∧j 7 (.slice m o p) l∧Below n.heap.size n l) ∧
 (∀ k:Option Addr,∀ l:Nat,∀ m:Nat,(∃ n,Below h.heap.size h n∧j 7 (.slice k l m) n) →
 cL h ((i.add (g.toNat*4)).add 2) fun n o p =>
 (∀ q:World,Below h.heap.size h q→j 7 (.slice k l m) q→CA 48 #[.slice n o p] q fun n o=>∃ p r s,n = .slice p r s∧j 12 (.slice p r s) o∧Below q.heap.size q o) ∧
 (∀ n:Option Addr,∀ o:Nat,∀ p:Nat,(∃ q,Below h.heap.size h q∧j 12 (.slice n o p) q) →
 cL h ((i.add (g.toNat*4)).add 3) fun q r s =>
 (∀ t:World,Below h.heap.size h t→j 7 (.slice k l m) t→j 12 (.slice n o p) t→CA 48 #[.slice q r s] t fun q r=>∃ s u v,q = .slice s u v∧j 17 (.slice s u v) r∧Below t.heap.size t r) ∧
 (∀ q:Option Addr,∀ r:Nat,∀ s:Nat,(∃ t,Below h.heap.size h t∧j 17 (.slice q r s) t) →
 ∀ t:World,Below h.heap.size h t→j 7 (.slice k l m) t→j 12 (.slice n o p) t→j 17 (.slice q r s) t →
 st t (((i.add (g.toNat*4)).add 1).add 0) (.slice k l m) fun j =>
 st j (((i.add (g.toNat*4)).add 2).add 0) (.slice n o p) fun j =>
 st j (((i.add (g.toNat*4)).add 3).add 0) (.slice q r s) fun i =>
 inc g fun g =>
 b45 a b c d e f g i)))))
 (inc e fun c =>
 b10 a b d c h)
def q10 (R:VP):QT:=(Exit.inBlock 0 (qS none (C [1,1,1,1]) (qf R)))
@[irreducible] def l10 (R:VP) (k:Nat):T10:=fun a b c d w=>aS [1,2,18,19] (C [1,1,1,0,1,0,0]) (q10 R) k (fr (U 1 (.pointer a::(.pointer b::U 15 (.int .i64 c::(.int .i64 d::U 102 [])))))) w
def e10 (R:VP):T10:=fun a b c d w=>∃ k,l10 R k a b c d w
def q29 (R:VP) (k10:Nat):QT:=(Exit.inBlock 2 (qS none (C [1,1,1,0,1,0,0,1,1,0,0,1,1,1,1]) (Exit.inBlock 1 (qS none (C [1,1,1,0,1,0,0,1,1,1]) (qL [1,2,18,19] (C [1,1,1,0,1,0,0]) (q10 R) k10)))))
def U8 (R:VP) (k10:Nat) (k:Nat):T29:=fun a b c d e f g w=>aS [1,2,4,18,19,62,63] (C [1,1,1,0,1,0,0,1,1,0,0,1,1,1,0,1,0,0]) (q29 R k10) k (fr (U 1 (.pointer a::(.pointer b::U 1 (.pointer c::U 13 (.int .i64 d::(.int .i64 e::U 42 (.int .i64 f::(.int .i64 g::U 58 []))))))))) w
def Vu (R:VP) (k10:Nat):T29:=fun a b c d e f g w=>∃ k,U8 R k10 k a b c d e f g w
def q45 (R:VP) (k10:Nat):QT:=(Exit.inBlock 4 (Exit.inBlock 1 (qS none (C [1,1,1,0,1,0,0,1,1,1]) (qL [1,2,18,19] (C [1,1,1,0,1,0,0]) (q10 R) k10))))
def XK (R:VP) (k10:Nat) (k:Nat):T45:=fun a b c d e f g w=>aS [1,2,4,18,19,85,86] (C [1,1,1,0,1,0,0,1,1,0,0,1,1,1,1,1,0,0]) (q45 R k10) k (fr (U 1 (.pointer a::(.pointer b::U 1 (.pointer c::U 13 (.int .i64 d::(.int .i64 e::U 65 (.int .i64 f::(.int .i64 g::U 35 []))))))))) w
def XQ (R:VP) (k10:Nat):T45:=fun a b c d e f g w=>∃ k,XK R k10 k a b c d e f g w
def l45 (R:VP) (b10:T10):Nat→T45
 | 0=>fun _ _ _ _ _ _ _ _=>False
 | k+1=>g45 R b10 (l45 R b10 k)
def e45 (R:VP) (b10:T10):T45:=fun a b c d e f g w=>∃ k,l45 R b10 k a b c d e f g w
theorem s45 (R:VP) (k10:Nat) (k:Nat):XK R k10 (k+1)=fun a b c d e f g w=>∀ _:Nat→Value,g45 R (l10 R k10) (XK R k10 k) a b c d e f g w:=by kernel_rfl
theorem XZ (R:VP) (k10:Nat) (b10:T10) (hb10:b10=l10 R k10):∀ k,l45 R b10 k=XK R k10 k
 | 0=>by kernel_rfl
 | k+1=>by
  rw [s45]
  simp only [forall_const]
  unfold l45
  have ih:=XZ R k10 b10 hb10 k
  subst hb10
  rw [ih]
  all_goals rfl
theorem Y3 (R:VP) (k10:Nat) (b10:T10) (hb10:b10=l10 R k10):e45 R b10=XQ R k10:=by
 unfold e45 XQ
 simp only [XZ R k10 b10 hb10]
def l29 (R:VP) (b10:T10):Nat→T29
 | 0=>fun _ _ _ _ _ _ _ _=>False
 | k+1=>g29 R (l29 R b10 k) (e45 R b10)
def e29 (R:VP) (b10:T10):T29:=fun a b c d e f g w=>∃ k,l29 R b10 k a b c d e f g w
theorem s29 (R:VP) (k10:Nat) (k:Nat):U8 R k10 (k+1)=fun a b c d e f g w=>∀ _:Nat→Value,g29 R (U8 R k10 k) (XQ R k10) a b c d e f g w:=by kernel_rfl
theorem VA (R:VP) (k10:Nat) (b10:T10) (hb10:b10=l10 R k10):∀ k,l29 R b10 k=U8 R k10 k
 | 0=>by kernel_rfl
 | k+1=>by
  rw [s29]
  simp only [forall_const]
  unfold l29
  have ih:=VA R k10 b10 hb10 k
  subst hb10
  rw [Y3 R k10 _ rfl]
  rw [ih]
  all_goals rfl
theorem eq29 (R:VP) (k10:Nat) (b10:T10) (hb10:b10=l10 R k10):e29 R b10=Vu R k10:=by
 unfold e29 Vu
 simp only [VA R k10 b10 hb10]
theorem u10 (R k a b c d w):l10 R (k+1) a b c d w=g10 R (e29 R (l10 R k)) a b c d w:=by rw [eq29 R k _ rfl]; exact ju (by kernel_rfl)
end su
def su (R:VP):=su.g0 R (su.e10 R)
theorem su.calls {R a b c d e f g h w} (k:su R a b c d e f g h w):CA 18 #[mg a b c d e f g h] w R:=cal (n:=su.an) func18 rfl k (by kernel_rfl)
open Go.Proofs.Try (f20 func20)
namespace dB
def an:An:=An.nil
def g0 (R:VP) (a:ByteArray) (b:OA) (c d:Nat) (e:Int) (f:OA) (g h:Nat) (i:OA) (j k:Nat) (l:Int) (m:World):Prop :=
 nw (m.alloc (.cells (qB a b c d e f g h i j k) 26)) fun a =>
 nw (a.alloc (.cells (sZ 0 0 none 0 0 none 0 0) 37)) fun b =>
 C9 b (na m) fun c d e f g h i j k n o =>
 CA 24 #[ou c d e f g h i j k n o] b fun b c =>
 ∃ d,b = .int .i64 d ∧
 (ae (d != 0)
 (zX c (na a) 0 0 none 0 0 none 0 0 fun b =>
 qc b (na a) fun e f g h i j k n =>
 R (.tuple #[mg e f g h i j k n,.int .i64 d]) b)
 (cL c ((na m).add 4) fun b b d =>
 CA 7 #[.int .i64 (b:Int),.int .i64 l] c fun b c =>
 ∃ d e f g,b = .tuple #[.slice d e f,.int .i64 g] ∧
 (ae (g != 0)
 (zX c (na a) 0 0 none 0 0 none 0 0 fun b =>
 qc b (na a) fun h i j k l n o p =>
 R (.tuple #[mg h i j k l n o p,.int .i64 g]) b)
 (C9 c (na m) fun b g h i j k l m n o p =>
 CA 13 #[ou b g h i j k l m n o p,.slice d e f] c fun b c =>
 ∃ d e f g h i j k l,b = .tuple #[mg d e f g h i j k,.int .i64 l] ∧
 (zX c (na a) d e f g h i j k fun b =>
 qc b (na a) fun a c d e f g h i =>
 R (.tuple #[mg a c d e f g h i,.int .i64 l]) b)))))
end dB
def dB (R:VP):=dB.g0 R
theorem dB.calls {R a b c d e f g h i j l m w} (k:dB R a b c d e f g h i j l m w):CA 20 #[ou a b c d e f g h i j l,.int .i64 m] w R:=cal (n:=dB.an) func20 rfl k (by kernel_rfl)
open Go.Proofs.Try (f21 func21)
namespace bQ
def an:An:=(aR (aR (aR (aR (aR (aL (aR (aL (.mk (some [1,4,5,30,31,32]) .nil .nil)))))))))
def qf (R:VP):QT:=fin prog f21 R
def C:=cdN prog f21 an
abbrev T20:=OA→OA→OA→Nat→Nat→OA→Nat→Nat→Int→Int→World→Prop
def g0 (R:VP) (e20:T20) (a b:Int) (c:OA) (d e:Nat) (f:OA) (g h:Nat) (i:World):Prop :=
 nw (i.alloc (.cells (sZ a b c d e f g h) 37)) fun a =>
 cI a ((na i).add 1) .i64 fun b =>
 cL a ((na i).add 2) fun c d e =>
 nw (a.alloc (.cells (qB ⟨#[]⟩ none 0 0 0 none 0 0 none 0 0) 26)) fun f =>
 PX f (na a) ⟨#[]⟩ none 0 0 b c d e none 0 0 fun b =>
 cI b ((na i).add 0) .i64 fun c =>
 ae (decide (c<0))
 (R (.tuple #[.slice none 0 0,.int .i64 150]) b)
 (cI b ((na i).add 0) .i64 fun c =>
 ae (decide (c>65536))
 (R (.tuple #[.slice none 0 0,.int .i64 150]) b)
 (cI b ((na i).add 0) .i64 fun c =>
 chk ((0:Int)≤c∧c≤c∧((16:Nat):Int)*c≤281474976710656∧c≤9223372036854775807)
 (nw (b.alloc (.cells (madeCells #[.string ⟨#[]⟩] ((c).toNat*1)) 9)) fun d =>
 st d (((na a).add 1).add 0) (.slice (some (na b)) ((c).toNat) ((c).toNat)) fun b =>
 cL b ((na i).add 3) fun c d e =>
 e20 (some (na i)) (some (na a)) none 0 0 c d e (d:Int) 0 b)))
def g20 (R:VP) (b20:T20) (a b c:OA) (d e:Nat) (f:OA) (g h:Nat) (i j:Int) (k:World):Prop :=
 ae (decide (j<i))
 (ix f g j fun l =>
 Ou k (l.add (j.toNat*5)) fun l m n o p q r s t u v w x =>
 nw (k.alloc (.cells (wY 0 none 0 0 none 0 0 none 0 0 none 0 0) 66)) fun y =>
 Si y (na k) l m n o p q r s t u v w x fun l =>
 Ou l (na k) fun m n o p q r s t u v w x y =>
 CA 51 #[GG m n o p q r s t u v w x y] l fun l m =>
 ∃ n o p q,l = .tuple #[.slice n o p,.bool q] ∧
 (ae (!q)
 (R (.tuple #[.slice none 0 0,.int .i64 150]) m)
 (cI m ((na k).add 0) .i64 fun l =>
 aY b fun q =>
 cL m (q.add 4) fun q q r =>
 ae (l != (q:Int))
 (R (.tuple #[.slice none 0 0,.int .i64 150]) m)
 (aY b fun l =>
 cL m (l.add 4) fun l q r =>
 cO prog (Builtin.append_ #[24,24] 24 #[.slice l q r,.slice n o p]) m fun l m =>
 ∃ n o p,l = .slice n o p ∧
 (aY b fun l =>
 st m ((l.add 4).add 0) (.slice n o p) fun l =>
 cI l ((na k).add 0) .i64 fun m =>
 aY b fun n =>
 cL l (n.add 4) fun n n o =>
 nw (l.alloc (.cells (Qv m (n:Int)) 41)) fun m =>
 cO prog (Builtin.append_ #[27,27] 27 #[.slice c d e,.slice (some (na l)) 1 1]) m fun l m =>
 ∃ n o p,l = .slice n o p ∧
 (inc j fun j =>
 b20 a b n o p f g h i j m))))))
 (aY b fun f =>
 C9 k f fun f g h i j l m n o p q =>
 CA 13 #[ou f g h i j l m n o p q,.slice c d e] k fun c d =>
 ∃ e f g h i j k l m,c = .tuple #[mg e f g h i j k l,.int .i64 m] ∧
 (nw (d.alloc (.cells (sZ 0 0 none 0 0 none 0 0) 37)) fun c =>
 zX c (na d) e f g h i j k l fun c =>
 ae (m != 0)
 (R (.tuple #[.slice none 0 0,.int .i64 150]) c)
 (qc c (na d) fun d e f g h i j k =>
 aY a fun a =>
 qc c a fun a l m n o p q r =>
 CA 15 #[mg d e f g h i j k,mg a l m n o p q r] c fun a c =>
 ∃ d,a = .bool d ∧
 (ae (!d)
 (R (.tuple #[.slice none 0 0,.int .i64 150]) c)
 (aY b fun a =>
 cL c (a.add 4) fun a b d =>
 R (.tuple #[.slice a b d,.int .i64 0]) c)))))
def q20 (R:VP):QT:=(Exit.inBlock 0 (qS none (C [1,1,1,1,1,1]) (qf R)))
@[irreducible] def l20 (R:VP) (k:Nat):T20:=fun a b c d e f g h i j w=>aS [1,4,5,30,31,32] (C [1,1,1,1,1,0,1,0,0]) (q20 R) k (fr (U 1 (.pointer a::U 2 (.pointer b::(.slice c d e::U 24 (.slice f g h::(.int .i64 i::(.int .i64 j::U 49 [])))))))) w
def e20 (R:VP):T20:=fun a b c d e f g h i j w=>∃ k,l20 R k a b c d e f g h i j w
theorem u20 (R k a b c d e f g h i j w):l20 R (k+1) a b c d e f g h i j w=g20 R (l20 R k) a b c d e f g h i j w:=ju (by kernel_rfl)
end bQ
def bQ (R:VP):=bQ.g0 R (bQ.e20 R)
theorem bQ.calls {R a b c d e f g h w} (k:bQ R a b c d e f g h w):CA 21 #[mg a b c d e f g h] w R:=cal (n:=bQ.an) func21 rfl k (by kernel_rfl)
open Go.Proofs.Try (f22 func22)
namespace WJ
def an:An:=(aR (aR (aR (aR (aR (aL (aR (aL (.mk (some [1,6,30,31]) .nil .nil)))))))))
def qf (R:VP):QT:=fin prog f22 R
def C:=cdN prog f22 an
abbrev T30:=OA→OA→Int→Int→World→Prop
def g0 (R:VP) (e30:T30) (a b:Int) (c:OA) (d e:Nat) (f:OA) (g h:Nat) (i:World):Prop :=
 nw (i.alloc (.cells (sZ a b c d e f g h) 37)) fun a =>
 qc a (na i) fun b c d e f g h j =>
 CA 21 #[mg b c d e f g h j] a fun a b =>
 ∃ c d e f,a = .tuple #[.slice c d e,.int .i64 f] ∧
 (ae (f==0)
 (R (.tuple #[.int .i64 0,.int .i64 0]) b)
 (qc b (na i) fun a c d e f g h j =>
 nw (b.alloc (.cells (sZ 0 0 none 0 0 none 0 0) 37)) fun k =>
 zX k (na b) a c d e f g h j fun a =>
 st a (((na b).add 3).add 0) (.slice none 0 0) fun a =>
 qc a (na b) fun c d e f g h j k =>
 CA 21 #[mg c d e f g h j k] a fun a c =>
 ∃ d e f g,a = .tuple #[.slice d e f,.int .i64 g] ∧
 (ae (g != 0)
 (R (.tuple #[.int .i64 150,.int .i64 0]) c)
 (cL c ((na i).add 3) fun a a d =>
 e30 (some (na i)) (some (na b)) (a:Int) 0 c))))
def g30 (R:VP) (b30:T30) (a b:OA) (c d:Int) (e:World):Prop :=
 ae (decide (d<c))
 (aY a fun f =>
 cL e (f.add 3) fun f g g =>
 inc d fun h =>
 chk ((0:Int)≤h∧h≤(g:Int))
 (aY b fun i =>
 st e ((i.add 3).add 0) (.slice (slA f g 0 5) h.toNat g) fun f =>
 aY b fun g =>
 qc f g fun g h i j k l m n =>
 CA 21 #[mg g h i j k l m n] f fun f g =>
 ∃ h i j k,f = .tuple #[.slice h i j,.int .i64 k] ∧
 (ae (k != 0)
 (R (.tuple #[.int .i64 150,.int .i64 d]) g)
 (inc d fun d =>
 b30 a b c d g))))
 (R (.tuple #[.int .i64 0,.int .i64 0]) e)
def q30 (R:VP):QT:=(Exit.inBlock 0 (qS none (C [1,1,1,1,1,1]) (qf R)))
@[irreducible] def l30 (R:VP) (k:Nat):T30:=fun a b c d w=>aS [1,6,30,31] (C [1,1,1,1,1,0,1,0,0]) (q30 R) k (fr (U 1 (.pointer a::U 4 (.pointer b::U 23 (.int .i64 c::(.int .i64 d::U 17 [])))))) w
def e30 (R:VP):T30:=fun a b c d w=>∃ k,l30 R k a b c d w
theorem u30 (R k a b c d w):l30 R (k+1) a b c d w=g30 R (l30 R k) a b c d w:=ju (by kernel_rfl)
end WJ
def WJ (R:VP):=WJ.g0 R (WJ.e30 R)
theorem WJ.calls {R a b c d e f g h w} (k:WJ R a b c d e f g h w):CA 22 #[mg a b c d e f g h] w R:=cal (n:=WJ.an) func22 rfl k (by kernel_rfl)
end Go.Mir
set_option linter.unusedVariables false
set_option maxRecDepth 100000
namespace Go.Mir
open Go Go.E Go.RowKit
open Go.Proofs.Try (prog)
open Go.Proofs.Try (f24 func24)
namespace aG
def an:An:=(aR (aR (aR (aL (aR (aL (.mk (some [1,36,37,38]) (aR (aR (aL (aL (aR (aR (aR (aR (aL (.mk (some [1,36,37,38,67,68,69]) .nil .nil)))))))))) .nil)))))))
def qf (R:VP):QT:=fin prog f24 R
def C:=cdN prog f24 an
abbrev T22:=OA→OA→Nat→Nat→Int→Int→World→Prop
abbrev T59:=OA→OA→Nat→Nat→Int→Int→OA→Nat→Nat→Int→Int→World→Prop
def g0 (R:VP) (e22:T22) (a:ByteArray) (b:OA) (c d:Nat) (e:Int) (f:OA) (g h:Nat) (i:OA) (j k:Nat) (l:World):Prop :=
 nw (l.alloc (.cells (qB a b c d e f g h i j k) 26)) fun a =>
 cI a ((na l).add 2) .i64 fun b =>
 ae (decide (b<1))
 (R (.int .i64 6) a)
 (cI a ((na l).add 2) .i64 fun b =>
 ae (decide (b>64))
 (R (.int .i64 6) a)
 (cL a ((na l).add 3) fun b b c =>
 cI a ((na l).add 2) .i64 fun c =>
 ae ((b:Int) != c)
 (R (.int .i64 6) a)
 (cL a ((na l).add 1) fun b b c =>
 ae (decide ((b:Int)>65536))
 (R (.int .i64 6) a)
 (cL a ((na l).add 4) fun b b c =>
 ae (decide ((b:Int)>65536))
 (R (.int .i64 3) a)
 (cL a ((na l).add 4) fun b c d =>
 e22 (some (na l)) b c d (c:Int) 0 a)))))
def g22 (R:VP) (e59:T59) (a b:OA) (c d:Nat) (e f:Int) (g:World):Prop :=
 ae (decide (f<e))
 (ix b c f fun h =>
 lY g (h.add (f.toNat*2)) fun h i j k =>
 nw (g.alloc (.cells (mi 0 none 0 0) 44)) fun l =>
 zZ l (na g) h i j k fun h =>
 lY h (na g) fun i j k l =>
 CA 53 #[WS i j k l] h fun h i =>
 ∃ j k l m,h = .tuple #[.slice j k l,.int .i64 m] ∧
 (ae (m != 0)
 (R (.int .i64 m) i)
 (ae (decide ((k:Int)>4096))
 (R (.int .i64 3) i)
 (cI i ((na g).add 0) .i64 fun h =>
 ae (decide (h<0))
 (R (.int .i64 6) i)
 (cI i ((na g).add 0) .i64 fun h =>
 aY a fun j =>
 cI i (j.add 2) .i64 fun j =>
 ae (decide (h≥j))
 (R (.int .i64 6) i)
 (cL i ((na g).add 1) fun h j k =>
 e59 a b c d e f h j k (j:Int) 0 i))))))
 (R (.int .i64 0) g)
def g59 (R:VP) (b22:T22) (b59:T59) (a b:OA) (c d:Nat) (e f:Int) (g:OA) (h i:Nat) (j k:Int) (l:World):Prop :=
 ae (decide (k<j))
 (ix g h k fun m =>
 iF l (m.add (k.toNat*8)) fun m n o p q r s t u v =>
 nw (l.alloc (.cells (jQ 0 0 0 0 none 0 0 0 0 0) 101)) fun w =>
 oJ w (na l) m n o p q r s t u v fun m =>
 cI m ((na l).add 0) .u8 fun n =>
 ae (n != 1)
 (cI m ((na l).add 2) .i64 fun n =>
 aY a fun o =>
 cL m (o.add 1) fun o o p =>
 ae (decide (n≥(o:Int)))
 (R (.int .i64 72) m)
 (inc k fun n =>
 b59 a b c d e f g h i j n m))
 (inc k fun k =>
 b59 a b c d e f g h i j k m))
 (inc f fun f =>
 b22 a b c d e f l)
def q22 (R:VP):QT:=(Exit.inBlock 0 (qS none (C [1,1,1,1]) (qf R)))
@[irreducible] def l22 (R:VP) (k:Nat):T22:=fun a b c d e f w=>aS [1,36,37,38] (C [1,1,1,0,1,0,0]) (q22 R) k (fr (U 1 (.pointer a::U 34 (.slice b c d::(.int .i64 e::(.int .i64 f::U 47 [])))))) w
def e22 (R:VP):T22:=fun a b c d e f w=>∃ k,l22 R k a b c d e f w
def q59 (R:VP) (k22:Nat):QT:=(Exit.inBlock 3 (Exit.inBlock 1 (qS none (C [1,1,1,0,1,0,0,1,1,1]) (qL [1,36,37,38] (C [1,1,1,0,1,0,0]) (q22 R) k22))))
def U3 (R:VP) (k22:Nat) (k:Nat):T59:=fun a b c d e f g h i j l w=>aS [1,36,37,38,67,68,69] (C [1,1,1,0,1,0,0,1,1,0,0,1,1,1,1,0,0]) (q59 R k22) k (fr (U 1 (.pointer a::U 34 (.slice b c d::(.int .i64 e::(.int .i64 f::U 28 (.slice g h i::(.int .i64 j::(.int .i64 l::U 16 []))))))))) w
def Vt (R:VP) (k22:Nat):T59:=fun a b c d e f g h i j l w=>∃ k,U3 R k22 k a b c d e f g h i j l w
def l59 (R:VP) (b22:T22):Nat→T59
 | 0=>fun _ _ _ _ _ _ _ _ _ _ _ _=>False
 | k+1=>g59 R b22 (l59 R b22 k)
def e59 (R:VP) (b22:T22):T59:=fun a b c d e f g h i j l w=>∃ k,l59 R b22 k a b c d e f g h i j l w
theorem s59 (R:VP) (k22:Nat) (k:Nat):U3 R k22 (k+1)=fun a b c d e f g h i j l w=>∀ _:Nat→Value,g59 R (l22 R k22) (U3 R k22 k) a b c d e f g h i j l w:=by kernel_rfl
theorem Vx (R:VP) (k22:Nat) (b22:T22) (hb22:b22=l22 R k22):∀ k,l59 R b22 k=U3 R k22 k
 | 0=>by kernel_rfl
 | k+1=>by
  rw [s59]
  simp only [forall_const]
  unfold l59
  have ih:=Vx R k22 b22 hb22 k
  subst hb22
  rw [ih]
  all_goals rfl
theorem W9 (R:VP) (k22:Nat) (b22:T22) (hb22:b22=l22 R k22):e59 R b22=Vt R k22:=by
 unfold e59 Vt
 simp only [Vx R k22 b22 hb22]
theorem u22 (R k a b c d e f w):l22 R (k+1) a b c d e f w=g22 R (e59 R (l22 R k)) a b c d e f w:=by rw [W9 R k _ rfl]; exact ju (by kernel_rfl)
end aG
def aG (R:VP):=aG.g0 R (aG.e22 R)
theorem aG.calls {R a b c d e f g h i j l w} (k:aG R a b c d e f g h i j l w):CA 24 #[ou a b c d e f g h i j l] w R:=cal (n:=aG.an) func24 rfl k (by kernel_rfl)
open Go.Proofs.Try (f27 func27)
namespace aV
def an:An:=An.nil
def g0 (R:VP) (a:World):Prop :=
 nw (a.alloc (.cells (qB ⟨#[]⟩ none 0 0 0 none 0 0 none 0 0) 26)) fun b =>
 nw (b.alloc (.cells #[.string ⟨#[97]⟩,.string ⟨#[98]⟩] 9)) fun c =>
 nw (c.alloc (.cells #[.int .i64 0] 2)) fun d =>
 nw (d.alloc (.cells #[.int .u8 2,.int .i64 0,.int .i64 1,.float .f64 4611686018427387904,.slice none 0 0,.int .u8 2,.int .i64 1,.int .i64 2,.int .u8 1,.int .i64 10,.int .i64 0,.float .f64 0,.slice none 0 0,.int .u8 0,.int .i64 0,.int .i64 0,.int .u8 1,.int .i64 20,.int .i64 0,.float .f64 0,.slice none 0 0,.int .u8 0,.int .i64 0,.int .i64 0] 101)) fun e =>
 nw (e.alloc (.cells #[.int .i64 4] 3)) fun f =>
 nw (f.alloc (.cells #[.int .u8 2,.int .i64 0,.int .i64 1,.float .f64 4607182418800017408,.slice none 0 0,.int .u8 1,.int .i64 1,.int .i64 4,.int .u8 3,.int .i64 0,.int .i64 0,.float .f64 0,.slice (some (na e)) 1 1,.int .u8 2,.int .i64 2,.int .i64 3,.int .u8 1,.int .i64 1,.int .i64 0,.float .f64 0,.slice none 0 0,.int .u8 0,.int .i64 0,.int .i64 0,.int .u8 1,.int .i64 2,.int .i64 0,.float .f64 0,.slice none 0 0,.int .u8 0,.int .i64 0,.int .i64 0,.int .u8 1,.int .i64 3,.int .i64 0,.float .f64 0,.slice none 0 0,.int .u8 0,.int .i64 0,.int .i64 0] 101)) fun e =>
 nw (e.alloc (.cells #[.int .i64 0,.slice (some (na d)) 3 3,.int .i64 0,.slice (some (na f)) 5 5] 44)) fun d =>
 PX d (na a) ⟨#[]⟩ (some (na b)) 2 2 1 (some (na c)) 1 1 (some (na e)) 2 2 fun b =>
 C9 b (na a) fun a c d e f g h i j k l =>
 R (ou a c d e f g h i j k l) b
end aV
def aV (R:VP):=aV.g0 R
theorem aV.calls {R w} (k:aV R  w):CA 27 #[] w R:=cal (n:=aV.an) func27 rfl k (by kernel_rfl)
open Go.Proofs.Try (f28 func28)
namespace fA
def an:An:=An.nil
def g0 (R:VP) (a:Int) (b:OA) (c d:Nat) (e:Int) (f:OA) (g h:Nat) (i:World):Prop :=
 nw (i.alloc (.cells (mi a b c d) 44)) fun a =>
 nw (a.alloc (.cells (mi e f g h) 44)) fun b =>
 cI b ((na i).add 0) .i64 fun c =>
 cI b ((na a).add 0) .i64 fun d =>
 ae (c==d)
 (cL b ((na i).add 1) fun c d e =>
 cL b ((na a).add 1) fun a f g =>
 CA 56 #[.slice c d e,.slice a f g,.func (.func 57) #[] #[]] b fun a c =>
 ∃ d,a = .bool d ∧
 (R (.bool d) c))
 (R (.bool false) b)
end fA
def fA (R:VP):=fA.g0 R
theorem fA.calls {R a b c d e f g h w} (k:fA R a b c d e f g h w):CA 28 #[WS a b c d,WS e f g h] w R:=cal (n:=fA.an) func28 rfl k (by kernel_rfl)
open Go.Proofs.Try (f29 func29)
namespace bJ
def an:An:=An.nil
def g0 (R:VP) (a:OA) (b c:Nat) (d:World):Prop :=
 ae a.isNone
 (R (.slice none 0 0) d)
 (nw (d.alloc (.cells #[] 2)) fun e =>
 cO prog (Builtin.append_ #[23,23] 23 #[.slice (some (na d)) 0 0,.slice a b c]) e fun a b =>
 ∃ c d e,a = .slice c d e ∧
 (R (.slice c d e) b))
end bJ
def bJ (R:VP):=bJ.g0 R
theorem bJ.calls {R a b c w} (k:bJ R a b c w):CA 29 #[.slice a b c] w R:=cal (n:=bJ.an) func29 rfl k (by kernel_rfl)
open Go.Proofs.Try (f30 func30)
namespace aZ
def an:An:=(aR (aR (aL (aR (aL (.mk (some [0,2,6,7,17,18,19]) (aR (aR (aL (aL (aR (aR (aR (aL (aR (aL (.mk (some [0,2,6,7,9,10,12,17,18,19,31,32,33]) .nil .nil))))))))))) .nil))))))
def qf (R:VP):QT:=fin prog f30 R
def C:=cdN prog f30 an
abbrev T8:=OA→Nat→Nat→Int→OA→OA→OA→Nat→Nat→Int→Int→World→Prop
abbrev T27:=OA→Nat→Nat→Int→OA→OA→OA→OA→Nat→Nat→OA→Nat→Nat→OA→Nat→Nat→Int→Int→OA→Nat→Nat→Int→Int→World→Prop
def g0 (R:VP) (e8:T8) (a:OA) (b c:Nat) (d e:Int) (f:World):Prop :=
 nw (f.alloc (.cells (wY 0 none 0 0 none 0 0 none 0 0 none 0 0) 66)) fun g =>
 nw (g.alloc (.cells (wY 0 none 0 0 none 0 0 none 0 0 none 0 0) 66)) fun h =>
 Si h (na g) d none 0 0 none 0 0 none 0 0 none 0 0 fun d =>
 e8 a b c e (some (na f)) (some (na g)) a b c (b:Int) 0 d
def g8 (R:VP) (e27:T27) (a:OA) (b c:Nat) (d:Int) (e f g:OA) (h i:Nat) (j k:Int) (l:World):Prop :=
 ae (decide (k<j))
 (ix g h k fun m =>
 lY l (m.add (k.toNat*2)) fun m n o p =>
 nw (l.alloc (.cells (mi 0 none 0 0) 44)) fun q =>
 zZ q (na l) m n o p fun m =>
 lY m (na l) fun n o p q =>
 CA 53 #[WS n o p q] m fun m n =>
 ∃ o p q r,m = .tuple #[.slice o p q,.int .i64 r] ∧
 (chk ((0:Int)≤0∧0≤(p:Int)∧((8:Nat):Int)*(p:Int)≤281474976710656∧(p:Int)≤9223372036854775807)
 (nw (n.alloc (.cells (madeCells #[.int .i64 0] (((p:Int)).toNat*1)) 2)) fun m =>
 e27 a b c d e f (some (na l)) o p q (some (na n)) 0 (((p:Int)).toNat) g h i j k o p q (p:Int) 0 m)))
 (CA 59 #[.slice a b c,.int .i64 d] l fun a b =>
 ∃ c d g h,a = .tuple #[.slice c d g,.int .i64 h] ∧
 (aY f fun a =>
 st b ((a.add 4).add 0) (.slice c d g) fun a =>
 aY f fun b =>
 Ou a b fun b c d f g h i j k l m n o =>
 aY e fun p =>
 Si a p b c d f g h i j k l m n o fun a =>
 aY e fun b =>
 Ou a b fun b c d e f g h i j k l m n =>
 R (GG b c d e f g h i j k l m n) a))
def g27 (R:VP) (b8:T8) (b27:T27) (a:OA) (b c:Nat) (d:Int) (e f g h:OA) (i j:Nat) (k:OA) (l m:Nat) (n:OA) (o p:Nat) (q r:Int) (s:OA) (t u:Nat) (v w:Int) (x:World):Prop :=
 ae (decide (w<v))
 (ix s t w fun y =>
 cI x (y.add (w.toNat*1)) .i64 fun y =>
 aY g fun z =>
 cL x (z.add 1) fun z A B =>
 ix z A y fun z =>
 cI x ((z.add (y.toNat*8)).add 1) .i64 fun y =>
 nw (x.alloc (.cells #[.int .i64 y] 2)) fun y =>
 cO prog (Builtin.append_ #[23,23] 23 #[.slice k l m,.slice (some (na x)) 1 1]) y fun y z =>
 ∃ A B C,y = .slice A B C ∧
 (inc w fun w =>
 b27 a b c d e f g h i j A B C n o p q r s t u v w z))
 (aY f fun h =>
 cL x (h.add 1) fun h j s =>
 nw (x.alloc (.cells #[.int .i64 (i:Int)] 3)) fun i =>
 cO prog (Builtin.append_ #[45,45] 45 #[.slice h j s,.slice (some (na x)) 1 1]) i fun h i =>
 ∃ j s t,h = .slice j s t ∧
 (aY f fun h =>
 st i ((h.add 1).add 0) (.slice j s t) fun h =>
 aY f fun i =>
 cL h (i.add 2) fun i j s =>
 nw (h.alloc (.cells #[.slice k l m] 23)) fun k =>
 cO prog (Builtin.append_ #[63,63] 63 #[.slice i j s,.slice (some (na h)) 1 1]) k fun h i =>
 ∃ j k l,h = .slice j k l ∧
 (aY f fun h =>
 st i ((h.add 2).add 0) (.slice j k l) fun h =>
 aY f fun i =>
 cL h (i.add 3) fun i j k =>
 aY g fun g =>
 cI h (g.add 0) .i64 fun g =>
 nw (h.alloc (.cells #[.int .i64 g] 3)) fun g =>
 cO prog (Builtin.append_ #[45,45] 45 #[.slice i j k,.slice (some (na h)) 1 1]) g fun g h =>
 ∃ i j k,g = .slice i j k ∧
 (aY f fun g =>
 st h ((g.add 3).add 0) (.slice i j k) fun g =>
 inc r fun h =>
 b8 a b c d e f n o p q h g))))
def q8 (R:VP):QT:=(Exit.inBlock 0 (qS none (C [1,1,1]) (qf R)))
@[irreducible] def l8 (R:VP) (k:Nat):T8:=fun a b c d e f g h i j l w=>aS [0,2,6,7,17,18,19] (C [1,1,0,1,0,0]) (q8 R) k (fr ((.slice a b c::U 1 (.int .i64 d::U 3 (.pointer e::(.pointer f::U 9 (.slice g h i::(.int .i64 j::(.int .i64 l::U 56 []))))))))) w
def e8 (R:VP):T8:=fun a b c d e f g h i j l w=>∃ k,l8 R k a b c d e f g h i j l w
def q27 (R:VP) (k8:Nat):QT:=(Exit.inBlock 2 (qS none (C [1,1,0,1,0,0,1,1,0,0,1,1,1,1]) (Exit.inBlock 1 (qS none (C [1,1,0,1,0,0,1,1,1]) (qL [0,2,6,7,17,18,19] (C [1,1,0,1,0,0]) (q8 R) k8)))))
def U5 (R:VP) (k8:Nat) (k:Nat):T27:=fun a b c d e f g h i j l m n o p q r s t u v x y w=>aS [0,2,6,7,9,10,12,17,18,19,31,32,33] (C [1,1,0,1,0,0,1,1,0,0,1,1,1,0,1,0,0]) (q27 R k8) k (fr ((.slice a b c::U 1 (.int .i64 d::U 3 (.pointer e::(.pointer f::U 1 (.pointer g::(.slice h i j::U 1 (.slice l m n::U 4 (.slice o p q::(.int .i64 r::(.int .i64 s::U 11 (.slice t u v::(.int .i64 x::(.int .i64 y::U 42 []))))))))))))))) w
def Vs (R:VP) (k8:Nat):T27:=fun a b c d e f g h i j l m n o p q r s t u v x y w=>∃ k,U5 R k8 k a b c d e f g h i j l m n o p q r s t u v x y w
def l27 (R:VP) (b8:T8):Nat→T27
 | 0=>fun _ _ _ _ _ _ _ _ _ _ _ _ _ _ _ _ _ _ _ _ _ _ _ _=>False
 | k+1=>g27 R b8 (l27 R b8 k)
def e27 (R:VP) (b8:T8):T27:=fun a b c d e f g h i j l m n o p q r s t u v x y w=>∃ k,l27 R b8 k a b c d e f g h i j l m n o p q r s t u v x y w
theorem s27 (R:VP) (k8:Nat) (k:Nat):U5 R k8 (k+1)=fun a b c d e f g h i j l m n o p q r s t u v x y w=>∀ _:Nat→Value,g27 R (l8 R k8) (U5 R k8 k) a b c d e f g h i j l m n o p q r s t u v x y w:=by kernel_rfl
theorem Vy (R:VP) (k8:Nat) (b8:T8) (hb8:b8=l8 R k8):∀ k,l27 R b8 k=U5 R k8 k
 | 0=>by kernel_rfl
 | k+1=>by
  rw [s27]
  simp only [forall_const]
  unfold l27
  have ih:=Vy R k8 b8 hb8 k
  subst hb8
  rw [ih]
  all_goals rfl
theorem VR (R:VP) (k8:Nat) (b8:T8) (hb8:b8=l8 R k8):e27 R b8=Vs R k8:=by
 unfold e27 Vs
 simp only [Vy R k8 b8 hb8]
theorem u8 (R k a b c d e f g h i j l w):l8 R (k+1) a b c d e f g h i j l w=g8 R (e27 R (l8 R k)) a b c d e f g h i j l w:=by rw [VR R k _ rfl]; exact ju (by kernel_rfl)
end aZ
def aZ (R:VP):=aZ.g0 R (aZ.e8 R)
theorem aZ.calls {R a b c d e w} (k:aZ R a b c d e w):CA 30 #[.slice a b c,.int .i64 d,.int .i64 e] w R:=cal (n:=aZ.an) func30 rfl k (by kernel_rfl)
open Go.Proofs.Try (f31 func31)
namespace fG
def an:An:=An.nil
def g0 (R:VP) (a:Int) (b:OA) (c d:Nat) (e:Bool) (f:World):Prop :=
 nw (f.alloc (.cells (mi a b c d) 44)) fun a =>
 nw (a.alloc (.cells #[.bool e] 4)) fun b =>
 lY b (na f) fun c d e g =>
 CA 60 #[WS c d e g] b fun b c =>
 ∃ d e,b = .tuple #[.int .i64 d,.int .i64 e] ∧
 (ae (d != 0)
 (R (.tuple #[.slice none 0 0,.int .i64 d]) c)
 (nw (c.alloc (.cells #[.slice none 0 0] 45)) fun b =>
 lY b (na f) fun d e g h =>
 CA 61 #[WS d e g h] b fun b d =>
 ∃ e,b=e ∧
 (Ew prog e d
 (fun b d d e =>
 cL d ((na f).add 1) fun f g h =>
 ix f g b fun f =>
 iF d (f.add (b.toNat*8)) fun f g h i j k l m n o =>
 ∃ p,(∀ q:World,Below d.heap.size d q→CA 62 #[qG f g h i j k l m n o] q fun f g=>f = .bool p∧Below d.heap.size d g) ∧
 (cB d (na a) fun a =>
 ∀ f:World,Below d.heap.size d f →
 ae (p==a)
 (cL f (na c) fun a d g =>
 nw (f.alloc (.cells #[.int .i64 b] 3)) fun b =>
 cO prog (Builtin.append_ #[45,45] 45 #[.slice a d g,.slice (some (na f)) 1 1]) b fun a b =>
 ∃ d g h,a = .slice d g h ∧
 (st b ((na c).add 0) (.slice d g h) fun a =>
 e a))
 (e f)))
 (fun a b =>
 cL b (na c) fun c d e =>
 b.heap[a]?=some (.deferred (some [])) ∧
 nw (b.putObj a (.deferred none)) fun a =>
 R (.tuple #[.slice c d e,.int .i64 0]) a))))
end fG
def fG (R:VP):=fG.g0 R
theorem fG.calls {R a b c d e w} (k:fG R a b c d e w):CA 31 #[WS a b c d,.bool e] w R:=cal (n:=fG.an) func31 rfl k (by kernel_rfl)
open Go.Proofs.Try (f32 func32)
namespace aF
def an:An:=(aR (aR (aL (aR (aL (.mk (some [0,1,12,13]) .nil .nil))))))
def qf (R:VP):QT:=fin prog f32 R
def C:=cdN prog f32 an
abbrev T14:=OA→Nat→Nat→OA→Nat→Nat→Int→Int→World→Prop
def g0 (R:VP) (e14:T14) (a:OA) (b c:Nat) (d:OA) (e f:Nat) (g:World):Prop :=
 ae ((b:Int) != (e:Int))
 (R (.bool false) g)
 (e14 a b c d e f (b:Int) 0 g)
def g14 (R:VP) (b14:T14) (a:OA) (b c:Nat) (d:OA) (e f:Nat) (g h:Int) (i:World):Prop :=
 ae (decide (h<g))
 (ix a b h fun j =>
 cI i (j.add (h.toNat*1)) .i64 fun j =>
 ix d e h fun k =>
 cI i (k.add (h.toNat*1)) .i64 fun k =>
 ae (j != k)
 (R (.bool false) i)
 (inc h fun h =>
 b14 a b c d e f g h i))
 (R (.bool true) i)
def q14 (R:VP):QT:=(Exit.inBlock 0 (qS none (C [1,1,1]) (qf R)))
@[irreducible] def l14 (R:VP) (k:Nat):T14:=fun a b c d e f g h w=>aS [0,1,12,13] (C [1,1,0,1,0,0]) (q14 R) k (fr ((.slice a b c::(.slice d e f::U 10 (.int .i64 g::(.int .i64 h::U 12 [])))))) w
def e14 (R:VP):T14:=fun a b c d e f g h w=>∃ k,l14 R k a b c d e f g h w
theorem u14 (R k a b c d e f g h w):l14 R (k+1) a b c d e f g h w=g14 R (l14 R k) a b c d e f g h w:=ju (by kernel_rfl)
end aF
def aF (R:VP):=aF.g0 R (aF.e14 R)
theorem aF.calls {R a b c d e f w} (k:aF R a b c d e f w):CA 32 #[.slice a b c,.slice d e f] w R:=cal (n:=aF.an) func32 rfl k (by kernel_rfl)
end Go.Mir
