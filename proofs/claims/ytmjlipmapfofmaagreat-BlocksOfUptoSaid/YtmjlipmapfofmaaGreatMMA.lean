/- Part of a proof of laws of the seat YtmjlipmapfofmaaGreat: functions' weakest preconditions, each checked by the kernel, contracts out of them, plain lemmas; no conditions. -/
import Derived.KernelRfl
import Derived.Test.YtmjlipmapfofmaaGreatEA
import Derived.Test.YtmjlipmapfofmaaGreatProg
set_option linter.unusedVariables false
set_option linter.unusedSimpArgs false
set_option linter.unusedSectionVars false
set_option linter.unusedVariables false
namespace Go.Mir
open Go Go.E Go.RowKit
theorem Jy:Go.Proofs.Tryz.prog.follows .mixedOrders=true:=by kernel_rfl
theorem Q3:Go.Proofs.Tryz.prog.types.size+Made.depth≠0:=of_decide_eq_true (by kernel_rfl)
abbrev CA:=E.CallsD Go.Proofs.Tryz.prog
theorem cal {f:FuncId} {fn:Func} {n:An} {args:Array Value} {w:World} {R:VP} {p:Prop} (hf:Go.Proofs.Tryz.prog.funcs[f]?=some fn) (hb:fn.body.isSome=true) (h:p) (e:fnN Go.Proofs.Tryz.prog fn n args w R=p):CA f args w R:=IX Jy Q3 hf hb h e
abbrev mD (x0:ByteArray) (a1:OA) (n1:Nat) (c1:Nat) (x2:Int) (a3:OA) (n3:Nat) (c3:Nat) (a4:OA) (n4:Nat) (c4:Nat):Array Value := #[.string x0,.slice a1 n1 c1,.int .i64 x2,.slice a3 n3 c3,.slice a4 n4 c4]
abbrev mf (x0:ByteArray) (a1:OA) (n1:Nat) (c1:Nat) (x2:Int) (a3:OA) (n3:Nat) (c3:Nat) (a4:OA) (n4:Nat) (c4:Nat):Value := .agg (mD x0 a1 n1 c1 x2 a3 n3 c3 a4 n4 c4)
abbrev xY (w:World) (a:Addr) (K:ByteArray→OA→Nat→Nat→Int→OA→Nat→Nat→OA→Nat→Nat→Prop):Prop:=cS w (a.add 0) fun x0=>cL w (a.add 1) fun a1 n1 c1=>cI w (a.add 2) .i64 fun x2=>cL w (a.add 3) fun a3 n3 c3=>cL w (a.add 4) fun a4 n4 c4=>K x0 a1 n1 c1 x2 a3 n3 c3 a4 n4 c4
abbrev SQ (w:World) (a:Addr) (x0:ByteArray) (a1:OA) (n1:Nat) (c1:Nat) (x2:Int) (a3:OA) (n3:Nat) (c3:Nat) (a4:OA) (n4:Nat) (c4:Nat) (K:World→Prop):Prop:=st w (a.add 0) (.string x0) fun w=>st w (a.add 1) (.slice a1 n1 c1) fun w=>st w (a.add 2) (.int .i64 x2) fun w=>st w (a.add 3) (.slice a3 n3 c3) fun w=>st w (a.add 4) (.slice a4 n4 c4) fun w=>K w
abbrev lq (x0:Int) (x1:Int) (a2:OA) (n2:Nat) (c2:Nat) (a3:OA) (n3:Nat) (c3:Nat):Array Value := #[.int .i64 x0,.int .i64 x1,.slice a2 n2 c2,.slice a3 n3 c3]
abbrev jM (x0:Int) (x1:Int) (a2:OA) (n2:Nat) (c2:Nat) (a3:OA) (n3:Nat) (c3:Nat):Value := .agg (lq x0 x1 a2 n2 c2 a3 n3 c3)
abbrev lV (w:World) (a:Addr) (K:Int→Int→OA→Nat→Nat→OA→Nat→Nat→Prop):Prop:=cI w (a.add 0) .i64 fun x0=>cI w (a.add 1) .i64 fun x1=>cL w (a.add 2) fun a2 n2 c2=>cL w (a.add 3) fun a3 n3 c3=>K x0 x1 a2 n2 c2 a3 n3 c3
abbrev qj (w:World) (a:Addr) (x0:Int) (x1:Int) (a2:OA) (n2:Nat) (c2:Nat) (a3:OA) (n3:Nat) (c3:Nat) (K:World→Prop):Prop:=st w (a.add 0) (.int .i64 x0) fun w=>st w (a.add 1) (.int .i64 x1) fun w=>st w (a.add 2) (.slice a2 n2 c2) fun w=>st w (a.add 3) (.slice a3 n3 c3) fun w=>K w
abbrev lg (x0:Int) (a1:OA) (n1:Nat) (c1:Nat):Array Value := #[.int .i64 x0,.slice a1 n1 c1]
abbrev jv (x0:Int) (a1:OA) (n1:Nat) (c1:Nat):Value := .agg (lg x0 a1 n1 c1)
abbrev lK (w:World) (a:Addr) (K:Int→OA→Nat→Nat→Prop):Prop:=cI w (a.add 0) .i64 fun x0=>cL w (a.add 1) fun a1 n1 c1=>K x0 a1 n1 c1
abbrev DN (w:World) (a:Addr) (x0:Int) (a1:OA) (n1:Nat) (c1:Nat) (K:World→Prop):Prop:=st w (a.add 0) (.int .i64 x0) fun w=>st w (a.add 1) (.slice a1 n1 c1) fun w=>K w
abbrev pO (x0:Int) (x1:Int) (x2:Int) (x3:Nat) (a4:OA) (n4:Nat) (c4:Nat) (x5:Int) (x6:Int) (x7:Int):Array Value := #[.int .u8 x0,.int .i64 x1,.int .i64 x2,.float .f64 x3,.slice a4 n4 c4,.int .u8 x5,.int .i64 x6,.int .i64 x7]
abbrev EX (x0:Int) (x1:Int) (x2:Int) (x3:Nat) (a4:OA) (n4:Nat) (c4:Nat) (x5:Int) (x6:Int) (x7:Int):Value := .agg (pO x0 x1 x2 x3 a4 n4 c4 x5 x6 x7)
abbrev lU (w:World) (a:Addr) (K:Int→Int→Int→Nat→OA→Nat→Nat→Int→Int→Int→Prop):Prop:=cI w (a.add 0) .u8 fun x0=>cI w (a.add 1) .i64 fun x1=>cI w (a.add 2) .i64 fun x2=>cF w (a.add 3) .f64 fun x3=>cL w (a.add 4) fun a4 n4 c4=>cI w (a.add 5) .u8 fun x5=>cI w (a.add 6) .i64 fun x6=>cI w (a.add 7) .i64 fun x7=>K x0 x1 x2 x3 a4 n4 c4 x5 x6 x7
abbrev vS (w:World) (a:Addr) (x0:Int) (x1:Int) (x2:Int) (x3:Nat) (a4:OA) (n4:Nat) (c4:Nat) (x5:Int) (x6:Int) (x7:Int) (K:World→Prop):Prop:=st w (a.add 0) (.int .u8 x0) fun w=>st w (a.add 1) (.int .i64 x1) fun w=>st w (a.add 2) (.int .i64 x2) fun w=>st w (a.add 3) (.float .f64 x3) fun w=>st w (a.add 4) (.slice a4 n4 c4) fun w=>st w (a.add 5) (.int .u8 x5) fun w=>st w (a.add 6) (.int .i64 x6) fun w=>st w (a.add 7) (.int .i64 x7) fun w=>K w
abbrev Ej (x0:Int) (x1:Int):Array Value := #[.int .i64 x0,.int .i64 x1]
abbrev Tv (w:World) (a:Addr) (K:Int→Int→Prop):Prop:=cI w (a.add 0) .i64 fun x0=>cI w (a.add 1) .i64 fun x1=>K x0 x1
abbrev Tn (w:World) (a:Addr) (x0:Int) (x1:Int) (K:World→Prop):Prop:=st w (a.add 0) (.int .i64 x0) fun w=>st w (a.add 1) (.int .i64 x1) fun w=>K w
abbrev oZ (x0:Int) (a1:OA) (n1:Nat) (c1:Nat) (a2:OA) (n2:Nat) (c2:Nat) (a3:OA) (n3:Nat) (c3:Nat) (a4:OA) (n4:Nat) (c4:Nat):Array Value := #[.int .i64 x0,.slice a1 n1 c1,.slice a2 n2 c2,.slice a3 n3 c3,.slice a4 n4 c4]
abbrev zK (x0:Int) (a1:OA) (n1:Nat) (c1:Nat) (a2:OA) (n2:Nat) (c2:Nat) (a3:OA) (n3:Nat) (c3:Nat) (a4:OA) (n4:Nat) (c4:Nat):Value := .agg (oZ x0 a1 n1 c1 a2 n2 c2 a3 n3 c3 a4 n4 c4)
abbrev Hz (w:World) (a:Addr) (K:Int→OA→Nat→Nat→OA→Nat→Nat→OA→Nat→Nat→OA→Nat→Nat→Prop):Prop:=cI w (a.add 0) .i64 fun x0=>cL w (a.add 1) fun a1 n1 c1=>cL w (a.add 2) fun a2 n2 c2=>cL w (a.add 3) fun a3 n3 c3=>cL w (a.add 4) fun a4 n4 c4=>K x0 a1 n1 c1 a2 n2 c2 a3 n3 c3 a4 n4 c4
abbrev MO (w:World) (a:Addr) (x0:Int) (a1:OA) (n1:Nat) (c1:Nat) (a2:OA) (n2:Nat) (c2:Nat) (a3:OA) (n3:Nat) (c3:Nat) (a4:OA) (n4:Nat) (c4:Nat) (K:World→Prop):Prop:=st w (a.add 0) (.int .i64 x0) fun w=>st w (a.add 1) (.slice a1 n1 c1) fun w=>st w (a.add 2) (.slice a2 n2 c2) fun w=>st w (a.add 3) (.slice a3 n3 c3) fun w=>st w (a.add 4) (.slice a4 n4 c4) fun w=>K w
abbrev uk (x0:Int) (a1:OA) (n1:Nat) (c1:Nat) (a2:OA) (n2:Nat) (c2:Nat) (a3:OA) (n3:Nat) (c3:Nat):Array Value := #[.int .i64 x0,.slice a1 n1 c1,.slice a2 n2 c2,.slice a3 n3 c3]
abbrev zQ (x0:Int) (a1:OA) (n1:Nat) (c1:Nat) (a2:OA) (n2:Nat) (c2:Nat) (a3:OA) (n3:Nat) (c3:Nat):Value := .agg (uk x0 a1 n1 c1 a2 n2 c2 a3 n3 c3)
abbrev qg (w:World) (a:Addr) (K:Int→OA→Nat→Nat→OA→Nat→Nat→OA→Nat→Nat→Prop):Prop:=cI w (a.add 0) .i64 fun x0=>cL w (a.add 1) fun a1 n1 c1=>cL w (a.add 2) fun a2 n2 c2=>cL w (a.add 3) fun a3 n3 c3=>K x0 a1 n1 c1 a2 n2 c2 a3 n3 c3
abbrev Cm (w:World) (a:Addr) (x0:Int) (a1:OA) (n1:Nat) (c1:Nat) (a2:OA) (n2:Nat) (c2:Nat) (a3:OA) (n3:Nat) (c3:Nat) (K:World→Prop):Prop:=st w (a.add 0) (.int .i64 x0) fun w=>st w (a.add 1) (.slice a1 n1 c1) fun w=>st w (a.add 2) (.slice a2 n2 c2) fun w=>st w (a.add 3) (.slice a3 n3 c3) fun w=>K w
abbrev oG (x0:Nat) (a1:OA) (n1:Nat) (c1:Nat) (x2:Int) (x3:Int) (x4:Int):Array Value := #[.float .f64 x0,.slice a1 n1 c1,.int .i64 x2,.int .i64 x3,.int .i64 x4]
abbrev oI (x0:Nat) (a1:OA) (n1:Nat) (c1:Nat) (x2:Int) (x3:Int) (x4:Int):Value := .agg (oG x0 a1 n1 c1 x2 x3 x4)
abbrev mi (w:World) (a:Addr) (K:Nat→OA→Nat→Nat→Int→Int→Int→Prop):Prop:=cF w (a.add 0) .f64 fun x0=>cL w (a.add 1) fun a1 n1 c1=>cI w (a.add 2) .i64 fun x2=>cI w (a.add 3) .i64 fun x3=>cI w (a.add 4) .i64 fun x4=>K x0 a1 n1 c1 x2 x3 x4
abbrev vw (w:World) (a:Addr) (x0:Nat) (a1:OA) (n1:Nat) (c1:Nat) (x2:Int) (x3:Int) (x4:Int) (K:World→Prop):Prop:=st w (a.add 0) (.float .f64 x0) fun w=>st w (a.add 1) (.slice a1 n1 c1) fun w=>st w (a.add 2) (.int .i64 x2) fun w=>st w (a.add 3) (.int .i64 x3) fun w=>st w (a.add 4) (.int .i64 x4) fun w=>K w
abbrev RZ (x0:Int) (x1:Int) (x2:Int) (x3:Int):Array Value := #[.int .i64 x0,.int .i64 x1,.int .i64 x2,.int .i64 x3]
abbrev Gg (x0:Int) (x1:Int) (x2:Int) (x3:Int):Value := .agg (RZ x0 x1 x2 x3)
abbrev qY (x0:Int) (x1:Int) (x2:Int) (x3:Nat) (a4:OA) (n4:Nat) (c4:Nat) (x5:Int) (x6:Int) (x7:Int) (x8:Int) (x9:Int):Array Value := #[.int .u8 x0,.int .i64 x1,.int .i64 x2,.float .f64 x3,.slice a4 n4 c4,.int .u8 x5,.int .i64 x6,.int .i64 x7,.int .i64 x8,.int .i64 x9]
abbrev wG (x0:Int) (x1:Int) (x2:Int) (x3:Nat) (a4:OA) (n4:Nat) (c4:Nat) (x5:Int) (x6:Int) (x7:Int) (x8:Int) (x9:Int):Value := .agg (qY x0 x1 x2 x3 a4 n4 c4 x5 x6 x7 x8 x9)
abbrev lC (w:World) (a:Addr) (K:Int→Int→Int→Nat→OA→Nat→Nat→Int→Int→Int→Int→Int→Prop):Prop:=cI w (a.add 0) .u8 fun x0=>cI w (a.add 1) .i64 fun x1=>cI w (a.add 2) .i64 fun x2=>cF w (a.add 3) .f64 fun x3=>cL w (a.add 4) fun a4 n4 c4=>cI w (a.add 5) .u8 fun x5=>cI w (a.add 6) .i64 fun x6=>cI w (a.add 7) .i64 fun x7=>cI w (a.add 8) .i64 fun x8=>cI w (a.add 9) .i64 fun x9=>K x0 x1 x2 x3 a4 n4 c4 x5 x6 x7 x8 x9
abbrev xI (w:World) (a:Addr) (x0:Int) (x1:Int) (x2:Int) (x3:Nat) (a4:OA) (n4:Nat) (c4:Nat) (x5:Int) (x6:Int) (x7:Int) (x8:Int) (x9:Int) (K:World→Prop):Prop:=st w (a.add 0) (.int .u8 x0) fun w=>st w (a.add 1) (.int .i64 x1) fun w=>st w (a.add 2) (.int .i64 x2) fun w=>st w (a.add 3) (.float .f64 x3) fun w=>st w (a.add 4) (.slice a4 n4 c4) fun w=>st w (a.add 5) (.int .u8 x5) fun w=>st w (a.add 6) (.int .i64 x6) fun w=>st w (a.add 7) (.int .i64 x7) fun w=>st w (a.add 8) (.int .i64 x8) fun w=>st w (a.add 9) (.int .i64 x9) fun w=>K w
abbrev Ko (x0:Int) (x1:Int) (x2:Int):Array Value := #[.int .i64 x0,.int .i64 x1,.int .i64 x2]
abbrev SG (w:World) (a:Addr) (K:Int→Int→Int→Prop):Prop:=cI w (a.add 0) .i64 fun x0=>cI w (a.add 1) .i64 fun x1=>cI w (a.add 2) .i64 fun x2=>K x0 x1 x2
abbrev Uh (w:World) (a:Addr) (x0:Int) (x1:Int) (x2:Int) (K:World→Prop):Prop:=st w (a.add 0) (.int .i64 x0) fun w=>st w (a.add 1) (.int .i64 x1) fun w=>st w (a.add 2) (.int .i64 x2) fun w=>K w
end Go.Mir
set_option linter.unusedVariables false
set_option maxRecDepth 100000
namespace Go.Mir
open Go Go.E Go.RowKit
open Go.Proofs.Tryz (prog)
open Go.Proofs.Tryz (f6 func6)
namespace bu
def an:An:=(aR (aR (aR (aR (aR (aR (aR (aL (aR (aL (.mk (some [2,5,6,21,22,23]) .nil .nil)))))))))))
def qf (R:VP):QT:=fin prog f6 R
def C:=cdN prog f6 an
abbrev T18:=OA→OA→Nat→Nat→OA→OA→Nat→Nat→Int→Int→World→Prop
def g0 (R:VP) (e18:T18) (a:ByteArray) (b:OA) (c d:Nat) (e:Int) (f:OA) (g h:Nat) (i:OA) (j k:Nat) (l:World):Prop :=
 nw (l.alloc (.cells (mD a b c d e f g h i j k) 26)) fun a =>
 nw (a.alloc (.cells (mD ⟨#[]⟩ none 0 0 0 none 0 0 none 0 0) 26)) fun b =>
 xY b (na l) fun c d e f g h i j k m n =>
 nw (b.alloc (.cells (mD ⟨#[]⟩ none 0 0 0 none 0 0 none 0 0) 26)) fun o =>
 SQ o (na b) c d e f g h i j k m n fun c =>
 cL c ((na l).add 1) fun d e f =>
 dm prog (Builtin.append_ #[22,22] 22 #[.slice none 0 0,.slice d e f]) c fun c d =>
 ∃ e f g,c = .slice e f g ∧
 (st d (((na b).add 1).add 0) (.slice e f g) fun c =>
 cL c ((na l).add 3) fun d e f =>
 dm prog (Builtin.append_ #[23,23] 23 #[.slice none 0 0,.slice d e f]) c fun c d =>
 ∃ e f g,c = .slice e f g ∧
 (st d (((na b).add 3).add 0) (.slice e f g) fun c =>
 cL c ((na l).add 4) fun d e f =>
 e18 (some (na a)) none 0 0 (some (na b)) d e f (e:Int) 0 c))
def g18 (R:VP) (b18:T18) (a b:OA) (c d:Nat) (e f:OA) (g h:Nat) (i j:Int) (k:World):Prop :=
 af (decide (j<i))
 (ix f g j fun l =>
 lK k (l.add (j.toNat*2)) fun l m n o =>
 nw (k.alloc (.cells (lg 0 none 0 0) 50)) fun p =>
 DN p (na k) l m n o fun l =>
 ∃ m:Nat→Value→World→Prop,KpF m ∧
 (cI l ((na k).add 0) .i64 fun n =>
 cL l ((na k).add 1) fun o p q =>
 (∀ r:World,Below l.heap.size l r→CA 22 #[.slice o p q] r fun o p=>∃ q s t,o = .slice q s t∧m 5 (.slice q s t) p∧Below r.heap.size r p) ∧
 (∀ o:Option Addr,∀ p:Nat,∀ q:Nat,(∃ r,Below l.heap.size l r∧m 5 (.slice o p q) r) →
 (∀ r:World,Below l.heap.size l r→m 5 (.slice o p q) r→m 7 (.slice (some (na r)) 1 1) (r.alloc (.cells (lg n o p q) 50))) ∧
 (∀ n:Addr,(∃ r,Below l.heap.size l r∧m 7 (.slice (some n) 1 1) r) →
 ∀ r:World,Below l.heap.size l r→m 5 (.slice o p q) r→m 7 (.slice (some n) 1 1) r →
 dm prog (Builtin.append_ #[24,24] 24 #[.slice b c d,.slice (some n) 1 1]) r fun l m =>
 ∃ n o p,l = .slice n o p ∧
 (inc j fun j =>
 b18 a n o p e f g h i j m)))))
 (bK e fun f =>
 st k ((f.add 4).add 0) (.slice b c d) fun b =>
 bK e fun c =>
 xY b c fun c d e f g h i j k l m =>
 bK a fun n =>
 SQ b n c d e f g h i j k l m fun b =>
 bK a fun a =>
 xY b a fun a c d e f g h i j k l =>
 R (mf a c d e f g h i j k l) b)
def q18 (R:VP):QT:=(Exit.inBlock 0 (qS none (C [1,1,1,1,1,1,1,1]) (qf R)))
@[irreducible] def l18 (R:VP) (k:Nat):T18:=fun a b c d e f g h i j w=>aZ [2,5,6,21,22,23] (C [1,1,1,1,1,1,1,0,1,0,0]) (q18 R) k (fr (U 2 (.pointer a::U 2 (.slice b c d::(.pointer e::U 14 (.slice f g h::(.int .i64 i::(.int .i64 j::U 16 [])))))))) w
def e18 (R:VP):T18:=fun a b c d e f g h i j w=>∃ k,l18 R k a b c d e f g h i j w
theorem u18 (R k a b c d e f g h i j w):l18 R (k+1) a b c d e f g h i j w=g18 R (l18 R k) a b c d e f g h i j w:=ju (by kernel_rfl)
end bu
def bu (R:VP):=bu.g0 R (bu.e18 R)
theorem bu.calls {R a b c d e f g h i j l w} (k:bu R a b c d e f g h i j l w):CA 6 #[mf a b c d e f g h i j l] w R:=cal (n:=bu.an) func6 rfl k (by kernel_rfl)
open Go.Proofs.Tryz (f7 func7)
namespace dU
def an:An:=(aR (aR (aR (.mk none (aR (aL (.mk (some [1,2,4,7,19,20,21]) .nil .nil))) (aR (aR (aL (aR (aL (.mk (some [2,4,10,63,64,65]) .nil .nil))))))))))
def qf (R:VP):QT:=fin prog f7 R
def C:=cdN prog f7 an
abbrev T18:=OA→Nat→Nat→OA→OA→Int→OA→Nat→Nat→Int→Int→World→Prop
abbrev T53:=OA→OA→OA→OA→Nat→Nat→Int→Int→World→Prop
def g0 (R:VP) (e18:T18) (a:ByteArray) (b:OA) (c d:Nat) (e:Int) (f:OA) (g h:Nat) (i:OA) (j k:Nat) (l:OA) (m n:Nat) (o:World):Prop :=
 nw (o.alloc (.cells (mD a b c d e f g h i j k) 26)) fun a =>
 nw (a.alloc (.cells (lq 0 0 none 0 0 none 0 0) 31)) fun b =>
 xY b (na o) fun c d e f g h i j k p q =>
 CA 23 #[mf c d e f g h i j k p q] b fun b c =>
 ∃ d,b = .int .i64 d ∧
 (af (d != 0)
 (qj c (na a) 0 0 none 0 0 none 0 0 fun b =>
 lV b (na a) fun e f g h i j k p =>
 R (.tuple #[jM e f g h i j k p,.int .i64 d]) b)
 (e18 l m n (some (na o)) (some (na a)) 0 l m n (m:Int) 0 c))
def g18 (R:VP) (b18:T18) (e53:T53) (a:OA) (b c:Nat) (d e:OA) (f:Int) (g:OA) (h i:Nat) (j k:Int) (l:World):Prop :=
 af (decide (k<j))
 (ix g h k fun m =>
 Tv l (m.add (k.toNat*2)) fun m n =>
 nw (l.alloc (.cells (Ej 0 0) 61)) fun o =>
 Tn o (na l) m n fun m =>
 cI m ((na l).add 0) .i64 fun n =>
 af (n != f)
 (bK e fun n =>
 qj m n 0 0 none 0 0 none 0 0 fun n =>
 bK e fun o =>
 lV n o fun o p q r s t u v =>
 R (.tuple #[jM o p q r s t u v,.int .i64 6]) n)
 (cI m ((na l).add 1) .i64 fun n =>
 cI m ((na l).add 0) .i64 fun o =>
 af (decide (n≤o))
 (bK e fun n =>
 qj m n 0 0 none 0 0 none 0 0 fun n =>
 bK e fun o =>
 lV n o fun o p q r s t u v =>
 R (.tuple #[jM o p q r s t u v,.int .i64 6]) n)
 (cI m ((na l).add 1) .i64 fun n =>
 bK d fun o =>
 cL m (o.add 4) fun o o p =>
 af (decide (n>(o:Int)))
 (bK e fun n =>
 qj m n 0 0 none 0 0 none 0 0 fun n =>
 bK e fun o =>
 lV n o fun o p q r s t u v =>
 R (.tuple #[jM o p q r s t u v,.int .i64 6]) n)
 (cI m ((na l).add 1) .i64 fun n =>
 inc k fun k =>
 b18 a b c d e n g h i j k m))))
 (bK d fun g =>
 cL l (g.add 4) fun g g h =>
 af (f != (g:Int))
 (bK e fun f =>
 qj l f 0 0 none 0 0 none 0 0 fun f =>
 bK e fun g =>
 lV f g fun g h i j k m n o =>
 R (.tuple #[jM g h i j k m n o,.int .i64 6]) f)
 (∃ f:Nat→Value→World→Prop,KpF f ∧
 (bK d fun g =>
 cL l (g.add 1) fun g g h =>
 bK d fun h =>
 cI l (h.add 2) .i64 fun h =>
 bK d fun i =>
 cL l (i.add 3) fun i j k =>
 (∀ m:World,Below l.heap.size l m→CA 24 #[.slice i j k] m fun i j=>∃ k n o,i = .slice k n o∧f 7 (.slice k n o) j∧Below m.heap.size m j) ∧
 (∀ i:Option Addr,∀ j:Nat,∀ k:Nat,(∃ m,Below l.heap.size l m∧f 7 (.slice i j k) m) →
 (∀ m:World,Below l.heap.size l m→f 9 (.pointer (some (na m))) (m.alloc (.cells (lq 0 0 none 0 0 none 0 0) 31))) ∧
 (∀ m:Addr,(∃ n,Below l.heap.size l n∧f 9 (.pointer (some m)) n) →
 ∀ n:World,Below l.heap.size l n→f 7 (.slice i j k) n→f 9 (.pointer (some m)) n →
 qj n m (g:Int) h i j k none 0 0 fun f =>
 e53 d e (some m) a b c (b:Int) 0 f)))))
def g53 (R:VP) (b53:T53) (a b c d:OA) (e f:Nat) (g h:Int) (i:World):Prop :=
 af (decide (h<g))
 (ix d e h fun j =>
 Tv i (j.add (h.toNat*2)) fun j k =>
 nw (i.alloc (.cells (Ej 0 0) 61)) fun l =>
 Tn l (na i) j k fun j =>
 ∃ k:Nat→Value→World→Prop,KpF k ∧
 (bK c fun l =>
 cL j (l.add 3) fun l m n =>
 bK a fun o =>
 cL j (o.add 4) fun o p p =>
 cI j ((na i).add 0) .i64 fun q =>
 cI j ((na i).add 1) .i64 fun r =>
 chk ((0:Int)≤r∧r≤(p:Int))
 (chk ((0:Int)≤q∧q≤(r.toNat:Int))
 (cI j ((na i).add 0) .i64 fun s =>
 bK c fun t =>
 cI j (t.add 0) .i64 fun t =>
 (∀ u:World,Below j.heap.size j u→CA 25 #[.slice (slA o p q.toNat 2) (r.toNat - q.toNat) (p - q.toNat),.int .i64 s,.int .i64 t] u fun o p=>∃ q r s t v w x y z A B C D,o=zK q r s t v w x y z A B C D∧k 13 (zK q r s t v w x y z A B C D) p∧Below u.heap.size u p) ∧
 (∀ o:Int,∀ p:Option Addr,∀ q:Nat,∀ r:Nat,∀ s:Option Addr,∀ t:Nat,∀ u:Nat,∀ v:Option Addr,∀ w:Nat,∀ x:Nat,∀ y:Option Addr,∀ z:Nat,∀ A:Nat,(∃ B,Below j.heap.size j B∧k 13 (zK o p q r s t u v w x y z A) B) →
 (∀ B:World,Below j.heap.size j B→k 13 (zK o p q r s t u v w x y z A) B→k 14 (.slice (some (na B)) 1 1) (B.alloc (.cells (oZ o p q r s t u v w x y z A) 66))) ∧
 (∀ B:Addr,(∃ C,Below j.heap.size j C∧k 14 (.slice (some B) 1 1) C) →
 ∀ C:World,Below j.heap.size j C→k 13 (zK o p q r s t u v w x y z A) C→k 14 (.slice (some B) 1 1) C →
 dm prog (Builtin.append_ #[29,29] 29 #[.slice l m n,.slice (some B) 1 1]) C fun j k =>
 ∃ l m n,j = .slice l m n ∧
 (bK c fun j =>
 st k ((j.add 3).add 0) (.slice l m n) fun j =>
 inc h fun h =>
 b53 a b c d e f g h j)))))))
 (bK c fun a =>
 lV i a fun a c d e f g h j =>
 bK b fun k =>
 qj i k a c d e f g h j fun a =>
 bK b fun b =>
 lV a b fun b c d e f g h i =>
 R (.tuple #[jM b c d e f g h i,.int .i64 0]) a)
def q18 (R:VP):QT:=(Exit.inBlock 0 (qS none (C [1,1,1,1]) (qf R)))
@[irreducible] def l18 (R:VP) (k:Nat):T18:=fun a b c d e f g h i j l w=>aZ [1,2,4,7,19,20,21] (C [1,1,1,0,1,0,0]) (q18 R) k (fr (U 1 (.slice a b c::(.pointer d::U 1 (.pointer e::U 2 (.int .i64 f::U 11 (.slice g h i::(.int .i64 j::(.int .i64 l::U 66 []))))))))) w
def e18 (R:VP):T18:=fun a b c d e f g h i j l w=>∃ k,l18 R k a b c d e f g h i j l w
def q53 (R:VP):QT:=(Exit.inBlock 2 (qS none (C [1,1,1,1,1,1,1]) (qf R)))
@[irreducible] def l53 (R:VP) (k:Nat):T53:=fun a b c d e f g h w=>aZ [2,4,10,63,64,65] (C [1,1,1,1,1,1,0,1,0,0]) (q53 R) k (fr (U 2 (.pointer a::U 1 (.pointer b::U 5 (.pointer c::U 52 (.slice d e f::(.int .i64 g::(.int .i64 h::U 22 [])))))))) w
def e53 (R:VP):T53:=fun a b c d e f g h w=>∃ k,l53 R k a b c d e f g h w
theorem u53 (R k a b c d e f g h w):l53 R (k+1) a b c d e f g h w=g53 R (l53 R k) a b c d e f g h w:=ju (by kernel_rfl)
theorem u18 (R k a b c d e f g h i j l w):l18 R (k+1) a b c d e f g h i j l w=g18 R (l18 R k) (e53 R) a b c d e f g h i j l w:=ju (by kernel_rfl)
end dU
def dU (R:VP):=dU.g0 R (dU.e18 R)
theorem dU.calls {R a b c d e f g h i j l m n o w} (k:dU R a b c d e f g h i j l m n o w):CA 7 #[mf a b c d e f g h i j l,.slice m n o] w R:=cal (n:=dU.an) func7 rfl k (by kernel_rfl)
open Go.Proofs.Tryz (f8 func8)
namespace bT
def an:An:=(aR (aR (aR (aR (aR (aL (aR (aL (.mk (some [2,4,7,35,36,37]) .nil .nil)))))))))
def qf (R:VP):QT:=fin prog f8 R
def C:=cdN prog f8 an
abbrev T28:=OA→OA→OA→OA→Nat→Nat→Int→Int→World→Prop
def g0 (R:VP) (e28:T28) (a:ByteArray) (b:OA) (c d:Nat) (e:Int) (f:OA) (g h:Nat) (i:OA) (j k:Nat) (l:OA) (m n:Nat) (o:World):Prop :=
 nw (o.alloc (.cells (mD a b c d e f g h i j k) 26)) fun a =>
 nw (a.alloc (.cells (lq 0 0 none 0 0 none 0 0) 31)) fun b =>
 xY b (na o) fun c d e f g h i j k p q =>
 CA 26 #[mf c d e f g h i j k p q] b fun b c =>
 ∃ d,b = .int .i64 d ∧
 (af (d != 0)
 (qj c (na a) 0 0 none 0 0 none 0 0 fun b =>
 lV b (na a) fun e f g h i j k p =>
 R (.tuple #[jM e f g h i j k p,.int .i64 d]) b)
 (cL c ((na o).add 4) fun b b d =>
 CA 27 #[.slice l m n,.int .i64 (b:Int)] c fun b c =>
 ∃ d,b = .bool d ∧
 (af (!d)
 (qj c (na a) 0 0 none 0 0 none 0 0 fun b =>
 lV b (na a) fun d e f g h i j k =>
 R (.tuple #[jM d e f g h i j k,.int .i64 6]) b)
 (cL c ((na o).add 1) fun b b d =>
 cI c ((na o).add 2) .i64 fun d =>
 nw (c.alloc (.cells (lq 0 0 none 0 0 none 0 0) 31)) fun e =>
 qj e (na c) (b:Int) d none 0 0 none 0 0 fun b =>
 cL b ((na c).add 2) fun d e f =>
 cL b ((na o).add 3) fun g h i =>
 dm prog (Builtin.append_ #[23,23] 23 #[.slice d e f,.slice g h i]) b fun b d =>
 ∃ e f g,b = .slice e f g ∧
 (st d (((na c).add 2).add 0) (.slice e f g) fun b =>
 e28 (some (na o)) (some (na a)) (some (na c)) l m n (m:Int) 0 b)))))
def g28 (R:VP) (b28:T28) (a b c d:OA) (e f:Nat) (g h:Int) (i:World):Prop :=
 af (decide (h<g))
 (ix d e h fun j =>
 Tv i (j.add (h.toNat*2)) fun j k =>
 nw (i.alloc (.cells (Ej 0 0) 61)) fun l =>
 Tn l (na i) j k fun j =>
 ∃ k:Nat→Value→World→Prop,KpF k ∧
 (bK c fun l =>
 cL j (l.add 3) fun l m n =>
 bK a fun o =>
 cL j (o.add 4) fun o p p =>
 cI j ((na i).add 0) .i64 fun q =>
 cI j ((na i).add 1) .i64 fun r =>
 chk ((0:Int)≤r∧r≤(p:Int))
 (chk ((0:Int)≤q∧q≤(r.toNat:Int))
 (cI j ((na i).add 0) .i64 fun s =>
 bK a fun t =>
 cL j (t.add 1) fun t t u =>
 (∀ u:World,Below j.heap.size j u→CA 28 #[.slice (slA o p q.toNat 2) (r.toNat - q.toNat) (p - q.toNat),.int .i64 s,.int .i64 (t:Int)] u fun o p=>∃ q r s t v w x y z A B C D,o=zK q r s t v w x y z A B C D∧k 14 (zK q r s t v w x y z A B C D) p∧Below u.heap.size u p) ∧
 (∀ o:Int,∀ p:Option Addr,∀ q:Nat,∀ r:Nat,∀ s:Option Addr,∀ t:Nat,∀ u:Nat,∀ v:Option Addr,∀ w:Nat,∀ x:Nat,∀ y:Option Addr,∀ z:Nat,∀ A:Nat,(∃ B,Below j.heap.size j B∧k 14 (zK o p q r s t u v w x y z A) B) →
 (∀ B:World,Below j.heap.size j B→k 14 (zK o p q r s t u v w x y z A) B→k 15 (.slice (some (na B)) 1 1) (B.alloc (.cells (oZ o p q r s t u v w x y z A) 66))) ∧
 (∀ B:Addr,(∃ C,Below j.heap.size j C∧k 15 (.slice (some B) 1 1) C) →
 ∀ C:World,Below j.heap.size j C→k 14 (zK o p q r s t u v w x y z A) C→k 15 (.slice (some B) 1 1) C →
 dm prog (Builtin.append_ #[29,29] 29 #[.slice l m n,.slice (some B) 1 1]) C fun j k =>
 ∃ l m n,j = .slice l m n ∧
 (bK c fun j =>
 st k ((j.add 3).add 0) (.slice l m n) fun j =>
 inc h fun h =>
 b28 a b c d e f g h j)))))))
 (bK c fun a =>
 lV i a fun a c d e f g h j =>
 bK b fun k =>
 qj i k a c d e f g h j fun a =>
 bK b fun b =>
 lV a b fun b c d e f g h i =>
 R (.tuple #[jM b c d e f g h i,.int .i64 0]) a)
def q28 (R:VP):QT:=(Exit.inBlock 0 (qS none (C [1,1,1,1,1,1]) (qf R)))
@[irreducible] def l28 (R:VP) (k:Nat):T28:=fun a b c d e f g h w=>aZ [2,4,7,35,36,37] (C [1,1,1,1,1,0,1,0,0]) (q28 R) k (fr (U 2 (.pointer a::U 1 (.pointer b::U 2 (.pointer c::U 27 (.slice d e f::(.int .i64 g::(.int .i64 h::U 23 [])))))))) w
def e28 (R:VP):T28:=fun a b c d e f g h w=>∃ k,l28 R k a b c d e f g h w
theorem u28 (R k a b c d e f g h w):l28 R (k+1) a b c d e f g h w=g28 R (l28 R k) a b c d e f g h w:=ju (by kernel_rfl)
end bT
def bT (R:VP):=bT.g0 R (bT.e28 R)
theorem bT.calls {R a b c d e f g h i j l m n o w} (k:bT R a b c d e f g h i j l m n o w):CA 8 #[mf a b c d e f g h i j l,.slice m n o] w R:=cal (n:=bT.an) func8 rfl k (by kernel_rfl)
open Go.Proofs.Tryz (f9 func9)
namespace eX
def an:An:=An.nil
def g0 (R:VP) (a:ByteArray) (b:OA) (c d:Nat) (e:Int) (f:OA) (g h:Nat) (i:OA) (j k:Nat) (l:Int) (m:World):Prop :=
 nw (m.alloc (.cells (mD a b c d e f g h i j k) 26)) fun a =>
 nw (a.alloc (.cells (lq 0 0 none 0 0 none 0 0) 31)) fun b =>
 xY b (na m) fun c d e f g h i j k n o =>
 CA 23 #[mf c d e f g h i j k n o] b fun b c =>
 ∃ d,b = .int .i64 d ∧
 (af (d != 0)
 (qj c (na a) 0 0 none 0 0 none 0 0 fun b =>
 lV b (na a) fun e f g h i j k n =>
 R (.tuple #[jM e f g h i j k n,.int .i64 d]) b)
 (cL c ((na m).add 4) fun b b d =>
 CA 29 #[.int .i64 (b:Int),.int .i64 l] c fun b c =>
 ∃ d e f g,b = .tuple #[.slice d e f,.int .i64 g] ∧
 (af (g != 0)
 (qj c (na a) 0 0 none 0 0 none 0 0 fun b =>
 lV b (na a) fun h i j k l n o p =>
 R (.tuple #[jM h i j k l n o p,.int .i64 g]) b)
 (xY c (na m) fun b g h i j k l m n o p =>
 CA 7 #[mf b g h i j k l m n o p,.slice d e f] c fun b c =>
 ∃ d e f g h i j k l,b = .tuple #[jM d e f g h i j k,.int .i64 l] ∧
 (qj c (na a) d e f g h i j k fun b =>
 lV b (na a) fun a c d e f g h i =>
 R (.tuple #[jM a c d e f g h i,.int .i64 l]) b)))))
end eX
def eX (R:VP):=eX.g0 R
theorem eX.calls {R a b c d e f g h i j l m w} (k:eX R a b c d e f g h i j l m w):CA 9 #[mf a b c d e f g h i j l,.int .i64 m] w R:=cal (n:=eX.an) func9 rfl k (by kernel_rfl)
open Go.Proofs.Tryz (f10 func10)
namespace bZ
def an:An:=An.nil
def g0 (R:VP) (a:ByteArray) (b:OA) (c d:Nat) (e:Int) (f:OA) (g h:Nat) (i:OA) (j k:Nat) (l:Int) (m:World):Prop :=
 nw (m.alloc (.cells (mD a b c d e f g h i j k) 26)) fun a =>
 nw (a.alloc (.cells (lq 0 0 none 0 0 none 0 0) 31)) fun b =>
 xY b (na m) fun c d e f g h i j k n o =>
 CA 26 #[mf c d e f g h i j k n o] b fun b c =>
 ∃ d,b = .int .i64 d ∧
 (af (d != 0)
 (qj c (na a) 0 0 none 0 0 none 0 0 fun b =>
 lV b (na a) fun e f g h i j k n =>
 R (.tuple #[jM e f g h i j k n,.int .i64 d]) b)
 (af (decide (l<1))
 (qj c (na a) 0 0 none 0 0 none 0 0 fun b =>
 lV b (na a) fun d e f g h i j k =>
 R (.tuple #[jM d e f g h i j k,.int .i64 2]) b)
 (af (decide (l>65536))
 (qj c (na a) 0 0 none 0 0 none 0 0 fun b =>
 lV b (na a) fun d e f g h i j k =>
 R (.tuple #[jM d e f g h i j k,.int .i64 2]) b)
 (cL c ((na m).add 4) fun b b d =>
 CA 30 #[.int .i64 (b:Int),.int .i64 l] c fun b c =>
 ∃ d e f g,b = .tuple #[.slice d e f,.int .i64 g] ∧
 (xY c (na m) fun b g h i j k l m n o p =>
 CA 8 #[mf b g h i j k l m n o p,.slice d e f] c fun b c =>
 ∃ d e f g h i j k l,b = .tuple #[jM d e f g h i j k,.int .i64 l] ∧
 (qj c (na a) d e f g h i j k fun b =>
 lV b (na a) fun a c d e f g h i =>
 R (.tuple #[jM a c d e f g h i,.int .i64 l]) b))))))
end bZ
def bZ (R:VP):=bZ.g0 R
theorem bZ.calls {R a b c d e f g h i j l m w} (k:bZ R a b c d e f g h i j l m w):CA 10 #[mf a b c d e f g h i j l,.int .i64 m] w R:=cal (n:=bZ.an) func10 rfl k (by kernel_rfl)
open Go.Proofs.Tryz (f11 func11)
namespace dB
def an:An:=An.nil
def g0 (R:VP) (a:World):Prop :=
 CA 31 #[] a fun a b =>
 ∃ c d e f g h i j k l m,a=mf c d e f g h i j k l m ∧
 (CA 9 #[mf c d e f g h i j k l m,.int .i64 2] b fun a b =>
 ∃ c d e f g h i j k,a = .tuple #[jM c d e f g h i j,.int .i64 k] ∧
 (nw (b.alloc (.cells (lq 0 0 none 0 0 none 0 0) 31)) fun a =>
 qj a (na b) c d e f g h i j fun a =>
 af (k != 0)
 (R (.bool false) a)
 (cL a ((na b).add 3) fun c c d =>
 af ((c:Int) != 1)
 (R (.bool false) a)
 (cL a ((na b).add 3) fun c d e =>
 ix c d 0 fun c =>
 cL a ((c.add 0).add 4) fun c c d =>
 af ((c:Int) != 2)
 (R (.bool false) a)
 (cL a ((na b).add 3) fun c d e =>
 ix c d 0 fun c =>
 cL a ((c.add 0).add 4) fun c d e =>
 ix c d 1 fun c =>
 qg a (c.add 4) fun c d e f g h i j k l =>
 nw (a.alloc (.cells (uk 0 none 0 0 none 0 0 none 0 0) 74)) fun m =>
 Cm m (na a) c d e f g h i j k l fun c =>
 lV c (na b) fun d e f g h i j k =>
 CA 15 #[jM d e f g h i j k] c fun c d =>
 ∃ e f g h,c = .tuple #[.slice e f g,.int .i64 h] ∧
 (lV d (na b) fun b c g i j k l m =>
 CA 17 #[jM b c g i j k l m] d fun b c =>
 ∃ d g,b = .tuple #[.int .i64 d,.int .i64 g] ∧
 (∃ b:Nat→Value→World→Prop,KpF b ∧
 (cL c ((na a).add 1) fun i i j =>
 af ((i:Int)==2)
 (cL c ((na a).add 1) fun i j k =>
 ix i j 0 fun i =>
 cI c ((i.add 0).add 2) .i64 fun i =>
 af (i==1)
 (cL c ((na a).add 1) fun i j k =>
 ix i j 0 fun i =>
 cI c ((i.add 0).add 4) .i64 fun i =>
 af (i==2)
 (cL c ((na a).add 3) fun a a i =>
 af ((a:Int)==1)
 (af (h==0)
 (af ((f:Int)==2)
 (ix e f 1 fun a =>
 lK c (a.add 2) fun a e f h =>
 (∀ i:World,Below c.heap.size c i→CA 31 #[] i fun j k=>∃ l m n o p q r s t u v,j=mf l m n o p q r s t u v∧b 39 (mf l m n o p q r s t u v) k∧Below i.heap.size i k) ∧
 (∀ i:ByteArray,∀ j:Option Addr,∀ k:Nat,∀ l:Nat,∀ m:Int,∀ n:Option Addr,∀ o:Nat,∀ p:Nat,∀ q:Option Addr,∀ r:Nat,∀ s:Nat,(∃ t,Below c.heap.size c t∧b 39 (mf i j k l m n o p q r s) t) →
 ix q r 1 fun t =>
 (∀ u:World,Below c.heap.size c u→b 39 (mf i j k l m n o p q r s) u→lK u (t.add 2) fun t v w x =>
 b 42 (jv t v w x) u) ∧
 (∀ t:Int,∀ u:Option Addr,∀ v:Nat,∀ w:Nat,(∃ x,Below c.heap.size c x∧b 42 (jv t u v w) x) →
 (∀ x:World,Below c.heap.size c x→b 39 (mf i j k l m n o p q r s) x→b 42 (jv t u v w) x→CA 32 #[jv a e f h,jv t u v w] x fun a e=>∃ f,a = .bool f∧b 43 (.bool f) e∧Below x.heap.size x e) ∧
 (∀ a:Bool,(∃ e,Below c.heap.size c e∧b 43 (.bool a) e) →
 af a
 (af (d==0)
 (∀ d:World,Below c.heap.size c d→b 39 (mf i j k l m n o p q r s) d→b 42 (jv t u v w) d→b 43 (.bool a) d →
 R (.bool (g==0)) d)
 (∀ d:World,Below c.heap.size c d→b 39 (mf i j k l m n o p q r s) d→b 42 (jv t u v w) d→b 43 (.bool a) d →
 R (.bool false) d))
 (∀ d:World,Below c.heap.size c d→b 39 (mf i j k l m n o p q r s) d→b 42 (jv t u v w) d→b 43 (.bool a) d →
 R (.bool false) d)))))
 (∀ a:World,Below c.heap.size c a →
 R (.bool false) a))
 (∀ a:World,Below c.heap.size c a →
 R (.bool false) a))
 (∀ a:World,Below c.heap.size c a →
 R (.bool false) a))
 (∀ a:World,Below c.heap.size c a →
 R (.bool false) a))
 (∀ a:World,Below c.heap.size c a →
 R (.bool false) a))
 (∀ a:World,Below c.heap.size c a →
 R (.bool false) a)))))))))
end dB
def dB (R:VP):=dB.g0 R
theorem dB.calls {R w} (k:dB R  w):CA 11 #[] w R:=cal (n:=dB.an) func11 rfl k (by kernel_rfl)
open Go.Proofs.Tryz (f12 func12)
namespace aC
def an:An:=(aR (aR (aL (aR (aL (.mk (some [3,39,40,41]) (aR (aR (aL (aL (aR (aR (aR (aR (aL (.mk (some [3,6,7,39,40,41,91,92]) .nil .nil)))))))))) .nil))))))
def qf (R:VP):QT:=fin prog f12 R
def C:=cdN prog f12 an
abbrev T14:=OA→OA→Nat→Nat→Int→Int→World→Prop
abbrev T38:=OA→OA→OA→OA→Nat→Nat→Int→Int→Int→Int→World→Prop
def g0 (R:VP) (e14:T14) (a b:Int) (c:OA) (d e:Nat) (f:OA) (g h:Nat) (i j:Int) (k:OA) (l m:Nat) (n:OA) (o p:Nat) (q:World):Prop :=
 nw (q.alloc (.cells (lq a b c d e f g h) 31)) fun a =>
 nw (a.alloc (.cells (lq i j k l m n o p) 31)) fun b =>
 cI b ((na q).add 0) .i64 fun c =>
 cI b ((na a).add 0) .i64 fun d =>
 af (c != d)
 (R (.bool false) b)
 (cI b ((na q).add 1) .i64 fun c =>
 cI b ((na a).add 1) .i64 fun d =>
 af (c != d)
 (R (.bool false) b)
 (cL b ((na q).add 2) fun c d e =>
 cL b ((na a).add 2) fun f g h =>
 CA 33 #[.slice c d e,.slice f g h] b fun b c =>
 ∃ d,b = .bool d ∧
 (af (!d)
 (R (.bool false) c)
 (cL c ((na q).add 3) fun b b d =>
 cL c ((na a).add 3) fun d d e =>
 af ((b:Int) != (d:Int))
 (R (.bool false) c)
 (cL c ((na q).add 3) fun b d e =>
 e14 (some (na a)) b d e (d:Int) 0 c)))))
def g14 (R:VP) (e38:T38) (a b:OA) (c d:Nat) (e f:Int) (g:World):Prop :=
 af (decide (f<e))
 (ix b c f fun h =>
 Hz g (h.add (f.toNat*5)) fun h i j k l m n o p q r s t =>
 nw (g.alloc (.cells (oZ 0 none 0 0 none 0 0 none 0 0 none 0 0) 66)) fun u =>
 MO u (na g) h i j k l m n o p q r s t fun h =>
 bK a fun i =>
 cL h (i.add 3) fun i j k =>
 ix i j f fun i =>
 Hz h (i.add (f.toNat*5)) fun i j k l m n o p q r s t u =>
 nw (h.alloc (.cells (oZ 0 none 0 0 none 0 0 none 0 0 none 0 0) 66)) fun v =>
 MO v (na h) i j k l m n o p q r s t u fun i =>
 cI i ((na g).add 0) .i64 fun j =>
 cI i ((na h).add 0) .i64 fun k =>
 af (j != k)
 (R (.bool false) i)
 (cL i ((na g).add 1) fun j k l =>
 cL i ((na h).add 1) fun m n o =>
 CA 34 #[.slice j k l,.slice m n o] i fun i j =>
 ∃ k,i = .bool k ∧
 (af (!k)
 (R (.bool false) j)
 (cL j ((na g).add 3) fun i k l =>
 cL j ((na h).add 3) fun m n o =>
 CA 34 #[.slice i k l,.slice m n o] j fun i j =>
 ∃ k,i = .bool k ∧
 (af (!k)
 (R (.bool false) j)
 (cL j ((na g).add 2) fun i i k =>
 cL j ((na h).add 2) fun k k l =>
 af ((i:Int) != (k:Int))
 (R (.bool false) j)
 (cL j ((na g).add 4) fun i k l =>
 cL j ((na h).add 4) fun m n o =>
 CA 35 #[.slice i k l,.slice m n o] j fun i j =>
 ∃ k,i = .bool k ∧
 (af (!k)
 (R (.bool false) j)
 (cL j ((na g).add 2) fun i i k =>
 e38 a (some (na g)) (some (na h)) b c d e f (i:Int) 0 j)))))))))
 (R (.bool true) g)
def g38 (R:VP) (b14:T14) (b38:T38) (a b c d:OA) (e f:Nat) (g h i j:Int) (k:World):Prop :=
 af (decide (j<i))
 (bK b fun l =>
 cL k (l.add 2) fun l m n =>
 ix l m j fun l =>
 cL k (l.add (j.toNat*1)) fun l m n =>
 bK c fun o =>
 cL k (o.add 2) fun o p q =>
 ix o p j fun o =>
 cL k (o.add (j.toNat*1)) fun o p q =>
 CA 33 #[.slice l m n,.slice o p q] k fun l m =>
 ∃ n,l = .bool n ∧
 (af (!n)
 (R (.bool false) m)
 (inc j fun j =>
 b38 a b c d e f g h i j m)))
 (inc h fun b =>
 b14 a d e f g b k)
def q14 (R:VP):QT:=(Exit.inBlock 0 (qS none (C [1,1,1]) (qf R)))
@[irreducible] def l14 (R:VP) (k:Nat):T14:=fun a b c d e f w=>aZ [3,39,40,41] (C [1,1,0,1,0,0]) (q14 R) k (fr (U 3 (.pointer a::U 35 (.slice b c d::(.int .i64 e::(.int .i64 f::U 67 [])))))) w
def e14 (R:VP):T14:=fun a b c d e f w=>∃ k,l14 R k a b c d e f w
def q38 (R:VP) (k14:Nat):QT:=(Exit.inBlock 2 (Exit.inBlock 1 (qS none (C [1,1,0,1,0,0,1,1,1]) (qL [3,39,40,41] (C [1,1,0,1,0,0]) (q14 R) k14))))
def UL (R:VP) (k14:Nat) (k:Nat):T38:=fun a b c d e f g h i j w=>aZ [3,6,7,39,40,41,91,92] (C [1,1,0,1,0,0,1,1,0,0,1,1,1,1,0,0]) (q38 R k14) k (fr (U 3 (.pointer a::U 2 (.pointer b::(.pointer c::U 31 (.slice d e f::(.int .i64 g::(.int .i64 h::U 49 (.int .i64 i::(.int .i64 j::U 16 [])))))))))) w
def WL (R:VP) (k14:Nat):T38:=fun a b c d e f g h i j w=>∃ k,UL R k14 k a b c d e f g h i j w
def l38 (R:VP) (b14:T14):Nat→T38
 | 0=>fun _ _ _ _ _ _ _ _ _ _ _=>False
 | k+1=>g38 R b14 (l38 R b14 k)
def e38 (R:VP) (b14:T14):T38:=fun a b c d e f g h i j w=>∃ k,l38 R b14 k a b c d e f g h i j w
theorem s38 (R:VP) (k14:Nat) (k:Nat):UL R k14 (k+1)=fun a b c d e f g h i j w=>∀ _:Nat→Value,g38 R (l14 R k14) (UL R k14 k) a b c d e f g h i j w:=by kernel_rfl
theorem Wq (R:VP) (k14:Nat) (b14:T14) (hb14:b14=l14 R k14):∀ k,l38 R b14 k=UL R k14 k
 | 0=>by kernel_rfl
 | k+1=>by
  rw [s38]
  simp only [forall_const]
  unfold l38
  have ih:=Wq R k14 b14 hb14 k
  subst hb14
  rw [ih]
  all_goals rfl
theorem Xp (R:VP) (k14:Nat) (b14:T14) (hb14:b14=l14 R k14):e38 R b14=WL R k14:=by
 unfold e38 WL
 simp only [Wq R k14 b14 hb14]
theorem u14 (R k a b c d e f w):l14 R (k+1) a b c d e f w=g14 R (e38 R (l14 R k)) a b c d e f w:=by rw [Xp R k _ rfl]; exact ju (by kernel_rfl)
end aC
def aC (R:VP):=aC.g0 R (aC.e14 R)
theorem aC.calls {R a b c d e f g h i j l m n o p q w} (k:aC R a b c d e f g h i j l m n o p q w):CA 12 #[jM a b c d e f g h,jM i j l m n o p q] w R:=cal (n:=aC.an) func12 rfl k (by kernel_rfl)
open Go.Proofs.Tryz (f13 func13)
namespace aj
def an:An:=(aR (aR (.mk none (aR (aL (.mk (some [2,3,49,50]) .nil .nil))) (.mk none (aR (aL (.mk (some [2,3,67,68]) .nil .nil))) (aL (aR (aL (.mk (some [2,3,85,86]) .nil .nil))))))))
def qf (R:VP):QT:=fin prog f13 R
def C:=cdN prog f13 an
abbrev T14:=OA→OA→Int→Int→World→Prop
abbrev T37:=OA→OA→Int→Int→World→Prop
abbrev T60:=OA→OA→Int→Int→World→Prop
def g0 (R:VP) (e14:T14) (a:ByteArray) (b:OA) (c d:Nat) (e:Int) (f:OA) (g h:Nat) (i:OA) (j k:Nat) (l:ByteArray) (m:OA) (n o:Nat) (p:Int) (q:OA) (r s:Nat) (t:OA) (u v:Nat) (w:World):Prop :=
 nw (w.alloc (.cells (mD a b c d e f g h i j k) 26)) fun a =>
 nw (a.alloc (.cells (mD l m n o p q r s t u v) 26)) fun b =>
 cS b ((na w).add 0) fun c =>
 cS b ((na a).add 0) fun d =>
 af (!((c:ByteArray).toList==(d:ByteArray).toList))
 (R (.bool false) b)
 (cI b ((na w).add 2) .i64 fun c =>
 cI b ((na a).add 2) .i64 fun d =>
 af (c != d)
 (R (.bool false) b)
 (cL b ((na w).add 1) fun c c d =>
 cL b ((na a).add 1) fun d d e =>
 af ((c:Int) != (d:Int))
 (R (.bool false) b)
 (cL b ((na w).add 3) fun c c d =>
 cL b ((na a).add 3) fun d d e =>
 af ((c:Int) != (d:Int))
 (R (.bool false) b)
 (cL b ((na w).add 4) fun c c d =>
 cL b ((na a).add 4) fun d d e =>
 af ((c:Int) != (d:Int))
 (R (.bool false) b)
 (cL b ((na w).add 1) fun c c d =>
 e14 (some (na w)) (some (na a)) (c:Int) 0 b)))))
def g14 (R:VP) (b14:T14) (e37:T37) (a b:OA) (c d:Int) (e:World):Prop :=
 af (decide (d<c))
 (bK a fun f =>
 cL e (f.add 1) fun f g h =>
 ix f g d fun f =>
 cS e (f.add (d.toNat*1)) fun f =>
 bK b fun g =>
 cL e (g.add 1) fun g h i =>
 ix g h d fun g =>
 cS e (g.add (d.toNat*1)) fun g =>
 af (!((f:ByteArray).toList==(g:ByteArray).toList))
 (R (.bool false) e)
 (inc d fun d =>
 b14 a b c d e))
 (bK a fun c =>
 cL e (c.add 3) fun c c d =>
 e37 a b (c:Int) 0 e)
def g37 (R:VP) (b37:T37) (e60:T60) (a b:OA) (c d:Int) (e:World):Prop :=
 af (decide (d<c))
 (bK a fun f =>
 cL e (f.add 3) fun f g h =>
 ix f g d fun f =>
 cI e (f.add (d.toNat*1)) .i64 fun f =>
 bK b fun g =>
 cL e (g.add 3) fun g h i =>
 ix g h d fun g =>
 cI e (g.add (d.toNat*1)) .i64 fun g =>
 af (f != g)
 (R (.bool false) e)
 (inc d fun d =>
 b37 a b c d e))
 (bK a fun c =>
 cL e (c.add 4) fun c c d =>
 e60 a b (c:Int) 0 e)
def g60 (R:VP) (b60:T60) (a b:OA) (c d:Int) (e:World):Prop :=
 af (decide (d<c))
 (bK a fun f =>
 cL e (f.add 4) fun f g h =>
 ix f g d fun f =>
 lK e (f.add (d.toNat*2)) fun f g h i =>
 bK b fun j =>
 cL e (j.add 4) fun j k l =>
 ix j k d fun j =>
 lK e (j.add (d.toNat*2)) fun j k l m =>
 CA 36 #[jv f g h i,jv j k l m] e fun f g =>
 ∃ h,f = .bool h ∧
 (af (!h)
 (R (.bool false) g)
 (inc d fun d =>
 b60 a b c d g)))
 (R (.bool true) e)
def q14 (R:VP):QT:=(Exit.inBlock 0 (qS none (C [1,1,1]) (qf R)))
@[irreducible] def l14 (R:VP) (k:Nat):T14:=fun a b c d w=>aZ [2,3,49,50] (C [1,1,0,1,0,0]) (q14 R) k (fr (U 2 (.pointer a::(.pointer b::U 45 (.int .i64 c::(.int .i64 d::U 51 [])))))) w
def e14 (R:VP):T14:=fun a b c d w=>∃ k,l14 R k a b c d w
def q37 (R:VP):QT:=(Exit.inBlock 2 (qS none (C [1,1,1,1]) (qf R)))
@[irreducible] def l37 (R:VP) (k:Nat):T37:=fun a b c d w=>aZ [2,3,67,68] (C [1,1,1,0,1,0,0]) (q37 R) k (fr (U 2 (.pointer a::(.pointer b::U 63 (.int .i64 c::(.int .i64 d::U 33 [])))))) w
def e37 (R:VP):T37:=fun a b c d w=>∃ k,l37 R k a b c d w
def q60 (R:VP):QT:=(Exit.inBlock 4 (qS none (C [1,1,1,1,1]) (qf R)))
@[irreducible] def l60 (R:VP) (k:Nat):T60:=fun a b c d w=>aZ [2,3,85,86] (C [1,1,1,1,0,1,0,0]) (q60 R) k (fr (U 2 (.pointer a::(.pointer b::U 81 (.int .i64 c::(.int .i64 d::U 15 [])))))) w
def e60 (R:VP):T60:=fun a b c d w=>∃ k,l60 R k a b c d w
theorem u60 (R k a b c d w):l60 R (k+1) a b c d w=g60 R (l60 R k) a b c d w:=ju (by kernel_rfl)
theorem u37 (R k a b c d w):l37 R (k+1) a b c d w=g37 R (l37 R k) (e60 R) a b c d w:=ju (by kernel_rfl)
theorem u14 (R k a b c d w):l14 R (k+1) a b c d w=g14 R (l14 R k) (e37 R) a b c d w:=ju (by kernel_rfl)
end aj
def aj (R:VP):=aj.g0 R (aj.e14 R)
theorem aj.calls {R a b c d e f g h i j l m n o p q r s t u v x w} (k:aj R a b c d e f g h i j l m n o p q r s t u v x w):CA 13 #[mf a b c d e f g h i j l,mf m n o p q r s t u v x] w R:=cal (n:=aj.an) func13 rfl k (by kernel_rfl)
end Go.Mir
set_option linter.unusedVariables false
set_option maxRecDepth 100000
namespace Go.Mir
open Go Go.E Go.RowKit
open Go.Proofs.Tryz (prog)
open Go.Proofs.Tryz (f15 func15)
namespace dS
def an:An:=(aR (aR (aR (aR (aR (aL (aR (aL (.mk (some [1,4,5,30,31,32]) .nil .nil)))))))))
def qf (R:VP):QT:=fin prog f15 R
def C:=cdN prog f15 an
abbrev T20:=OA→OA→OA→Nat→Nat→OA→Nat→Nat→Int→Int→World→Prop
def g0 (R:VP) (e20:T20) (a b:Int) (c:OA) (d e:Nat) (f:OA) (g h:Nat) (i:World):Prop :=
 nw (i.alloc (.cells (lq a b c d e f g h) 31)) fun a =>
 cI a ((na i).add 1) .i64 fun b =>
 cL a ((na i).add 2) fun c d e =>
 nw (a.alloc (.cells (mD ⟨#[]⟩ none 0 0 0 none 0 0 none 0 0) 26)) fun f =>
 SQ f (na a) ⟨#[]⟩ none 0 0 b c d e none 0 0 fun b =>
 cI b ((na i).add 0) .i64 fun c =>
 af (decide (c<0))
 (R (.tuple #[.slice none 0 0,.int .i64 150]) b)
 (cI b ((na i).add 0) .i64 fun c =>
 af (decide (c>65536))
 (R (.tuple #[.slice none 0 0,.int .i64 150]) b)
 (cI b ((na i).add 0) .i64 fun c =>
 chk ((0:Int)≤c∧c≤c∧((16:Nat):Int)*c≤281474976710656∧c≤9223372036854775807)
 (nw (b.alloc (.cells (madeCells #[.string ⟨#[]⟩] ((c).toNat*1)) 9)) fun d =>
 st d (((na a).add 1).add 0) (.slice (some (na b)) ((c).toNat) ((c).toNat)) fun b =>
 cL b ((na i).add 3) fun c d e =>
 e20 (some (na i)) (some (na a)) none 0 0 c d e (d:Int) 0 b)))
def g20 (R:VP) (b20:T20) (a b c:OA) (d e:Nat) (f:OA) (g h:Nat) (i j:Int) (k:World):Prop :=
 af (decide (j<i))
 (ix f g j fun l =>
 Hz k (l.add (j.toNat*5)) fun l m n o p q r s t u v w x =>
 nw (k.alloc (.cells (oZ 0 none 0 0 none 0 0 none 0 0 none 0 0) 66)) fun y =>
 MO y (na k) l m n o p q r s t u v w x fun l =>
 Hz l (na k) fun m n o p q r s t u v w x y =>
 CA 38 #[zK m n o p q r s t u v w x y] l fun l m =>
 ∃ n o p q,l = .tuple #[.slice n o p,.bool q] ∧
 (af (!q)
 (R (.tuple #[.slice none 0 0,.int .i64 150]) m)
 (cI m ((na k).add 0) .i64 fun l =>
 bK b fun q =>
 cL m (q.add 4) fun q q r =>
 af (l != (q:Int))
 (R (.tuple #[.slice none 0 0,.int .i64 150]) m)
 (bK b fun l =>
 cL m (l.add 4) fun l q r =>
 dm prog (Builtin.append_ #[24,24] 24 #[.slice l q r,.slice n o p]) m fun l m =>
 ∃ n o p,l = .slice n o p ∧
 (bK b fun l =>
 st m ((l.add 4).add 0) (.slice n o p) fun l =>
 cI l ((na k).add 0) .i64 fun m =>
 bK b fun n =>
 cL l (n.add 4) fun n n o =>
 nw (l.alloc (.cells (Ej m (n:Int)) 61)) fun m =>
 dm prog (Builtin.append_ #[27,27] 27 #[.slice c d e,.slice (some (na l)) 1 1]) m fun l m =>
 ∃ n o p,l = .slice n o p ∧
 (inc j fun j =>
 b20 a b n o p f g h i j m))))))
 (bK b fun f =>
 xY k f fun f g h i j l m n o p q =>
 CA 7 #[mf f g h i j l m n o p q,.slice c d e] k fun c d =>
 ∃ e f g h i j k l m,c = .tuple #[jM e f g h i j k l,.int .i64 m] ∧
 (nw (d.alloc (.cells (lq 0 0 none 0 0 none 0 0) 31)) fun c =>
 qj c (na d) e f g h i j k l fun c =>
 af (m != 0)
 (R (.tuple #[.slice none 0 0,.int .i64 150]) c)
 (lV c (na d) fun d e f g h i j k =>
 bK a fun a =>
 lV c a fun a l m n o p q r =>
 CA 39 #[jM d e f g h i j k,jM a l m n o p q r] c fun a c =>
 ∃ d,a = .bool d ∧
 (af (!d)
 (R (.tuple #[.slice none 0 0,.int .i64 150]) c)
 (bK b fun a =>
 cL c (a.add 4) fun a b d =>
 R (.tuple #[.slice a b d,.int .i64 0]) c)))))
def q20 (R:VP):QT:=(Exit.inBlock 0 (qS none (C [1,1,1,1,1,1]) (qf R)))
@[irreducible] def l20 (R:VP) (k:Nat):T20:=fun a b c d e f g h i j w=>aZ [1,4,5,30,31,32] (C [1,1,1,1,1,0,1,0,0]) (q20 R) k (fr (U 1 (.pointer a::U 2 (.pointer b::(.slice c d e::U 24 (.slice f g h::(.int .i64 i::(.int .i64 j::U 49 [])))))))) w
def e20 (R:VP):T20:=fun a b c d e f g h i j w=>∃ k,l20 R k a b c d e f g h i j w
theorem u20 (R k a b c d e f g h i j w):l20 R (k+1) a b c d e f g h i j w=g20 R (l20 R k) a b c d e f g h i j w:=ju (by kernel_rfl)
end dS
def dS (R:VP):=dS.g0 R (dS.e20 R)
theorem dS.calls {R a b c d e f g h w} (k:dS R a b c d e f g h w):CA 15 #[jM a b c d e f g h] w R:=cal (n:=dS.an) func15 rfl k (by kernel_rfl)
open Go.Proofs.Tryz (f17 func17)
namespace dE
def an:An:=(aR (aR (aR (aR (aR (aL (aR (aL (.mk (some [1,6,30,31]) .nil .nil)))))))))
def qf (R:VP):QT:=fin prog f17 R
def C:=cdN prog f17 an
abbrev T30:=OA→OA→Int→Int→World→Prop
def g0 (R:VP) (e30:T30) (a b:Int) (c:OA) (d e:Nat) (f:OA) (g h:Nat) (i:World):Prop :=
 nw (i.alloc (.cells (lq a b c d e f g h) 31)) fun a =>
 lV a (na i) fun b c d e f g h j =>
 CA 15 #[jM b c d e f g h j] a fun a b =>
 ∃ c d e f,a = .tuple #[.slice c d e,.int .i64 f] ∧
 (af (f==0)
 (R (.tuple #[.int .i64 0,.int .i64 0]) b)
 (lV b (na i) fun a c d e f g h j =>
 nw (b.alloc (.cells (lq 0 0 none 0 0 none 0 0) 31)) fun k =>
 qj k (na b) a c d e f g h j fun a =>
 st a (((na b).add 3).add 0) (.slice none 0 0) fun a =>
 lV a (na b) fun c d e f g h j k =>
 CA 15 #[jM c d e f g h j k] a fun a c =>
 ∃ d e f g,a = .tuple #[.slice d e f,.int .i64 g] ∧
 (af (g != 0)
 (R (.tuple #[.int .i64 150,.int .i64 0]) c)
 (cL c ((na i).add 3) fun a a d =>
 e30 (some (na i)) (some (na b)) (a:Int) 0 c))))
def g30 (R:VP) (b30:T30) (a b:OA) (c d:Int) (e:World):Prop :=
 af (decide (d<c))
 (bK a fun f =>
 cL e (f.add 3) fun f g g =>
 inc d fun h =>
 chk ((0:Int)≤h∧h≤(g:Int))
 (bK b fun i =>
 st e ((i.add 3).add 0) (.slice (slA f g 0 5) h.toNat g) fun f =>
 bK b fun g =>
 lV f g fun g h i j k l m n =>
 CA 15 #[jM g h i j k l m n] f fun f g =>
 ∃ h i j k,f = .tuple #[.slice h i j,.int .i64 k] ∧
 (af (k != 0)
 (R (.tuple #[.int .i64 150,.int .i64 d]) g)
 (inc d fun d =>
 b30 a b c d g))))
 (R (.tuple #[.int .i64 0,.int .i64 0]) e)
def q30 (R:VP):QT:=(Exit.inBlock 0 (qS none (C [1,1,1,1,1,1]) (qf R)))
@[irreducible] def l30 (R:VP) (k:Nat):T30:=fun a b c d w=>aZ [1,6,30,31] (C [1,1,1,1,1,0,1,0,0]) (q30 R) k (fr (U 1 (.pointer a::U 4 (.pointer b::U 23 (.int .i64 c::(.int .i64 d::U 17 [])))))) w
def e30 (R:VP):T30:=fun a b c d w=>∃ k,l30 R k a b c d w
theorem u30 (R k a b c d w):l30 R (k+1) a b c d w=g30 R (l30 R k) a b c d w:=ju (by kernel_rfl)
end dE
def dE (R:VP):=dE.g0 R (dE.e30 R)
theorem dE.calls {R a b c d e f g h w} (k:dE R a b c d e f g h w):CA 17 #[jM a b c d e f g h] w R:=cal (n:=dE.an) func17 rfl k (by kernel_rfl)
open Go.Proofs.Tryz (f20 func20)
namespace je
def an:An:=(aR (aR (aR (aL (aR (aL (.mk (some [1,2,18,19]) (aR (aR (aL (aL (aR (aR (aR (.mk none (aR (aL (.mk (some [1,2,4,18,19,62,63]) .nil .nil))) (aR (aL (.mk (some [1,2,4,18,19,85,86]) .nil .nil))))))))))) .nil)))))))
def qf (R:VP):QT:=fin prog f20 R
def C:=cdN prog f20 an
abbrev T10:=OA→OA→Int→Int→World→Prop
abbrev T29:=OA→OA→OA→Int→Int→Int→Int→World→Prop
abbrev T45:=OA→OA→OA→Int→Int→Int→Int→World→Prop
def g0 (R:VP) (e10:T10) (a b:Int) (c:OA) (d e:Nat) (f:OA) (g h:Nat) (i:World):Prop :=
 nw (i.alloc (.cells (lq a b c d e f g h) 31)) fun a =>
 nw (a.alloc (.cells (lq 0 0 none 0 0 none 0 0) 31)) fun b =>
 cL b ((na i).add 2) fun c d e =>
 CA 24 #[.slice c d e] b fun b c =>
 ∃ d e f,b = .slice d e f ∧
 (st c (((na i).add 2).add 0) (.slice d e f) fun b =>
 cL b ((na i).add 3) fun c d e =>
 CA 42 #[.slice c d e] b fun b c =>
 ∃ d e f,b = .slice d e f ∧
 (st c (((na i).add 3).add 0) (.slice d e f) fun b =>
 cL b ((na i).add 3) fun c c d =>
 e10 (some (na i)) (some (na a)) (c:Int) 0 b))
def g10 (R:VP) (e29:T29) (a b:OA) (c d:Int) (e:World):Prop :=
 af (decide (d<c))
 (bK a fun f =>
 cL e (f.add 3) fun f g h =>
 ix f g d fun f =>
 ∃ g:Nat→Value→World→Prop,KpF g ∧
 (cL e ((f.add (d.toNat*5)).add 1) fun h i j =>
 (∀ k:World,Below e.heap.size e k→CA 43 #[.slice h i j] k fun h i=>∃ j l m,h = .slice j l m∧g 8 (.slice j l m) i∧Below k.heap.size k i) ∧
 (∀ h:Option Addr,∀ i:Nat,∀ j:Nat,(∃ k,Below e.heap.size e k∧g 8 (.slice h i j) k) →
 cL e ((f.add (d.toNat*5)).add 3) fun k l m =>
 (∀ n:World,Below e.heap.size e n→g 8 (.slice h i j) n→CA 43 #[.slice k l m] n fun k l=>∃ m o p,k = .slice m o p∧g 13 (.slice m o p) l∧Below n.heap.size n l) ∧
 (∀ k:Option Addr,∀ l:Nat,∀ m:Nat,(∃ n,Below e.heap.size e n∧g 13 (.slice k l m) n) →
 cL e ((f.add (d.toNat*5)).add 2) fun n o p =>
 (∀ q:World,Below e.heap.size e q→g 8 (.slice h i j) q→g 13 (.slice k l m) q→CA 44 #[.slice n o p] q fun n o=>∃ p r s,n = .slice p r s∧g 18 (.slice p r s) o∧Below q.heap.size q o) ∧
 (∀ n:Option Addr,∀ o:Nat,∀ p:Nat,(∃ q,Below e.heap.size e q∧g 18 (.slice n o p) q) →
 cL e ((f.add (d.toNat*5)).add 4) fun q r s =>
 (∀ t:World,Below e.heap.size e t→g 8 (.slice h i j) t→g 13 (.slice k l m) t→g 18 (.slice n o p) t→CA 45 #[.slice q r s] t fun q r=>∃ s u v,q = .slice s u v∧g 23 (.slice s u v) r∧Below t.heap.size t r) ∧
 (∀ q:Option Addr,∀ r:Nat,∀ s:Nat,(∃ t,Below e.heap.size e t∧g 23 (.slice q r s) t) →
 ∀ t:World,Below e.heap.size e t→g 8 (.slice h i j) t→g 13 (.slice k l m) t→g 18 (.slice n o p) t→g 23 (.slice q r s) t →
 st t (((f.add (d.toNat*5)).add 1).add 0) (.slice h i j) fun g =>
 st g (((f.add (d.toNat*5)).add 3).add 0) (.slice k l m) fun g =>
 st g (((f.add (d.toNat*5)).add 2).add 0) (.slice n o p) fun g =>
 st g (((f.add (d.toNat*5)).add 4).add 0) (.slice q r s) fun g =>
 cL g ((f.add (d.toNat*5)).add 2) fun h h i =>
 e29 a b (some (f.add (d.toNat*5))) c d (h:Int) 0 g))))))
 (bK a fun a =>
 lV e a fun a c d f g h i j =>
 bK b fun k =>
 qj e k a c d f g h i j fun a =>
 bK b fun b =>
 lV a b fun b c d e f g h i =>
 R (jM b c d e f g h i) a)
def g29 (R:VP) (b29:T29) (e45:T45) (a b c:OA) (d e f g:Int) (h:World):Prop :=
 af (decide (g<f))
 (∃ i:Nat→Value→World→Prop,KpF i ∧
 (bK c fun j =>
 cL h (j.add 2) fun j k l =>
 bK c fun l =>
 cL h (l.add 2) fun l m n =>
 ix l m g fun l =>
 cL h (l.add (g.toNat*1)) fun l m n =>
 (∀ o:World,Below h.heap.size h o→CA 24 #[.slice l m n] o fun l m=>∃ n p q,l = .slice n p q∧i 12 (.slice n p q) m∧Below o.heap.size o m) ∧
 (∀ l:Option Addr,∀ m:Nat,∀ n:Nat,(∃ o,Below h.heap.size h o∧i 12 (.slice l m n) o) →
 ix j k g fun j =>
 ∀ k:World,Below h.heap.size h k→i 12 (.slice l m n) k →
 st k ((j.add (g.toNat*1)).add 0) (.slice l m n) fun i =>
 inc g fun g =>
 b29 a b c d e f g i)))
 (bK c fun f =>
 cL h (f.add 4) fun f f g =>
 e45 a b c d e (f:Int) 0 h)
def g45 (R:VP) (b10:T10) (b45:T45) (a b c:OA) (d e f g:Int) (h:World):Prop :=
 af (decide (g<f))
 (bK c fun i =>
 cL h (i.add 4) fun i j k =>
 ix i j g fun i =>
 ∃ j:Nat→Value→World→Prop,KpF j ∧
 (cL h ((i.add (g.toNat*4)).add 1) fun k l m =>
 (∀ n:World,Below h.heap.size h n→CA 46 #[.slice k l m] n fun k l=>∃ m o p,k = .slice m o p∧j 7 (.slice m o p) l∧Below n.heap.size n l) ∧
 (∀ k:Option Addr,∀ l:Nat,∀ m:Nat,(∃ n,Below h.heap.size h n∧j 7 (.slice k l m) n) →
 cL h ((i.add (g.toNat*4)).add 2) fun n o p =>
 (∀ q:World,Below h.heap.size h q→j 7 (.slice k l m) q→CA 46 #[.slice n o p] q fun n o=>∃ p r s,n = .slice p r s∧j 12 (.slice p r s) o∧Below q.heap.size q o) ∧
 (∀ n:Option Addr,∀ o:Nat,∀ p:Nat,(∃ q,Below h.heap.size h q∧j 12 (.slice n o p) q) →
 cL h ((i.add (g.toNat*4)).add 3) fun q r s =>
 (∀ t:World,Below h.heap.size h t→j 7 (.slice k l m) t→j 12 (.slice n o p) t→CA 46 #[.slice q r s] t fun q r=>∃ s u v,q = .slice s u v∧j 17 (.slice s u v) r∧Below t.heap.size t r) ∧
 (∀ q:Option Addr,∀ r:Nat,∀ s:Nat,(∃ t,Below h.heap.size h t∧j 17 (.slice q r s) t) →
 ∀ t:World,Below h.heap.size h t→j 7 (.slice k l m) t→j 12 (.slice n o p) t→j 17 (.slice q r s) t →
 st t (((i.add (g.toNat*4)).add 1).add 0) (.slice k l m) fun j =>
 st j (((i.add (g.toNat*4)).add 2).add 0) (.slice n o p) fun j =>
 st j (((i.add (g.toNat*4)).add 3).add 0) (.slice q r s) fun i =>
 inc g fun g =>
 b45 a b c d e f g i)))))
 (inc e fun c =>
 b10 a b d c h)
def q10 (R:VP):QT:=(Exit.inBlock 0 (qS none (C [1,1,1,1]) (qf R)))
@[irreducible] def l10 (R:VP) (k:Nat):T10:=fun a b c d w=>aZ [1,2,18,19] (C [1,1,1,0,1,0,0]) (q10 R) k (fr (U 1 (.pointer a::(.pointer b::U 15 (.int .i64 c::(.int .i64 d::U 102 [])))))) w
def e10 (R:VP):T10:=fun a b c d w=>∃ k,l10 R k a b c d w
def q29 (R:VP) (k10:Nat):QT:=(Exit.inBlock 2 (qS none (C [1,1,1,0,1,0,0,1,1,0,0,1,1,1,1]) (Exit.inBlock 1 (qS none (C [1,1,1,0,1,0,0,1,1,1]) (qL [1,2,18,19] (C [1,1,1,0,1,0,0]) (q10 R) k10)))))
def UJ (R:VP) (k10:Nat) (k:Nat):T29:=fun a b c d e f g w=>aZ [1,2,4,18,19,62,63] (C [1,1,1,0,1,0,0,1,1,0,0,1,1,1,0,1,0,0]) (q29 R k10) k (fr (U 1 (.pointer a::(.pointer b::U 1 (.pointer c::U 13 (.int .i64 d::(.int .i64 e::U 42 (.int .i64 f::(.int .i64 g::U 58 []))))))))) w
def WT (R:VP) (k10:Nat):T29:=fun a b c d e f g w=>∃ k,UJ R k10 k a b c d e f g w
def q45 (R:VP) (k10:Nat):QT:=(Exit.inBlock 4 (Exit.inBlock 1 (qS none (C [1,1,1,0,1,0,0,1,1,1]) (qL [1,2,18,19] (C [1,1,1,0,1,0,0]) (q10 R) k10))))
def UM (R:VP) (k10:Nat) (k:Nat):T45:=fun a b c d e f g w=>aZ [1,2,4,18,19,85,86] (C [1,1,1,0,1,0,0,1,1,0,0,1,1,1,1,1,0,0]) (q45 R k10) k (fr (U 1 (.pointer a::(.pointer b::U 1 (.pointer c::U 13 (.int .i64 d::(.int .i64 e::U 65 (.int .i64 f::(.int .i64 g::U 35 []))))))))) w
def VN (R:VP) (k10:Nat):T45:=fun a b c d e f g w=>∃ k,UM R k10 k a b c d e f g w
def l45 (R:VP) (b10:T10):Nat→T45
 | 0=>fun _ _ _ _ _ _ _ _=>False
 | k+1=>g45 R b10 (l45 R b10 k)
def e45 (R:VP) (b10:T10):T45:=fun a b c d e f g w=>∃ k,l45 R b10 k a b c d e f g w
theorem s45 (R:VP) (k10:Nat) (k:Nat):UM R k10 (k+1)=fun a b c d e f g w=>∀ _:Nat→Value,g45 R (l10 R k10) (UM R k10 k) a b c d e f g w:=by kernel_rfl
theorem WH (R:VP) (k10:Nat) (b10:T10) (hb10:b10=l10 R k10):∀ k,l45 R b10 k=UM R k10 k
 | 0=>by kernel_rfl
 | k+1=>by
  rw [s45]
  simp only [forall_const]
  unfold l45
  have ih:=WH R k10 b10 hb10 k
  subst hb10
  rw [ih]
  all_goals rfl
theorem X9 (R:VP) (k10:Nat) (b10:T10) (hb10:b10=l10 R k10):e45 R b10=VN R k10:=by
 unfold e45 VN
 simp only [WH R k10 b10 hb10]
def l29 (R:VP) (b10:T10):Nat→T29
 | 0=>fun _ _ _ _ _ _ _ _=>False
 | k+1=>g29 R (l29 R b10 k) (e45 R b10)
def e29 (R:VP) (b10:T10):T29:=fun a b c d e f g w=>∃ k,l29 R b10 k a b c d e f g w
theorem s29 (R:VP) (k10:Nat) (k:Nat):UJ R k10 (k+1)=fun a b c d e f g w=>∀ _:Nat→Value,g29 R (UJ R k10 k) (VN R k10) a b c d e f g w:=by kernel_rfl
theorem WO (R:VP) (k10:Nat) (b10:T10) (hb10:b10=l10 R k10):∀ k,l29 R b10 k=UJ R k10 k
 | 0=>by kernel_rfl
 | k+1=>by
  rw [s29]
  simp only [forall_const]
  unfold l29
  have ih:=WO R k10 b10 hb10 k
  subst hb10
  rw [X9 R k10 _ rfl]
  rw [ih]
  all_goals rfl
theorem eq29 (R:VP) (k10:Nat) (b10:T10) (hb10:b10=l10 R k10):e29 R b10=WT R k10:=by
 unfold e29 WT
 simp only [WO R k10 b10 hb10]
theorem u10 (R k a b c d w):l10 R (k+1) a b c d w=g10 R (e29 R (l10 R k)) a b c d w:=by rw [eq29 R k _ rfl]; exact ju (by kernel_rfl)
end je
def je (R:VP):=je.g0 R (je.e10 R)
theorem je.calls {R a b c d e f g h w} (k:je R a b c d e f g h w):CA 20 #[jM a b c d e f g h] w R:=cal (n:=je.an) func20 rfl k (by kernel_rfl)
open Go.Proofs.Tryz (f22 func22)
namespace aW
def an:An:=(aR (aR (aL (aR (aL (.mk (some [3,7,8,9]) .nil .nil))))))
def qf (R:VP):QT:=fin prog f22 R
def C:=cdN prog f22 an
abbrev T8:=OA→Nat→Nat→OA→Nat→Nat→Int→Int→World→Prop
def g0 (R:VP) (e8:T8) (a:OA) (b c:Nat) (d:World):Prop :=
 e8 none 0 0 a b c (b:Int) 0 d
def g8 (R:VP) (b8:T8) (a:OA) (b c:Nat) (d:OA) (e f:Nat) (g h:Int) (i:World):Prop :=
 af (decide (h<g))
 (ix d e h fun j =>
 lU i (j.add (h.toNat*8)) fun j k l m n o p q r s =>
 nw (i.alloc (.cells (pO 0 0 0 0 none 0 0 0 0 0) 56)) fun t =>
 vS t (na i) j k l m n o p q r s fun j =>
 cL j ((na i).add 4) fun k l m =>
 dm prog (Builtin.append_ #[53,53] 53 #[.slice none 0 0,.slice k l m]) j fun j k =>
 ∃ l m n,j = .slice l m n ∧
 (st k (((na i).add 4).add 0) (.slice l m n) fun j =>
 lU j (na i) fun k l m n o p q r s t =>
 nw (j.alloc (.cells (pO k l m n o p q r s t) 56)) fun k =>
 dm prog (Builtin.append_ #[48,48] 48 #[.slice a b c,.slice (some (na j)) 1 1]) k fun j k =>
 ∃ l m n,j = .slice l m n ∧
 (inc h fun h =>
 b8 l m n d e f g h k)))
 (R (.slice a b c) i)
def q8 (R:VP):QT:=(Exit.inBlock 0 (qS none (C [1,1,1]) (qf R)))
@[irreducible] def l8 (R:VP) (k:Nat):T8:=fun a b c d e f g h w=>aZ [3,7,8,9] (C [1,1,0,1,0,0]) (q8 R) k (fr (U 3 (.slice a b c::U 3 (.slice d e f::(.int .i64 g::(.int .i64 h::U 14 [])))))) w
def e8 (R:VP):T8:=fun a b c d e f g h w=>∃ k,l8 R k a b c d e f g h w
theorem u8 (R k a b c d e f g h w):l8 R (k+1) a b c d e f g h w=g8 R (l8 R k) a b c d e f g h w:=ju (by kernel_rfl)
end aW
def aW (R:VP):=aW.g0 R (aW.e8 R)
theorem aW.calls {R a b c w} (k:aW R a b c w):CA 22 #[.slice a b c] w R:=cal (n:=aW.an) func22 rfl k (by kernel_rfl)
open Go.Proofs.Tryz (f23 func23)
namespace bQ
def an:An:=(aR (aR (aR (aL (aR (aL (.mk (some [1,36,37,38]) (aR (aR (aL (aL (aR (aR (aR (aR (aL (.mk (some [1,36,37,38,67,68,69]) .nil .nil)))))))))) .nil)))))))
def qf (R:VP):QT:=fin prog f23 R
def C:=cdN prog f23 an
abbrev T22:=OA→OA→Nat→Nat→Int→Int→World→Prop
abbrev T59:=OA→OA→Nat→Nat→Int→Int→OA→Nat→Nat→Int→Int→World→Prop
def g0 (R:VP) (e22:T22) (a:ByteArray) (b:OA) (c d:Nat) (e:Int) (f:OA) (g h:Nat) (i:OA) (j k:Nat) (l:World):Prop :=
 nw (l.alloc (.cells (mD a b c d e f g h i j k) 26)) fun a =>
 cI a ((na l).add 2) .i64 fun b =>
 af (decide (b<1))
 (R (.int .i64 6) a)
 (cI a ((na l).add 2) .i64 fun b =>
 af (decide (b>64))
 (R (.int .i64 6) a)
 (cL a ((na l).add 3) fun b b c =>
 cI a ((na l).add 2) .i64 fun c =>
 af ((b:Int) != c)
 (R (.int .i64 6) a)
 (cL a ((na l).add 1) fun b b c =>
 af (decide ((b:Int)>65536))
 (R (.int .i64 6) a)
 (cL a ((na l).add 4) fun b b c =>
 af (decide ((b:Int)>65536))
 (R (.int .i64 3) a)
 (cL a ((na l).add 4) fun b c d =>
 e22 (some (na l)) b c d (c:Int) 0 a)))))
def g22 (R:VP) (e59:T59) (a b:OA) (c d:Nat) (e f:Int) (g:World):Prop :=
 af (decide (f<e))
 (ix b c f fun h =>
 lK g (h.add (f.toNat*2)) fun h i j k =>
 nw (g.alloc (.cells (lg 0 none 0 0) 50)) fun l =>
 DN l (na g) h i j k fun h =>
 lK h (na g) fun i j k l =>
 CA 48 #[jv i j k l] h fun h i =>
 ∃ j k l m,h = .tuple #[.slice j k l,.int .i64 m] ∧
 (af (m != 0)
 (R (.int .i64 m) i)
 (af (decide ((k:Int)>4096))
 (R (.int .i64 3) i)
 (cI i ((na g).add 0) .i64 fun h =>
 af (decide (h<0))
 (R (.int .i64 6) i)
 (cI i ((na g).add 0) .i64 fun h =>
 bK a fun j =>
 cI i (j.add 2) .i64 fun j =>
 af (decide (h≥j))
 (R (.int .i64 6) i)
 (cL i ((na g).add 1) fun h j k =>
 e59 a b c d e f h j k (j:Int) 0 i))))))
 (R (.int .i64 0) g)
def g59 (R:VP) (b22:T22) (b59:T59) (a b:OA) (c d:Nat) (e f:Int) (g:OA) (h i:Nat) (j k:Int) (l:World):Prop :=
 af (decide (k<j))
 (ix g h k fun m =>
 lU l (m.add (k.toNat*8)) fun m n o p q r s t u v =>
 nw (l.alloc (.cells (pO 0 0 0 0 none 0 0 0 0 0) 56)) fun w =>
 vS w (na l) m n o p q r s t u v fun m =>
 cI m ((na l).add 0) .u8 fun n =>
 af (n != 1)
 (cI m ((na l).add 2) .i64 fun n =>
 bK a fun o =>
 cL m (o.add 1) fun o o p =>
 af (decide (n≥(o:Int)))
 (R (.int .i64 72) m)
 (inc k fun n =>
 b59 a b c d e f g h i j n m))
 (inc k fun k =>
 b59 a b c d e f g h i j k m))
 (inc f fun f =>
 b22 a b c d e f l)
def q22 (R:VP):QT:=(Exit.inBlock 0 (qS none (C [1,1,1,1]) (qf R)))
@[irreducible] def l22 (R:VP) (k:Nat):T22:=fun a b c d e f w=>aZ [1,36,37,38] (C [1,1,1,0,1,0,0]) (q22 R) k (fr (U 1 (.pointer a::U 34 (.slice b c d::(.int .i64 e::(.int .i64 f::U 47 [])))))) w
def e22 (R:VP):T22:=fun a b c d e f w=>∃ k,l22 R k a b c d e f w
def q59 (R:VP) (k22:Nat):QT:=(Exit.inBlock 3 (Exit.inBlock 1 (qS none (C [1,1,1,0,1,0,0,1,1,1]) (qL [1,36,37,38] (C [1,1,1,0,1,0,0]) (q22 R) k22))))
def Ux (R:VP) (k22:Nat) (k:Nat):T59:=fun a b c d e f g h i j l w=>aZ [1,36,37,38,67,68,69] (C [1,1,1,0,1,0,0,1,1,0,0,1,1,1,1,0,0]) (q59 R k22) k (fr (U 1 (.pointer a::U 34 (.slice b c d::(.int .i64 e::(.int .i64 f::U 28 (.slice g h i::(.int .i64 j::(.int .i64 l::U 16 []))))))))) w
def WR (R:VP) (k22:Nat):T59:=fun a b c d e f g h i j l w=>∃ k,Ux R k22 k a b c d e f g h i j l w
def l59 (R:VP) (b22:T22):Nat→T59
 | 0=>fun _ _ _ _ _ _ _ _ _ _ _ _=>False
 | k+1=>g59 R b22 (l59 R b22 k)
def e59 (R:VP) (b22:T22):T59:=fun a b c d e f g h i j l w=>∃ k,l59 R b22 k a b c d e f g h i j l w
theorem s59 (R:VP) (k22:Nat) (k:Nat):Ux R k22 (k+1)=fun a b c d e f g h i j l w=>∀ _:Nat→Value,g59 R (l22 R k22) (Ux R k22 k) a b c d e f g h i j l w:=by kernel_rfl
theorem Wy (R:VP) (k22:Nat) (b22:T22) (hb22:b22=l22 R k22):∀ k,l59 R b22 k=Ux R k22 k
 | 0=>by kernel_rfl
 | k+1=>by
  rw [s59]
  simp only [forall_const]
  unfold l59
  have ih:=Wy R k22 b22 hb22 k
  subst hb22
  rw [ih]
  all_goals rfl
theorem Xv (R:VP) (k22:Nat) (b22:T22) (hb22:b22=l22 R k22):e59 R b22=WR R k22:=by
 unfold e59 WR
 simp only [Wy R k22 b22 hb22]
theorem u22 (R k a b c d e f w):l22 R (k+1) a b c d e f w=g22 R (e59 R (l22 R k)) a b c d e f w:=by rw [Xv R k _ rfl]; exact ju (by kernel_rfl)
end bQ
def bQ (R:VP):=bQ.g0 R (bQ.e22 R)
theorem bQ.calls {R a b c d e f g h i j l w} (k:bQ R a b c d e f g h i j l w):CA 23 #[mf a b c d e f g h i j l] w R:=cal (n:=bQ.an) func23 rfl k (by kernel_rfl)
open Go.Proofs.Tryz (f24 func24)
namespace dN
def an:An:=An.nil
def g0 (R:VP) (a:OA) (b c:Nat) (d:World):Prop :=
 af a.isNone
 (R (.slice none 0 0) d)
 (nw (d.alloc (.cells #[] 2)) fun e =>
 dm prog (Builtin.append_ #[23,23] 23 #[.slice (some (na d)) 0 0,.slice a b c]) e fun a b =>
 ∃ c d e,a = .slice c d e ∧
 (R (.slice c d e) b))
end dN
def dN (R:VP):=dN.g0 R
theorem dN.calls {R a b c w} (k:dN R a b c w):CA 24 #[.slice a b c] w R:=cal (n:=dN.an) func24 rfl k (by kernel_rfl)
end Go.Mir
set_option linter.unusedVariables false
set_option maxRecDepth 100000
namespace Go.Mir
open Go Go.E Go.RowKit
open Go.Proofs.Tryz (prog)
open Go.Proofs.Tryz (f25 func25)
namespace dA
def an:An:=(aR (aR (aL (aR (aL (.mk (some [0,2,6,7,17,18,19]) (aR (aR (aL (aL (aR (aR (aR (aL (aR (aL (.mk (some [0,2,6,7,9,10,12,17,18,19,31,32,33]) .nil .nil))))))))))) .nil))))))
def qf (R:VP):QT:=fin prog f25 R
def C:=cdN prog f25 an
abbrev T8:=OA→Nat→Nat→Int→OA→OA→OA→Nat→Nat→Int→Int→World→Prop
abbrev T27:=OA→Nat→Nat→Int→OA→OA→OA→OA→Nat→Nat→OA→Nat→Nat→OA→Nat→Nat→Int→Int→OA→Nat→Nat→Int→Int→World→Prop
def g0 (R:VP) (e8:T8) (a:OA) (b c:Nat) (d e:Int) (f:World):Prop :=
 nw (f.alloc (.cells (oZ 0 none 0 0 none 0 0 none 0 0 none 0 0) 66)) fun g =>
 nw (g.alloc (.cells (oZ 0 none 0 0 none 0 0 none 0 0 none 0 0) 66)) fun h =>
 MO h (na g) d none 0 0 none 0 0 none 0 0 none 0 0 fun d =>
 e8 a b c e (some (na f)) (some (na g)) a b c (b:Int) 0 d
def g8 (R:VP) (e27:T27) (a:OA) (b c:Nat) (d:Int) (e f g:OA) (h i:Nat) (j k:Int) (l:World):Prop :=
 af (decide (k<j))
 (ix g h k fun m =>
 lK l (m.add (k.toNat*2)) fun m n o p =>
 nw (l.alloc (.cells (lg 0 none 0 0) 50)) fun q =>
 DN q (na l) m n o p fun m =>
 lK m (na l) fun n o p q =>
 CA 48 #[jv n o p q] m fun m n =>
 ∃ o p q r,m = .tuple #[.slice o p q,.int .i64 r] ∧
 (chk ((0:Int)≤0∧0≤(p:Int)∧((8:Nat):Int)*(p:Int)≤281474976710656∧(p:Int)≤9223372036854775807)
 (nw (n.alloc (.cells (madeCells #[.int .i64 0] (((p:Int)).toNat*1)) 2)) fun m =>
 e27 a b c d e f (some (na l)) o p q (some (na n)) 0 (((p:Int)).toNat) g h i j k o p q (p:Int) 0 m)))
 (CA 49 #[.slice a b c,.int .i64 d] l fun a b =>
 ∃ c d g h,a = .tuple #[.slice c d g,.int .i64 h] ∧
 (bK f fun a =>
 st b ((a.add 4).add 0) (.slice c d g) fun a =>
 bK f fun b =>
 Hz a b fun b c d f g h i j k l m n o =>
 bK e fun p =>
 MO a p b c d f g h i j k l m n o fun a =>
 bK e fun b =>
 Hz a b fun b c d e f g h i j k l m n =>
 R (zK b c d e f g h i j k l m n) a))
def g27 (R:VP) (b8:T8) (b27:T27) (a:OA) (b c:Nat) (d:Int) (e f g h:OA) (i j:Nat) (k:OA) (l m:Nat) (n:OA) (o p:Nat) (q r:Int) (s:OA) (t u:Nat) (v w:Int) (x:World):Prop :=
 af (decide (w<v))
 (ix s t w fun y =>
 cI x (y.add (w.toNat*1)) .i64 fun y =>
 bK g fun z =>
 cL x (z.add 1) fun z A B =>
 ix z A y fun z =>
 cI x ((z.add (y.toNat*8)).add 1) .i64 fun y =>
 nw (x.alloc (.cells #[.int .i64 y] 2)) fun y =>
 dm prog (Builtin.append_ #[23,23] 23 #[.slice k l m,.slice (some (na x)) 1 1]) y fun y z =>
 ∃ A B C,y = .slice A B C ∧
 (inc w fun w =>
 b27 a b c d e f g h i j A B C n o p q r s t u v w z))
 (bK f fun h =>
 cL x (h.add 1) fun h j s =>
 nw (x.alloc (.cells #[.int .i64 (i:Int)] 3)) fun i =>
 dm prog (Builtin.append_ #[53,53] 53 #[.slice h j s,.slice (some (na x)) 1 1]) i fun h i =>
 ∃ j s t,h = .slice j s t ∧
 (bK f fun h =>
 st i ((h.add 1).add 0) (.slice j s t) fun h =>
 bK f fun i =>
 cL h (i.add 2) fun i j s =>
 nw (h.alloc (.cells #[.slice k l m] 23)) fun k =>
 dm prog (Builtin.append_ #[63,63] 63 #[.slice i j s,.slice (some (na h)) 1 1]) k fun h i =>
 ∃ j k l,h = .slice j k l ∧
 (bK f fun h =>
 st i ((h.add 2).add 0) (.slice j k l) fun h =>
 bK f fun i =>
 cL h (i.add 3) fun i j k =>
 bK g fun g =>
 cI h (g.add 0) .i64 fun g =>
 nw (h.alloc (.cells #[.int .i64 g] 3)) fun g =>
 dm prog (Builtin.append_ #[53,53] 53 #[.slice i j k,.slice (some (na h)) 1 1]) g fun g h =>
 ∃ i j k,g = .slice i j k ∧
 (bK f fun g =>
 st h ((g.add 3).add 0) (.slice i j k) fun g =>
 inc r fun h =>
 b8 a b c d e f n o p q h g))))
def q8 (R:VP):QT:=(Exit.inBlock 0 (qS none (C [1,1,1]) (qf R)))
@[irreducible] def l8 (R:VP) (k:Nat):T8:=fun a b c d e f g h i j l w=>aZ [0,2,6,7,17,18,19] (C [1,1,0,1,0,0]) (q8 R) k (fr ((.slice a b c::U 1 (.int .i64 d::U 3 (.pointer e::(.pointer f::U 9 (.slice g h i::(.int .i64 j::(.int .i64 l::U 56 []))))))))) w
def e8 (R:VP):T8:=fun a b c d e f g h i j l w=>∃ k,l8 R k a b c d e f g h i j l w
def q27 (R:VP) (k8:Nat):QT:=(Exit.inBlock 2 (qS none (C [1,1,0,1,0,0,1,1,0,0,1,1,1,1]) (Exit.inBlock 1 (qS none (C [1,1,0,1,0,0,1,1,1]) (qL [0,2,6,7,17,18,19] (C [1,1,0,1,0,0]) (q8 R) k8)))))
def Nb (R:VP) (k8:Nat) (k:Nat):T27:=fun a b c d e f g h i j l m n o p q r s t u v x y w=>aZ [0,2,6,7,9,10,12,17,18,19,31,32,33] (C [1,1,0,1,0,0,1,1,0,0,1,1,1,0,1,0,0]) (q27 R k8) k (fr ((.slice a b c::U 1 (.int .i64 d::U 3 (.pointer e::(.pointer f::U 1 (.pointer g::(.slice h i j::U 1 (.slice l m n::U 4 (.slice o p q::(.int .i64 r::(.int .i64 s::U 11 (.slice t u v::(.int .i64 x::(.int .i64 y::U 42 []))))))))))))))) w
def TU (R:VP) (k8:Nat):T27:=fun a b c d e f g h i j l m n o p q r s t u v x y w=>∃ k,Nb R k8 k a b c d e f g h i j l m n o p q r s t u v x y w
def l27 (R:VP) (b8:T8):Nat→T27
 | 0=>fun _ _ _ _ _ _ _ _ _ _ _ _ _ _ _ _ _ _ _ _ _ _ _ _=>False
 | k+1=>g27 R b8 (l27 R b8 k)
def e27 (R:VP) (b8:T8):T27:=fun a b c d e f g h i j l m n o p q r s t u v x y w=>∃ k,l27 R b8 k a b c d e f g h i j l m n o p q r s t u v x y w
theorem s27 (R:VP) (k8:Nat) (k:Nat):Nb R k8 (k+1)=fun a b c d e f g h i j l m n o p q r s t u v x y w=>∀ _:Nat→Value,g27 R (l8 R k8) (Nb R k8 k) a b c d e f g h i j l m n o p q r s t u v x y w:=by kernel_rfl
theorem U3 (R:VP) (k8:Nat) (b8:T8) (hb8:b8=l8 R k8):∀ k,l27 R b8 k=Nb R k8 k
 | 0=>by kernel_rfl
 | k+1=>by
  rw [s27]
  simp only [forall_const]
  unfold l27
  have ih:=U3 R k8 b8 hb8 k
  subst hb8
  rw [ih]
  all_goals rfl
theorem Vd (R:VP) (k8:Nat) (b8:T8) (hb8:b8=l8 R k8):e27 R b8=TU R k8:=by
 unfold e27 TU
 simp only [U3 R k8 b8 hb8]
theorem u8 (R k a b c d e f g h i j l w):l8 R (k+1) a b c d e f g h i j l w=g8 R (e27 R (l8 R k)) a b c d e f g h i j l w:=by rw [Vd R k _ rfl]; exact ju (by kernel_rfl)
end dA
def dA (R:VP):=dA.g0 R (dA.e8 R)
theorem dA.calls {R a b c d e w} (k:dA R a b c d e w):CA 25 #[.slice a b c,.int .i64 d,.int .i64 e] w R:=cal (n:=dA.an) func25 rfl k (by kernel_rfl)
open Go.Proofs.Tryz (f26 func26)
namespace aY
def an:An:=(aR (aR (aR (aL (aR (aL (.mk (some [1,34,35,36]) .nil .nil)))))))
def qf (R:VP):QT:=fin prog f26 R
def C:=cdN prog f26 an
abbrev T22:=OA→OA→Nat→Nat→Int→Int→World→Prop
def g0 (R:VP) (e22:T22) (a:ByteArray) (b:OA) (c d:Nat) (e:Int) (f:OA) (g h:Nat) (i:OA) (j k:Nat) (l:World):Prop :=
 nw (l.alloc (.cells (mD a b c d e f g h i j k) 26)) fun a =>
 cI a ((na l).add 2) .i64 fun b =>
 af (decide (b<1))
 (R (.int .i64 6) a)
 (cI a ((na l).add 2) .i64 fun b =>
 af (decide (b>64))
 (R (.int .i64 6) a)
 (cL a ((na l).add 3) fun b b c =>
 cI a ((na l).add 2) .i64 fun c =>
 af ((b:Int) != c)
 (R (.int .i64 6) a)
 (cL a ((na l).add 1) fun b b c =>
 af (decide ((b:Int)>65536))
 (R (.int .i64 6) a)
 (cL a ((na l).add 4) fun b b c =>
 af (decide ((b:Int)>65536))
 (R (.int .i64 3) a)
 (cL a ((na l).add 4) fun b c d =>
 e22 (some (na l)) b c d (c:Int) 0 a)))))
def g22 (R:VP) (b22:T22) (a b:OA) (c d:Nat) (e f:Int) (g:World):Prop :=
 af (decide (f<e))
 (ix b c f fun h =>
 lK g (h.add (f.toNat*2)) fun h i j k =>
 nw (g.alloc (.cells (lg 0 none 0 0) 50)) fun l =>
 DN l (na g) h i j k fun h =>
 lK h (na g) fun i j k l =>
 CA 50 #[jv i j k l] h fun h i =>
 ∃ j k,h = .tuple #[.int .i64 j,.int .i64 k] ∧
 (af (k != 0)
 (R (.int .i64 k) i)
 (cI i ((na g).add 0) .i64 fun h =>
 af (decide (h<0))
 (R (.int .i64 6) i)
 (cI i ((na g).add 0) .i64 fun h =>
 bK a fun j =>
 cI i (j.add 2) .i64 fun j =>
 af (decide (h≥j))
 (R (.int .i64 6) i)
 (lK i (na g) fun h j k l =>
 bK a fun m =>
 cL i (m.add 1) fun m m n =>
 CA 51 #[jv h j k l,.int .i64 (m:Int)] i fun h i =>
 ∃ j,h = .bool j ∧
 (af (!j)
 (R (.int .i64 72) i)
 (inc f fun f =>
 b22 a b c d e f i)))))))
 (R (.int .i64 0) g)
def q22 (R:VP):QT:=(Exit.inBlock 0 (qS none (C [1,1,1,1]) (qf R)))
@[irreducible] def l22 (R:VP) (k:Nat):T22:=fun a b c d e f w=>aZ [1,34,35,36] (C [1,1,1,0,1,0,0]) (q22 R) k (fr (U 1 (.pointer a::U 32 (.slice b c d::(.int .i64 e::(.int .i64 f::U 28 [])))))) w
def e22 (R:VP):T22:=fun a b c d e f w=>∃ k,l22 R k a b c d e f w
theorem u22 (R k a b c d e f w):l22 R (k+1) a b c d e f w=g22 R (l22 R k) a b c d e f w:=ju (by kernel_rfl)
end aY
def aY (R:VP):=aY.g0 R (aY.e22 R)
theorem aY.calls {R a b c d e f g h i j l w} (k:aY R a b c d e f g h i j l w):CA 26 #[mf a b c d e f g h i j l] w R:=cal (n:=aY.an) func26 rfl k (by kernel_rfl)
open Go.Proofs.Tryz (f27 func27)
namespace aN
def an:An:=(aR (aR (aL (aR (aL (.mk (some [1,5,8,9,10]) .nil .nil))))))
def qf (R:VP):QT:=fin prog f27 R
def C:=cdN prog f27 an
abbrev T8:=Int→Int→OA→Nat→Nat→Int→Int→World→Prop
def g0 (R:VP) (e8:T8) (a:OA) (b c:Nat) (d:Int) (e:World):Prop :=
 e8 d 0 a b c (b:Int) 0 e
def g8 (R:VP) (b8:T8) (a b:Int) (c:OA) (d e:Nat) (f g:Int) (h:World):Prop :=
 af (decide (g<f))
 (ix c d g fun i =>
 Tv h (i.add (g.toNat*2)) fun i j =>
 nw (h.alloc (.cells (Ej 0 0) 61)) fun k =>
 Tn k (na h) i j fun i =>
 cI i ((na h).add 0) .i64 fun j =>
 af (j != b)
 (R (.bool false) i)
 (cI i ((na h).add 1) .i64 fun j =>
 cI i ((na h).add 0) .i64 fun k =>
 af (decide (j≤k))
 (R (.bool false) i)
 (cI i ((na h).add 1) .i64 fun j =>
 inc g fun g =>
 b8 a j c d e f g i)))
 (R (.bool (b==a)) h)
def q8 (R:VP):QT:=(Exit.inBlock 0 (qS none (C [1,1,1]) (qf R)))
@[irreducible] def l8 (R:VP) (k:Nat):T8:=fun a b c d e f g w=>aZ [1,5,8,9,10] (C [1,1,0,1,0,0]) (q8 R) k (fr (U 1 (.int .i64 a::U 3 (.int .i64 b::U 2 (.slice c d e::(.int .i64 f::(.int .i64 g::U 20 []))))))) w
def e8 (R:VP):T8:=fun a b c d e f g w=>∃ k,l8 R k a b c d e f g w
theorem u8 (R k a b c d e f g w):l8 R (k+1) a b c d e f g w=g8 R (l8 R k) a b c d e f g w:=ju (by kernel_rfl)
end aN
def aN (R:VP):=aN.g0 R (aN.e8 R)
theorem aN.calls {R a b c d w} (k:aN R a b c d w):CA 27 #[.slice a b c,.int .i64 d] w R:=cal (n:=aN.an) func27 rfl k (by kernel_rfl)
open Go.Proofs.Tryz (f28 func28)
namespace aB
def an:An:=(aR (aR (aL (aR (aL (.mk (some [0,2,6,7,17,18,19]) (aR (aR (aL (aL (aR (aR (aR (aL (aR (aL (.mk (some [0,2,6,7,9,10,12,17,18,19,28,29,30]) .nil .nil))))))))))) .nil))))))
def qf (R:VP):QT:=fin prog f28 R
def C:=cdN prog f28 an
abbrev T8:=OA→Nat→Nat→Int→OA→OA→OA→Nat→Nat→Int→Int→World→Prop
abbrev T27:=OA→Nat→Nat→Int→OA→OA→OA→OA→Nat→Nat→OA→Nat→Nat→OA→Nat→Nat→Int→Int→OA→Nat→Nat→Int→Int→World→Prop
def g0 (R:VP) (e8:T8) (a:OA) (b c:Nat) (d e:Int) (f:World):Prop :=
 nw (f.alloc (.cells (oZ 0 none 0 0 none 0 0 none 0 0 none 0 0) 66)) fun g =>
 nw (g.alloc (.cells (oZ 0 none 0 0 none 0 0 none 0 0 none 0 0) 66)) fun h =>
 MO h (na g) d none 0 0 none 0 0 none 0 0 none 0 0 fun d =>
 e8 a b c e (some (na f)) (some (na g)) a b c (b:Int) 0 d
def g8 (R:VP) (e27:T27) (a:OA) (b c:Nat) (d:Int) (e f g:OA) (h i:Nat) (j k:Int) (l:World):Prop :=
 af (decide (k<j))
 (ix g h k fun m =>
 lK l (m.add (k.toNat*2)) fun m n o p =>
 nw (l.alloc (.cells (lg 0 none 0 0) 50)) fun q =>
 DN q (na l) m n o p fun m =>
 lK m (na l) fun n o p q =>
 CA 52 #[jv n o p q] m fun m n =>
 ∃ o p q r,m = .tuple #[.slice o p q,.int .i64 r] ∧
 (e27 a b c d e f (some (na l)) o p q none 0 0 g h i j k o p q (p:Int) 0 n))
 (CA 53 #[.slice a b c,.int .i64 d] l fun a b =>
 ∃ c d g,a = .slice c d g ∧
 (bK f fun a =>
 st b ((a.add 4).add 0) (.slice c d g) fun a =>
 bK f fun b =>
 Hz a b fun b c d f g h i j k l m n o =>
 bK e fun p =>
 MO a p b c d f g h i j k l m n o fun a =>
 bK e fun b =>
 Hz a b fun b c d e f g h i j k l m n =>
 R (zK b c d e f g h i j k l m n) a))
def g27 (R:VP) (b8:T8) (b27:T27) (a:OA) (b c:Nat) (d:Int) (e f g h:OA) (i j:Nat) (k:OA) (l m:Nat) (n:OA) (o p:Nat) (q r:Int) (s:OA) (t u:Nat) (v w:Int) (x:World):Prop :=
 af (decide (w<v))
 (ix s t w fun y =>
 cI x (y.add (w.toNat*1)) .i64 fun y =>
 bK g fun z =>
 cL x (z.add 1) fun z A B =>
 ix z A y fun z =>
 cI x ((z.add (y.toNat*8)).add 1) .i64 fun y =>
 nw (x.alloc (.cells #[.int .i64 y] 2)) fun y =>
 dm prog (Builtin.append_ #[23,23] 23 #[.slice k l m,.slice (some (na x)) 1 1]) y fun y z =>
 ∃ A B C,y = .slice A B C ∧
 (inc w fun w =>
 b27 a b c d e f g h i j A B C n o p q r s t u v w z))
 (bK f fun h =>
 cL x (h.add 1) fun h j s =>
 nw (x.alloc (.cells #[.int .i64 (i:Int)] 3)) fun i =>
 dm prog (Builtin.append_ #[53,53] 53 #[.slice h j s,.slice (some (na x)) 1 1]) i fun h i =>
 ∃ j s t,h = .slice j s t ∧
 (bK f fun h =>
 st i ((h.add 1).add 0) (.slice j s t) fun h =>
 bK f fun i =>
 cL h (i.add 2) fun i j s =>
 nw (h.alloc (.cells #[.slice k l m] 23)) fun k =>
 dm prog (Builtin.append_ #[63,63] 63 #[.slice i j s,.slice (some (na h)) 1 1]) k fun h i =>
 ∃ j k l,h = .slice j k l ∧
 (bK f fun h =>
 st i ((h.add 2).add 0) (.slice j k l) fun h =>
 bK f fun i =>
 cL h (i.add 3) fun i j k =>
 bK g fun g =>
 cI h (g.add 0) .i64 fun g =>
 nw (h.alloc (.cells #[.int .i64 g] 3)) fun g =>
 dm prog (Builtin.append_ #[53,53] 53 #[.slice i j k,.slice (some (na h)) 1 1]) g fun g h =>
 ∃ i j k,g = .slice i j k ∧
 (bK f fun g =>
 st h ((g.add 3).add 0) (.slice i j k) fun g =>
 inc r fun h =>
 b8 a b c d e f n o p q h g))))
def q8 (R:VP):QT:=(Exit.inBlock 0 (qS none (C [1,1,1]) (qf R)))
@[irreducible] def l8 (R:VP) (k:Nat):T8:=fun a b c d e f g h i j l w=>aZ [0,2,6,7,17,18,19] (C [1,1,0,1,0,0]) (q8 R) k (fr ((.slice a b c::U 1 (.int .i64 d::U 3 (.pointer e::(.pointer f::U 9 (.slice g h i::(.int .i64 j::(.int .i64 l::U 50 []))))))))) w
def e8 (R:VP):T8:=fun a b c d e f g h i j l w=>∃ k,l8 R k a b c d e f g h i j l w
def q27 (R:VP) (k8:Nat):QT:=(Exit.inBlock 2 (qS none (C [1,1,0,1,0,0,1,1,0,0,1,1,1,1]) (Exit.inBlock 1 (qS none (C [1,1,0,1,0,0,1,1,1]) (qL [0,2,6,7,17,18,19] (C [1,1,0,1,0,0]) (q8 R) k8)))))
def Nb (R:VP) (k8:Nat) (k:Nat):T27:=fun a b c d e f g h i j l m n o p q r s t u v x y w=>aZ [0,2,6,7,9,10,12,17,18,19,28,29,30] (C [1,1,0,1,0,0,1,1,0,0,1,1,1,0,1,0,0]) (q27 R k8) k (fr ((.slice a b c::U 1 (.int .i64 d::U 3 (.pointer e::(.pointer f::U 1 (.pointer g::(.slice h i j::U 1 (.slice l m n::U 4 (.slice o p q::(.int .i64 r::(.int .i64 s::U 8 (.slice t u v::(.int .i64 x::(.int .i64 y::U 39 []))))))))))))))) w
def TU (R:VP) (k8:Nat):T27:=fun a b c d e f g h i j l m n o p q r s t u v x y w=>∃ k,Nb R k8 k a b c d e f g h i j l m n o p q r s t u v x y w
def l27 (R:VP) (b8:T8):Nat→T27
 | 0=>fun _ _ _ _ _ _ _ _ _ _ _ _ _ _ _ _ _ _ _ _ _ _ _ _=>False
 | k+1=>g27 R b8 (l27 R b8 k)
def e27 (R:VP) (b8:T8):T27:=fun a b c d e f g h i j l m n o p q r s t u v x y w=>∃ k,l27 R b8 k a b c d e f g h i j l m n o p q r s t u v x y w
theorem s27 (R:VP) (k8:Nat) (k:Nat):Nb R k8 (k+1)=fun a b c d e f g h i j l m n o p q r s t u v x y w=>∀ _:Nat→Value,g27 R (l8 R k8) (Nb R k8 k) a b c d e f g h i j l m n o p q r s t u v x y w:=by kernel_rfl
theorem U3 (R:VP) (k8:Nat) (b8:T8) (hb8:b8=l8 R k8):∀ k,l27 R b8 k=Nb R k8 k
 | 0=>by kernel_rfl
 | k+1=>by
  rw [s27]
  simp only [forall_const]
  unfold l27
  have ih:=U3 R k8 b8 hb8 k
  subst hb8
  rw [ih]
  all_goals rfl
theorem Vd (R:VP) (k8:Nat) (b8:T8) (hb8:b8=l8 R k8):e27 R b8=TU R k8:=by
 unfold e27 TU
 simp only [U3 R k8 b8 hb8]
theorem u8 (R k a b c d e f g h i j l w):l8 R (k+1) a b c d e f g h i j l w=g8 R (e27 R (l8 R k)) a b c d e f g h i j l w:=by rw [Vd R k _ rfl]; exact ju (by kernel_rfl)
end aB
def aB (R:VP):=aB.g0 R (aB.e8 R)
theorem aB.calls {R a b c d e w} (k:aB R a b c d e w):CA 28 #[.slice a b c,.int .i64 d,.int .i64 e] w R:=cal (n:=aB.an) func28 rfl k (by kernel_rfl)
open Go.Proofs.Tryz (f29 func29)
namespace dD
def an:An:=(aR (aR (aR (aL (aR (aL (.mk (some [0,1,6,7]) .nil .nil)))))))
def qf (R:VP):QT:=fin prog f29 R
def C:=cdN prog f29 an
abbrev T16:=Int→Int→OA→Nat→Nat→Int→World→Prop
def g0 (R:VP) (e16:T16) (a b:Int) (c:World):Prop :=
 af (decide (a<0))
 (R (.tuple #[.slice none 0 0,.int .i64 2]) c)
 (af (decide (a>65536))
 (R (.tuple #[.slice none 0 0,.int .i64 2]) c)
 (af (decide (b<1))
 (R (.tuple #[.slice none 0 0,.int .i64 2]) c)
 (af (decide (b>65536))
 (R (.tuple #[.slice none 0 0,.int .i64 2]) c)
 (e16 a b none 0 0 0 c))))
def g16 (R:VP) (b16:T16) (a b:Int) (c:OA) (d e:Nat) (f:Int) (g:World):Prop :=
 af (decide (f<a))
 (nv (IntKind.i64.wrap (f+b)) fun h =>
 nv ((if a<h then a else h)) fun h =>
 nw (g.alloc (.cells (Ej f h) 61)) fun h =>
 dm prog (Builtin.append_ #[27,27] 27 #[.slice c d e,.slice (some (na g)) 1 1]) h fun h i =>
 ∃ j k l,h = .slice j k l ∧
 (nv (IntKind.i64.wrap (f+b)) fun f =>
 b16 a b j k l f i))
 (R (.tuple #[.slice c d e,.int .i64 0]) g)
def q16 (R:VP):QT:=(Exit.inBlock 0 (qS none (C [1,1,1,1]) (qf R)))
@[irreducible] def l16 (R:VP) (k:Nat):T16:=fun a b c d e f w=>aZ [0,1,6,7] (C [1,1,1,0,1,0,0]) (q16 R) k (fr ((.int .i64 a::(.int .i64 b::U 4 (.slice c d e::(.int .i64 f::U 31 [])))))) w
def e16 (R:VP):T16:=fun a b c d e f w=>∃ k,l16 R k a b c d e f w
theorem u16 (R k a b c d e f w):l16 R (k+1) a b c d e f w=g16 R (l16 R k) a b c d e f w:=ju (by kernel_rfl)
end dD
def dD (R:VP):=dD.g0 R (dD.e16 R)
theorem dD.calls {R a b w} (k:dD R a b w):CA 29 #[.int .i64 a,.int .i64 b] w R:=cal (n:=dD.an) func29 rfl k (by kernel_rfl)
open Go.Proofs.Tryz (f30 func30)
namespace aP
def an:An:=(aR (aR (aR (aL (aR (aL (.mk (some [0,1,6,7]) .nil .nil)))))))
def qf (R:VP):QT:=fin prog f30 R
def C:=cdN prog f30 an
abbrev T16:=Int→Int→OA→Nat→Nat→Int→World→Prop
def g0 (R:VP) (e16:T16) (a b:Int) (c:World):Prop :=
 af (decide (a<0))
 (R (.tuple #[.slice none 0 0,.int .i64 2]) c)
 (af (decide (a>65536))
 (R (.tuple #[.slice none 0 0,.int .i64 2]) c)
 (af (decide (b<1))
 (R (.tuple #[.slice none 0 0,.int .i64 2]) c)
 (af (decide (b>65536))
 (R (.tuple #[.slice none 0 0,.int .i64 2]) c)
 (e16 a b none 0 0 0 c))))
def g16 (R:VP) (b16:T16) (a b:Int) (c:OA) (d e:Nat) (f:Int) (g:World):Prop :=
 af (decide (f<a))
 (nv (IntKind.i64.wrap (f+b)) fun h =>
 af (decide (h>a))
 (nw (g.alloc (.cells (Ej f a) 61)) fun i =>
 dm prog (Builtin.append_ #[27,27] 27 #[.slice c d e,.slice (some (na g)) 1 1]) i fun i j =>
 ∃ k l m,i = .slice k l m ∧
 (nv (IntKind.i64.wrap (f+b)) fun i =>
 b16 a b k l m i j))
 (nw (g.alloc (.cells (Ej f h) 61)) fun h =>
 dm prog (Builtin.append_ #[27,27] 27 #[.slice c d e,.slice (some (na g)) 1 1]) h fun h i =>
 ∃ j k l,h = .slice j k l ∧
 (nv (IntKind.i64.wrap (f+b)) fun f =>
 b16 a b j k l f i)))
 (R (.tuple #[.slice c d e,.int .i64 0]) g)
def q16 (R:VP):QT:=(Exit.inBlock 0 (qS none (C [1,1,1,1]) (qf R)))
@[irreducible] def l16 (R:VP) (k:Nat):T16:=fun a b c d e f w=>aZ [0,1,6,7] (C [1,1,1,0,1,0,0]) (q16 R) k (fr ((.int .i64 a::(.int .i64 b::U 4 (.slice c d e::(.int .i64 f::U 35 [])))))) w
def e16 (R:VP):T16:=fun a b c d e f w=>∃ k,l16 R k a b c d e f w
theorem u16 (R k a b c d e f w):l16 R (k+1) a b c d e f w=g16 R (l16 R k) a b c d e f w:=ju (by kernel_rfl)
end aP
def aP (R:VP):=aP.g0 R (aP.e16 R)
theorem aP.calls {R a b w} (k:aP R a b w):CA 30 #[.int .i64 a,.int .i64 b] w R:=cal (n:=aP.an) func30 rfl k (by kernel_rfl)
open Go.Proofs.Tryz (f31 func31)
namespace di
def an:An:=An.nil
def g0 (R:VP) (a:World):Prop :=
 nw (a.alloc (.cells (mD ⟨#[]⟩ none 0 0 0 none 0 0 none 0 0) 26)) fun b =>
 nw (b.alloc (.cells #[.string ⟨#[97]⟩,.string ⟨#[98]⟩] 9)) fun c =>
 nw (c.alloc (.cells #[.int .i64 0] 2)) fun d =>
 nw (d.alloc (.cells #[.int .u8 2,.int .i64 0,.int .i64 1,.float .f64 4611686018427387904,.slice none 0 0,.int .u8 2,.int .i64 1,.int .i64 2,.int .u8 1,.int .i64 10,.int .i64 0,.float .f64 0,.slice none 0 0,.int .u8 0,.int .i64 0,.int .i64 0,.int .u8 1,.int .i64 20,.int .i64 0,.float .f64 0,.slice none 0 0,.int .u8 0,.int .i64 0,.int .i64 0] 56)) fun e =>
 nw (e.alloc (.cells #[.int .i64 4] 3)) fun f =>
 nw (f.alloc (.cells #[.int .u8 2,.int .i64 0,.int .i64 1,.float .f64 4607182418800017408,.slice none 0 0,.int .u8 1,.int .i64 1,.int .i64 4,.int .u8 3,.int .i64 0,.int .i64 0,.float .f64 0,.slice (some (na e)) 1 1,.int .u8 2,.int .i64 2,.int .i64 3,.int .u8 1,.int .i64 1,.int .i64 0,.float .f64 0,.slice none 0 0,.int .u8 0,.int .i64 0,.int .i64 0,.int .u8 1,.int .i64 2,.int .i64 0,.float .f64 0,.slice none 0 0,.int .u8 0,.int .i64 0,.int .i64 0,.int .u8 1,.int .i64 3,.int .i64 0,.float .f64 0,.slice none 0 0,.int .u8 0,.int .i64 0,.int .i64 0] 56)) fun e =>
 nw (e.alloc (.cells #[.int .i64 0,.slice (some (na d)) 3 3,.int .i64 0,.slice (some (na f)) 5 5] 50)) fun d =>
 SQ d (na a) ⟨#[]⟩ (some (na b)) 2 2 1 (some (na c)) 1 1 (some (na e)) 2 2 fun b =>
 xY b (na a) fun a c d e f g h i j k l =>
 R (mf a c d e f g h i j k l) b
end di
def di (R:VP):=di.g0 R
theorem di.calls {R w} (k:di R  w):CA 31 #[] w R:=cal (n:=di.an) func31 rfl k (by kernel_rfl)
open Go.Proofs.Tryz (f32 func32)
namespace ig
def an:An:=An.nil
def g0 (R:VP) (a:Int) (b:OA) (c d:Nat) (e:Int) (f:OA) (g h:Nat) (i:World):Prop :=
 nw (i.alloc (.cells (lg a b c d) 50)) fun a =>
 nw (a.alloc (.cells (lg e f g h) 50)) fun b =>
 cI b ((na i).add 0) .i64 fun c =>
 cI b ((na a).add 0) .i64 fun d =>
 af (c==d)
 (cL b ((na i).add 1) fun c d e =>
 cL b ((na a).add 1) fun a f g =>
 CA 54 #[.slice c d e,.slice a f g,.func (.func 55) #[] #[]] b fun a c =>
 ∃ d,a = .bool d ∧
 (R (.bool d) c))
 (R (.bool false) b)
end ig
def ig (R:VP):=ig.g0 R
theorem ig.calls {R a b c d e f g h w} (k:ig R a b c d e f g h w):CA 32 #[jv a b c d,jv e f g h] w R:=cal (n:=ig.an) func32 rfl k (by kernel_rfl)
open Go.Proofs.Tryz (f33 func33)
namespace aJ
def an:An:=(aR (aR (aL (aR (aL (.mk (some [0,1,12,13]) .nil .nil))))))
def qf (R:VP):QT:=fin prog f33 R
def C:=cdN prog f33 an
abbrev T14:=OA→Nat→Nat→OA→Nat→Nat→Int→Int→World→Prop
def g0 (R:VP) (e14:T14) (a:OA) (b c:Nat) (d:OA) (e f:Nat) (g:World):Prop :=
 af ((b:Int) != (e:Int))
 (R (.bool false) g)
 (e14 a b c d e f (b:Int) 0 g)
def g14 (R:VP) (b14:T14) (a:OA) (b c:Nat) (d:OA) (e f:Nat) (g h:Int) (i:World):Prop :=
 af (decide (h<g))
 (ix a b h fun j =>
 cI i (j.add (h.toNat*1)) .i64 fun j =>
 ix d e h fun k =>
 cI i (k.add (h.toNat*1)) .i64 fun k =>
 af (j != k)
 (R (.bool false) i)
 (inc h fun h =>
 b14 a b c d e f g h i))
 (R (.bool true) i)
def q14 (R:VP):QT:=(Exit.inBlock 0 (qS none (C [1,1,1]) (qf R)))
@[irreducible] def l14 (R:VP) (k:Nat):T14:=fun a b c d e f g h w=>aZ [0,1,12,13] (C [1,1,0,1,0,0]) (q14 R) k (fr ((.slice a b c::(.slice d e f::U 10 (.int .i64 g::(.int .i64 h::U 12 [])))))) w
def e14 (R:VP):T14:=fun a b c d e f g h w=>∃ k,l14 R k a b c d e f g h w
theorem u14 (R k a b c d e f g h w):l14 R (k+1) a b c d e f g h w=g14 R (l14 R k) a b c d e f g h w:=ju (by kernel_rfl)
end aJ
def aJ (R:VP):=aJ.g0 R (aJ.e14 R)
theorem aJ.calls {R a b c d e f w} (k:aJ R a b c d e f w):CA 33 #[.slice a b c,.slice d e f] w R:=cal (n:=aJ.an) func33 rfl k (by kernel_rfl)
end Go.Mir
