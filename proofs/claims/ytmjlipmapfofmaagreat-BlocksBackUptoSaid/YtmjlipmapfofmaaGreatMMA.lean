/- Part of a proof; no conditions. -/
import Derived.KernelRfl
import Derived.Test.YtmjlipmapfofmaaGreatEA
import Derived.Test.YtmjlipmapfofmaaGreatProg
set_option linter.unusedVariables false
set_option linter.unusedSimpArgs false
set_option linter.unusedSectionVars false
open Go.Proofs.Tryz (prog f7 func7 f8 func8 f9 func9 f11 func11 f12 func12 f14 func14 f15 func15 f16 func16 f17 func17 f18 func18 f19 func19 f22 func22 f23 func23 f24 func24 f25 func25 f26 func26 f27 func27 f28 func28 f29 func29 f31 func31 f32 func32 f33 func33)
namespace Go.Mir
open Go Go.E Go.RowKit
theorem Ob:prog.follows .mixedOrders=true:=by kernel_rfl
theorem V6:prog.types.size+Made.depth≠0:=of_decide_eq_true (by kernel_rfl)
abbrev CA:=E.CallsD prog
theorem cal{f:FuncId}{fn:Func}{n:An}{args:Array Value}{w:World}{R:VP}{p:Prop}(hf:prog.funcs[f]?=some fn)(hb:fn.body.isSome=true)(h:p)(e:fnN prog fn n args w R=p:=by kernel_rfl):CA f args w R:=Nz Ob V6 hf hb h e
abbrev wO(x0:ByteArray)(a1:OA)(n1 c1:Nat)(x2:Int)(a3:OA)(n3 c3:Nat)(a4:OA)(n4 c4:Nat):Array Value := #[.string x0,.slice a1 n1 c1,.int .i64 x2,.slice a3 n3 c3,.slice a4 n4 c4]
abbrev yl(x0:ByteArray)(a1:OA)(n1 c1:Nat)(x2:Int)(a3:OA)(n3 c3:Nat)(a4:OA)(n4 c4:Nat):Value := .agg (wO x0 a1 n1 c1 x2 a3 n3 c3 a4 n4 c4)
abbrev U6(w:World)(a:Addr)(K:ByteArray->OA->Nat->Nat->Int->OA->Nat->Nat->OA->Nat->Nat->Prop):Prop:=cS w (a.add 0) λx0=>cL w (a.add 1) λa1 n1 c1=>cI w (a.add 2) .i64 λx2=>cL w (a.add 3) λa3 n3 c3=>cL w (a.add 4) λa4 n4 c4=>K x0 a1 n1 c1 x2 a3 n3 c3 a4 n4 c4
abbrev ZK(w:World)(a:Addr)(x0:ByteArray)(a1:OA)(n1 c1:Nat)(x2:Int)(a3:OA)(n3 c3:Nat)(a4:OA)(n4 c4:Nat)(K:zg6):Prop:=st w (a.add 0) (.string x0) λw=>st w (a.add 1) (.slice a1 n1 c1) λw=>st w (a.add 2) (.int .i64 x2) λw=>st w (a.add 3) (.slice a3 n3 c3) λw=>st w (a.add 4) (.slice a4 n4 c4) λw=>K w
abbrev mr(x0 x1:Int)(a2:OA)(n2 c2:Nat)(a3:OA)(n3 c3:Nat):Array Value := #[.int .i64 x0,.int .i64 x1,.slice a2 n2 c2,.slice a3 n3 c3]
abbrev kE(x0 x1:Int)(a2:OA)(n2 c2:Nat)(a3:OA)(n3 c3:Nat):Value := .agg (mr x0 x1 a2 n2 c2 a3 n3 c3)
abbrev mV(w:World)(a:Addr)(K:Int->Int->OA->Nat->Nat->OA->Nat->Nat->Prop):Prop:=cI w (a.add 0) .i64 λx0=>cI w (a.add 1) .i64 λx1=>cL w (a.add 2) λa2 n2 c2=>cL w (a.add 3) λa3 n3 c3=>K x0 x1 a2 n2 c2 a3 n3 c3
abbrev xQ(w:World)(a:Addr)(x0 x1:Int)(a2:OA)(n2 c2:Nat)(a3:OA)(n3 c3:Nat)(K:zg6):Prop:=st w (a.add 0) (.int .i64 x0) λw=>st w (a.add 1) (.int .i64 x1) λw=>st w (a.add 2) (.slice a2 n2 c2) λw=>st w (a.add 3) (.slice a3 n3 c3) λw=>K w
abbrev kU(x0:Int)(a1:OA)(n1 c1:Nat):Array Value := #[.int .i64 x0,.slice a1 n1 c1]
abbrev jh(x0:Int)(a1:OA)(n1 c1:Nat):Value := .agg (kU x0 a1 n1 c1)
abbrev jF(w:World)(a:Addr)(K:Int->OA->Nat->Nat->Prop):Prop:=cI w (a.add 0) .i64 λx0=>cL w (a.add 1) λa1 n1 c1=>K x0 a1 n1 c1
abbrev y8(w:World)(a:Addr)(x0:Int)(a1:OA)(n1 c1:Nat)(K:zg6):Prop:=st w (a.add 0) (.int .i64 x0) λw=>st w (a.add 1) (.slice a1 n1 c1) λw=>K w
abbrev qx(x0 x1 x2:Int)(x3:Nat)(a4:OA)(n4 c4:Nat)(x5 x6 x7:Int):Array Value := #[.int .u8 x0,.int .i64 x1,.int .i64 x2,.float .f64 x3,.slice a4 n4 c4,.int .u8 x5,.int .i64 x6,.int .i64 x7]
abbrev Iz(x0 x1 x2:Int)(x3:Nat)(a4:OA)(n4 c4:Nat)(x5 x6 x7:Int):Value := .agg (qx x0 x1 x2 x3 a4 n4 c4 x5 x6 x7)
abbrev oh(w:World)(a:Addr)(K:Int->Int->Int->Nat->OA->Nat->Nat->Int->Int->Int->Prop):Prop:=cI w (a.add 0) .u8 λx0=>cI w (a.add 1) .i64 λx1=>cI w (a.add 2) .i64 λx2=>cF w (a.add 3) .f64 λx3=>cL w (a.add 4) λa4 n4 c4=>cI w (a.add 5) .u8 λx5=>cI w (a.add 6) .i64 λx6=>cI w (a.add 7) .i64 λx7=>K x0 x1 x2 x3 a4 n4 c4 x5 x6 x7
abbrev xW(w:World)(a:Addr)(x0 x1 x2:Int)(x3:Nat)(a4:OA)(n4 c4:Nat)(x5 x6 x7:Int)(K:zg6):Prop:=st w (a.add 0) (.int .u8 x0) λw=>st w (a.add 1) (.int .i64 x1) λw=>st w (a.add 2) (.int .i64 x2) λw=>st w (a.add 3) (.float .f64 x3) λw=>st w (a.add 4) (.slice a4 n4 c4) λw=>st w (a.add 5) (.int .u8 x5) λw=>st w (a.add 6) (.int .i64 x6) λw=>st w (a.add 7) (.int .i64 x7) λw=>K w
abbrev L6(x0 x1:Int):Array Value := #[.int .i64 x0,.int .i64 x1]
abbrev Xd(w:World)(a:Addr)(K:Int->Int->Prop):Prop:=cI w (a.add 0) .i64 λx0=>cI w (a.add 1) .i64 λx1=>K x0 x1
abbrev Yu(w:World)(a:Addr)(x0 x1:Int)(K:zg6):Prop:=st w (a.add 0) (.int .i64 x0) λw=>st w (a.add 1) (.int .i64 x1) λw=>K w
abbrev nD(x0:Int)(a1:OA)(n1 c1:Nat)(a2:OA)(n2 c2:Nat)(a3:OA)(n3 c3:Nat)(a4:OA)(n4 c4:Nat):Array Value := #[.int .i64 x0,.slice a1 n1 c1,.slice a2 n2 c2,.slice a3 n3 c3,.slice a4 n4 c4]
abbrev AX(x0:Int)(a1:OA)(n1 c1:Nat)(a2:OA)(n2 c2:Nat)(a3:OA)(n3 c3:Nat)(a4:OA)(n4 c4:Nat):Value := .agg (nD x0 a1 n1 c1 a2 n2 c2 a3 n3 c3 a4 n4 c4)
abbrev EH(w:World)(a:Addr)(K:Int->OA->Nat->Nat->OA->Nat->Nat->OA->Nat->Nat->OA->Nat->Nat->Prop):Prop:=cI w (a.add 0) .i64 λx0=>cL w (a.add 1) λa1 n1 c1=>cL w (a.add 2) λa2 n2 c2=>cL w (a.add 3) λa3 n3 c3=>cL w (a.add 4) λa4 n4 c4=>K x0 a1 n1 c1 a2 n2 c2 a3 n3 c3 a4 n4 c4
abbrev Nh(w:World)(a:Addr)(x0:Int)(a1:OA)(n1 c1:Nat)(a2:OA)(n2 c2:Nat)(a3:OA)(n3 c3:Nat)(a4:OA)(n4 c4:Nat)(K:zg6):Prop:=st w (a.add 0) (.int .i64 x0) λw=>st w (a.add 1) (.slice a1 n1 c1) λw=>st w (a.add 2) (.slice a2 n2 c2) λw=>st w (a.add 3) (.slice a3 n3 c3) λw=>st w (a.add 4) (.slice a4 n4 c4) λw=>K w
abbrev uf(x0:Int)(a1:OA)(n1 c1:Nat)(a2:OA)(n2 c2:Nat)(a3:OA)(n3 c3:Nat):Array Value := #[.int .i64 x0,.slice a1 n1 c1,.slice a2 n2 c2,.slice a3 n3 c3]
abbrev D6(x0:Int)(a1:OA)(n1 c1:Nat)(a2:OA)(n2 c2:Nat)(a3:OA)(n3 c3:Nat):Value := .agg (uf x0 a1 n1 c1 a2 n2 c2 a3 n3 c3)
abbrev rU(w:World)(a:Addr)(K:Int->OA->Nat->Nat->OA->Nat->Nat->OA->Nat->Nat->Prop):Prop:=cI w (a.add 0) .i64 λx0=>cL w (a.add 1) λa1 n1 c1=>cL w (a.add 2) λa2 n2 c2=>cL w (a.add 3) λa3 n3 c3=>K x0 a1 n1 c1 a2 n2 c2 a3 n3 c3
abbrev Es(w:World)(a:Addr)(x0:Int)(a1:OA)(n1 c1:Nat)(a2:OA)(n2 c2:Nat)(a3:OA)(n3 c3:Nat)(K:zg6):Prop:=st w (a.add 0) (.int .i64 x0) λw=>st w (a.add 1) (.slice a1 n1 c1) λw=>st w (a.add 2) (.slice a2 n2 c2) λw=>st w (a.add 3) (.slice a3 n3 c3) λw=>K w
abbrev oG(x0:Nat)(a1:OA)(n1 c1:Nat)(x2 x3 x4:Int):Array Value := #[.float .f64 x0,.slice a1 n1 c1,.int .i64 x2,.int .i64 x3,.int .i64 x4]
abbrev qZ(x0:Nat)(a1:OA)(n1 c1:Nat)(x2 x3 x4:Int):Value := .agg (oG x0 a1 n1 c1 x2 x3 x4)
abbrev nK(w:World)(a:Addr)(K:Nat->OA->Nat->Nat->Int->Int->Int->Prop):Prop:=cF w (a.add 0) .f64 λx0=>cL w (a.add 1) λa1 n1 c1=>cI w (a.add 2) .i64 λx2=>cI w (a.add 3) .i64 λx3=>cI w (a.add 4) .i64 λx4=>K x0 a1 n1 c1 x2 x3 x4
abbrev xZ(w:World)(a:Addr)(x0:Nat)(a1:OA)(n1 c1:Nat)(x2 x3 x4:Int)(K:zg6):Prop:=st w (a.add 0) (.float .f64 x0) λw=>st w (a.add 1) (.slice a1 n1 c1) λw=>st w (a.add 2) (.int .i64 x2) λw=>st w (a.add 3) (.int .i64 x3) λw=>st w (a.add 4) (.int .i64 x4) λw=>K w
abbrev Yx(x0 x1 x2 x3:Int):Array Value := #[.int .i64 x0,.int .i64 x1,.int .i64 x2,.int .i64 x3]
abbrev Lj(x0 x1 x2 x3:Int):Value := .agg (Yx x0 x1 x2 x3)
abbrev mJ(x0 x1 x2:Int)(x3:Nat)(a4:OA)(n4 c4:Nat)(x5 x6 x7 x8 x9:Int):Array Value := #[.int .u8 x0,.int .i64 x1,.int .i64 x2,.float .f64 x3,.slice a4 n4 c4,.int .u8 x5,.int .i64 x6,.int .i64 x7,.int .i64 x8,.int .i64 x9]
abbrev Ae(x0 x1 x2:Int)(x3:Nat)(a4:OA)(n4 c4:Nat)(x5 x6 x7 x8 x9:Int):Value := .agg (mJ x0 x1 x2 x3 a4 n4 c4 x5 x6 x7 x8 x9)
abbrev mf(w:World)(a:Addr)(K:Int->Int->Int->Nat->OA->Nat->Nat->Int->Int->Int->Int->Int->Prop):Prop:=cI w (a.add 0) .u8 λx0=>cI w (a.add 1) .i64 λx1=>cI w (a.add 2) .i64 λx2=>cF w (a.add 3) .f64 λx3=>cL w (a.add 4) λa4 n4 c4=>cI w (a.add 5) .u8 λx5=>cI w (a.add 6) .i64 λx6=>cI w (a.add 7) .i64 λx7=>cI w (a.add 8) .i64 λx8=>cI w (a.add 9) .i64 λx9=>K x0 x1 x2 x3 a4 n4 c4 x5 x6 x7 x8 x9
abbrev ug(w:World)(a:Addr)(x0 x1 x2:Int)(x3:Nat)(a4:OA)(n4 c4:Nat)(x5 x6 x7 x8 x9:Int)(K:zg6):Prop:=st w (a.add 0) (.int .u8 x0) λw=>st w (a.add 1) (.int .i64 x1) λw=>st w (a.add 2) (.int .i64 x2) λw=>st w (a.add 3) (.float .f64 x3) λw=>st w (a.add 4) (.slice a4 n4 c4) λw=>st w (a.add 5) (.int .u8 x5) λw=>st w (a.add 6) (.int .i64 x6) λw=>st w (a.add 7) (.int .i64 x7) λw=>st w (a.add 8) (.int .i64 x8) λw=>st w (a.add 9) (.int .i64 x9) λw=>K w
abbrev Gs(x0 x1 x2:Int):Array Value := #[.int .i64 x0,.int .i64 x1,.int .i64 x2]
abbrev VO(w:World)(a:Addr)(K:Int->Int->Int->Prop):Prop:=cI w (a.add 0) .i64 λx0=>cI w (a.add 1) .i64 λx1=>cI w (a.add 2) .i64 λx2=>K x0 x1 x2
abbrev VC(w:World)(a:Addr)(x0 x1 x2:Int)(K:zg6):Prop:=st w (a.add 0) (.int .i64 x0) λw=>st w (a.add 1) (.int .i64 x1) λw=>st w (a.add 2) (.int .i64 x2) λw=>K w
end Go.Mir
set_option maxRecDepth 100000
namespace Go.Mir
open Go Go.E Go.RowKit
abbrev Q2q(w:World)(x0 x1:Int)(K:zg6):Prop:=nw (w.alloc (.cells (L6 0 0) 61)) λu=>Yu u (na w) x0 x1 K
abbrev Q3q(w:World)(x0 x1:Int)(a2:OA)(n2 c2:Nat)(a3:OA)(n3 c3:Nat)(K:zg6):Prop:=nw (w.alloc (.cells (mr 0 0 none 0 0 none 0 0) 31)) λu=>xQ u (na w) x0 x1 a2 n2 c2 a3 n3 c3 K
abbrev Q4q(w:World)(x0:Int)(a1:OA)(n1 c1:Nat)(a2:OA)(n2 c2:Nat)(a3:OA)(n3 c3:Nat)(K:zg6):Prop:=nw (w.alloc (.cells (uf 0 none 0 0 none 0 0 none 0 0) 74)) λu=>Es u (na w) x0 a1 n1 c1 a2 n2 c2 a3 n3 c3 K
abbrev Q5q(w:World)(x0:Int)(a1:OA)(n1 c1:Nat)(a2:OA)(n2 c2:Nat)(a3:OA)(n3 c3:Nat)(a4:OA)(n4 c4:Nat)(K:zg6):Prop:=nw (w.alloc (.cells (nD 0 none 0 0 none 0 0 none 0 0 none 0 0) 66)) λu=>Nh u (na w) x0 a1 n1 c1 a2 n2 c2 a3 n3 c3 a4 n4 c4 K
abbrev Q6q(w:World)(x0:ByteArray)(a1:OA)(n1 c1:Nat)(x2:Int)(a3:OA)(n3 c3:Nat)(a4:OA)(n4 c4:Nat)(K:zg6):Prop:=nw (w.alloc (.cells (wO ⟨#[]⟩ none 0 0 0 none 0 0 none 0 0) 26)) λu=>ZK u (na w) x0 a1 n1 c1 x2 a3 n3 c3 a4 n4 c4 K
abbrev Q7q(w:World)(x0 x1 x2:Int)(x3:Nat)(a4:OA)(n4 c4:Nat)(x5 x6 x7:Int)(K:zg6):Prop:=nw (w.alloc (.cells (qx 0 0 0 0 none 0 0 0 0 0) 56)) λu=>xW u (na w) x0 x1 x2 x3 a4 n4 c4 x5 x6 x7 K
abbrev Q8q(w:World)(x0:Int)(a1:OA)(n1 c1:Nat)(K:zg6):Prop:=nw (w.alloc (.cells (kU 0 none 0 0) 50)) λu=>y8 u (na w) x0 a1 n1 c1 K
abbrev Q9q(w:World)(x0:Nat)(a1:OA)(n1 c1:Nat)(x2 x3 x4:Int)(K:zg6):Prop:=nw (w.alloc (.cells (oG 0 none 0 0 0 0 0) 76)) λu=>xZ u (na w) x0 a1 n1 c1 x2 x3 x4 K
abbrev Qaq(w:World)(x0 x1 x2:Int)(K:zg6):Prop:=nw (w.alloc (.cells (Gs 0 0 0) 123)) λu=>VC u (na w) x0 x1 x2 K
abbrev Qbq(w:World)(x0 x1 x2:Int)(x3:Nat)(a4:OA)(n4 c4:Nat)(x5 x6 x7 x8 x9:Int)(K:zg6):Prop:=nw (w.alloc (.cells (mJ 0 0 0 0 none 0 0 0 0 0 0 0) 127)) λu=>ug u (na w) x0 x1 x2 x3 a4 n4 c4 x5 x6 x7 x8 x9 K
abbrev Qcq(w:World)(x0 x1 x2:Int)(K:zg6):Prop:=nw (w.alloc (.cells (Gs 0 0 0) 135)) λu=>VC u (na w) x0 x1 x2 K
abbrev Qdq(w:World)(x0 x1 x2:Int)(x3:Nat)(a4:OA)(n4 c4:Nat)(x5 x6 x7 x8 x9:Int)(K:zg6):Prop:=nw (w.alloc (.cells (mJ 0 0 0 0 none 0 0 0 0 0 0 0) 115)) λu=>ug u (na w) x0 x1 x2 x3 a4 n4 c4 x5 x6 x7 x8 x9 K
abbrev Qeq(w:World)(x0 x1:Int)(K:zg6):Prop:=nw (w.alloc (.cells (L6 0 0) 166)) λu=>Yu u (na w) x0 x1 K
abbrev Q1q(T:Nat)(a:OA)(n c:Nat)(s:Addr)(m:Nat)(w:World)(K:OA->Nat->Nat->zg6):Prop:=dC prog (Builtin.append_ #[T,T] T #[.slice a n c,.slice (some s) m m]) w λv u=>∃x y z,v=.slice x y z/\K x y z u
abbrev Q0q(x:Int)(K:Int->Prop):Prop:=nv (IntKind.i64.wrap x) K
namespace fA
def an:An:=(aR (aR (aR (.mk none (aR (aL (.mk (some [1,2,4,7,19,20,21]) .nil .nil))) (aR (aR (aL (aR (aL (.mk (some [2,4,10,63,64,65]) .nil .nil))))))))))
def qf(R:VP):QT:=fin prog f7 R
def C:=cdN prog f7 an
abbrev T18:=OA->Nat->Nat->OA->OA->Int->OA->Nat->Nat->Int->Int->World->Prop
abbrev T53:=OA->OA->OA->OA->Nat->Nat->Int->Int->World->Prop
def g0(R:VP)(e18:T18)(a:ByteArray)(b:OA)(c d:Nat)(e:Int)(f:OA)(g h:Nat)(i:OA)(j k:Nat)(l:OA)(m n:Nat)(o:World):Prop:=nw (o.alloc (.cells (wO a b c d e f g h i j k) 26)) λa=>nw (a.alloc (.cells (mr 0 0 none 0 0 none 0 0) 31)) λb=>U6 b (na o) λc d e f g h i j k p q=>CA 23 #[yl c d e f g h i j k p q] b λb c=>∃d,b=.int .i64 d/\(af (d != 0) (xQ c (na a) 0 0 none 0 0 none 0 0 λb=>mV b (na a) λe f g h i j k p=>R (.tuple #[kE e f g h i j k p,.int .i64 d]) b) (e18 l m n (some (na o)) (some (na a)) 0 l m n (m:Int) 0 c))
def g18(R:VP)(b18:T18)(e53:T53)(a:OA)(b c:Nat)(d e:OA)(f:Int)(g:OA)(h i:Nat)(j k:Int)(l:World):Prop:=af (decide (k<j)) (ix g h k λm=>Xd l (m.add (k.toNat*2)) λm n=>Q2q l m n λm=>cI m ((na l).add 0) .i64 λn=>af (n != f) (aV e λn=>xQ m n 0 0 none 0 0 none 0 0 λn=>aV e λo=>mV n o λo p q r s t u v=>R (.tuple #[kE o p q r s t u v,.int .i64 6]) n) (cI m ((na l).add 1) .i64 λn=>cI m ((na l).add 0) .i64 λo=>af (decide (n<=o)) (aV e λn=>xQ m n 0 0 none 0 0 none 0 0 λn=>aV e λo=>mV n o λo p q r s t u v=>R (.tuple #[kE o p q r s t u v,.int .i64 6]) n) (cI m ((na l).add 1) .i64 λn=>aV d λo=>cL m (o.add 4) λo o p=>af (decide (n>(o:Int))) (aV e λn=>xQ m n 0 0 none 0 0 none 0 0 λn=>aV e λo=>mV n o λo p q r s t u v=>R (.tuple #[kE o p q r s t u v,.int .i64 6]) n) (cI m ((na l).add 1) .i64 λn=>inc k λk=>b18 a b c d e n g h i j k m)))) (aV d λg=>cL l (g.add 4) λg g h=>af (f != (g:Int)) (aV e λf=>xQ l f 0 0 none 0 0 none 0 0 λf=>aV e λg=>mV f g λg h i j k m n o=>R (.tuple #[kE g h i j k m n o,.int .i64 6]) f) (∃f:Nat->Value->World->Prop,KpF f/\(aV d λg=>cL l (g.add 1) λg g h=>aV d λh=>cI l (h.add 2) .i64 λh=>aV d λi=>cL l (i.add 3) λi j k=>(∀m:World,Below l.heap.size l m->CA 24 #[.slice i j k] m λi j=>∃k n o,i=.slice k n o/\f 7 (.slice k n o) j/\Below m.heap.size m j)/\(∀i:Option Addr,∀j:Nat,∀k:Nat,(∃m,Below l.heap.size l m/\f 7 (.slice i j k) m)->(∀m:World,Below l.heap.size l m->f 9 (.pointer (some (na m))) (m.alloc (.cells (mr 0 0 none 0 0 none 0 0) 31)))/\(∀m:Addr,(∃n,Below l.heap.size l n/\f 9 (.pointer (some m)) n)->∀n:World,Below l.heap.size l n->f 7 (.slice i j k) n->f 9 (.pointer (some m)) n->xQ n m (g:Int) h i j k none 0 0 λf=>e53 d e (some m) a b c (b:Int) 0 f)))))
def g53(R:VP)(b53:T53)(a b c d:OA)(e f:Nat)(g h:Int)(i:World):Prop:=af (decide (h<g)) (ix d e h λj=>Xd i (j.add (h.toNat*2)) λj k=>Q2q i j k λj=>∃k:Nat->Value->World->Prop,KpF k/\(aV c λl=>cL j (l.add 3) λl m n=>aV a λo=>cL j (o.add 4) λo p p=>cI j ((na i).add 0) .i64 λq=>cI j ((na i).add 1) .i64 λr=>chk ((0:Int)<=r/\r<=(p:Int)) (chk ((0:Int)<=q/\q<=(r.toNat:Int)) (cI j ((na i).add 0) .i64 λs=>aV c λt=>cI j (t.add 0) .i64 λt=>(∀u:World,Below j.heap.size j u->CA 25 #[.slice (slA o p q.toNat 2) (r.toNat - q.toNat) (p - q.toNat),.int .i64 s,.int .i64 t] u λo p=>∃q r s t v w x y z A B C D,o=AX q r s t v w x y z A B C D/\k 13 (AX q r s t v w x y z A B C D) p/\Below u.heap.size u p)/\(∀o:Int,∀p:Option Addr,∀q:Nat,∀r:Nat,∀s:Option Addr,∀t:Nat,∀u:Nat,∀v:Option Addr,∀w:Nat,∀x:Nat,∀y:Option Addr,∀z:Nat,∀A:Nat,(∃B,Below j.heap.size j B/\k 13 (AX o p q r s t u v w x y z A) B)->(∀B:World,Below j.heap.size j B->k 13 (AX o p q r s t u v w x y z A) B->k 14 (.slice (some (na B)) 1 1) (B.alloc (.cells (nD o p q r s t u v w x y z A) 66)))/\(∀B:Addr,(∃C,Below j.heap.size j C/\k 14 (.slice (some B) 1 1) C)->∀C:World,Below j.heap.size j C->k 13 (AX o p q r s t u v w x y z A) C->k 14 (.slice (some B) 1 1) C->Q1q 29 l m n B 1 C λl m n k=>(aV c λj=>st k ((j.add 3).add 0) (.slice l m n) λj=>inc h λh=>b53 a b c d e f g h j))))))) (aV c λa=>mV i a λa c d e f g h j=>aV b λk=>xQ i k a c d e f g h j λa=>aV b λb=>mV a b λb c d e f g h i=>R (.tuple #[kE b c d e f g h i,.int .i64 0]) a)
def q18(R:VP):QT:=(Exit.inBlock 0 (qS none (C [1,1,1,1]) (qf R)))
@[irreducible] def l18(R:VP)(k:Nat):T18:=λa b c d e f g h i j l w=>bg [1,2,4,7,19,20,21] (C [1,1,1,0,1,0,0]) (q18 R) k (fr (U 1 (.slice a b c::(.pointer d::U 1 (.pointer e::U 2 (.int .i64 f::U 11 (.slice g h i::(.int .i64 j::(.int .i64 l::U 66 []))))))))) w
def e18(R:VP):T18:=λa b c d e f g h i j l w=>∃k,l18 R k a b c d e f g h i j l w
def q53(R:VP):QT:=(Exit.inBlock 2 (qS none (C [1,1,1,1,1,1,1]) (qf R)))
@[irreducible] def l53(R:VP)(k:Nat):T53:=λa b c d e f g h w=>bg [2,4,10,63,64,65] (C [1,1,1,1,1,1,0,1,0,0]) (q53 R) k (fr (U 2 (.pointer a::U 1 (.pointer b::U 5 (.pointer c::U 52 (.slice d e f::(.int .i64 g::(.int .i64 h::U 22 [])))))))) w
def e53(R:VP):T53:=λa b c d e f g h w=>∃k,l53 R k a b c d e f g h w
theorem u53(R k a b c d e f g h w):l53 R (k+1) a b c d e f g h w=g53 R (l53 R k) a b c d e f g h w:=ju
theorem u18(R k a b c d e f g h i j l w):l18 R (k+1) a b c d e f g h i j l w=g18 R (l18 R k) (e53 R) a b c d e f g h i j l w:=ju
end fA
def fA(R:VP):=fA.g0 R (fA.e18 R)
theorem fA.calls{R a b c d e f g h i j l m n o w}(k:fA R a b c d e f g h i j l m n o w):CA 7 #[yl a b c d e f g h i j l,.slice m n o] w R:=cal (n:=fA.an) func7 rfl k
namespace dw
def an:An:=(aR (aR (aR (aR (aR (aL (aR (aL (.mk (some [2,4,7,35,36,37]) .nil .nil)))))))))
def qf(R:VP):QT:=fin prog f8 R
def C:=cdN prog f8 an
abbrev T28:=OA->OA->OA->OA->Nat->Nat->Int->Int->World->Prop
def g0(R:VP)(e28:T28)(a:ByteArray)(b:OA)(c d:Nat)(e:Int)(f:OA)(g h:Nat)(i:OA)(j k:Nat)(l:OA)(m n:Nat)(o:World):Prop:=nw (o.alloc (.cells (wO a b c d e f g h i j k) 26)) λa=>nw (a.alloc (.cells (mr 0 0 none 0 0 none 0 0) 31)) λb=>U6 b (na o) λc d e f g h i j k p q=>CA 26 #[yl c d e f g h i j k p q] b λb c=>∃d,b=.int .i64 d/\(af (d != 0) (xQ c (na a) 0 0 none 0 0 none 0 0 λb=>mV b (na a) λe f g h i j k p=>R (.tuple #[kE e f g h i j k p,.int .i64 d]) b) (cL c ((na o).add 4) λb b d=>CA 27 #[.slice l m n,.int .i64 (b:Int)] c λb c=>∃d,b=.bool d/\(af (!d) (xQ c (na a) 0 0 none 0 0 none 0 0 λb=>mV b (na a) λd e f g h i j k=>R (.tuple #[kE d e f g h i j k,.int .i64 6]) b) (cL c ((na o).add 1) λb b d=>cI c ((na o).add 2) .i64 λd=>Q3q c (b:Int) d none 0 0 none 0 0 λb=>cL b ((na c).add 2) λd e f=>cL b ((na o).add 3) λg h i=>dC prog (Builtin.append_ #[23,23] 23 #[.slice d e f,.slice g h i]) b λb d=>∃e f g,b=.slice e f g/\(st d (((na c).add 2).add 0) (.slice e f g) λb=>e28 (some (na o)) (some (na a)) (some (na c)) l m n (m:Int) 0 b)))))
def g28(R:VP)(b28:T28)(a b c d:OA)(e f:Nat)(g h:Int)(i:World):Prop:=af (decide (h<g)) (ix d e h λj=>Xd i (j.add (h.toNat*2)) λj k=>Q2q i j k λj=>∃k:Nat->Value->World->Prop,KpF k/\(aV c λl=>cL j (l.add 3) λl m n=>aV a λo=>cL j (o.add 4) λo p p=>cI j ((na i).add 0) .i64 λq=>cI j ((na i).add 1) .i64 λr=>chk ((0:Int)<=r/\r<=(p:Int)) (chk ((0:Int)<=q/\q<=(r.toNat:Int)) (cI j ((na i).add 0) .i64 λs=>aV a λt=>cL j (t.add 1) λt t u=>(∀u:World,Below j.heap.size j u->CA 28 #[.slice (slA o p q.toNat 2) (r.toNat - q.toNat) (p - q.toNat),.int .i64 s,.int .i64 (t:Int)] u λo p=>∃q r s t v w x y z A B C D,o=AX q r s t v w x y z A B C D/\k 14 (AX q r s t v w x y z A B C D) p/\Below u.heap.size u p)/\(∀o:Int,∀p:Option Addr,∀q:Nat,∀r:Nat,∀s:Option Addr,∀t:Nat,∀u:Nat,∀v:Option Addr,∀w:Nat,∀x:Nat,∀y:Option Addr,∀z:Nat,∀A:Nat,(∃B,Below j.heap.size j B/\k 14 (AX o p q r s t u v w x y z A) B)->(∀B:World,Below j.heap.size j B->k 14 (AX o p q r s t u v w x y z A) B->k 15 (.slice (some (na B)) 1 1) (B.alloc (.cells (nD o p q r s t u v w x y z A) 66)))/\(∀B:Addr,(∃C,Below j.heap.size j C/\k 15 (.slice (some B) 1 1) C)->∀C:World,Below j.heap.size j C->k 14 (AX o p q r s t u v w x y z A) C->k 15 (.slice (some B) 1 1) C->Q1q 29 l m n B 1 C λl m n k=>(aV c λj=>st k ((j.add 3).add 0) (.slice l m n) λj=>inc h λh=>b28 a b c d e f g h j))))))) (aV c λa=>mV i a λa c d e f g h j=>aV b λk=>xQ i k a c d e f g h j λa=>aV b λb=>mV a b λb c d e f g h i=>R (.tuple #[kE b c d e f g h i,.int .i64 0]) a)
def q28(R:VP):QT:=(Exit.inBlock 0 (qS none (C [1,1,1,1,1,1]) (qf R)))
@[irreducible] def l28(R:VP)(k:Nat):T28:=λa b c d e f g h w=>bg [2,4,7,35,36,37] (C [1,1,1,1,1,0,1,0,0]) (q28 R) k (fr (U 2 (.pointer a::U 1 (.pointer b::U 2 (.pointer c::U 27 (.slice d e f::(.int .i64 g::(.int .i64 h::U 23 [])))))))) w
def e28(R:VP):T28:=λa b c d e f g h w=>∃k,l28 R k a b c d e f g h w
theorem u28(R k a b c d e f g h w):l28 R (k+1) a b c d e f g h w=g28 R (l28 R k) a b c d e f g h w:=ju
end dw
def dw(R:VP):=dw.g0 R (dw.e28 R)
theorem dw.calls{R a b c d e f g h i j l m n o w}(k:dw R a b c d e f g h i j l m n o w):CA 8 #[yl a b c d e f g h i j l,.slice m n o] w R:=cal (n:=dw.an) func8 rfl k
namespace fQ
def an:An:=An.nil
def g0(R:VP)(a:ByteArray)(b:OA)(c d:Nat)(e:Int)(f:OA)(g h:Nat)(i:OA)(j k:Nat)(l:Int)(m:World):Prop:=nw (m.alloc (.cells (wO a b c d e f g h i j k) 26)) λa=>nw (a.alloc (.cells (mr 0 0 none 0 0 none 0 0) 31)) λb=>U6 b (na m) λc d e f g h i j k n o=>CA 23 #[yl c d e f g h i j k n o] b λb c=>∃d,b=.int .i64 d/\(af (d != 0) (xQ c (na a) 0 0 none 0 0 none 0 0 λb=>mV b (na a) λe f g h i j k n=>R (.tuple #[kE e f g h i j k n,.int .i64 d]) b) (cL c ((na m).add 4) λb b d=>CA 29 #[.int .i64 (b:Int),.int .i64 l] c λb c=>∃d e f g,b=.tuple #[.slice d e f,.int .i64 g]/\(af (g != 0) (xQ c (na a) 0 0 none 0 0 none 0 0 λb=>mV b (na a) λh i j k l n o p=>R (.tuple #[kE h i j k l n o p,.int .i64 g]) b) (U6 c (na m) λb g h i j k l m n o p=>CA 7 #[yl b g h i j k l m n o p,.slice d e f] c λb c=>∃d e f g h i j k l,b=.tuple #[kE d e f g h i j k,.int .i64 l]/\(xQ c (na a) d e f g h i j k λb=>mV b (na a) λa c d e f g h i=>R (.tuple #[kE a c d e f g h i,.int .i64 l]) b)))))
end fQ
def fQ(R:VP):=fQ.g0 R
theorem fQ.calls{R a b c d e f g h i j l m w}(k:fQ R a b c d e f g h i j l m w):CA 9 #[yl a b c d e f g h i j l,.int .i64 m] w R:=cal (n:=fQ.an) func9 rfl k
namespace dP
def an:An:=An.nil
def g0(R:VP)(a:World):Prop:=CA 31 #[] a λa b=>∃c d e f g h i j k l m,a=yl c d e f g h i j k l m/\(CA 9 #[yl c d e f g h i j k l m,.int .i64 2] b λa b=>∃c d e f g h i j k,a=.tuple #[kE c d e f g h i j,.int .i64 k]/\(Q3q b c d e f g h i j λa=>af (k != 0) (R (.bool false) a) (cL a ((na b).add 3) λc c d=>af ((c:Int) != 1) (R (.bool false) a) (cL a ((na b).add 3) λc d e=>ix c d 0 λc=>cL a ((c.add 0).add 4) λc c d=>af ((c:Int) != 2) (R (.bool false) a) (cL a ((na b).add 3) λc d e=>ix c d 0 λc=>cL a ((c.add 0).add 4) λc d e=>ix c d 1 λc=>rU a (c.add 4) λc d e f g h i j k l=>Q4q a c d e f g h i j k l λc=>mV c (na b) λd e f g h i j k=>CA 15 #[kE d e f g h i j k] c λc d=>∃e f g h,c=.tuple #[.slice e f g,.int .i64 h]/\(mV d (na b) λb c g i j k l m=>CA 17 #[kE b c g i j k l m] d λb c=>∃d g,b=.tuple #[.int .i64 d,.int .i64 g]/\(∃b:Nat->Value->World->Prop,KpF b/\(cL c ((na a).add 1) λi i j=>af ((i:Int)==2) (cL c ((na a).add 1) λi j k=>ix i j 0 λi=>cI c ((i.add 0).add 2) .i64 λi=>af (i==1) (cL c ((na a).add 1) λi j k=>ix i j 0 λi=>cI c ((i.add 0).add 4) .i64 λi=>af (i==2) (cL c ((na a).add 3) λa a i=>af ((a:Int)==1) (af (h==0) (af ((f:Int)==2) (ix e f 1 λa=>jF c (a.add 2) λa e f h=>(∀i:World,Below c.heap.size c i->CA 31 #[] i λj k=>∃l m n o p q r s t u v,j=yl l m n o p q r s t u v/\b 39 (yl l m n o p q r s t u v) k/\Below i.heap.size i k)/\(∀i:ByteArray,∀j:Option Addr,∀k:Nat,∀l:Nat,∀m:Int,∀n:Option Addr,∀o:Nat,∀p:Nat,∀q:Option Addr,∀r:Nat,∀s:Nat,(∃t,Below c.heap.size c t/\b 39 (yl i j k l m n o p q r s) t)->ix q r 1 λt=>(∀u:World,Below c.heap.size c u->b 39 (yl i j k l m n o p q r s) u->jF u (t.add 2) λt v w x=>b 42 (jh t v w x) u)/\(∀t:Int,∀u:Option Addr,∀v:Nat,∀w:Nat,(∃x,Below c.heap.size c x/\b 42 (jh t u v w) x)->(∀x:World,Below c.heap.size c x->b 39 (yl i j k l m n o p q r s) x->b 42 (jh t u v w) x->CA 32 #[jh a e f h,jh t u v w] x λa e=>∃f,a=.bool f/\b 43 (.bool f) e/\Below x.heap.size x e)/\(∀a:Bool,(∃e,Below c.heap.size c e/\b 43 (.bool a) e)->af a (af (d==0) (∀d:World,Below c.heap.size c d->b 39 (yl i j k l m n o p q r s) d->b 42 (jh t u v w) d->b 43 (.bool a) d->R (.bool (g==0)) d) (∀d:World,Below c.heap.size c d->b 39 (yl i j k l m n o p q r s) d->b 42 (jh t u v w) d->b 43 (.bool a) d->R (.bool false) d)) (∀d:World,Below c.heap.size c d->b 39 (yl i j k l m n o p q r s) d->b 42 (jh t u v w) d->b 43 (.bool a) d->R (.bool false) d))))) (∀a:World,Below c.heap.size c a->R (.bool false) a)) (∀a:World,Below c.heap.size c a->R (.bool false) a)) (∀a:World,Below c.heap.size c a->R (.bool false) a)) (∀a:World,Below c.heap.size c a->R (.bool false) a)) (∀a:World,Below c.heap.size c a->R (.bool false) a)) (∀a:World,Below c.heap.size c a->R (.bool false) a)))))))))
end dP
def dP(R:VP):=dP.g0 R
theorem dP.calls{R w}(k:dP R  w):CA 11 #[] w R:=cal (n:=dP.an) func11 rfl k
namespace aO
def an:An:=(aR (aR (aL (aR (aL (.mk (some [3,39,40,41]) (aR (aR (aL (aL (aR (aR (aR (aR (aL (.mk (some [3,6,7,39,40,41,91,92]) .nil .nil)))))))))) .nil))))))
def qf(R:VP):QT:=fin prog f12 R
def C:=cdN prog f12 an
abbrev T14:=OA->OA->Nat->Nat->Int->Int->World->Prop
abbrev T38:=OA->OA->OA->OA->Nat->Nat->Int->Int->Int->Int->World->Prop
def g0(R:VP)(e14:T14)(a b:Int)(c:OA)(d e:Nat)(f:OA)(g h:Nat)(i j:Int)(k:OA)(l m:Nat)(n:OA)(o p:Nat)(q:World):Prop:=nw (q.alloc (.cells (mr a b c d e f g h) 31)) λa=>nw (a.alloc (.cells (mr i j k l m n o p) 31)) λb=>cI b ((na q).add 0) .i64 λc=>cI b ((na a).add 0) .i64 λd=>af (c != d) (R (.bool false) b) (cI b ((na q).add 1) .i64 λc=>cI b ((na a).add 1) .i64 λd=>af (c != d) (R (.bool false) b) (cL b ((na q).add 2) λc d e=>cL b ((na a).add 2) λf g h=>CA 33 #[.slice c d e,.slice f g h] b λb c=>∃d,b=.bool d/\(af (!d) (R (.bool false) c) (cL c ((na q).add 3) λb b d=>cL c ((na a).add 3) λd d e=>af ((b:Int) != d) (R (.bool false) c) (cL c ((na q).add 3) λb d e=>e14 (some (na a)) b d e (d:Int) 0 c)))))
def g14(R:VP)(e38:T38)(a b:OA)(c d:Nat)(e f:Int)(g:World):Prop:=af (decide (f<e)) (ix b c f λh=>EH g (h.add (f.toNat*5)) λh i j k l m n o p q r s t=>Q5q g h i j k l m n o p q r s t λh=>aV a λi=>cL h (i.add 3) λi j k=>ix i j f λi=>EH h (i.add (f.toNat*5)) λi j k l m n o p q r s t u=>Q5q h i j k l m n o p q r s t u λi=>cI i ((na g).add 0) .i64 λj=>cI i ((na h).add 0) .i64 λk=>af (j != k) (R (.bool false) i) (cL i ((na g).add 1) λj k l=>cL i ((na h).add 1) λm n o=>CA 34 #[.slice j k l,.slice m n o] i λi j=>∃k,i=.bool k/\(af (!k) (R (.bool false) j) (cL j ((na g).add 3) λi k l=>cL j ((na h).add 3) λm n o=>CA 34 #[.slice i k l,.slice m n o] j λi j=>∃k,i=.bool k/\(af (!k) (R (.bool false) j) (cL j ((na g).add 2) λi i k=>cL j ((na h).add 2) λk k l=>af ((i:Int) != k) (R (.bool false) j) (cL j ((na g).add 4) λi k l=>cL j ((na h).add 4) λm n o=>CA 35 #[.slice i k l,.slice m n o] j λi j=>∃k,i=.bool k/\(af (!k) (R (.bool false) j) (cL j ((na g).add 2) λi i k=>e38 a (some (na g)) (some (na h)) b c d e f (i:Int) 0 j))))))))) (R (.bool true) g)
def g38(R:VP)(b14:T14)(b38:T38)(a b c d:OA)(e f:Nat)(g h i j:Int)(k:World):Prop:=af (decide (j<i)) (aV b λl=>cL k (l.add 2) λl m n=>ix l m j λl=>cL k (l.add (j.toNat*1)) λl m n=>aV c λo=>cL k (o.add 2) λo p q=>ix o p j λo=>cL k (o.add (j.toNat*1)) λo p q=>CA 33 #[.slice l m n,.slice o p q] k λl m=>∃n,l=.bool n/\(af (!n) (R (.bool false) m) (inc j λj=>b38 a b c d e f g h i j m))) (inc h λb=>b14 a d e f g b k)
def q14(R:VP):QT:=(Exit.inBlock 0 (qS none (C [1,1,1]) (qf R)))
@[irreducible] def l14(R:VP)(k:Nat):T14:=λa b c d e f w=>bg [3,39,40,41] (C [1,1,0,1,0,0]) (q14 R) k (fr (U 3 (.pointer a::U 35 (.slice b c d::(.int .i64 e::(.int .i64 f::U 67 [])))))) w
def e14(R:VP):T14:=λa b c d e f w=>∃k,l14 R k a b c d e f w
def q38(R:VP)(k14:Nat):QT:=(Exit.inBlock 2 (Exit.inBlock 1 (qS none (C [1,1,0,1,0,0,1,1,1]) (qL [3,39,40,41] (C [1,1,0,1,0,0]) (q14 R) k14))))
def YB(R:VP)(k14 k:Nat):T38:=λa b c d e f g h i j w=>bg [3,6,7,39,40,41,91,92] (C [1,1,0,1,0,0,1,1,0,0,1,1,1,1,0,0]) (q38 R k14) k (fr (U 3 (.pointer a::U 2 (.pointer b::(.pointer c::U 31 (.slice d e f::(.int .i64 g::(.int .i64 h::U 49 (.int .i64 i::(.int .i64 j::U 16 [])))))))))) w
def a0o(R:VP)(k14:Nat):T38:=λa b c d e f g h i j w=>∃k,YB R k14 k a b c d e f g h i j w
def l38(R:VP)(b14:T14):Nat->T38
 |0=>λ_ _ _ _ _ _ _ _ _ _ _=>False
 |k+1=>g38 R b14 (l38 R b14 k)
def e38(R:VP)(b14:T14):T38:=λa b c d e f g h i j w=>∃k,l38 R b14 k a b c d e f g h i j w
theorem s38(R:VP)(k14 k:Nat):YB R k14 (k+1)=λa b c d e f g h i j w=>∀_:Nat->Value,g38 R (l14 R k14) (YB R k14 k) a b c d e f g h i j w:=by kernel_rfl
theorem a0v(R:VP)(k14:Nat)(b14:T14)(hb14:b14=l14 R k14):∀k,l38 R b14 k=YB R k14 k
 |0=>by kernel_rfl
 |k+1=>by
  rw[s38];simp only[forall_const];unfold l38;have ih:=a0v R k14 b14 hb14 k;subst hb14;rw[ih]
  all_goals rfl
theorem a18(R:VP)(k14:Nat)(b14:T14)(hb14:b14=l14 R k14):e38 R b14=a0o R k14:=by
 unfold e38 a0o;simp only[a0v R k14 b14 hb14]
theorem u14(R k a b c d e f w):l14 R (k+1) a b c d e f w=g14 R (e38 R (l14 R k)) a b c d e f w:=by rw[a18 R k _ rfl];exact ju (by kernel_rfl)
end aO
def aO(R:VP):=aO.g0 R (aO.e14 R)
theorem aO.calls{R a b c d e f g h i j l m n o p q w}(k:aO R a b c d e f g h i j l m n o p q w):CA 12 #[kE a b c d e f g h,kE i j l m n o p q] w R:=cal (n:=aO.an) func12 rfl k
namespace az
def an:An:=(aR (aR (aR (aL (aR (aL (.mk (some [2,3,24,25,26]) (aR (aR (aL (aL (aR (aR (aR (aR (.mk none (aR (aL (.mk (some [2,3,5,6,24,25,26,46,47,48]) .nil .nil))) (aL (aR (aL (.mk (some [2,3,6,24,25,26,62,63,64]) .nil .nil))))))))))))) .nil)))))))
def qf(R:VP):QT:=fin prog f14 R
def C:=cdN prog f14 an
abbrev T10:=OA->OA->OA->Nat->Nat->Int->Int->World->Prop
abbrev T31:=OA->OA->OA->OA->OA->Nat->Nat->Int->Int->OA->Nat->Nat->Int->Int->World->Prop
abbrev T50:=OA->OA->OA->OA->Nat->Nat->Int->Int->OA->Nat->Nat->Int->Int->World->Prop
def g0(R:VP)(e10:T10)(a b:Int)(c:OA)(d e:Nat)(f:OA)(g h:Nat)(i:World):Prop:=nw (i.alloc (.cells (mr a b c d e f g h) 31)) λa=>nw (a.alloc (.cells (mr 0 0 none 0 0 none 0 0) 31)) λb=>cI b ((na i).add 0) .i64 λc=>cI b ((na i).add 1) .i64 λd=>Q3q b c d none 0 0 none 0 0 λc=>cL c ((na b).add 2) λd e f=>cL c ((na i).add 2) λg h j=>dC prog (Builtin.append_ #[23,23] 23 #[.slice d e f,.slice g h j]) c λc d=>∃e f g,c=.slice e f g/\(st d (((na b).add 2).add 0) (.slice e f g) λc=>cL c ((na i).add 3) λd e f=>e10 (some (na a)) (some (na b)) d e f (e:Int) 0 c)
def g10(R:VP)(e31:T31)(a b c:OA)(d e:Nat)(f g:Int)(h:World):Prop:=af (decide (g<f)) (ix c d g λi=>EH h (i.add (g.toNat*5)) λi j k l m n o p q r s t u=>Q5q h i j k l m n o p q r s t u λi=>cI i ((na h).add 0) .i64 λj=>Q5q i j none 0 0 none 0 0 none 0 0 none 0 0 λj=>cL j ((na i).add 1) λk l m=>cL j ((na h).add 1) λn o p=>dC prog (Builtin.append_ #[53,53] 53 #[.slice k l m,.slice n o p]) j λj k=>∃l m n,j=.slice l m n/\(st k (((na i).add 1).add 0) (.slice l m n) λj=>cL j ((na i).add 3) λk l m=>cL j ((na h).add 3) λn o p=>dC prog (Builtin.append_ #[53,53] 53 #[.slice k l m,.slice n o p]) j λj k=>∃l m n,j=.slice l m n/\(st k (((na i).add 3).add 0) (.slice l m n) λj=>cL j ((na h).add 2) λk l m=>e31 a b (some (na h)) (some (na i)) c d e f g k l m (l:Int) 0 j))) (aV b λb=>mV h b λb c d e f g i j=>aV a λk=>xQ h k b c d e f g i j λb=>aV a λa=>mV b a λa c d e f g h i=>R (kE a c d e f g h i) b)
def g31(R:VP)(b31:T31)(e50:T50)(a b c d e:OA)(f g:Nat)(h i:Int)(j:OA)(k l:Nat)(m n:Int)(o:World):Prop:=af (decide (n<m)) (ix j k n λp=>cL o (p.add (n.toNat*1)) λp q r=>∃s:World,CK s o/\(aV d λt=>cL s (t.add 2) λt u v=>dC prog (Builtin.append_ #[23,23] 23 #[.slice none 0 0,.slice p q r]) o λp q=>∃r w x,p=.slice r w x/\(CK s q/\(nw (q.alloc (.cells #[.slice r w x] 23)) λp=>CK s p/\(Q1q 63 t u v (na q) 1 p λr t u q=>(CK s q/\(aV d λp=>st q ((p.add 2).add 0) (.slice r t u) λp=>inc n λn=>b31 a b c d e f g h i j k l m n p))))))) (aV c λc=>cL o (c.add 4) λc j k=>e50 a b d e f g h i c j k (j:Int) 0 o)
def g50(R:VP)(b10:T10)(b50:T50)(a b c d:OA)(e f:Nat)(g h:Int)(i:OA)(j k:Nat)(l m:Int)(n:World):Prop:=af (decide (m<l)) (ix i j m λo=>rU n (o.add (m.toNat*4)) λo p q r s t u v w x=>Q4q n o p q r s t u v w x λo=>∃p:Nat->Value->World->Prop,KpF p/\(aV c λq=>cL o (q.add 4) λq r s=>cI o ((na n).add 0) .i64 λt=>cL o ((na n).add 1) λu v w=>(∀x:World,Below o.heap.size o x->CA 37 #[.slice u v w] x λu v=>∃w y z,u=.slice w y z/\p 6 (.slice w y z) v/\Below x.heap.size x v)/\(∀u:Option Addr,∀v:Nat,∀w:Nat,(∃x,Below o.heap.size o x/\p 6 (.slice u v w) x)->cL o ((na n).add 2) λx y z=>(∀A:World,Below o.heap.size o A->p 6 (.slice u v w) A->CA 37 #[.slice x y z] A λx y=>∃z B C,x=.slice z B C/\p 9 (.slice z B C) y/\Below A.heap.size A y)/\(∀x:Option Addr,∀y:Nat,∀z:Nat,(∃A,Below o.heap.size o A/\p 9 (.slice x y z) A)->cL o ((na n).add 3) λA B C=>(∀D:World,Below o.heap.size o D->p 6 (.slice u v w) D->p 9 (.slice x y z) D->CA 37 #[.slice A B C] D λA B=>∃C E F,A=.slice C E F/\p 12 (.slice C E F) B/\Below D.heap.size D B)/\(∀A:Option Addr,∀B:Nat,∀C:Nat,(∃D,Below o.heap.size o D/\p 12 (.slice A B C) D)->(∀D:World,Below o.heap.size o D->p 6 (.slice u v w) D->p 9 (.slice x y z) D->p 12 (.slice A B C) D->p 14 (.slice (some (na D)) 1 1) (D.alloc (.cells (uf t u v w x y z A B C) 74)))/\(∀t:Addr,(∃D,Below o.heap.size o D/\p 14 (.slice (some t) 1 1) D)->∀D:World,Below o.heap.size o D->p 6 (.slice u v w) D->p 9 (.slice x y z) D->p 12 (.slice A B C) D->p 14 (.slice (some t) 1 1) D->Q1q 64 q r s t 1 D λq r s p=>(aV c λo=>st p ((o.add 4).add 0) (.slice q r s) λo=>inc m λm=>b50 a b c d e f g h i j k l m o))))))) (aV b λi=>cL n (i.add 3) λi j k=>aV c λc=>EH n c λc l m o p q r s t u v w x=>nw (n.alloc (.cells (nD c l m o p q r s t u v w x) 66)) λc=>Q1q 29 i j k (na n) 1 c λj k l i=>(aV b λc=>st i ((c.add 3).add 0) (.slice j k l) λc=>inc h λh=>b10 a b d e f g h c))
def q10(R:VP):QT:=(Exit.inBlock 0 (qS none (C [1,1,1,1]) (qf R)))
@[irreducible] def l10(R:VP)(k:Nat):T10:=λa b c d e f g w=>bg [2,3,24,25,26] (C [1,1,1,0,1,0,0]) (q10 R) k (fr (U 2 (.pointer a::(.pointer b::U 20 (.slice c d e::(.int .i64 f::(.int .i64 g::U 67 []))))))) w
def e10(R:VP):T10:=λa b c d e f g w=>∃k,l10 R k a b c d e f g w
def q31(R:VP)(k10:Nat):QT:=(Exit.inBlock 2 (qS none (C [1,1,1,0,1,0,0,1,1,0,0,1,1,1,1,1]) (Exit.inBlock 1 (qS none (C [1,1,1,0,1,0,0,1,1,1]) (qL [2,3,24,25,26] (C [1,1,1,0,1,0,0]) (q10 R) k10)))))
def YN(R:VP)(k10 k:Nat):T31:=λa b c d e f g h i j l m n o w=>bg [2,3,5,6,24,25,26,46,47,48] (C [1,1,1,0,1,0,0,1,1,0,0,1,1,1,1,0,1,0,0]) (q31 R k10) k (fr (U 2 (.pointer a::(.pointer b::U 1 (.pointer c::(.pointer d::U 17 (.slice e f g::(.int .i64 h::(.int .i64 i::U 19 (.slice j l m::(.int .i64 n::(.int .i64 o::U 45 [])))))))))))) w
def a0j(R:VP)(k10:Nat):T31:=λa b c d e f g h i j l m n o w=>∃k,YN R k10 k a b c d e f g h i j l m n o w
def q50(R:VP)(k10:Nat):QT:=(Exit.inBlock 4 (qS none (C [1,1,1,0,1,0,0,1,1,0,0,1,1,1,1,1,1]) (Exit.inBlock 1 (qS none (C [1,1,1,0,1,0,0,1,1,1]) (qL [2,3,24,25,26] (C [1,1,1,0,1,0,0]) (q10 R) k10)))))
def I8(R:VP)(k10 k:Nat):T50:=λa b c d e f g h i j l m n w=>bg [2,3,6,24,25,26,62,63,64] (C [1,1,1,0,1,0,0,1,1,0,0,1,1,1,1,1,0,1,0,0]) (q50 R k10) k (fr (U 2 (.pointer a::(.pointer b::U 2 (.pointer c::U 17 (.slice d e f::(.int .i64 g::(.int .i64 h::U 35 (.slice i j l::(.int .i64 m::(.int .i64 n::U 29 []))))))))))) w
def WY(R:VP)(k10:Nat):T50:=λa b c d e f g h i j l m n w=>∃k,I8 R k10 k a b c d e f g h i j l m n w
def l50(R:VP)(b10:T10):Nat->T50
 |0=>λ_ _ _ _ _ _ _ _ _ _ _ _ _ _=>False
 |k+1=>g50 R b10 (l50 R b10 k)
def e50(R:VP)(b10:T10):T50:=λa b c d e f g h i j l m n w=>∃k,l50 R b10 k a b c d e f g h i j l m n w
theorem s50(R:VP)(k10 k:Nat):I8 R k10 (k+1)=λa b c d e f g h i j l m n w=>∀_:Nat->Value,g50 R (l10 R k10) (I8 R k10 k) a b c d e f g h i j l m n w:=by kernel_rfl
theorem Yj(R:VP)(k10:Nat)(b10:T10)(hb10:b10=l10 R k10):∀k,l50 R b10 k=I8 R k10 k
 |0=>by kernel_rfl
 |k+1=>by
  rw[s50];simp only[forall_const];unfold l50;have ih:=Yj R k10 b10 hb10 k;subst hb10;rw[ih]
  all_goals rfl
theorem Zf(R:VP)(k10:Nat)(b10:T10)(hb10:b10=l10 R k10):e50 R b10=WY R k10:=by
 unfold e50 WY;simp only[Yj R k10 b10 hb10]
def l31(R:VP)(b10:T10):Nat->T31
 |0=>λ_ _ _ _ _ _ _ _ _ _ _ _ _ _ _=>False
 |k+1=>g31 R (l31 R b10 k) (e50 R b10)
def e31(R:VP)(b10:T10):T31:=λa b c d e f g h i j l m n o w=>∃k,l31 R b10 k a b c d e f g h i j l m n o w
theorem s31(R:VP)(k10 k:Nat):YN R k10 (k+1)=λa b c d e f g h i j l m n o w=>∀_:Nat->Value,g31 R (YN R k10 k) (WY R k10) a b c d e f g h i j l m n o w:=by kernel_rfl
theorem a0B(R:VP)(k10:Nat)(b10:T10)(hb10:b10=l10 R k10):∀k,l31 R b10 k=YN R k10 k
 |0=>by kernel_rfl
 |k+1=>by
  rw[s31];simp only[forall_const];unfold l31;have ih:=a0B R k10 b10 hb10 k;subst hb10;rw[Zf R k10 _ rfl];rw[ih]
  all_goals rfl
theorem eq31(R:VP)(k10:Nat)(b10:T10)(hb10:b10=l10 R k10):e31 R b10=a0j R k10:=by
 unfold e31 a0j;simp only[a0B R k10 b10 hb10]
theorem u10(R k a b c d e f g w):l10 R (k+1) a b c d e f g w=g10 R (e31 R (l10 R k)) a b c d e f g w:=by rw[eq31 R k _ rfl];exact ju (by kernel_rfl)
end az
def az(R:VP):=az.g0 R (az.e10 R)
theorem az.calls{R a b c d e f g h w}(k:az R a b c d e f g h w):CA 14 #[kE a b c d e f g h] w R:=cal (n:=az.an) func14 rfl k
namespace eU
def an:An:=(aR (aR (aR (aR (aR (aL (aR (aL (.mk (some [1,4,5,30,31,32]) .nil .nil)))))))))
def qf(R:VP):QT:=fin prog f15 R
def C:=cdN prog f15 an
abbrev T20:=OA->OA->OA->Nat->Nat->OA->Nat->Nat->Int->Int->World->Prop
def g0(R:VP)(e20:T20)(a b:Int)(c:OA)(d e:Nat)(f:OA)(g h:Nat)(i:World):Prop:=nw (i.alloc (.cells (mr a b c d e f g h) 31)) λa=>cI a ((na i).add 1) .i64 λb=>cL a ((na i).add 2) λc d e=>Q6q a ⟨#[]⟩ none 0 0 b c d e none 0 0 λb=>cI b ((na i).add 0) .i64 λc=>af (decide (c<0)) (R (.tuple #[.slice none 0 0,.int .i64 150]) b) (cI b ((na i).add 0) .i64 λc=>af (decide (c>65536)) (R (.tuple #[.slice none 0 0,.int .i64 150]) b) (cI b ((na i).add 0) .i64 λc=>chk ((0:Int)<=c/\c<=c/\((16:Nat):Int)*c<=281474976710656/\c<=9223372036854775807) (nw (b.alloc (.cells (madeCells #[.string ⟨#[]⟩] ((c).toNat*1)) 9)) λd=>st d (((na a).add 1).add 0) (.slice (some (na b)) ((c).toNat) ((c).toNat)) λb=>cL b ((na i).add 3) λc d e=>e20 (some (na i)) (some (na a)) none 0 0 c d e (d:Int) 0 b)))
def g20(R:VP)(b20:T20)(a b c:OA)(d e:Nat)(f:OA)(g h:Nat)(i j:Int)(k:World):Prop:=af (decide (j<i)) (ix f g j λl=>EH k (l.add (j.toNat*5)) λl m n o p q r s t u v w x=>Q5q k l m n o p q r s t u v w x λl=>EH l (na k) λm n o p q r s t u v w x y=>CA 38 #[AX m n o p q r s t u v w x y] l λl m=>∃n o p q,l=.tuple #[.slice n o p,.bool q]/\(af (!q) (R (.tuple #[.slice none 0 0,.int .i64 150]) m) (cI m ((na k).add 0) .i64 λl=>aV b λq=>cL m (q.add 4) λq q r=>af (l != (q:Int)) (R (.tuple #[.slice none 0 0,.int .i64 150]) m) (aV b λl=>cL m (l.add 4) λl q r=>dC prog (Builtin.append_ #[24,24] 24 #[.slice l q r,.slice n o p]) m λl m=>∃n o p,l=.slice n o p/\(aV b λl=>st m ((l.add 4).add 0) (.slice n o p) λl=>cI l ((na k).add 0) .i64 λm=>aV b λn=>cL l (n.add 4) λn n o=>nw (l.alloc (.cells (L6 m (n:Int)) 61)) λm=>Q1q 27 c d e (na l) 1 m λn o p m=>(inc j λj=>b20 a b n o p f g h i j m)))))) (aV b λf=>U6 k f λf g h i j l m n o p q=>CA 7 #[yl f g h i j l m n o p q,.slice c d e] k λc d=>∃e f g h i j k l m,c=.tuple #[kE e f g h i j k l,.int .i64 m]/\(Q3q d e f g h i j k l λc=>af (m != 0) (R (.tuple #[.slice none 0 0,.int .i64 150]) c) (mV c (na d) λd e f g h i j k=>aV a λa=>mV c a λa l m n o p q r=>CA 39 #[kE d e f g h i j k,kE a l m n o p q r] c λa c=>∃d,a=.bool d/\(af (!d) (R (.tuple #[.slice none 0 0,.int .i64 150]) c) (aV b λa=>cL c (a.add 4) λa b d=>R (.tuple #[.slice a b d,.int .i64 0]) c)))))
def q20(R:VP):QT:=(Exit.inBlock 0 (qS none (C [1,1,1,1,1,1]) (qf R)))
@[irreducible] def l20(R:VP)(k:Nat):T20:=λa b c d e f g h i j w=>bg [1,4,5,30,31,32] (C [1,1,1,1,1,0,1,0,0]) (q20 R) k (fr (U 1 (.pointer a::U 2 (.pointer b::(.slice c d e::U 24 (.slice f g h::(.int .i64 i::(.int .i64 j::U 49 [])))))))) w
def e20(R:VP):T20:=λa b c d e f g h i j w=>∃k,l20 R k a b c d e f g h i j w
theorem u20(R k a b c d e f g h i j w):l20 R (k+1) a b c d e f g h i j w=g20 R (l20 R k) a b c d e f g h i j w:=ju
end eU
def eU(R:VP):=eU.g0 R (eU.e20 R)
theorem eU.calls{R a b c d e f g h w}(k:eU R a b c d e f g h w):CA 15 #[kE a b c d e f g h] w R:=cal (n:=eU.an) func15 rfl k
namespace aN
def an:An:=(aR (aR (aR (aL (aR (aL (.mk (some [1,4,5,16,17,18]) (aR (aR (aL (aL (aR (aR (aR (aR (aL (.mk (some [1,4,5,7,16,17,18,51,52,53]) .nil .nil)))))))))) .nil)))))))
def qf(R:VP):QT:=fin prog f16 R
def C:=cdN prog f16 an
abbrev T10:=OA->OA->Nat->Nat->OA->Nat->Nat->OA->Nat->Nat->Int->Int->World->Prop
abbrev T34:=OA->OA->Nat->Nat->OA->Nat->Nat->OA->OA->Nat->Nat->Int->Int->OA->Nat->Nat->Int->Int->World->Prop
def g0(R:VP)(e10:T10)(a b:Int)(c:OA)(d e:Nat)(f:OA)(g h:Nat)(i:World):Prop:=nw (i.alloc (.cells (mr a b c d e f g h) 31)) λa=>cL a ((na i).add 3) λb c d=>e10 (some (na i)) none 0 0 none 0 0 b c d (c:Int) 0 a
def g10(R:VP)(e34:T34)(a b:OA)(c d:Nat)(e:OA)(f g:Nat)(h:OA)(i j:Nat)(k l:Int)(m:World):Prop:=af (decide (l<k)) (ix h i l λn=>EH m (n.add (l.toNat*5)) λn o p q r s t u v w x y z=>Q5q m n o p q r s t u v w x y z λn=>cL n ((na m).add 2) λo o p=>cL n ((na m).add 1) λp p q=>af ((o:Int) != p) (R (.tuple #[.slice none 0 0,.int .i64 150]) n) (cL n ((na m).add 3) λo o p=>cL n ((na m).add 1) λp p q=>af ((o:Int) != p) (R (.tuple #[.slice none 0 0,.int .i64 150]) n) (cI n ((na m).add 0) .i64 λo=>cI n ((na m).add 0) .i64 λp=>cL n ((na m).add 1) λq q r=>Q0q (p+(q:Int)) λp=>nw (n.alloc (.cells (L6 o p) 61)) λo=>Q1q 27 e f g (na n) 1 o λp q r o=>(cL o ((na m).add 1) λn s t=>e34 a b c d p q r (some (na m)) h i j k l n s t (s:Int) 0 o)))) (aV a λh=>cI m (h.add 0) .i64 λh=>af (decide (h<0)) (R (.tuple #[.slice none 0 0,.int .i64 150]) m) (aV a λh=>cI m (h.add 0) .i64 λh=>af (decide (h>65536)) (R (.tuple #[.slice none 0 0,.int .i64 150]) m) (∃h:Nat->Value->World->Prop,KpF h/\(aV a λi=>cI m (i.add 0) .i64 λi=>chk ((0:Int)<=i/\i<=i/\((16:Nat):Int)*i<=281474976710656/\i<=9223372036854775807) ((∀j:World,Below m.heap.size m j->h 2 (.slice (some (na j)) ((i).toNat) ((i).toNat)) (j.alloc (.cells (madeCells #[.string ⟨#[]⟩] ((i).toNat*1)) 9)))/\(∀(i:Addr) (j k:Nat),(∃l,Below m.heap.size m l/\h 2 (.slice (some i) j k) l)->aV a λl=>cI m (l.add 1) .i64 λl=>aV a λn=>cL m (n.add 2) λn o p=>(∀q:World,Below m.heap.size m q->h 9 (.pointer (some (na q))) (q.alloc (.cells (wO ⟨#[]⟩ none 0 0 0 none 0 0 none 0 0) 26)))/\(∀q:Addr,(∃r,Below m.heap.size m r/\h 9 (.pointer (some q)) r)->∀r:World,Below m.heap.size m r->h 2 (.slice (some i) j k) r->h 9 (.pointer (some q)) r->ZK r q ⟨#[]⟩ (some i) j k l n o p b c d λh=>U6 h q λi j k l m n o p q r s=>CA 8 #[yl i j k l m n o p q r s,.slice e f g] h λe f=>∃g h i j k l m n o,e=.tuple #[kE g h i j k l m n,.int .i64 o]/\(Q3q f g h i j k l m n λe=>af (o != 0) (R (.tuple #[.slice none 0 0,.int .i64 150]) e) (aV a λa=>mV e a λa g h i j k l m=>mV e (na f) λf n o p q r s t=>CA 12 #[kE a g h i j k l m,kE f n o p q r s t] e λa e=>∃f,a=.bool f/\(af (!f) (R (.tuple #[.slice none 0 0,.int .i64 150]) e) (R (.tuple #[.slice b c d,.int .i64 0]) e)))))))))))
def g34(R:VP)(b10:T10)(b34:T34)(a b:OA)(c d:Nat)(e:OA)(f g:Nat)(h i:OA)(j k:Nat)(l m:Int)(n:OA)(o p:Nat)(q r:Int)(s:World):Prop:=af (decide (r<q)) (ix n o r λt=>cI s (t.add (r.toNat*1)) .i64 λt=>af (decide (t<1)) (R (.tuple #[.slice none 0 0,.int .i64 150]) s) (aV h λu=>cL s (u.add 2) λu v w=>ix u v r λu=>cL s (u.add (r.toNat*1)) λu u v=>af (t != (u:Int)) (R (.tuple #[.slice none 0 0,.int .i64 150]) s) (∃t:Nat->Value->World->Prop,KpF t/\(aV h λu=>EH s u λu v w x y z A B C D E F G=>(∀H:World,Below s.heap.size s H->CA 41 #[AX u v w x y z A B C D E F G,.int .i64 r] H λu v=>∃w x y,u=.slice w x y/\t 2 (.slice w x y) v/\Below H.heap.size H v)/\(∀u:Option Addr,∀v:Nat,∀w:Nat,(∃x,Below s.heap.size s x/\t 2 (.slice u v w) x)->aV h λx=>cL s (x.add 2) λx y z=>ix x y r λx=>cL s (x.add (r.toNat*1)) λx y z=>aV h λA=>cL s (A.add 3) λA B C=>ix A B r λA=>cI s (A.add (r.toNat*1)) .i64 λA=>(∀B:World,Below s.heap.size s B->t 2 (.slice u v w) B->CA 40 #[.slice u v w,.slice x y z,.int .i64 A] B λx y=>∃z A C D E,x=.tuple #[jh z A C D,.bool E]/\t 13 (.tuple #[jh z A C D,.bool E]) y/\Below B.heap.size B y)/\(∀x:Int,∀y:Option Addr,∀z:Nat,∀A:Nat,∀B:Bool,(∃C,Below s.heap.size s C/\t 13 (.tuple #[jh x y z A,.bool B]) C)->(∀C:World,Below s.heap.size s C->t 17 (.pointer (some (na C))) (C.alloc (.cells (kU 0 none 0 0) 50)))/\(∀C:Addr,(∃D,Below s.heap.size s D/\t 17 (.pointer (some C)) D)->∀D:World,Below s.heap.size s D->t 2 (.slice u v w) D->t 13 (.tuple #[jh x y z A,.bool B]) D->t 17 (.pointer (some C)) D->y8 D C x y z A λt=>af (!B) (R (.tuple #[.slice none 0 0,.int .i64 150]) t) (jF t C λu v w x=>nw (t.alloc (.cells (kU u v w x) 50)) λu=>Q1q 24 b c d (na t) 1 u λv w x u=>(inc r λr=>b34 a v w x e f g h i j k l m n o p q r u))))))))) (inc m λh=>b10 a b c d e f g i j k l h s)
def q10(R:VP):QT:=(Exit.inBlock 0 (qS none (C [1,1,1,1]) (qf R)))
@[irreducible] def l10(R:VP)(k:Nat):T10:=λa b c d e f g h i j l m w=>bg [1,4,5,16,17,18] (C [1,1,1,0,1,0,0]) (q10 R) k (fr (U 1 (.pointer a::U 2 (.slice b c d::(.slice e f g::U 10 (.slice h i j::(.int .i64 l::(.int .i64 m::U 108 [])))))))) w
def e10(R:VP):T10:=λa b c d e f g h i j l m w=>∃k,l10 R k a b c d e f g h i j l m w
def q34(R:VP)(k10:Nat):QT:=(Exit.inBlock 2 (Exit.inBlock 1 (qS none (C [1,1,1,0,1,0,0,1,1,1]) (qL [1,4,5,16,17,18] (C [1,1,1,0,1,0,0]) (q10 R) k10))))
def xI(R:VP)(k10 k:Nat):T34:=λa b c d e f g h i j l m n o p q r s w=>bg [1,4,5,7,16,17,18,51,52,53] (C [1,1,1,0,1,0,0,1,1,0,0,1,1,1,1,0,0]) (q34 R k10) k (fr (U 1 (.pointer a::U 2 (.slice b c d::(.slice e f g::U 1 (.pointer h::U 8 (.slice i j l::(.int .i64 m::(.int .i64 n::U 32 (.slice o p q::(.int .i64 r::(.int .i64 s::U 73 [])))))))))))) w
def JY(R:VP)(k10:Nat):T34:=λa b c d e f g h i j l m n o p q r s w=>∃k,xI R k10 k a b c d e f g h i j l m n o p q r s w
def l34(R:VP)(b10:T10):Nat->T34
 |0=>λ_ _ _ _ _ _ _ _ _ _ _ _ _ _ _ _ _ _ _=>False
 |k+1=>g34 R b10 (l34 R b10 k)
def e34(R:VP)(b10:T10):T34:=λa b c d e f g h i j l m n o p q r s w=>∃k,l34 R b10 k a b c d e f g h i j l m n o p q r s w
theorem s34(R:VP)(k10 k:Nat):xI R k10 (k+1)=λa b c d e f g h i j l m n o p q r s w=>∀_:Nat->Value,g34 R (l10 R k10) (xI R k10 k) a b c d e f g h i j l m n o p q r s w:=by kernel_rfl
theorem JH(R:VP)(k10:Nat)(b10:T10)(hb10:b10=l10 R k10):∀k,l34 R b10 k=xI R k10 k
 |0=>by kernel_rfl
 |k+1=>by
  rw[s34];simp only[forall_const];unfold l34;have ih:=JH R k10 b10 hb10 k;subst hb10;rw[ih]
  all_goals rfl
theorem RU(R:VP)(k10:Nat)(b10:T10)(hb10:b10=l10 R k10):e34 R b10=JY R k10:=by
 unfold e34 JY;simp only[JH R k10 b10 hb10]
theorem u10(R k a b c d e f g h i j l m w):l10 R (k+1) a b c d e f g h i j l m w=g10 R (e34 R (l10 R k)) a b c d e f g h i j l m w:=by rw[RU R k _ rfl];exact ju (by kernel_rfl)
end aN
def aN(R:VP):=aN.g0 R (aN.e10 R)
theorem aN.calls{R a b c d e f g h w}(k:aN R a b c d e f g h w):CA 16 #[kE a b c d e f g h] w R:=cal (n:=aN.an) func16 rfl k
namespace dV
def an:An:=(aR (aR (aR (aR (aR (aL (aR (aL (.mk (some [1,6,30,31]) .nil .nil)))))))))
def qf(R:VP):QT:=fin prog f17 R
def C:=cdN prog f17 an
abbrev T30:=OA->OA->Int->Int->World->Prop
def g0(R:VP)(e30:T30)(a b:Int)(c:OA)(d e:Nat)(f:OA)(g h:Nat)(i:World):Prop:=nw (i.alloc (.cells (mr a b c d e f g h) 31)) λa=>mV a (na i) λb c d e f g h j=>CA 15 #[kE b c d e f g h j] a λa b=>∃c d e f,a=.tuple #[.slice c d e,.int .i64 f]/\(af (f==0) (R (.tuple #[.int .i64 0,.int .i64 0]) b) (mV b (na i) λa c d e f g h j=>Q3q b a c d e f g h j λa=>st a (((na b).add 3).add 0) (.slice none 0 0) λa=>mV a (na b) λc d e f g h j k=>CA 15 #[kE c d e f g h j k] a λa c=>∃d e f g,a=.tuple #[.slice d e f,.int .i64 g]/\(af (g != 0) (R (.tuple #[.int .i64 150,.int .i64 0]) c) (cL c ((na i).add 3) λa a d=>e30 (some (na i)) (some (na b)) (a:Int) 0 c))))
def g30(R:VP)(b30:T30)(a b:OA)(c d:Int)(e:World):Prop:=af (decide (d<c)) (aV a λf=>cL e (f.add 3) λf g g=>inc d λh=>chk ((0:Int)<=h/\h<=(g:Int)) (aV b λi=>st e ((i.add 3).add 0) (.slice (slA f g 0 5) h.toNat g) λf=>aV b λg=>mV f g λg h i j k l m n=>CA 15 #[kE g h i j k l m n] f λf g=>∃h i j k,f=.tuple #[.slice h i j,.int .i64 k]/\(af (k != 0) (R (.tuple #[.int .i64 150,.int .i64 d]) g) (inc d λd=>b30 a b c d g)))) (R (.tuple #[.int .i64 0,.int .i64 0]) e)
def q30(R:VP):QT:=(Exit.inBlock 0 (qS none (C [1,1,1,1,1,1]) (qf R)))
@[irreducible] def l30(R:VP)(k:Nat):T30:=λa b c d w=>bg [1,6,30,31] (C [1,1,1,1,1,0,1,0,0]) (q30 R) k (fr (U 1 (.pointer a::U 4 (.pointer b::U 23 (.int .i64 c::(.int .i64 d::U 17 [])))))) w
def e30(R:VP):T30:=λa b c d w=>∃k,l30 R k a b c d w
theorem u30(R k a b c d w):l30 R (k+1) a b c d w=g30 R (l30 R k) a b c d w:=ju
end dV
def dV(R:VP):=dV.g0 R (dV.e30 R)
theorem dV.calls{R a b c d e f g h w}(k:dV R a b c d e f g h w):CA 17 #[kE a b c d e f g h] w R:=cal (n:=dV.an) func17 rfl k
namespace aY
def an:An:=(aR (aR (aR (aL (aR (aL (.mk (some [1,6,7]) .nil .nil)))))))
def qf(R:VP):QT:=fin prog f18 R
def C:=cdN prog f18 an
abbrev T18:=OA->OA->Int->World->Prop
def g0(R:VP)(e18:T18)(a b:Int)(c:OA)(d e:Nat)(f:OA)(g h:Nat)(i:World):Prop:=nw (i.alloc (.cells (mr a b c d e f g h) 31)) λa=>mV a (na i) λb c d e f g h j=>CA 16 #[kE b c d e f g h j] a λa b=>∃c d e f,a=.tuple #[.slice c d e,.int .i64 f]/\(af (f==0) (R (.tuple #[.int .i64 0,.int .i64 0]) b) (mV b (na i) λa c d e f g h j=>Q3q b a c d e f g h j λa=>e18 (some (na i)) (some (na b)) 0 a))
def g18(R:VP)(b18:T18)(a b:OA)(c:Int)(d:World):Prop:=aV a λe=>cL d (e.add 3) λe e f=>af (decide (c<=(e:Int))) (aV a λe=>cL d (e.add 3) λe f f=>chk ((0:Int)<=c/\c<=(f:Int)) (aV b λg=>st d ((g.add 3).add 0) (.slice (slA e f 0 5) c.toNat f) λe=>aV b λf=>mV e f λf g h i j k l m=>CA 16 #[kE f g h i j k l m] e λe f=>∃g h i j,e=.tuple #[.slice g h i,.int .i64 j]/\(af (j != 0) (af (c==0) (R (.tuple #[.int .i64 150,.int .i64 0]) f) (Q0q (c - 1) λe=>R (.tuple #[.int .i64 150,.int .i64 e]) f)) (inc c λc=>b18 a b c f)))) (R (.tuple #[.int .i64 150,.int .i64 0]) d)
def q18(R:VP):QT:=(Exit.inBlock 0 (qS none (C [1,1,1,1]) (qf R)))
@[irreducible] def l18(R:VP)(k:Nat):T18:=λa b c w=>bg [1,6,7] (C [1,1,1,0,1,0,0]) (q18 R) k (fr (U 1 (.pointer a::U 4 (.pointer b::(.int .i64 c::U 33 []))))) w
def e18(R:VP):T18:=λa b c w=>∃k,l18 R k a b c w
theorem u18(R k a b c w):l18 R (k+1) a b c w=g18 R (l18 R k) a b c w:=ju
end aY
def aY(R:VP):=aY.g0 R (aY.e18 R)
theorem aY.calls{R a b c d e f g h w}(k:aY R a b c d e f g h w):CA 18 #[kE a b c d e f g h] w R:=cal (n:=aY.an) func18 rfl k
namespace bF
def an:An:=(aR (aR (aL (aR (aL (.mk (some [0,1,12,13]) .nil .nil))))))
def qf(R:VP):QT:=fin prog f19 R
def C:=cdN prog f19 an
abbrev T14:=OA->Nat->Nat->OA->Nat->Nat->Int->Int->World->Prop
def g0(R:VP)(e14:T14)(a:OA)(b c:Nat)(d:OA)(e f:Nat)(g:World):Prop:=af ((b:Int) != e) (R (.bool false) g) (e14 a b c d e f (b:Int) 0 g)
def g14(R:VP)(b14:T14)(a:OA)(b c:Nat)(d:OA)(e f:Nat)(g h:Int)(i:World):Prop:=af (decide (h<g)) (ix a b h λj=>jF i (j.add (h.toNat*2)) λj k l m=>ix d e h λn=>jF i (n.add (h.toNat*2)) λn o p q=>CA 36 #[jh j k l m,jh n o p q] i λj k=>∃l,j=.bool l/\(af (!l) (R (.bool false) k) (inc h λh=>b14 a b c d e f g h k))) (R (.bool true) i)
def q14(R:VP):QT:=(Exit.inBlock 0 (qS none (C [1,1,1]) (qf R)))
@[irreducible] def l14(R:VP)(k:Nat):T14:=λa b c d e f g h w=>bg [0,1,12,13] (C [1,1,0,1,0,0]) (q14 R) k (fr ((.slice a b c::(.slice d e f::U 10 (.int .i64 g::(.int .i64 h::U 13 [])))))) w
def e14(R:VP):T14:=λa b c d e f g h w=>∃k,l14 R k a b c d e f g h w
theorem u14(R k a b c d e f g h w):l14 R (k+1) a b c d e f g h w=g14 R (l14 R k) a b c d e f g h w:=ju
end bF
def bF(R:VP):=bF.g0 R (bF.e14 R)
theorem bF.calls{R a b c d e f w}(k:bF R a b c d e f w):CA 19 #[.slice a b c,.slice d e f] w R:=cal (n:=bF.an) func19 rfl k
namespace bC
def an:An:=(aR (aR (aL (aR (aL (.mk (some [3,7,8,9]) .nil .nil))))))
def qf(R:VP):QT:=fin prog f22 R
def C:=cdN prog f22 an
abbrev T8:=OA->Nat->Nat->OA->Nat->Nat->Int->Int->World->Prop
def g0(R:VP)(e8:T8)(a:OA)(b c:Nat)(d:World):Prop:=e8 none 0 0 a b c (b:Int) 0 d
def g8(R:VP)(b8:T8)(a:OA)(b c:Nat)(d:OA)(e f:Nat)(g h:Int)(i:World):Prop:=af (decide (h<g)) (ix d e h λj=>oh i (j.add (h.toNat*8)) λj k l m n o p q r s=>Q7q i j k l m n o p q r s λj=>cL j ((na i).add 4) λk l m=>dC prog (Builtin.append_ #[53,53] 53 #[.slice none 0 0,.slice k l m]) j λj k=>∃l m n,j=.slice l m n/\(st k (((na i).add 4).add 0) (.slice l m n) λj=>oh j (na i) λk l m n o p q r s t=>nw (j.alloc (.cells (qx k l m n o p q r s t) 56)) λk=>Q1q 48 a b c (na j) 1 k λl m n k=>(inc h λh=>b8 l m n d e f g h k))) (R (.slice a b c) i)
def q8(R:VP):QT:=(Exit.inBlock 0 (qS none (C [1,1,1]) (qf R)))
@[irreducible] def l8(R:VP)(k:Nat):T8:=λa b c d e f g h w=>bg [3,7,8,9] (C [1,1,0,1,0,0]) (q8 R) k (fr (U 3 (.slice a b c::U 3 (.slice d e f::(.int .i64 g::(.int .i64 h::U 14 [])))))) w
def e8(R:VP):T8:=λa b c d e f g h w=>∃k,l8 R k a b c d e f g h w
theorem u8(R k a b c d e f g h w):l8 R (k+1) a b c d e f g h w=g8 R (l8 R k) a b c d e f g h w:=ju
end bC
def bC(R:VP):=bC.g0 R (bC.e8 R)
theorem bC.calls{R a b c w}(k:bC R a b c w):CA 22 #[.slice a b c] w R:=cal (n:=bC.an) func22 rfl k
namespace di
def an:An:=(aR (aR (aR (aL (aR (aL (.mk (some [1,36,37,38]) (aR (aR (aL (aL (aR (aR (aR (aR (aL (.mk (some [1,36,37,38,67,68,69]) .nil .nil)))))))))) .nil)))))))
def qf(R:VP):QT:=fin prog f23 R
def C:=cdN prog f23 an
abbrev T22:=OA->OA->Nat->Nat->Int->Int->World->Prop
abbrev T59:=OA->OA->Nat->Nat->Int->Int->OA->Nat->Nat->Int->Int->World->Prop
def g0(R:VP)(e22:T22)(a:ByteArray)(b:OA)(c d:Nat)(e:Int)(f:OA)(g h:Nat)(i:OA)(j k:Nat)(l:World):Prop:=nw (l.alloc (.cells (wO a b c d e f g h i j k) 26)) λa=>cI a ((na l).add 2) .i64 λb=>af (decide (b<1)) (R (.int .i64 6) a) (cI a ((na l).add 2) .i64 λb=>af (decide (b>64)) (R (.int .i64 6) a) (cL a ((na l).add 3) λb b c=>cI a ((na l).add 2) .i64 λc=>af ((b:Int) != c) (R (.int .i64 6) a) (cL a ((na l).add 1) λb b c=>af (decide ((b:Int)>65536)) (R (.int .i64 6) a) (cL a ((na l).add 4) λb b c=>af (decide ((b:Int)>65536)) (R (.int .i64 3) a) (cL a ((na l).add 4) λb c d=>e22 (some (na l)) b c d (c:Int) 0 a)))))
def g22(R:VP)(e59:T59)(a b:OA)(c d:Nat)(e f:Int)(g:World):Prop:=af (decide (f<e)) (ix b c f λh=>jF g (h.add (f.toNat*2)) λh i j k=>Q8q g h i j k λh=>jF h (na g) λi j k l=>CA 48 #[jh i j k l] h λh i=>∃j k l m,h=.tuple #[.slice j k l,.int .i64 m]/\(af (m != 0) (R (.int .i64 m) i) (af (decide ((k:Int)>4096)) (R (.int .i64 3) i) (cI i ((na g).add 0) .i64 λh=>af (decide (h<0)) (R (.int .i64 6) i) (cI i ((na g).add 0) .i64 λh=>aV a λj=>cI i (j.add 2) .i64 λj=>af (decide (h>=j)) (R (.int .i64 6) i) (cL i ((na g).add 1) λh j k=>e59 a b c d e f h j k (j:Int) 0 i)))))) (R (.int .i64 0) g)
def g59(R:VP)(b22:T22)(b59:T59)(a b:OA)(c d:Nat)(e f:Int)(g:OA)(h i:Nat)(j k:Int)(l:World):Prop:=af (decide (k<j)) (ix g h k λm=>oh l (m.add (k.toNat*8)) λm n o p q r s t u v=>Q7q l m n o p q r s t u v λm=>cI m ((na l).add 0) .u8 λn=>af (n != 1) (cI m ((na l).add 2) .i64 λn=>aV a λo=>cL m (o.add 1) λo o p=>af (decide (n>=(o:Int))) (R (.int .i64 72) m) (inc k λn=>b59 a b c d e f g h i j n m)) (inc k λk=>b59 a b c d e f g h i j k m)) (inc f λf=>b22 a b c d e f l)
def q22(R:VP):QT:=(Exit.inBlock 0 (qS none (C [1,1,1,1]) (qf R)))
@[irreducible] def l22(R:VP)(k:Nat):T22:=λa b c d e f w=>bg [1,36,37,38] (C [1,1,1,0,1,0,0]) (q22 R) k (fr (U 1 (.pointer a::U 34 (.slice b c d::(.int .i64 e::(.int .i64 f::U 47 [])))))) w
def e22(R:VP):T22:=λa b c d e f w=>∃k,l22 R k a b c d e f w
def q59(R:VP)(k22:Nat):QT:=(Exit.inBlock 3 (Exit.inBlock 1 (qS none (C [1,1,1,0,1,0,0,1,1,1]) (qL [1,36,37,38] (C [1,1,1,0,1,0,0]) (q22 R) k22))))
def YA(R:VP)(k22 k:Nat):T59:=λa b c d e f g h i j l w=>bg [1,36,37,38,67,68,69] (C [1,1,1,0,1,0,0,1,1,0,0,1,1,1,1,0,0]) (q59 R k22) k (fr (U 1 (.pointer a::U 34 (.slice b c d::(.int .i64 e::(.int .i64 f::U 28 (.slice g h i::(.int .i64 j::(.int .i64 l::U 16 []))))))))) w
def a0J(R:VP)(k22:Nat):T59:=λa b c d e f g h i j l w=>∃k,YA R k22 k a b c d e f g h i j l w
def l59(R:VP)(b22:T22):Nat->T59
 |0=>λ_ _ _ _ _ _ _ _ _ _ _ _=>False
 |k+1=>g59 R b22 (l59 R b22 k)
def e59(R:VP)(b22:T22):T59:=λa b c d e f g h i j l w=>∃k,l59 R b22 k a b c d e f g h i j l w
theorem s59(R:VP)(k22 k:Nat):YA R k22 (k+1)=λa b c d e f g h i j l w=>∀_:Nat->Value,g59 R (l22 R k22) (YA R k22 k) a b c d e f g h i j l w:=by kernel_rfl
theorem a0I(R:VP)(k22:Nat)(b22:T22)(hb22:b22=l22 R k22):∀k,l59 R b22 k=YA R k22 k
 |0=>by kernel_rfl
 |k+1=>by
  rw[s59];simp only[forall_const];unfold l59;have ih:=a0I R k22 b22 hb22 k;subst hb22;rw[ih]
  all_goals rfl
theorem a0S(R:VP)(k22:Nat)(b22:T22)(hb22:b22=l22 R k22):e59 R b22=a0J R k22:=by
 unfold e59 a0J;simp only[a0I R k22 b22 hb22]
theorem u22(R k a b c d e f w):l22 R (k+1) a b c d e f w=g22 R (e59 R (l22 R k)) a b c d e f w:=by rw[a0S R k _ rfl];exact ju (by kernel_rfl)
end di
def di(R:VP):=di.g0 R (di.e22 R)
theorem di.calls{R a b c d e f g h i j l w}(k:di R a b c d e f g h i j l w):CA 23 #[yl a b c d e f g h i j l] w R:=cal (n:=di.an) func23 rfl k
namespace eG
def an:An:=An.nil
def g0(R:VP)(a:OA)(b c:Nat)(d:World):Prop:=af a.isNone (R (.slice none 0 0) d) (nw (d.alloc (.cells #[] 2)) λe=>dC prog (Builtin.append_ #[23,23] 23 #[.slice (some (na d)) 0 0,.slice a b c]) e λa b=>∃c d e,a=.slice c d e/\(R (.slice c d e) b))
end eG
def eG(R:VP):=eG.g0 R
theorem eG.calls{R a b c w}(k:eG R a b c w):CA 24 #[.slice a b c] w R:=cal (n:=eG.an) func24 rfl k
namespace dM
def an:An:=(aR (aR (aL (aR (aL (.mk (some [0,2,6,7,17,18,19]) (aR (aR (aL (aL (aR (aR (aR (aL (aR (aL (.mk (some [0,2,6,7,9,10,12,17,18,19,31,32,33]) .nil .nil))))))))))) .nil))))))
def qf(R:VP):QT:=fin prog f25 R
def C:=cdN prog f25 an
abbrev T8:=OA->Nat->Nat->Int->OA->OA->OA->Nat->Nat->Int->Int->World->Prop
abbrev T27:=OA->Nat->Nat->Int->OA->OA->OA->OA->Nat->Nat->OA->Nat->Nat->OA->Nat->Nat->Int->Int->OA->Nat->Nat->Int->Int->World->Prop
def g0(R:VP)(e8:T8)(a:OA)(b c:Nat)(d e:Int)(f:World):Prop:=nw (f.alloc (.cells (nD 0 none 0 0 none 0 0 none 0 0 none 0 0) 66)) λg=>Q5q g d none 0 0 none 0 0 none 0 0 none 0 0 λd=>e8 a b c e (some (na f)) (some (na g)) a b c (b:Int) 0 d
def g8(R:VP)(e27:T27)(a:OA)(b c:Nat)(d:Int)(e f g:OA)(h i:Nat)(j k:Int)(l:World):Prop:=af (decide (k<j)) (ix g h k λm=>jF l (m.add (k.toNat*2)) λm n o p=>Q8q l m n o p λm=>jF m (na l) λn o p q=>CA 48 #[jh n o p q] m λm n=>∃o p q r,m=.tuple #[.slice o p q,.int .i64 r]/\(chk ((0:Int)<=0/\0<=(p:Int)/\((8:Nat):Int)*(p:Int)<=281474976710656/\(p:Int)<=9223372036854775807) (nw (n.alloc (.cells (madeCells #[.int .i64 0] (((p:Int)).toNat*1)) 2)) λm=>e27 a b c d e f (some (na l)) o p q (some (na n)) 0 (((p:Int)).toNat) g h i j k o p q (p:Int) 0 m))) (CA 49 #[.slice a b c,.int .i64 d] l λa b=>∃c d g h,a=.tuple #[.slice c d g,.int .i64 h]/\(aV f λa=>st b ((a.add 4).add 0) (.slice c d g) λa=>aV f λb=>EH a b λb c d f g h i j k l m n o=>aV e λp=>Nh a p b c d f g h i j k l m n o λa=>aV e λb=>EH a b λb c d e f g h i j k l m n=>R (AX b c d e f g h i j k l m n) a))
def g27(R:VP)(b8:T8)(b27:T27)(a:OA)(b c:Nat)(d:Int)(e f g h:OA)(i j:Nat)(k:OA)(l m:Nat)(n:OA)(o p:Nat)(q r:Int)(s:OA)(t u:Nat)(v w:Int)(x:World):Prop:=af (decide (w<v)) (ix s t w λy=>cI x (y.add (w.toNat*1)) .i64 λy=>aV g λz=>cL x (z.add 1) λz A B=>ix z A y λz=>cI x ((z.add (y.toNat*8)).add 1) .i64 λy=>nw (x.alloc (.cells #[.int .i64 y] 2)) λy=>Q1q 23 k l m (na x) 1 y λA B C z=>(inc w λw=>b27 a b c d e f g h i j A B C n o p q r s t u v w z)) (aV f λh=>cL x (h.add 1) λh j s=>nw (x.alloc (.cells #[.int .i64 (i:Int)] 3)) λi=>Q1q 53 h j s (na x) 1 i λj s t i=>(aV f λh=>st i ((h.add 1).add 0) (.slice j s t) λh=>aV f λi=>cL h (i.add 2) λi j s=>nw (h.alloc (.cells #[.slice k l m] 23)) λk=>Q1q 63 i j s (na h) 1 k λj k l i=>(aV f λh=>st i ((h.add 2).add 0) (.slice j k l) λh=>aV f λi=>cL h (i.add 3) λi j k=>aV g λg=>cI h (g.add 0) .i64 λg=>nw (h.alloc (.cells #[.int .i64 g] 3)) λg=>Q1q 53 i j k (na h) 1 g λi j k h=>(aV f λg=>st h ((g.add 3).add 0) (.slice i j k) λg=>inc r λh=>b8 a b c d e f n o p q h g))))
def q8(R:VP):QT:=(Exit.inBlock 0 (qS none (C [1,1,1]) (qf R)))
@[irreducible] def l8(R:VP)(k:Nat):T8:=λa b c d e f g h i j l w=>bg [0,2,6,7,17,18,19] (C [1,1,0,1,0,0]) (q8 R) k (fr ((.slice a b c::U 1 (.int .i64 d::U 3 (.pointer e::(.pointer f::U 9 (.slice g h i::(.int .i64 j::(.int .i64 l::U 56 []))))))))) w
def e8(R:VP):T8:=λa b c d e f g h i j l w=>∃k,l8 R k a b c d e f g h i j l w
def q27(R:VP)(k8:Nat):QT:=(Exit.inBlock 2 (qS none (C [1,1,0,1,0,0,1,1,0,0,1,1,1,1]) (Exit.inBlock 1 (qS none (C [1,1,0,1,0,0,1,1,1]) (qL [0,2,6,7,17,18,19] (C [1,1,0,1,0,0]) (q8 R) k8)))))
def TJ(R:VP)(k8 k:Nat):T27:=λa b c d e f g h i j l m n o p q r s t u v x y w=>bg [0,2,6,7,9,10,12,17,18,19,31,32,33] (C [1,1,0,1,0,0,1,1,0,0,1,1,1,0,1,0,0]) (q27 R k8) k (fr ((.slice a b c::U 1 (.int .i64 d::U 3 (.pointer e::(.pointer f::U 1 (.pointer g::(.slice h i j::U 1 (.slice l m n::U 4 (.slice o p q::(.int .i64 r::(.int .i64 s::U 11 (.slice t u v::(.int .i64 x::(.int .i64 y::U 42 []))))))))))))))) w
def Xf(R:VP)(k8:Nat):T27:=λa b c d e f g h i j l m n o p q r s t u v x y w=>∃k,TJ R k8 k a b c d e f g h i j l m n o p q r s t u v x y w
def l27(R:VP)(b8:T8):Nat->T27
 |0=>λ_ _ _ _ _ _ _ _ _ _ _ _ _ _ _ _ _ _ _ _ _ _ _ _=>False
 |k+1=>g27 R b8 (l27 R b8 k)
def e27(R:VP)(b8:T8):T27:=λa b c d e f g h i j l m n o p q r s t u v x y w=>∃k,l27 R b8 k a b c d e f g h i j l m n o p q r s t u v x y w
theorem s27(R:VP)(k8 k:Nat):TJ R k8 (k+1)=λa b c d e f g h i j l m n o p q r s t u v x y w=>∀_:Nat->Value,g27 R (l8 R k8) (TJ R k8 k) a b c d e f g h i j l m n o p q r s t u v x y w:=by kernel_rfl
theorem Xo(R:VP)(k8:Nat)(b8:T8)(hb8:b8=l8 R k8):∀k,l27 R b8 k=TJ R k8 k
 |0=>by kernel_rfl
 |k+1=>by
  rw[s27];simp only[forall_const];unfold l27;have ih:=Xo R k8 b8 hb8 k;subst hb8;rw[ih]
  all_goals rfl
theorem Z5(R:VP)(k8:Nat)(b8:T8)(hb8:b8=l8 R k8):e27 R b8=Xf R k8:=by
 unfold e27 Xf;simp only[Xo R k8 b8 hb8]
theorem u8(R k a b c d e f g h i j l w):l8 R (k+1) a b c d e f g h i j l w=g8 R (e27 R (l8 R k)) a b c d e f g h i j l w:=by rw[Z5 R k _ rfl];exact ju (by kernel_rfl)
end dM
def dM(R:VP):=dM.g0 R (dM.e8 R)
theorem dM.calls{R a b c d e w}(k:dM R a b c d e w):CA 25 #[.slice a b c,.int .i64 d,.int .i64 e] w R:=cal (n:=dM.an) func25 rfl k
namespace bH
def an:An:=(aR (aR (aR (aL (aR (aL (.mk (some [1,34,35,36]) .nil .nil)))))))
def qf(R:VP):QT:=fin prog f26 R
def C:=cdN prog f26 an
abbrev T22:=OA->OA->Nat->Nat->Int->Int->World->Prop
def g0(R:VP)(e22:T22)(a:ByteArray)(b:OA)(c d:Nat)(e:Int)(f:OA)(g h:Nat)(i:OA)(j k:Nat)(l:World):Prop:=nw (l.alloc (.cells (wO a b c d e f g h i j k) 26)) λa=>cI a ((na l).add 2) .i64 λb=>af (decide (b<1)) (R (.int .i64 6) a) (cI a ((na l).add 2) .i64 λb=>af (decide (b>64)) (R (.int .i64 6) a) (cL a ((na l).add 3) λb b c=>cI a ((na l).add 2) .i64 λc=>af ((b:Int) != c) (R (.int .i64 6) a) (cL a ((na l).add 1) λb b c=>af (decide ((b:Int)>65536)) (R (.int .i64 6) a) (cL a ((na l).add 4) λb b c=>af (decide ((b:Int)>65536)) (R (.int .i64 3) a) (cL a ((na l).add 4) λb c d=>e22 (some (na l)) b c d (c:Int) 0 a)))))
def g22(R:VP)(b22:T22)(a b:OA)(c d:Nat)(e f:Int)(g:World):Prop:=af (decide (f<e)) (ix b c f λh=>jF g (h.add (f.toNat*2)) λh i j k=>Q8q g h i j k λh=>jF h (na g) λi j k l=>CA 50 #[jh i j k l] h λh i=>∃j k,h=.tuple #[.int .i64 j,.int .i64 k]/\(af (k != 0) (R (.int .i64 k) i) (cI i ((na g).add 0) .i64 λh=>af (decide (h<0)) (R (.int .i64 6) i) (cI i ((na g).add 0) .i64 λh=>aV a λj=>cI i (j.add 2) .i64 λj=>af (decide (h>=j)) (R (.int .i64 6) i) (jF i (na g) λh j k l=>aV a λm=>cL i (m.add 1) λm m n=>CA 51 #[jh h j k l,.int .i64 (m:Int)] i λh i=>∃j,h=.bool j/\(af (!j) (R (.int .i64 72) i) (inc f λf=>b22 a b c d e f i))))))) (R (.int .i64 0) g)
def q22(R:VP):QT:=(Exit.inBlock 0 (qS none (C [1,1,1,1]) (qf R)))
@[irreducible] def l22(R:VP)(k:Nat):T22:=λa b c d e f w=>bg [1,34,35,36] (C [1,1,1,0,1,0,0]) (q22 R) k (fr (U 1 (.pointer a::U 32 (.slice b c d::(.int .i64 e::(.int .i64 f::U 28 [])))))) w
def e22(R:VP):T22:=λa b c d e f w=>∃k,l22 R k a b c d e f w
theorem u22(R k a b c d e f w):l22 R (k+1) a b c d e f w=g22 R (l22 R k) a b c d e f w:=ju
end bH
def bH(R:VP):=bH.g0 R (bH.e22 R)
theorem bH.calls{R a b c d e f g h i j l w}(k:bH R a b c d e f g h i j l w):CA 26 #[yl a b c d e f g h i j l] w R:=cal (n:=bH.an) func26 rfl k
namespace aX
def an:An:=(aR (aR (aL (aR (aL (.mk (some [1,5,8,9,10]) .nil .nil))))))
def qf(R:VP):QT:=fin prog f27 R
def C:=cdN prog f27 an
abbrev T8:=Int->Int->OA->Nat->Nat->Int->Int->World->Prop
def g0(R:VP)(e8:T8)(a:OA)(b c:Nat)(d:Int)(e:World):Prop:=e8 d 0 a b c (b:Int) 0 e
def g8(R:VP)(b8:T8)(a b:Int)(c:OA)(d e:Nat)(f g:Int)(h:World):Prop:=af (decide (g<f)) (ix c d g λi=>Xd h (i.add (g.toNat*2)) λi j=>Q2q h i j λi=>cI i ((na h).add 0) .i64 λj=>af (j != b) (R (.bool false) i) (cI i ((na h).add 1) .i64 λj=>cI i ((na h).add 0) .i64 λk=>af (decide (j<=k)) (R (.bool false) i) (cI i ((na h).add 1) .i64 λj=>inc g λg=>b8 a j c d e f g i))) (R (.bool (b==a)) h)
def q8(R:VP):QT:=(Exit.inBlock 0 (qS none (C [1,1,1]) (qf R)))
@[irreducible] def l8(R:VP)(k:Nat):T8:=λa b c d e f g w=>bg [1,5,8,9,10] (C [1,1,0,1,0,0]) (q8 R) k (fr (U 1 (.int .i64 a::U 3 (.int .i64 b::U 2 (.slice c d e::(.int .i64 f::(.int .i64 g::U 20 []))))))) w
def e8(R:VP):T8:=λa b c d e f g w=>∃k,l8 R k a b c d e f g w
theorem u8(R k a b c d e f g w):l8 R (k+1) a b c d e f g w=g8 R (l8 R k) a b c d e f g w:=ju
end aX
def aX(R:VP):=aX.g0 R (aX.e8 R)
theorem aX.calls{R a b c d w}(k:aX R a b c d w):CA 27 #[.slice a b c,.int .i64 d] w R:=cal (n:=aX.an) func27 rfl k
namespace aJ
def an:An:=(aR (aR (aL (aR (aL (.mk (some [0,2,6,7,17,18,19]) (aR (aR (aL (aL (aR (aR (aR (aL (aR (aL (.mk (some [0,2,6,7,9,10,12,17,18,19,28,29,30]) .nil .nil))))))))))) .nil))))))
def qf(R:VP):QT:=fin prog f28 R
def C:=cdN prog f28 an
abbrev T8:=OA->Nat->Nat->Int->OA->OA->OA->Nat->Nat->Int->Int->World->Prop
abbrev T27:=OA->Nat->Nat->Int->OA->OA->OA->OA->Nat->Nat->OA->Nat->Nat->OA->Nat->Nat->Int->Int->OA->Nat->Nat->Int->Int->World->Prop
def g0(R:VP)(e8:T8)(a:OA)(b c:Nat)(d e:Int)(f:World):Prop:=nw (f.alloc (.cells (nD 0 none 0 0 none 0 0 none 0 0 none 0 0) 66)) λg=>Q5q g d none 0 0 none 0 0 none 0 0 none 0 0 λd=>e8 a b c e (some (na f)) (some (na g)) a b c (b:Int) 0 d
def g8(R:VP)(e27:T27)(a:OA)(b c:Nat)(d:Int)(e f g:OA)(h i:Nat)(j k:Int)(l:World):Prop:=af (decide (k<j)) (ix g h k λm=>jF l (m.add (k.toNat*2)) λm n o p=>Q8q l m n o p λm=>jF m (na l) λn o p q=>CA 52 #[jh n o p q] m λm n=>∃o p q r,m=.tuple #[.slice o p q,.int .i64 r]/\(e27 a b c d e f (some (na l)) o p q none 0 0 g h i j k o p q (p:Int) 0 n)) (CA 53 #[.slice a b c,.int .i64 d] l λa b=>∃c d g,a=.slice c d g/\(aV f λa=>st b ((a.add 4).add 0) (.slice c d g) λa=>aV f λb=>EH a b λb c d f g h i j k l m n o=>aV e λp=>Nh a p b c d f g h i j k l m n o λa=>aV e λb=>EH a b λb c d e f g h i j k l m n=>R (AX b c d e f g h i j k l m n) a))
def g27(R:VP)(b8:T8)(b27:T27)(a:OA)(b c:Nat)(d:Int)(e f g h:OA)(i j:Nat)(k:OA)(l m:Nat)(n:OA)(o p:Nat)(q r:Int)(s:OA)(t u:Nat)(v w:Int)(x:World):Prop:=af (decide (w<v)) (ix s t w λy=>cI x (y.add (w.toNat*1)) .i64 λy=>aV g λz=>cL x (z.add 1) λz A B=>ix z A y λz=>cI x ((z.add (y.toNat*8)).add 1) .i64 λy=>nw (x.alloc (.cells #[.int .i64 y] 2)) λy=>Q1q 23 k l m (na x) 1 y λA B C z=>(inc w λw=>b27 a b c d e f g h i j A B C n o p q r s t u v w z)) (aV f λh=>cL x (h.add 1) λh j s=>nw (x.alloc (.cells #[.int .i64 (i:Int)] 3)) λi=>Q1q 53 h j s (na x) 1 i λj s t i=>(aV f λh=>st i ((h.add 1).add 0) (.slice j s t) λh=>aV f λi=>cL h (i.add 2) λi j s=>nw (h.alloc (.cells #[.slice k l m] 23)) λk=>Q1q 63 i j s (na h) 1 k λj k l i=>(aV f λh=>st i ((h.add 2).add 0) (.slice j k l) λh=>aV f λi=>cL h (i.add 3) λi j k=>aV g λg=>cI h (g.add 0) .i64 λg=>nw (h.alloc (.cells #[.int .i64 g] 3)) λg=>Q1q 53 i j k (na h) 1 g λi j k h=>(aV f λg=>st h ((g.add 3).add 0) (.slice i j k) λg=>inc r λh=>b8 a b c d e f n o p q h g))))
def q8(R:VP):QT:=(Exit.inBlock 0 (qS none (C [1,1,1]) (qf R)))
@[irreducible] def l8(R:VP)(k:Nat):T8:=λa b c d e f g h i j l w=>bg [0,2,6,7,17,18,19] (C [1,1,0,1,0,0]) (q8 R) k (fr ((.slice a b c::U 1 (.int .i64 d::U 3 (.pointer e::(.pointer f::U 9 (.slice g h i::(.int .i64 j::(.int .i64 l::U 50 []))))))))) w
def e8(R:VP):T8:=λa b c d e f g h i j l w=>∃k,l8 R k a b c d e f g h i j l w
def q27(R:VP)(k8:Nat):QT:=(Exit.inBlock 2 (qS none (C [1,1,0,1,0,0,1,1,0,0,1,1,1,1]) (Exit.inBlock 1 (qS none (C [1,1,0,1,0,0,1,1,1]) (qL [0,2,6,7,17,18,19] (C [1,1,0,1,0,0]) (q8 R) k8)))))
def TJ(R:VP)(k8 k:Nat):T27:=λa b c d e f g h i j l m n o p q r s t u v x y w=>bg [0,2,6,7,9,10,12,17,18,19,28,29,30] (C [1,1,0,1,0,0,1,1,0,0,1,1,1,0,1,0,0]) (q27 R k8) k (fr ((.slice a b c::U 1 (.int .i64 d::U 3 (.pointer e::(.pointer f::U 1 (.pointer g::(.slice h i j::U 1 (.slice l m n::U 4 (.slice o p q::(.int .i64 r::(.int .i64 s::U 8 (.slice t u v::(.int .i64 x::(.int .i64 y::U 39 []))))))))))))))) w
def Xf(R:VP)(k8:Nat):T27:=λa b c d e f g h i j l m n o p q r s t u v x y w=>∃k,TJ R k8 k a b c d e f g h i j l m n o p q r s t u v x y w
def l27(R:VP)(b8:T8):Nat->T27
 |0=>λ_ _ _ _ _ _ _ _ _ _ _ _ _ _ _ _ _ _ _ _ _ _ _ _=>False
 |k+1=>g27 R b8 (l27 R b8 k)
def e27(R:VP)(b8:T8):T27:=λa b c d e f g h i j l m n o p q r s t u v x y w=>∃k,l27 R b8 k a b c d e f g h i j l m n o p q r s t u v x y w
theorem s27(R:VP)(k8 k:Nat):TJ R k8 (k+1)=λa b c d e f g h i j l m n o p q r s t u v x y w=>∀_:Nat->Value,g27 R (l8 R k8) (TJ R k8 k) a b c d e f g h i j l m n o p q r s t u v x y w:=by kernel_rfl
theorem Xo(R:VP)(k8:Nat)(b8:T8)(hb8:b8=l8 R k8):∀k,l27 R b8 k=TJ R k8 k
 |0=>by kernel_rfl
 |k+1=>by
  rw[s27];simp only[forall_const];unfold l27;have ih:=Xo R k8 b8 hb8 k;subst hb8;rw[ih]
  all_goals rfl
theorem Z5(R:VP)(k8:Nat)(b8:T8)(hb8:b8=l8 R k8):e27 R b8=Xf R k8:=by
 unfold e27 Xf;simp only[Xo R k8 b8 hb8]
theorem u8(R k a b c d e f g h i j l w):l8 R (k+1) a b c d e f g h i j l w=g8 R (e27 R (l8 R k)) a b c d e f g h i j l w:=by rw[Z5 R k _ rfl];exact ju (by kernel_rfl)
end aJ
def aJ(R:VP):=aJ.g0 R (aJ.e8 R)
theorem aJ.calls{R a b c d e w}(k:aJ R a b c d e w):CA 28 #[.slice a b c,.int .i64 d,.int .i64 e] w R:=cal (n:=aJ.an) func28 rfl k
namespace dU
def an:An:=(aR (aR (aR (aL (aR (aL (.mk (some [0,1,6,7]) .nil .nil)))))))
def qf(R:VP):QT:=fin prog f29 R
def C:=cdN prog f29 an
abbrev T16:=Int->Int->OA->Nat->Nat->Int->World->Prop
def g0(R:VP)(e16:T16)(a b:Int)(c:World):Prop:=af (decide (a<0)) (R (.tuple #[.slice none 0 0,.int .i64 2]) c) (af (decide (a>65536)) (R (.tuple #[.slice none 0 0,.int .i64 2]) c) (af (decide (b<1)) (R (.tuple #[.slice none 0 0,.int .i64 2]) c) (af (decide (b>65536)) (R (.tuple #[.slice none 0 0,.int .i64 2]) c) (e16 a b none 0 0 0 c))))
def g16(R:VP)(b16:T16)(a b:Int)(c:OA)(d e:Nat)(f:Int)(g:World):Prop:=af (decide (f<a)) (Q0q (f+b) λh=>nv ((if a<h then a else h)) λh=>nw (g.alloc (.cells (L6 f h) 61)) λh=>Q1q 27 c d e (na g) 1 h λj k l i=>(Q0q (f+b) λf=>b16 a b j k l f i)) (R (.tuple #[.slice c d e,.int .i64 0]) g)
def q16(R:VP):QT:=(Exit.inBlock 0 (qS none (C [1,1,1,1]) (qf R)))
@[irreducible] def l16(R:VP)(k:Nat):T16:=λa b c d e f w=>bg [0,1,6,7] (C [1,1,1,0,1,0,0]) (q16 R) k (fr ((.int .i64 a::(.int .i64 b::U 4 (.slice c d e::(.int .i64 f::U 31 [])))))) w
def e16(R:VP):T16:=λa b c d e f w=>∃k,l16 R k a b c d e f w
theorem u16(R k a b c d e f w):l16 R (k+1) a b c d e f w=g16 R (l16 R k) a b c d e f w:=ju
end dU
def dU(R:VP):=dU.g0 R (dU.e16 R)
theorem dU.calls{R a b w}(k:dU R a b w):CA 29 #[.int .i64 a,.int .i64 b] w R:=cal (n:=dU.an) func29 rfl k
namespace dJ
def an:An:=An.nil
def g0(R:VP)(a:World):Prop:=nw (a.alloc (.cells (wO ⟨#[]⟩ none 0 0 0 none 0 0 none 0 0) 26)) λb=>nw (b.alloc (.cells #[.string ⟨#[97]⟩,.string ⟨#[98]⟩] 9)) λc=>nw (c.alloc (.cells #[.int .i64 0] 2)) λd=>nw (d.alloc (.cells #[.int .u8 2,.int .i64 0,.int .i64 1,.float .f64 4611686018427387904,.slice none 0 0,.int .u8 2,.int .i64 1,.int .i64 2,.int .u8 1,.int .i64 10,.int .i64 0,.float .f64 0,.slice none 0 0,.int .u8 0,.int .i64 0,.int .i64 0,.int .u8 1,.int .i64 20,.int .i64 0,.float .f64 0,.slice none 0 0,.int .u8 0,.int .i64 0,.int .i64 0] 56)) λe=>nw (e.alloc (.cells #[.int .i64 4] 3)) λf=>nw (f.alloc (.cells #[.int .u8 2,.int .i64 0,.int .i64 1,.float .f64 4607182418800017408,.slice none 0 0,.int .u8 1,.int .i64 1,.int .i64 4,.int .u8 3,.int .i64 0,.int .i64 0,.float .f64 0,.slice (some (na e)) 1 1,.int .u8 2,.int .i64 2,.int .i64 3,.int .u8 1,.int .i64 1,.int .i64 0,.float .f64 0,.slice none 0 0,.int .u8 0,.int .i64 0,.int .i64 0,.int .u8 1,.int .i64 2,.int .i64 0,.float .f64 0,.slice none 0 0,.int .u8 0,.int .i64 0,.int .i64 0,.int .u8 1,.int .i64 3,.int .i64 0,.float .f64 0,.slice none 0 0,.int .u8 0,.int .i64 0,.int .i64 0] 56)) λe=>nw (e.alloc (.cells #[.int .i64 0,.slice (some (na d)) 3 3,.int .i64 0,.slice (some (na f)) 5 5] 50)) λd=>ZK d (na a) ⟨#[]⟩ (some (na b)) 2 2 1 (some (na c)) 1 1 (some (na e)) 2 2 λb=>U6 b (na a) λa c d e f g h i j k l=>R (yl a c d e f g h i j k l) b
end dJ
def dJ(R:VP):=dJ.g0 R
theorem dJ.calls{R w}(k:dJ R  w):CA 31 #[] w R:=cal (n:=dJ.an) func31 rfl k
namespace iP
def an:An:=An.nil
def g0(R:VP)(a:Int)(b:OA)(c d:Nat)(e:Int)(f:OA)(g h:Nat)(i:World):Prop:=nw (i.alloc (.cells (kU a b c d) 50)) λa=>nw (a.alloc (.cells (kU e f g h) 50)) λb=>cI b ((na i).add 0) .i64 λc=>cI b ((na a).add 0) .i64 λd=>af (c==d) (cL b ((na i).add 1) λc d e=>cL b ((na a).add 1) λa f g=>CA 54 #[.slice c d e,.slice a f g,.func (.func 55) #[] #[]] b λa c=>∃d,a=.bool d/\(R (.bool d) c)) (R (.bool false) b)
end iP
def iP(R:VP):=iP.g0 R
theorem iP.calls{R a b c d e f g h w}(k:iP R a b c d e f g h w):CA 32 #[jh a b c d,jh e f g h] w R:=cal (n:=iP.an) func32 rfl k
namespace aU
def an:An:=(aR (aR (aL (aR (aL (.mk (some [0,1,12,13]) .nil .nil))))))
def qf(R:VP):QT:=fin prog f33 R
def C:=cdN prog f33 an
abbrev T14:=OA->Nat->Nat->OA->Nat->Nat->Int->Int->World->Prop
def g0(R:VP)(e14:T14)(a:OA)(b c:Nat)(d:OA)(e f:Nat)(g:World):Prop:=af ((b:Int) != e) (R (.bool false) g) (e14 a b c d e f (b:Int) 0 g)
def g14(R:VP)(b14:T14)(a:OA)(b c:Nat)(d:OA)(e f:Nat)(g h:Int)(i:World):Prop:=af (decide (h<g)) (ix a b h λj=>cI i (j.add (h.toNat*1)) .i64 λj=>ix d e h λk=>cI i (k.add (h.toNat*1)) .i64 λk=>af (j != k) (R (.bool false) i) (inc h λh=>b14 a b c d e f g h i)) (R (.bool true) i)
def q14(R:VP):QT:=(Exit.inBlock 0 (qS none (C [1,1,1]) (qf R)))
@[irreducible] def l14(R:VP)(k:Nat):T14:=λa b c d e f g h w=>bg [0,1,12,13] (C [1,1,0,1,0,0]) (q14 R) k (fr ((.slice a b c::(.slice d e f::U 10 (.int .i64 g::(.int .i64 h::U 12 [])))))) w
def e14(R:VP):T14:=λa b c d e f g h w=>∃k,l14 R k a b c d e f g h w
theorem u14(R k a b c d e f g h w):l14 R (k+1) a b c d e f g h w=g14 R (l14 R k) a b c d e f g h w:=ju
end aU
def aU(R:VP):=aU.g0 R (aU.e14 R)
theorem aU.calls{R a b c d e f w}(k:aU R a b c d e f w):CA 33 #[.slice a b c,.slice d e f] w R:=cal (n:=aU.an) func33 rfl k
end Go.Mir
