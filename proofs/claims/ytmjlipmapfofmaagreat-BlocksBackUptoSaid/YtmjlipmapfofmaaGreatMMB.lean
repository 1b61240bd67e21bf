/- Part of a proof; no conditions. -/
import Derived.Test.YtmjlipmapfofmaaGreatMMA
set_option linter.unusedVariables false
set_option linter.unusedSimpArgs false
set_option linter.unusedSectionVars false
set_option maxRecDepth 100000
open Go.Proofs.Tryz (prog f34 func34 f35 func35 f36 func36 f37 func37 f38 func38 f39 func39 f40 func40 f41 func41 f43 func43 f47 func47 f48 func48 f49 func49 f50 func50 f51 func51 f52 func52 f53 func53 f54 func54 f55 func55 f57 func57 f58 func58 f59 func59 f60 func60 f61 func61 f62 func62 f63 func63)
namespace Go.Mir
open Go Go.E Go.RowKit
namespace bV
def an:An:=(aR (aR (aL (aR (aL (.mk (some [0,1,12,13]) .nil .nil))))))
def qf(R:VP):QT:=fin prog f34 R
def C:=cdN prog f34 an
abbrev T14:=OA->Nat->Nat->OA->Nat->Nat->Int->Int->World->Prop
def g0(R:VP)(e14:T14)(a:OA)(b c:Nat)(d:OA)(e f:Nat)(g:World):Prop:=af ((b:Int) != e) (R (.bool false) g) (e14 a b c d e f (b:Int) 0 g)
def g14(R:VP)(b14:T14)(a:OA)(b c:Nat)(d:OA)(e f:Nat)(g h:Int)(i:World):Prop:=af (decide (h<g)) (ix a b h λj=>cI i (j.add (h.toNat*1)) .i64 λj=>ix d e h λk=>cI i (k.add (h.toNat*1)) .i64 λk=>af (j != k) (R (.bool false) i) (inc h λh=>b14 a b c d e f g h i)) (R (.bool true) i)
def q14(R:VP):QT:=(Exit.inBlock 0 (qS none (C [1,1,1]) (qf R)))
@[irreducible] def l14(R:VP)(k:Nat):T14:=λa b c d e f g h w=>bg [0,1,12,13] (C [1,1,0,1,0,0]) (q14 R) k (fr ((.slice a b c::(.slice d e f::U 10 (.int .i64 g::(.int .i64 h::U 12 [])))))) w
def e14(R:VP):T14:=λa b c d e f g h w=>∃k,l14 R k a b c d e f g h w
theorem u14(R k a b c d e f g h w):l14 R (k+1) a b c d e f g h w=g14 R (l14 R k) a b c d e f g h w:=ju
end bV
def bV(R:VP):=bV.g0 R (bV.e14 R)
theorem bV.calls{R a b c d e f w}(k:bV R a b c d e f w):CA 34 #[.slice a b c,.slice d e f] w R:=cal (n:=bV.an) func34 rfl k
namespace aW
def an:An:=(aR (aR (aL (aR (aL (.mk (some [1,13,14,15]) .nil .nil))))))
def qf(R:VP):QT:=fin prog f35 R
def C:=cdN prog f35 an
abbrev T14:=OA->Nat->Nat->OA->Nat->Nat->Int->Int->World->Prop
def g0(R:VP)(e14:T14)(a:OA)(b c:Nat)(d:OA)(e f:Nat)(g:World):Prop:=af ((b:Int) != e) (R (.bool false) g) (e14 d e f a b c (b:Int) 0 g)
def g14(R:VP)(b14:T14)(a:OA)(b c:Nat)(d:OA)(e f:Nat)(g h:Int)(i:World):Prop:=af (decide (h<g)) (ix d e h λj=>rU i (j.add (h.toNat*4)) λj k l m n o p q r s=>Q4q i j k l m n o p q r s λj=>ix a b h λk=>rU j (k.add (h.toNat*4)) λk l m n o p q r s t=>Q4q j k l m n o p q r s t λk=>cI k ((na i).add 0) .i64 λl=>cI k ((na j).add 0) .i64 λm=>af (l != m) (R (.bool false) k) (cL k ((na i).add 1) λl m n=>cL k ((na j).add 1) λo p q=>CA 58 #[.slice l m n,.slice o p q] k λk l=>∃m,k=.bool m/\(af (!m) (R (.bool false) l) (cL l ((na i).add 2) λk m n=>cL l ((na j).add 2) λo p q=>CA 58 #[.slice k m n,.slice o p q] l λk l=>∃m,k=.bool m/\(af (!m) (R (.bool false) l) (cL l ((na i).add 3) λk m n=>cL l ((na j).add 3) λj o p=>CA 58 #[.slice k m n,.slice j o p] l λj k=>∃l,j=.bool l/\(af (!l) (R (.bool false) k) (inc h λh=>b14 a b c d e f g h k)))))))) (R (.bool true) i)
def q14(R:VP):QT:=(Exit.inBlock 0 (qS none (C [1,1,1]) (qf R)))
@[irreducible] def l14(R:VP)(k:Nat):T14:=λa b c d e f g h w=>bg [1,13,14,15] (C [1,1,0,1,0,0]) (q14 R) k (fr (U 1 (.slice a b c::U 11 (.slice d e f::(.int .i64 g::(.int .i64 h::U 38 [])))))) w
def e14(R:VP):T14:=λa b c d e f g h w=>∃k,l14 R k a b c d e f g h w
theorem u14(R k a b c d e f g h w):l14 R (k+1) a b c d e f g h w=g14 R (l14 R k) a b c d e f g h w:=ju
end aW
def aW(R:VP):=aW.g0 R (aW.e14 R)
theorem aW.calls{R a b c d e f w}(k:aW R a b c d e f w):CA 35 #[.slice a b c,.slice d e f] w R:=cal (n:=aW.an) func35 rfl k
namespace bG
def an:An:=(aR (aR (aL (aR (aL (.mk (some [3,23,24,25]) .nil .nil))))))
def qf(R:VP):QT:=fin prog f36 R
def C:=cdN prog f36 an
abbrev T14:=OA->OA->Nat->Nat->Int->Int->World->Prop
def g0(R:VP)(e14:T14)(a:Int)(b:OA)(c d:Nat)(e:Int)(f:OA)(g h:Nat)(i:World):Prop:=nw (i.alloc (.cells (kU a b c d) 50)) λa=>nw (a.alloc (.cells (kU e f g h) 50)) λb=>cI b ((na i).add 0) .i64 λc=>cI b ((na a).add 0) .i64 λd=>af (c != d) (R (.bool false) b) (cL b ((na i).add 1) λc c d=>cL b ((na a).add 1) λd d e=>af ((c:Int) != d) (R (.bool false) b) (cL b ((na i).add 1) λc d e=>e14 (some (na a)) c d e (d:Int) 0 b))
def g14(R:VP)(b14:T14)(a b:OA)(c d:Nat)(e f:Int)(g:World):Prop:=af (decide (f<e)) (ix b c f λh=>oh g (h.add (f.toNat*8)) λh i j k l m n o p q=>Q7q g h i j k l m n o p q λh=>aV a λi=>cL h (i.add 1) λi j k=>ix i j f λi=>oh h (i.add (f.toNat*8)) λi j k l m n o p q r=>Q7q h i j k l m n o p q r λi=>cI i ((na g).add 0) .u8 λj=>cI i ((na h).add 0) .u8 λk=>af (j != k) (∀j:World,Below i.heap.size i j->R (.bool false) j) (cI i ((na g).add 1) .i64 λj=>cI i ((na h).add 1) .i64 λk=>af (j != k) (∀j:World,Below i.heap.size i j->R (.bool false) j) (cI i ((na g).add 2) .i64 λj=>cI i ((na h).add 2) .i64 λk=>af (j != k) (∀j:World,Below i.heap.size i j->R (.bool false) j) (cF i ((na g).add 3) .f64 λj=>∃k,sJ prog (callFunc 56 #[.float .f64 j]) i (.int .u64 k)/\(cF i ((na h).add 3) .f64 λj=>∃l,sJ prog (callFunc 56 #[.float .f64 j]) i (.int .u64 l)/\(af (k != l) (∀j:World,Below i.heap.size i j->R (.bool false) j) (cL i ((na g).add 4) λj k l=>cL i ((na h).add 4) λm n o=>∃p,(∀q:World,Below i.heap.size i q->CA 34 #[.slice j k l,.slice m n o] q λj k=>j=.bool p/\Below i.heap.size i k)/\(af (!p) (∀j:World,Below i.heap.size i j->R (.bool false) j) (cI i ((na g).add 5) .u8 λj=>cI i ((na h).add 5) .u8 λk=>af (j != k) (∀j:World,Below i.heap.size i j->R (.bool false) j) (cI i ((na g).add 6) .i64 λj=>cI i ((na h).add 6) .i64 λk=>af (j != k) (∀j:World,Below i.heap.size i j->R (.bool false) j) (cI i ((na g).add 7) .i64 λj=>cI i ((na h).add 7) .i64 λh=>∀k:World,Below i.heap.size i k->af (j != h) (R (.bool false) k) (inc f λf=>b14 a b c d e f k)))))))))))) (R (.bool true) g)
def q14(R:VP):QT:=(Exit.inBlock 0 (qS none (C [1,1,1]) (qf R)))
@[irreducible] def l14(R:VP)(k:Nat):T14:=λa b c d e f w=>bg [3,23,24,25] (C [1,1,0,1,0,0]) (q14 R) k (fr (U 3 (.pointer a::U 19 (.slice b c d::(.int .i64 e::(.int .i64 f::U 67 [])))))) w
def e14(R:VP):T14:=λa b c d e f w=>∃k,l14 R k a b c d e f w
theorem u14(R k a b c d e f w):l14 R (k+1) a b c d e f w=g14 R (l14 R k) a b c d e f w:=ju
end bG
def bG(R:VP):=bG.g0 R (bG.e14 R)
theorem bG.calls{R a b c d e f g h w}(k:bG R a b c d e f g h w):CA 36 #[jh a b c d,jh e f g h] w R:=cal (n:=bG.an) func36 rfl k
namespace aI
def an:An:=(aR (aR (aL (aR (aL (.mk (some [3,7,8,9]) .nil .nil))))))
def qf(R:VP):QT:=fin prog f37 R
def C:=cdN prog f37 an
abbrev T8:=OA->Nat->Nat->OA->Nat->Nat->Int->Int->World->Prop
def g0(R:VP)(e8:T8)(a:OA)(b c:Nat)(d:World):Prop:=e8 none 0 0 a b c (b:Int) 0 d
def g8(R:VP)(b8:T8)(a:OA)(b c:Nat)(d:OA)(e f:Nat)(g h:Int)(i:World):Prop:=af (decide (h<g)) (ix d e h λj=>nK i (j.add (h.toNat*5)) λj k l m n o p=>Q9q i j k l m n o p λj=>cL j ((na i).add 1) λk l m=>dC prog (Builtin.append_ #[53,53] 53 #[.slice none 0 0,.slice k l m]) j λj k=>∃l m n,j=.slice l m n/\(st k (((na i).add 1).add 0) (.slice l m n) λj=>nK j (na i) λk l m n o p q=>nw (j.alloc (.cells (oG k l m n o p q) 76)) λk=>Q1q 72 a b c (na j) 1 k λl m n k=>(inc h λh=>b8 l m n d e f g h k))) (R (.slice a b c) i)
def q8(R:VP):QT:=(Exit.inBlock 0 (qS none (C [1,1,1]) (qf R)))
@[irreducible] def l8(R:VP)(k:Nat):T8:=λa b c d e f g h w=>bg [3,7,8,9] (C [1,1,0,1,0,0]) (q8 R) k (fr (U 3 (.slice a b c::U 3 (.slice d e f::(.int .i64 g::(.int .i64 h::U 14 [])))))) w
def e8(R:VP):T8:=λa b c d e f g h w=>∃k,l8 R k a b c d e f g h w
theorem u8(R k a b c d e f g h w):l8 R (k+1) a b c d e f g h w=g8 R (l8 R k) a b c d e f g h w:=ju
end aI
def aI(R:VP):=aI.g0 R (aI.e8 R)
theorem aI.calls{R a b c w}(k:aI R a b c w):CA 37 #[.slice a b c] w R:=cal (n:=aI.an) func37 rfl k
namespace aF
def an:An:=(aR (aR (aR (.mk none (aR (aL (.mk (some [1,4,41,42,43]) (aR (aR (aL (aL (aR (aR (.mk none (aR (aL (.mk (some [1,4,6,7,41,42,43,49,50,51]) .nil .nil))) (aR (aL (.mk (some [1,4,6,7,41,42,43,74,75,76]) (aR (aR (aL (aL (aR (aR (aL (.mk (some [1,4,6,7,10,41,42,43,74,75,76,81,82,83]) .nil .nil)))))))) .nil)))))))))) .nil))) (aR (aL (aR (aL (.mk (some [1,15,141,142,143]) .nil .nil)))))))))
def qf(R:VP):QT:=fin prog f38 R
def C:=cdN prog f38 an
abbrev T16:=OA->OA->Nat->Nat->OA->Nat->Nat->Int->Int->World->Prop
abbrev T33:=OA->OA->Nat->Nat->OA->(Option Nat)->OA->Nat->Nat->Int->Int->OA->Nat->Nat->Int->Int->World->Prop
abbrev T49:=OA->OA->Nat->Nat->OA->(Option Nat)->OA->Nat->Nat->Int->Int->OA->Nat->Nat->Int->Int->World->Prop
abbrev T63:=OA->OA->Nat->Nat->OA->(Option Nat)->Int->OA->Nat->Nat->Int->Int->OA->Nat->Nat->Int->Int->OA->Nat->Nat->Int->Int->World->Prop
abbrev YV:=OA->OA->Nat->Nat->OA->Nat->Nat->Int->Int->World->Prop
def g0(R:VP)(e16:T16)(a:Int)(b:OA)(c d:Nat)(e:OA)(f g:Nat)(h:OA)(i j:Nat)(k:OA)(l m:Nat)(n:World):Prop:=nw (n.alloc (.cells (nD a b c d e f g h i j k l m) 66)) λa=>cL a ((na n).add 1) λb b c=>cL a ((na n).add 2) λc c d=>af ((b:Int) != c) (R (.tuple #[.slice none 0 0,.bool false]) a) (cL a ((na n).add 1) λb b c=>cL a ((na n).add 3) λc c d=>af ((b:Int) != c) (R (.tuple #[.slice none 0 0,.bool false]) a) (cL a ((na n).add 1) λb b c=>chk ((0:Int)<=(b:Int)/\(b:Int)<=(b:Int)/\((24:Nat):Int)*(b:Int)<=281474976710656/\(b:Int)<=9223372036854775807) (nw (a.alloc (.cells (madeCells #[.slice none 0 0] (((b:Int)).toNat*1)) 113)) λc=>cL c ((na n).add 4) λd e f=>e16 (some (na n)) (some (na a)) (((b:Int)).toNat) (((b:Int)).toNat) d e f (e:Int) 0 c)))
def g16(R:VP)(e33:T33)(Z4:YV)(a b:OA)(c d:Nat)(e:OA)(f g:Nat)(h i:Int)(j:World):Prop:=af (decide (i<h)) (ix e f i λk=>rU j (k.add (i.toNat*4)) λk l m n o p q r s t=>Q4q j k l m n o p q r s t λk=>nw (k.alloc (.map #[] 0)) λl=>cL l ((na j).add 3) λm n o=>e33 a b c d (some (na j)) (some k.heap.size) e f g h i m n o (n:Int) 0 l) (Z4 a none 0 0 b c d (c:Int) 0 j)
def g33(R:VP)(b33:T33)(e49:T49)(a b:OA)(c d:Nat)(e:OA)(f:Option Nat)(g:OA)(h i:Nat)(j k:Int)(l:OA)(m n:Nat)(o p:Int)(q:World):Prop:=af (decide (p<o)) (ix l m p λr=>nK q (r.add (p.toNat*5)) λr s t u v w x=>Q9q q r s t u v w x λr=>∃(s:World) (t:zg6) (u:World->zg6) (v:Nat->Value->zg6),GX s r t u v/\(cI s ((na q).add 2) .i64 λr=>cI s ((na q).add 3) .i64 λw=>cI s ((na q).add 4) .i64 λx=>aV e λy=>cI s (y.add 0) .i64 λs=>(∀y:World,t y->dC prog (Instr.lookup 109 (.map f) (Lj r w x s) false) y λz A=>∃B,z=.int .i64 B/\v 10 (.int .i64 B) A/\u y A)/\(∀y:Int,(∃z,t z/\v 10 (.int .i64 y) z)->inc y λz=>(∀A:World,t A->dC prog (Instr.mapEntry 109 (.map f) (Lj r w x s)) A λr s=>∃(w:Value) (x:Int),r=.tuple #[w,.int .i64 x]/\v 12 (.tuple #[w,.int .i64 x]) s/\u A s)/\(∀(r:Value) (s:Int),(∃u,t u/\v 12 (.tuple #[r,.int .i64 s]) u)->∀u:World,t u->v 10 (.int .i64 y) u->v 12 (.tuple #[r,.int .i64 s]) u->dC prog (do Instr.entryStore 109 (.map f) (.int .i64 s) (.int .i64 z);pure undef) u λ_ r=>inc p λp=>b33 a b c d e f g h i j k l m n o p r)))) (aV e λl=>cL q (l.add 1) λl m n=>aV e λo=>cL q (o.add 2) λo p r=>nw (q.alloc (.cells #[.slice l m n,.slice o p r] 72)) λl=>e49 a b c d e f g h i j k (some (na q)) 2 2 2 0 l)
def g49(R:VP)(b16:T16)(e63:T63)(a b:OA)(c d:Nat)(e:OA)(f:Option Nat)(g:OA)(h i:Nat)(j k:Int)(l:OA)(m n:Nat)(o p:Int)(q:World):Prop:=af (decide (p<o)) (ix l m p λr=>cL q (r.add (p.toNat*1)) λr s t=>e63 a b c d e f p g h i j k l m n o p r s t (s:Int) 0 q) (inc k λe=>b16 a b c d g h i j e q)
def g63(R:VP)(b49:T49)(b63:T63)(a b:OA)(c d:Nat)(e:OA)(f:Option Nat)(g:Int)(h:OA)(i j:Nat)(k l:Int)(m:OA)(n o:Nat)(p q:Int)(r:OA)(s t:Nat)(u v:Int)(w:World):Prop:=af (decide (v<u)) (ix r s v λx=>nK w (x.add (v.toNat*5)) λx y z A B C D=>Q9q w x y z A B C D λx=>cI x ((na w).add 2) .i64 λy=>af (decide (y<0)) (R (.tuple #[.slice none 0 0,.bool false]) x) (cI x ((na w).add 2) .i64 λy=>af (decide (y>=(c:Int))) (R (.tuple #[.slice none 0 0,.bool false]) x) (∃y:Nat->Value->World->Prop,KpF y/\(aV e λz=>cI x (z.add 0) .i64 λz=>cF x ((na w).add 0) .f64 λA=>cL x ((na w).add 1) λB C D=>(∀E:World,Below x.heap.size x E->CA 43 #[.slice B C D] E λB C=>∃D F G,B=.slice D F G/\y 6 (.slice D F G) C/\Below E.heap.size E C)/\(∀B:Option Addr,∀C:Nat,∀D:Nat,(∃E,Below x.heap.size x E/\y 6 (.slice B C D) E)->(∀E:World,Below x.heap.size x E->y 8 (.pointer (some (na E))) (E.alloc (.cells (qx 0 0 0 0 none 0 0 0 0 0) 56)))/\(∀E:Addr,(∃F,Below x.heap.size x F/\y 8 (.pointer (some E)) F)->∀F:World,Below x.heap.size x F->y 6 (.slice B C D) F->y 8 (.pointer (some E)) F->xW F E 2 0 z A B C D 1 0 0 λx=>af (g==1) (st x ((E.add 0).add 0) (.int .u8 3) λy=>cI y ((na w).add 2) .i64 λz=>cI y ((na w).add 3) .i64 λA=>cI y ((na w).add 4) .i64 λB=>aV e λC=>cI y (C.add 0) .i64 λC=>dC prog (Instr.lookup 109 (.map f) (Lj z A B C) false) y λy z=>∃A,y=.int .i64 A/\(af (decide (A>0)) (st z ((E.add 5).add 0) (.int .u8 2) λy=>∃A:World,CK A y/\(cI A ((na w).add 2) .i64 λB=>cI A ((na w).add 2) .i64 λC=>ix b c C λD=>cL A (D.add (C.toNat*1)) λC D F=>oh A E λG H I J K L M N O P=>cI A ((na w).add 3) .i64 λQ=>cI A ((na w).add 4) .i64 λS=>nw (y.alloc (.cells (mJ G H I J K L M N O P Q S) 115)) λG=>CK A G/\(Q1q 113 C D F (na y) 1 G λD F G C=>(CK A C/\(ix b c B λy=>st C ((y.add (B.toNat*1)).add 0) (.slice D F G) λy=>inc v λA=>b63 a b c d e f g h i j k l m n o p q r s t u A y))))) (∃y:World,CK y z/\(cI y ((na w).add 2) .i64 λA=>cI y ((na w).add 2) .i64 λB=>ix b c B λC=>cL y (C.add (B.toNat*1)) λB C D=>oh y E λF G H I J K L M N O=>cI y ((na w).add 3) .i64 λP=>cI y ((na w).add 4) .i64 λQ=>nw (z.alloc (.cells (mJ F G H I J K L M N O P Q) 115)) λF=>CK y F/\(Q1q 113 B C D (na z) 1 F λC D F B=>(CK y B/\(ix b c A λy=>st B ((y.add (A.toNat*1)).add 0) (.slice C D F) λy=>inc v λz=>b63 a b c d e f g h i j k l m n o p q r s t u z y))))))) (cI x ((na w).add 2) .i64 λy=>cI x ((na w).add 3) .i64 λz=>cI x ((na w).add 4) .i64 λA=>aV e λB=>cI x (B.add 0) .i64 λB=>dC prog (Instr.lookup 109 (.map f) (Lj y z A B) false) x λx y=>∃z,x=.int .i64 z/\(af (decide (z>0)) (st y ((E.add 5).add 0) (.int .u8 2) λx=>∃z:World,CK z x/\(cI z ((na w).add 2) .i64 λA=>cI z ((na w).add 2) .i64 λB=>ix b c B λC=>cL z (C.add (B.toNat*1)) λB C D=>oh z E λF G H I J K L M N O=>cI z ((na w).add 3) .i64 λP=>cI z ((na w).add 4) .i64 λQ=>nw (x.alloc (.cells (mJ F G H I J K L M N O P Q) 115)) λF=>CK z F/\(Q1q 113 B C D (na x) 1 F λC D F B=>(CK z B/\(ix b c A λx=>st B ((x.add (A.toNat*1)).add 0) (.slice C D F) λx=>inc v λz=>b63 a b c d e f g h i j k l m n o p q r s t u z x))))) (∃x:World,CK x y/\(cI x ((na w).add 2) .i64 λz=>cI x ((na w).add 2) .i64 λA=>ix b c A λB=>cL x (B.add (A.toNat*1)) λA B C=>oh x E λD E F G H I J K L M=>cI x ((na w).add 3) .i64 λN=>cI x ((na w).add 4) .i64 λO=>nw (y.alloc (.cells (mJ D E F G H I J K L M N O) 115)) λD=>CK x D/\(Q1q 113 A B C (na y) 1 D λB C D A=>(CK x A/\(ix b c z λx=>st A ((x.add (z.toNat*1)).add 0) (.slice B C D) λx=>inc v λv=>b63 a b c d e f g h i j k l m n o p q r s t u v x))))))))))))) (inc q λg=>b49 a b c d e f h i j k l m n o p g w)
def ZA(R:VP)(b106:YV)(a b:OA)(c d:Nat)(e:OA)(f g:Nat)(h i:Int)(j:World):Prop :=
 af (decide (i<h))
 (ix e f i λk=>
 cL j (k.add (i.toNat*1)) λk l m=>
 aV a λn=>
 cL j (n.add 1) λn o p=>
 ix n o i λn=>
 cI j (n.add (i.toNat*1)) .i64 λn=>
 af (decide (n<1))
 (R (.tuple #[.slice none 0 0,.bool false]) j)
 (aV a λn=>
 cL j (n.add 1) λn o p=>
 ix n o i λn=>
 cI j (n.add (i.toNat*1)) .i64 λn=>
 af (decide (n>4096))
 (R (.tuple #[.slice none 0 0,.bool false]) j)
 (aV a λn=>
 cL j (n.add 2) λn o p=>
 ix n o i λn=>
 cL j (n.add (i.toNat*1)) λn n o=>
 aV a λo=>
 cL j (o.add 1) λo p q=>
 ix o p i λo=>
 cI j (o.add (i.toNat*1)) .i64 λo=>
 af ((n:Int) != o)
 (R (.tuple #[.slice none 0 0,.bool false]) j)
 (aV a λn=>
 cL j (n.add 1) λn o p=>
 ix n o i λn=>
 cI j (n.add (i.toNat*1)) .i64 λn=>
 nv (IntKind.i64.wrap (n - 1)) λn=>
 af ((l:Int) != n)
 (R (.tuple #[.slice none 0 0,.bool false]) j)
 (aV a λn=>
 cL j (n.add 2) λn o p=>
 ix n o i λn=>
 cL j (n.add (i.toNat*1)) λn o p=>
 CA 59 #[.slice k l m,.slice n o p] j λk l=>
 ∃m n o p q,k = .tuple #[jh m n o p,.bool q] /\
 (nw (l.alloc (.cells (kU 0 none 0 0) 50)) λk=>
 y8 k (na l) m n o p λk=>
 af (!q)
 (R (.tuple #[.slice none 0 0,.bool false]) k)
 (aV a λm=>
 cL k (m.add 3) λm n o=>
 ix m n i λm=>
 cI k (m.add (i.toNat*1)) .i64 λm=>
 st k (((na l).add 0).add 0) (.int .i64 m) λk=>
 jF k (na l) λl m n o=>
 nw (k.alloc (.cells (kU l m n o) 50)) λl=>
 dC prog (Builtin.append_ #[24,24] 24 #[.slice b c d,.slice (some (na k)) 1 1]) l λk l=>
 ∃m n o,k = .slice m n o /\
 (inc i λi=>
 b106 a m n o e f g h i l))))))))
 (R (.tuple #[.slice b c d,.bool true]) j)
def q16(R:VP):QT:=(Exit.inBlock 0 (qS none (C [1,1,1,1]) (qf R)))
@[irreducible] def l16(R:VP)(k:Nat):T16:=λa b c d e f g h i w=>bg [1,4,41,42,43] (C [1,1,1,0,1,0,0]) (q16 R) k (fr (U 1 (.pointer a::U 2 (.slice b c d::U 36 (.slice e f g::(.int .i64 h::(.int .i64 i::U 167 []))))))) w
def e16(R:VP):T16:=λa b c d e f g h i w=>∃k,l16 R k a b c d e f g h i w
def q33(R:VP)(k16:Nat):QT:=(Exit.inBlock 2 (qS none (C [1,1,1,0,1,0,0,1,1,0,0,1,1,1]) (Exit.inBlock 1 (qS none (C [1,1,1,0,1,0,0,1,1,1]) (qL [1,4,41,42,43] (C [1,1,1,0,1,0,0]) (q16 R) k16)))))
def YR(R:VP)(k16 k:Nat):T33:=λa b c d e f g h i j l m n o p q w=>bg [1,4,6,7,41,42,43,49,50,51] (C [1,1,1,0,1,0,0,1,1,0,0,1,1,0,1,0,0]) (q33 R k16) k (fr (U 1 (.pointer a::U 2 (.slice b c d::U 1 (.pointer e::(.map f::U 33 (.slice g h i::(.int .i64 j::(.int .i64 l::U 5 (.slice m n o::(.int .i64 p::(.int .i64 q::U 159 [])))))))))))) w
def a0a(R:VP)(k16:Nat):T33:=λa b c d e f g h i j l m n o p q w=>∃k,YR R k16 k a b c d e f g h i j l m n o p q w
def q49(R:VP)(k16:Nat):QT:=(Exit.inBlock 4 (Exit.inBlock 1 (qS none (C [1,1,1,0,1,0,0,1,1,1]) (qL [1,4,41,42,43] (C [1,1,1,0,1,0,0]) (q16 R) k16))))
def WU(R:VP)(k16 k:Nat):T49:=λa b c d e f g h i j l m n o p q w=>bg [1,4,6,7,41,42,43,74,75,76] (C [1,1,1,0,1,0,0,1,1,0,0,1,1,1,1,0,0]) (q49 R k16) k (fr (U 1 (.pointer a::U 2 (.slice b c d::U 1 (.pointer e::(.map f::U 33 (.slice g h i::(.int .i64 j::(.int .i64 l::U 30 (.slice m n o::(.int .i64 p::(.int .i64 q::U 134 [])))))))))))) w
def ZB(R:VP)(k16:Nat):T49:=λa b c d e f g h i j l m n o p q w=>∃k,WU R k16 k a b c d e f g h i j l m n o p q w
def q63(R:VP)(k16 k49:Nat):QT:=(Exit.inBlock 6 (Exit.inBlock 5 (qS none (C [1,1,1,0,1,0,0,1,1,0,0,1,1,1,1,0,0,1,1,1]) (qL [1,4,6,7,41,42,43,74,75,76] (C [1,1,1,0,1,0,0,1,1,0,0,1,1,1,1,0,0]) (q49 R k16) k49))))
def YT(R:VP)(k16 k49 k:Nat):T63:=λa b c d e f g h i j l m n o p q r s t u v x w=>bg [1,4,6,7,10,41,42,43,74,75,76,81,82,83] (C [1,1,1,0,1,0,0,1,1,0,0,1,1,1,1,0,0,1,1,0,0,1,1,0,0]) (q63 R k16 k49) k (fr (U 1 (.pointer a::U 2 (.slice b c d::U 1 (.pointer e::(.map f::U 2 (.int .i64 g::U 30 (.slice h i j::(.int .i64 l::(.int .i64 m::U 30 (.slice n o p::(.int .i64 q::(.int .i64 r::U 4 (.slice s t u::(.int .i64 v::(.int .i64 x::U 127 [])))))))))))))))) w
def Z9(R:VP)(k16 k49:Nat):T63:=λa b c d e f g h i j l m n o p q r s t u v x w=>∃k,YT R k16 k49 k a b c d e f g h i j l m n o p q r s t u v x w
def a1w(R:VP):QT:=(Exit.inBlock 8 (qS none (C [1,1,1,1,1,1]) (qf R)))
@[irreducible] def YP(R:VP)(k:Nat):YV:=λa b c d e f g h i w=>bg [1,15,141,142,143] (C [1,1,1,1,1,0,1,0,0]) (a1w R) k (fr (U 1 (.pointer a::U 13 (.slice b c d::U 125 (.slice e f g::(.int .i64 h::(.int .i64 i::U 67 []))))))) w
def Z4(R:VP):YV:=λa b c d e f g h i w=>∃k,YP R k a b c d e f g h i w
def l63(R:VP)(b16:T16)(b49:T49):Nat->T63
 |0=>λ_ _ _ _ _ _ _ _ _ _ _ _ _ _ _ _ _ _ _ _ _ _ _=>False
 |k+1=>g63 R b49 (l63 R b16 b49 k)
def e63(R:VP)(b16:T16)(b49:T49):T63:=λa b c d e f g h i j l m n o p q r s t u v x w=>∃k,l63 R b16 b49 k a b c d e f g h i j l m n o p q r s t u v x w
theorem s63(R:VP)(k16 k49 k:Nat):YT R k16 k49 (k+1)=λa b c d e f g h i j l m n o p q r s t u v x w=>∀_:Nat->Value,g63 R (WU R k16 k49) (YT R k16 k49 k) a b c d e f g h i j l m n o p q r s t u v x w:=by kernel_rfl
theorem a0C(R:VP)(k16 k49:Nat)(b16:T16)(b49:T49)(hb16:b16=l16 R k16)(hb49:b49=WU R k16 k49):∀k,l63 R b16 b49 k=YT R k16 k49 k
 |0=>by kernel_rfl
 |k+1=>by
  rw[s63];simp only[forall_const];unfold l63;have ih:=a0C R k16 k49 b16 b49 hb16 hb49 k;subst hb16;subst hb49;rw[ih]
  all_goals rfl
theorem a0Q(R:VP)(k16 k49:Nat)(b16:T16)(b49:T49)(hb16:b16=l16 R k16)(hb49:b49=WU R k16 k49):e63 R b16 b49=Z9 R k16 k49:=by
 unfold e63 Z9;simp only[a0C R k16 k49 b16 b49 hb16 hb49]
def l49(R:VP)(b16:T16):Nat->T49
 |0=>λ_ _ _ _ _ _ _ _ _ _ _ _ _ _ _ _ _=>False
 |k+1=>g49 R b16 (e63 R b16 (l49 R b16 k))
def e49(R:VP)(b16:T16):T49:=λa b c d e f g h i j l m n o p q w=>∃k,l49 R b16 k a b c d e f g h i j l m n o p q w
theorem s49(R:VP)(k16 k:Nat):WU R k16 (k+1)=λa b c d e f g h i j l m n o p q w=>∀_:Nat->Value,g49 R (l16 R k16) (Z9 R k16 k) a b c d e f g h i j l m n o p q w:=by kernel_rfl
theorem a0c(R:VP)(k16:Nat)(b16:T16)(hb16:b16=l16 R k16):∀k,l49 R b16 k=WU R k16 k
 |0=>by kernel_rfl
 |k+1=>by
  rw[s49];simp only[forall_const];unfold l49;have ih:=a0c R k16 b16 hb16 k;subst hb16;rw[a0Q R k16 k _ _ rfl ih]
  all_goals rfl
theorem a1t(R:VP)(k16:Nat)(b16:T16)(hb16:b16=l16 R k16):e49 R b16=ZB R k16:=by
 unfold e49 ZB;simp only[a0c R k16 b16 hb16]
def l33(R:VP)(b16:T16):Nat->T33
 |0=>λ_ _ _ _ _ _ _ _ _ _ _ _ _ _ _ _ _=>False
 |k+1=>g33 R (l33 R b16 k) (e49 R b16)
def e33(R:VP)(b16:T16):T33:=λa b c d e f g h i j l m n o p q w=>∃k,l33 R b16 k a b c d e f g h i j l m n o p q w
theorem s33(R:VP)(k16 k:Nat):YR R k16 (k+1)=λa b c d e f g h i j l m n o p q w=>∀_:Nat->Value,g33 R (YR R k16 k) (ZB R k16) a b c d e f g h i j l m n o p q w:=by kernel_rfl
theorem a0e(R:VP)(k16:Nat)(b16:T16)(hb16:b16=l16 R k16):∀k,l33 R b16 k=YR R k16 k
 |0=>by kernel_rfl
 |k+1=>by
  rw[s33];simp only[forall_const];unfold l33;have ih:=a0e R k16 b16 hb16 k;subst hb16;rw[a1t R k16 _ rfl];rw[ih]
  all_goals rfl
theorem a1e(R:VP)(k16:Nat)(b16:T16)(hb16:b16=l16 R k16):e33 R b16=a0a R k16:=by
 unfold e33 a0a;simp only[a0e R k16 b16 hb16]
theorem X5(R k a b c d e f g h i w):YP R (k+1) a b c d e f g h i w=ZA R (YP R k) a b c d e f g h i w:=ju
theorem u16(R k a b c d e f g h i w):l16 R (k+1) a b c d e f g h i w=g16 R (e33 R (l16 R k)) (Z4 R) a b c d e f g h i w:=by rw[a1e R k _ rfl];exact ju (by kernel_rfl)
end aF
def aF(R:VP):=aF.g0 R (aF.e16 R)
theorem aF.calls{R a b c d e f g h i j l m n w}(k:aF R a b c d e f g h i j l m n w):CA 38 #[AX a b c d e f g h i j l m n] w R:=cal (n:=aF.an) func38 rfl k
namespace iU
def an:An:=An.nil
def g0(R:VP)(a b:Int)(c:OA)(d e:Nat)(f:OA)(g h:Nat)(i j:Int)(k:OA)(l m:Nat)(n:OA)(o p:Nat)(q:World):Prop:=nw (q.alloc (.cells (mr a b c d e f g h) 31)) λa=>nw (a.alloc (.cells (mr i j k l m n o p) 31)) λb=>cI b ((na q).add 0) .i64 λc=>cI b ((na a).add 0) .i64 λd=>af (c==d) (cI b ((na q).add 1) .i64 λc=>cI b ((na a).add 1) .i64 λd=>af (c==d) (cL b ((na q).add 2) λc d e=>cL b ((na a).add 2) λf g h=>CA 60 #[.slice c d e,.slice f g h] b λc d=>∃e,c=.bool e/\(af e (cL d ((na q).add 3) λc e f=>cL d ((na a).add 3) λa g h=>CA 61 #[.slice c e f,.slice a g h,.func (.func 62) #[] #[]] d λa c=>∃e,a=.bool e/\(R (.bool e) c)) (R (.bool false) d))) (R (.bool false) b)) (R (.bool false) b)
end iU
def iU(R:VP):=iU.g0 R
theorem iU.calls{R a b c d e f g h i j l m n o p q w}(k:iU R a b c d e f g h i j l m n o p q w):CA 39 #[kE a b c d e f g h,kE i j l m n o p q] w R:=cal (n:=iU.an) func39 rfl k
namespace aS
def an:An:=(aR (aR (aR (aR (aR (aL (aL (.mk (some [0,1,6,8,9,10]) (aR (aL (aR (aR (.mk (some [0,1,6,8,9,10,11]) .nil .nil))))) .nil))))))))
def qf(R:VP):QT:=fin prog f40 R
def C:=cdN prog f40 an
abbrev T18:=OA->Nat->Nat->OA->Nat->Nat->OA->OA->OA->Nat->Nat->Int->World->Prop
abbrev T44:=OA->Nat->Nat->OA->Nat->Nat->OA->OA->OA->Nat->Nat->Int->OA->World->Prop
def g0(R:VP)(e18:T18)(a:OA)(b c:Nat)(d:OA)(e f:Nat)(g:Int)(h:World):Prop:=nw (h.alloc (.cells (kU 0 none 0 0) 50)) λi=>Q8q i g none 0 0 λg=>Q0q ((e:Int) - 1) λj=>af ((b:Int) != j) (jF g (na i) λj k l m=>y8 g (na h) j k l m λj=>jF j (na h) λk l m n=>R (.tuple #[jh k l m n,.bool false]) j) (nw (g.alloc (.cells (Gs 0 (e:Int) (-1)) 123)) λj=>e18 a b c d e f (some (na h)) (some (na i)) (some (na g)) 1 1 0 j)
def g18(R:VP)(j44:T44)(a:OA)(b c:Nat)(d:OA)(e f:Nat)(g h i:OA)(j k:Nat)(l:Int)(m:World):Prop:=af (decide ((j:Int)>0)) (Q0q ((j:Int) - 1) λn=>ix i j n λo=>VO m (o.add (n.toNat*3)) λn o p=>Qaq m n o p λn=>Q0q ((j:Int) - 1) λj=>chk ((0:Int)<=j/\j<=(k:Int)) (cI n ((na m).add 2) .i64 λo=>af (decide (o>=0)) (aV h λo=>cL n (o.add 1) λo o p=>aV h λp=>cL n (p.add 1) λp q r=>cI n ((na m).add 2) .i64 λr=>ix p q r λp=>cI n ((p.add (r.toNat*8)).add 6) .i64 λq=>af (q==0) (st n (((p.add (r.toNat*8)).add 6).add 0) (.int .i64 (o:Int)) λq=>j44 a b c d e f g h (slA i k 0 3) j.toNat k l (some (na m)) q) (st n (((p.add (r.toNat*8)).add 7).add 0) (.int .i64 (o:Int)) λo=>j44 a b c d e f g h (slA i k 0 3) j.toNat k l (some (na m)) o)) (j44 a b c d e f g h (slA i k 0 3) j.toNat k l (some (na m)) n))) (aV h λa=>jF m a λa b c d=>aV g λe=>y8 m e a b c d λa=>aV g λb=>jF a b λb c d e=>R (.tuple #[jh b c d e,.bool true]) a)
def g44(R:VP)(b18:T18)(a:OA)(b c:Nat)(d:OA)(e f:Nat)(g h i:OA)(j k:Nat)(l:Int)(m:OA)(n:World):Prop:=aV m λo=>cI n (o.add 1) .i64 λo=>aV m λp=>cI n (p.add 0) .i64 λp=>inc p λp=>af (o==p) (∃o:Nat->Value->World->Prop,KpF o/\(aV h λp=>cL n (p.add 1) λp q r=>aV m λs=>cI n (s.add 0) .i64 λs=>ix d e s λt=>cI n (t.add (s.toNat*1)) .i64 λs=>(∀t:World,Below n.heap.size n t->o 8 (.slice (some (na t)) 1 1) (t.alloc (.cells (qx 1 s 0 0 none 0 0 0 0 0) 56)))/\(∀s:Addr,(∃t,Below n.heap.size n t/\o 8 (.slice (some s) 1 1) t)->∀t:World,Below n.heap.size n t->o 8 (.slice (some s) 1 1) t->Q1q 48 p q r s 1 t λq r s p=>(aV h λo=>st p ((o.add 1).add 0) (.slice q r s) λo=>b18 a b c d e f g h i j k l o)))) (af (decide (l>=(b:Int))) (aV h λo=>jF n o λo p q r=>aV g λs=>y8 n s o p q r λo=>aV g λp=>jF o p λp q r s=>R (.tuple #[jh p q r s,.bool false]) o) (ix a b l λo=>cI n ((o.add (l.toNat*10)).add 8) .i64 λo=>aV m λp=>cI n (p.add 0) .i64 λp=>af (o != p) (aV h λo=>jF n o λo p q r=>aV g λs=>y8 n s o p q r λo=>aV g λp=>jF o p λp q r s=>R (.tuple #[jh p q r s,.bool false]) o) (ix a b l λo=>cI n ((o.add (l.toNat*10)).add 9) .i64 λo=>aV m λp=>cI n (p.add 0) .i64 λp=>af (decide (o<=p)) (aV h λo=>jF n o λo p q r=>aV g λs=>y8 n s o p q r λo=>aV g λp=>jF o p λp q r s=>R (.tuple #[jh p q r s,.bool false]) o) (ix a b l λo=>cI n ((o.add (l.toNat*10)).add 9) .i64 λo=>aV m λp=>cI n (p.add 1) .i64 λp=>af (decide (o>=p)) (aV h λo=>jF n o λo p q r=>aV g λs=>y8 n s o p q r λo=>aV g λp=>jF o p λp q r s=>R (.tuple #[jh p q r s,.bool false]) o) (aV h λo=>cL n (o.add 1) λo o p=>∃p:Nat->Value->World->Prop,KpF p/\(aV h λq=>cL n (q.add 1) λq r s=>ix a b l λt=>oh n ((t.add (l.toNat*10)).add 0) λt u v w x y z A B C=>(∀D:World,Below n.heap.size n D->p 7 (.slice (some (na D)) 1 1) (D.alloc (.cells (qx t u v w x y z A B C) 56)))/\(∀t:Addr,(∃u,Below n.heap.size n u/\p 7 (.slice (some t) 1 1) u)->∀u:World,Below n.heap.size n u->p 7 (.slice (some t) 1 1) u->Q1q 48 q r s t 1 u λq r s p=>(aV h λn=>st p ((n.add 1).add 0) (.slice q r s) λn=>∃p:Nat->Value->World->Prop,KpF p/\(ix a b l λq=>cI n ((q.add (l.toNat*10)).add 9) .i64 λq=>aV m λr=>cI n (r.add 1) .i64 λr=>aV m λm=>cI n (m.add 0) .i64 λm=>ix a b l λs=>cI n ((s.add (l.toNat*10)).add 9) .i64 λs=>(∀t:World,Below n.heap.size n t->p 19 (.slice (some (na t)) 2 2) (t.alloc (.cells #[.int .i64 q,.int .i64 r,.int .i64 (o:Int),.int .i64 m,.int .i64 s,.int .i64 (o:Int)] 123)))/\(∀m:Addr,(∃o,Below n.heap.size n o/\p 19 (.slice (some m) 2 2) o)->∀o:World,Below n.heap.size n o->p 19 (.slice (some m) 2 2) o->Q1q 124 i j k m 2 o λk m n j=>(inc l λi=>b18 a b c d e f g h k m n i j)))))))))))
def q18(R:VP):QT:=(Exit.inBlock 0 (qS none (C [1,1,1,1,1,1]) (qf R)))
@[irreducible] def l18(R:VP)(k:Nat):T18:=λa b c d e f g h i j l m w=>bg [0,1,6,8,9,10] (C [1,1,1,1,1,0,0,0]) (q18 R) k (fr ((.slice a b c::(.slice d e f::U 4 (.pointer g::U 1 (.pointer h::(.slice i j l::(.int .i64 m::U 144 [])))))))) w
def e18(R:VP):T18:=λa b c d e f g h i j l m w=>∃k,l18 R k a b c d e f g h i j l m w
def a0x(R:VP)(k18:Nat):T44:=λa b c d e f g h i j l m n w=>jT (some [0,1,6,8,9,10,11]) (C [1,1,1,1,1,0,0,0,1,0,1,1,1] (Exit.inBlock 1 (qL [0,1,6,8,9,10] (C [1,1,1,1,1,0,0,0]) (q18 R) k18))) (fr ((.slice a b c::(.slice d e f::U 4 (.pointer g::U 1 (.pointer h::(.slice i j l::(.int .i64 m::(.pointer n::U 143 []))))))))) w
def j44(R:VP)(b18:T18):T44:=g44 R b18
theorem s44(R:VP)(k18:Nat):a0x R k18=λa b c d e f g h i j l m n w=>∀_:Nat->Value,g44 R (l18 R k18) a b c d e f g h i j l m n w:=by kernel_rfl
theorem a1g(R:VP)(k18:Nat)(b18:T18)(hb18:b18=l18 R k18):j44 R b18=a0x R k18:=by
  rw[s44];simp only[forall_const];unfold j44;subst hb18
  all_goals rfl
theorem u18(R k a b c d e f g h i j l m w):l18 R (k+1) a b c d e f g h i j l m w=g18 R (j44 R (l18 R k)) a b c d e f g h i j l m w:=by rw[a1g R k _ rfl];exact ju (by kernel_rfl)
end aS
def aS(R:VP):=aS.g0 R (aS.e18 R)
theorem aS.calls{R a b c d e f g w}(k:aS R a b c d e f g w):CA 40 #[.slice a b c,.slice d e f,.int .i64 g] w R:=cal (n:=aS.an) func40 rfl k
namespace ag
def an:An:=(aR (aR (aL (aR (aL (.mk (some [1,5,18,19,20]) (aR (aR (aL (aL (aR (aR (aL (.mk (some [1,5,7,8,18,19,20]) (aR (aL (aL (aR (.mk (some [1,5,7,8,9,18,19,20]) .nil (aR (aL (.mk (some [1,5,7,8,18,19,20,34,35,36]) (aR (aR (aL (aL (aR (aR (aR (aR (.mk (some [1,5,7,8,11,12,18,19,20,34,35,36]) .nil (.mk none (aR (aL (.mk (some [1,5,7,8,11,12,18,19,20,34,35,36,68,69,70]) .nil .nil))) (aR (.mk none (aL (.mk (some [1,5,7,8,12,15,18,19,20,34,35,36]) .nil .nil)) (aR (aL (aR (aL (.mk (some [1,5,7,8,12,15,16,18,19,20,34,35,36]) .nil .nil))))))))))))))))) .nil)))))))) .nil)))))))) .nil))))))
def qf(R:VP):QT:=fin prog f41 R
def C:=cdN prog f41 an
abbrev T8:=Int->OA->Nat->Nat->OA->Nat->Nat->Int->Int->World->Prop
abbrev T22:=Int->OA->Nat->Nat->OA->Int->OA->Nat->Nat->Int->Int->World->Prop
abbrev T39:=Int->OA->Nat->Nat->OA->Int->OA->Nat->Nat->OA->Nat->Nat->Int->Int->World->Prop
abbrev T42:=Int->OA->Nat->Nat->OA->Int->OA->Nat->Nat->Int->Int->OA->Nat->Nat->Int->Int->World->Prop
abbrev T69:=Int->OA->Nat->Nat->OA->Int->OA->OA->OA->Nat->Nat->Int->Int->OA->Nat->Nat->Int->Int->World->Prop
abbrev T73:=Int->OA->Nat->Nat->OA->Int->OA->OA->OA->Nat->Nat->Int->Int->OA->Nat->Nat->Int->Int->OA->Nat->Nat->Int->Int->World->Prop
abbrev T94:=Int->OA->Nat->Nat->OA->Int->OA->Int->OA->Nat->Nat->Int->Int->OA->Nat->Nat->Int->Int->World->Prop
abbrev X3:=Int->OA->Nat->Nat->OA->Int->OA->Int->Int->OA->Nat->Nat->Int->Int->OA->Nat->Nat->Int->Int->World->Prop
def g0(R:VP)(e8:T8)(a:Int)(b:OA)(c d:Nat)(e:OA)(f g:Nat)(h:OA)(i j:Nat)(k:OA)(l m:Nat)(n:Int)(o:World):Prop:=nw (o.alloc (.cells (nD a b c d e f g h i j k l m) 66)) λa=>cL a ((na o).add 4) λb c d=>e8 n none 0 0 b c d (c:Int) 0 a
def g8(R:VP)(e22:T22)(a:Int)(b:OA)(c d:Nat)(e:OA)(f g:Nat)(h i:Int)(j:World):Prop:=af (decide (i<h)) (ix e f i λk=>rU j (k.add (i.toNat*4)) λk l m n o p q r s t=>Q4q j k l m n o p q r s t λk=>e22 a b c d (some (na j)) 0 e f g h i k) (R (.slice b c d) j)
def g22(R:VP)(b8:T8)(j39:T39)(a:Int)(b:OA)(c d:Nat)(e:OA)(f:Int)(g:OA)(h i:Nat)(j k:Int)(l:World):Prop:=af (decide (f<2)) (aV e λm=>cL l (m.add 1) λm n o=>af (f==1) (aV e λp=>cL l (p.add 2) λp q r=>j39 a b c d e f p q r g h i j k l) (j39 a b c d e f m n o g h i j k l)) (inc k λe=>b8 a b c d g h i j e l)
def g39(R:VP)(e42:T42)(a:Int)(b:OA)(c d:Nat)(e:OA)(f:Int)(g:OA)(h i:Nat)(j:OA)(k l:Nat)(m n:Int)(o:World):Prop:=e42 a b c d e f j k l m n g h i (h:Int) 0 o
def g42(R:VP)(b22:T22)(b42:T42)(j69:T69)(a:Int)(b:OA)(c d:Nat)(e:OA)(f:Int)(g:OA)(h i:Nat)(j k:Int)(l:OA)(m n:Nat)(o p:Int)(q:World):Prop:=af (decide (p<o)) (ix l m p λr=>nK q (r.add (p.toNat*5)) λr s t u v w x=>Q9q q r s t u v w x λr=>cI r ((na q).add 2) .i64 λs=>af (s != a) (inc p λs=>b42 a b c d e f g h i j k l m n o s r) (cI r ((na q).add 3) .i64 λs=>cI r ((na q).add 4) .i64 λt=>Qbq r 0 0 0 0 none 0 0 0 0 0 s t λs=>aV e λt=>cI s (t.add 0) .i64 λt=>cF s ((na q).add 0) .f64 λu=>xW s ((na r).add 0) 2 0 t u none 0 0 1 0 0 λs=>af (f==1) (∃t:Nat->Value->World->Prop,KpF t/\(aV e λu=>cI s (u.add 0) .i64 λu=>nK s (na q) λv w x y z A B=>(∀C:World,Below s.heap.size s C->t 3 (.slice (some (na C)) 1 1) (C.alloc (.cells (oG v w x y z A B) 76)))/\(∀v:Addr,(∃w,Below s.heap.size s w/\t 3 (.slice (some v) 1 1) w)->(∀w:World,Below s.heap.size s w->t 3 (.slice (some v) 1 1) w->CA 37 #[.slice (some v) 1 1] w λx y=>∃z A B,x=.slice z A B/\t 4 (.slice z A B) y/\Below w.heap.size w y)/\(∀w:Option Addr,∀x:Nat,∀y:Nat,(∃z,Below s.heap.size s z/\t 4 (.slice w x y) z)->ix w x 0 λz=>(∀A:World,Below s.heap.size s A->t 3 (.slice (some v) 1 1) A->t 4 (.slice w x y) A->cL A ((z.add 0).add 1) λz B C=>t 7 (.slice z B C) A)/\(∀z:Option Addr,∀A:Nat,∀B:Nat,(∃C,Below s.heap.size s C/\t 7 (.slice z A B) C)->∀C:World,Below s.heap.size s C->t 3 (.slice (some v) 1 1) C->t 4 (.slice w x y) C->t 7 (.slice z A B) C->xW C ((na r).add 0) 3 0 u 0 z A B 1 0 0 λt=>j69 a b c d e f (some (na q)) (some (na r)) g h i j k l m n o p t))))) (j69 a b c d e f (some (na q)) (some (na r)) g h i j k l m n o p s))) (inc f λf=>b22 a b c d e f g h i j k q)
def g69(R:VP)(e73:T73)(a:Int)(b:OA)(c d:Nat)(e:OA)(f:Int)(g h i:OA)(j k:Nat)(l m:Int)(n:OA)(o p:Nat)(q r:Int)(s:World):Prop:=aV e λt=>cL s (t.add 3) λt u v=>e73 a b c d e f g h i j k l m n o p q r t u v (u:Int) 0 s
def g73(R:VP)(b73:T73)(e94:T94)(a:Int)(b:OA)(c d:Nat)(e:OA)(f:Int)(g h i:OA)(j k:Nat)(l m:Int)(n:OA)(o p:Nat)(q r:Int)(s:OA)(t u:Nat)(v w:Int)(x:World):Prop:=af (decide (w<v)) (ix s t w λy=>nK x (y.add (w.toNat*5)) λy z A B C D E=>Q9q x y z A B C D E λy=>cI y ((na x).add 2) .i64 λz=>af (z==a) (cI y ((na x).add 3) .i64 λz=>aV g λA=>cI y (A.add 3) .i64 λA=>af (z==A) (cI y ((na x).add 4) .i64 λz=>aV g λA=>cI y (A.add 4) .i64 λA=>af (z==A) (aV h λz=>st y (((z.add 0).add 5).add 0) (.int .u8 2) λz=>inc w λA=>b73 a b c d e f g h i j k l m n o p q r s t u v A z) (inc w λz=>b73 a b c d e f g h i j k l m n o p q r s t u v z y)) (inc w λz=>b73 a b c d e f g h i j k l m n o p q r s t u v z y)) (inc w λw=>b73 a b c d e f g h i j k l m n o p q r s t u v w y)) (e94 a b c d e f h (c:Int) i j k l m n o p q r x)
def g94(R:VP)(b94:T94)(e109:X3)(a:Int)(b:OA)(c d:Nat)(e:OA)(f:Int)(g:OA)(h:Int)(i:OA)(j k:Nat)(l m:Int)(n:OA)(o p:Nat)(q r:Int)(s:World):Prop:=af (decide (h>0)) (Q0q (h - 1) λt=>ix b c t λu=>cI s ((u.add (t.toNat*10)).add 8) .i64 λt=>aV g λu=>cI s (u.add 8) .i64 λu=>af (decide (t>u)) (Q0q (h - 1) λt=>b94 a b c d e f g t i j k l m n o p q r s) (Q0q (h - 1) λt=>ix b c t λu=>cI s ((u.add (t.toNat*10)).add 8) .i64 λt=>aV g λu=>cI s (u.add 8) .i64 λu=>af (t==u) (Q0q (h - 1) λt=>ix b c t λu=>cI s ((u.add (t.toNat*10)).add 9) .i64 λt=>aV g λu=>cI s (u.add 9) .i64 λu=>af (decide (t<u)) (Q0q (h - 1) λt=>b94 a b c d e f g t i j k l m n o p q r s) (nw (s.alloc (.cells (mJ 0 0 0 0 none 0 0 0 0 0 0 0) 127)) λt=>Q1q 86 b c d (na s) 1 t λv w x u=>(Q0q ((w:Int) - 1) λt=>e109 a v w x e f g h t i j k l m n o p q r u))) (nw (s.alloc (.cells (mJ 0 0 0 0 none 0 0 0 0 0 0 0) 127)) λt=>Q1q 86 b c d (na s) 1 t λv w x u=>(Q0q ((w:Int) - 1) λt=>e109 a v w x e f g h t i j k l m n o p q r u)))) (nw (s.alloc (.cells (mJ 0 0 0 0 none 0 0 0 0 0 0 0) 127)) λt=>Q1q 86 b c d (na s) 1 t λd s t c=>(Q0q ((s:Int) - 1) λb=>e109 a d s t e f g h b i j k l m n o p q r c))
def YF(R:VP)(b42:T42)(b109:X3)(a:Int)(b:OA)(c d:Nat)(e:OA)(f:Int)(g:OA)(h i:Int)(j:OA)(k l:Nat)(m n:Int)(o:OA)(p q:Nat)(r s:Int)(t:World):Prop :=
 af (decide (i>h))
 (nv (IntKind.i64.wrap (i - 1)) λu=>
 ix b c u λv=>
 mf t (v.add (u.toNat*10)) λu v w x y z A B C D E F=>
 ix b c i λG=>
 ug t (G.add (i.toNat*10)) u v w x y z A B C D E F λu=>
 nv (IntKind.i64.wrap (i - 1)) λi=>
 b109 a b c d e f g h i j k l m n o p q r s u)
 (aV g λg=>
 mf t g λg i u v w x y z A B C D=>
 ix b c h λE=>
 ug t (E.add (h.toNat*10)) g i u v w x y z A B C D λg=>
 inc s λh=>
 b42 a b c d e f j k l m n o p q r h g)
def q8(R:VP):QT:=(Exit.inBlock 0 (qS none (C [1,1,1]) (qf R)))
@[irreducible] def l8(R:VP)(k:Nat):T8:=λa b c d e f g h i w=>bg [1,5,18,19,20] (C [1,1,0,1,0,0]) (q8 R) k (fr (U 1 (.int .i64 a::U 3 (.slice b c d::U 12 (.slice e f g::(.int .i64 h::(.int .i64 i::U 140 []))))))) w
def e8(R:VP):T8:=λa b c d e f g h i w=>∃k,l8 R k a b c d e f g h i w
def q22(R:VP)(k8:Nat):QT:=(Exit.inBlock 2 (Exit.inBlock 1 (qS none (C [1,1,0,1,0,0,1,1,1]) (qL [1,5,18,19,20] (C [1,1,0,1,0,0]) (q8 R) k8))))
def Io(R:VP)(k8 k:Nat):T22:=λa b c d e f g h i j l w=>bg [1,5,7,8,18,19,20] (C [1,1,0,1,0,0,1,1,0,0,1,1,0,0]) (q22 R k8) k (fr (U 1 (.int .i64 a::U 3 (.slice b c d::U 1 (.pointer e::(.int .i64 f::U 9 (.slice g h i::(.int .i64 j::(.int .i64 l::U 140 []))))))))) w
def a0q(R:VP)(k8:Nat):T22:=λa b c d e f g h i j l w=>∃k,Io R k8 k a b c d e f g h i j l w
def Zp(R:VP)(k8 k22:Nat):T39:=λa b c d e f g h i j l m n o w=>jT (some [1,5,7,8,9,18,19,20]) (C [1,1,0,1,0,0,1,1,0,0,1,1,0,0,1,0,0,1,1] (Exit.inBlock 3 (qS none (C [1,1,0,1,0,0,1,1,0,0,1,1,0,0,1,1]) (qL [1,5,7,8,18,19,20] (C [1,1,0,1,0,0,1,1,0,0,1,1,0,0]) (q22 R k8) k22)))) (fr (U 1 (.int .i64 a::U 3 (.slice b c d::U 1 (.pointer e::(.int .i64 f::(.slice g h i::U 8 (.slice j l m::(.int .i64 n::(.int .i64 o::U 140 [])))))))))) w
def q42(R:VP)(k8 k22:Nat):QT:=(Exit.inBlock 4 (Exit.inBlock 3 (qS none (C [1,1,0,1,0,0,1,1,0,0,1,1,0,0,1,1]) (qL [1,5,7,8,18,19,20] (C [1,1,0,1,0,0,1,1,0,0,1,1,0,0]) (q22 R k8) k22))))
def N8(R:VP)(k8 k22 k:Nat):T42:=λa b c d e f g h i j l m n o p q w=>bg [1,5,7,8,18,19,20,34,35,36] (C [1,1,0,1,0,0,1,1,0,0,1,1,0,0,1,0,0,1,1,1,0,0]) (q42 R k8 k22) k (fr (U 1 (.int .i64 a::U 3 (.slice b c d::U 1 (.pointer e::(.int .i64 f::U 9 (.slice g h i::(.int .i64 j::(.int .i64 l::U 13 (.slice m n o::(.int .i64 p::(.int .i64 q::U 124 [])))))))))))) w
def ZZ(R:VP)(k8 k22:Nat):T42:=λa b c d e f g h i j l m n o p q w=>∃k,N8 R k8 k22 k a b c d e f g h i j l m n o p q w
def a03(R:VP)(k8 k22 k42:Nat):T69:=λa b c d e f g h i j l m n o p q r s w=>jT (some [1,5,7,8,11,12,18,19,20,34,35,36]) (C [1,1,0,1,0,0,1,1,0,0,1,1,0,0,1,0,0,1,1,1,0,0,1,1,0,0,1,1,1,1,1] (Exit.inBlock 5 (qS none (C [1,1,0,1,0,0,1,1,0,0,1,1,0,0,1,0,0,1,1,1,0,0,1,1,1]) (qL [1,5,7,8,18,19,20,34,35,36] (C [1,1,0,1,0,0,1,1,0,0,1,1,0,0,1,0,0,1,1,1,0,0]) (q42 R k8 k22) k42)))) (fr (U 1 (.int .i64 a::U 3 (.slice b c d::U 1 (.pointer e::(.int .i64 f::U 2 (.pointer g::(.pointer h::U 5 (.slice i j l::(.int .i64 m::(.int .i64 n::U 13 (.slice o p q::(.int .i64 r::(.int .i64 s::U 124 [])))))))))))))) w
def q73(R:VP)(k8 k22 k42:Nat):QT:=(Exit.inBlock 6 (qS none (C [1,1,0,1,0,0,1,1,0,0,1,1,0,0,1,0,0,1,1,1,0,0,1,1,0,0,1,1,1,1,1,1]) (Exit.inBlock 5 (qS none (C [1,1,0,1,0,0,1,1,0,0,1,1,0,0,1,0,0,1,1,1,0,0,1,1,1]) (qL [1,5,7,8,18,19,20,34,35,36] (C [1,1,0,1,0,0,1,1,0,0,1,1,0,0,1,0,0,1,1,1,0,0]) (q42 R k8 k22) k42)))))
def YO(R:VP)(k8 k22 k42 k:Nat):T73:=λa b c d e f g h i j l m n o p q r s t u v x y w=>bg [1,5,7,8,11,12,18,19,20,34,35,36,68,69,70] (C [1,1,0,1,0,0,1,1,0,0,1,1,0,0,1,0,0,1,1,1,0,0,1,1,0,0,1,1,1,1,1,0,1,0,0]) (q73 R k8 k22 k42) k (fr (U 1 (.int .i64 a::U 3 (.slice b c d::U 1 (.pointer e::(.int .i64 f::U 2 (.pointer g::(.pointer h::U 5 (.slice i j l::(.int .i64 m::(.int .i64 n::U 13 (.slice o p q::(.int .i64 r::(.int .i64 s::U 31 (.slice t u v::(.int .i64 x::(.int .i64 y::U 90 []))))))))))))))))) w
def Zz(R:VP)(k8 k22 k42:Nat):T73:=λa b c d e f g h i j l m n o p q r s t u v x y w=>∃k,YO R k8 k22 k42 k a b c d e f g h i j l m n o p q r s t u v x y w
def q94(R:VP)(k8 k22 k42:Nat):QT:=(Exit.inBlock 8 (qS none (C [1,1,0,1,0,0,1,1,0,0,1,1,0,0,1,0,0,1,1,1,0,0,1,1,0,0,1,1,1,1,1,1,1,1]) (Exit.inBlock 5 (qS none (C [1,1,0,1,0,0,1,1,0,0,1,1,0,0,1,0,0,1,1,1,0,0,1,1,1]) (qL [1,5,7,8,18,19,20,34,35,36] (C [1,1,0,1,0,0,1,1,0,0,1,1,0,0,1,0,0,1,1,1,0,0]) (q42 R k8 k22) k42)))))
def YC(R:VP)(k8 k22 k42 k:Nat):T94:=λa b c d e f g h i j l m n o p q r s w=>bg [1,5,7,8,12,15,18,19,20,34,35,36] (C [1,1,0,1,0,0,1,1,0,0,1,1,0,0,1,0,0,1,1,1,0,0,1,1,0,0,1,1,1,1,1,1,1,0,0,0]) (q94 R k8 k22 k42) k (fr (U 1 (.int .i64 a::U 3 (.slice b c d::U 1 (.pointer e::(.int .i64 f::U 3 (.pointer g::U 2 (.int .i64 h::U 2 (.slice i j l::(.int .i64 m::(.int .i64 n::U 13 (.slice o p q::(.int .i64 r::(.int .i64 s::U 124 [])))))))))))))) w
def ZM(R:VP)(k8 k22 k42:Nat):T94:=λa b c d e f g h i j l m n o p q r s w=>∃k,YC R k8 k22 k42 k a b c d e f g h i j l m n o p q r s w
def a0N(R:VP)(k8 k22 k42:Nat):QT:=(Exit.inBlock 10 (qS none (C [1,1,0,1,0,0,1,1,0,0,1,1,0,0,1,0,0,1,1,1,0,0,1,1,0,0,1,1,1,1,1,1,1,1,1,1]) (Exit.inBlock 5 (qS none (C [1,1,0,1,0,0,1,1,0,0,1,1,0,0,1,0,0,1,1,1,0,0,1,1,1]) (qL [1,5,7,8,18,19,20,34,35,36] (C [1,1,0,1,0,0,1,1,0,0,1,1,0,0,1,0,0,1,1,1,0,0]) (q42 R k8 k22) k42)))))
def SS(R:VP)(k8 k22 k42 k:Nat):X3:=λa b c d e f g h i j l m n o p q r s t w=>bg [1,5,7,8,12,15,16,18,19,20,34,35,36] (C [1,1,0,1,0,0,1,1,0,0,1,1,0,0,1,0,0,1,1,1,0,0,1,1,0,0,1,1,1,1,1,1,1,1,1,0,1,0,0]) (a0N R k8 k22 k42) k (fr (U 1 (.int .i64 a::U 3 (.slice b c d::U 1 (.pointer e::(.int .i64 f::U 3 (.pointer g::U 2 (.int .i64 h::(.int .i64 i::U 1 (.slice j l m::(.int .i64 n::(.int .i64 o::U 13 (.slice p q r::(.int .i64 s::(.int .i64 t::U 124 []))))))))))))))) w
def Wh(R:VP)(k8 k22 k42:Nat):X3:=λa b c d e f g h i j l m n o p q r s t w=>∃k,SS R k8 k22 k42 k a b c d e f g h i j l m n o p q r s t w
def WJ(R:VP)(b8:T8)(b22:T22)(b42:T42):Nat->X3
 |0=>λ_ _ _ _ _ _ _ _ _ _ _ _ _ _ _ _ _ _ _ _=>False
 |k+1=>YF R b42 (WJ R b8 b22 b42 k)
def e109(R:VP)(b8:T8)(b22:T22)(b42:T42):X3:=λa b c d e f g h i j l m n o p q r s t w=>∃k,WJ R b8 b22 b42 k a b c d e f g h i j l m n o p q r s t w
theorem a0P(R:VP)(k8 k22 k42 k:Nat):SS R k8 k22 k42 (k+1)=λa b c d e f g h i j l m n o p q r s t w=>∀_:Nat->Value,YF R (N8 R k8 k22 k42) (SS R k8 k22 k42 k) a b c d e f g h i j l m n o p q r s t w:=by kernel_rfl
theorem Xj(R:VP)(k8 k22 k42:Nat)(b8:T8)(b22:T22)(b42:T42)(hb8:b8=l8 R k8)(hb22:b22=Io R k8 k22)(hb42:b42=N8 R k8 k22 k42):∀k,WJ R b8 b22 b42 k=SS R k8 k22 k42 k
 |0=>by kernel_rfl
 |k+1=>by
  rw[a0P];simp only[forall_const];unfold WJ;have ih:=Xj R k8 k22 k42 b8 b22 b42 hb8 hb22 hb42 k;subst hb8;subst hb22;subst hb42;rw[ih]
  all_goals rfl
theorem Zm(R:VP)(k8 k22 k42:Nat)(b8:T8)(b22:T22)(b42:T42)(hb8:b8=l8 R k8)(hb22:b22=Io R k8 k22)(hb42:b42=N8 R k8 k22 k42):e109 R b8 b22 b42=Wh R k8 k22 k42:=by
 unfold e109 Wh;simp only[Xj R k8 k22 k42 b8 b22 b42 hb8 hb22 hb42]
def l94(R:VP)(b8:T8)(b22:T22)(b42:T42):Nat->T94
 |0=>λ_ _ _ _ _ _ _ _ _ _ _ _ _ _ _ _ _ _ _=>False
 |k+1=>g94 R (l94 R b8 b22 b42 k) (e109 R b8 b22 b42)
def e94(R:VP)(b8:T8)(b22:T22)(b42:T42):T94:=λa b c d e f g h i j l m n o p q r s w=>∃k,l94 R b8 b22 b42 k a b c d e f g h i j l m n o p q r s w
theorem s94(R:VP)(k8 k22 k42 k:Nat):YC R k8 k22 k42 (k+1)=λa b c d e f g h i j l m n o p q r s w=>∀_:Nat->Value,g94 R (YC R k8 k22 k42 k) (Wh R k8 k22 k42) a b c d e f g h i j l m n o p q r s w:=by kernel_rfl
theorem a0f(R:VP)(k8 k22 k42:Nat)(b8:T8)(b22:T22)(b42:T42)(hb8:b8=l8 R k8)(hb22:b22=Io R k8 k22)(hb42:b42=N8 R k8 k22 k42):∀k,l94 R b8 b22 b42 k=YC R k8 k22 k42 k
 |0=>by kernel_rfl
 |k+1=>by
  rw[s94];simp only[forall_const];unfold l94;have ih:=a0f R k8 k22 k42 b8 b22 b42 hb8 hb22 hb42 k;subst hb8;subst hb22;subst hb42;rw[Zm R k8 k22 k42 _ _ _ rfl rfl rfl];rw[ih]
  all_goals rfl
theorem a1i(R:VP)(k8 k22 k42:Nat)(b8:T8)(b22:T22)(b42:T42)(hb8:b8=l8 R k8)(hb22:b22=Io R k8 k22)(hb42:b42=N8 R k8 k22 k42):e94 R b8 b22 b42=ZM R k8 k22 k42:=by
 unfold e94 ZM;simp only[a0f R k8 k22 k42 b8 b22 b42 hb8 hb22 hb42]
def l73(R:VP)(b8:T8)(b22:T22)(b42:T42):Nat->T73
 |0=>λ_ _ _ _ _ _ _ _ _ _ _ _ _ _ _ _ _ _ _ _ _ _ _ _=>False
 |k+1=>g73 R (l73 R b8 b22 b42 k) (e94 R b8 b22 b42)
def e73(R:VP)(b8:T8)(b22:T22)(b42:T42):T73:=λa b c d e f g h i j l m n o p q r s t u v x y w=>∃k,l73 R b8 b22 b42 k a b c d e f g h i j l m n o p q r s t u v x y w
theorem s73(R:VP)(k8 k22 k42 k:Nat):YO R k8 k22 k42 (k+1)=λa b c d e f g h i j l m n o p q r s t u v x y w=>∀_:Nat->Value,g73 R (YO R k8 k22 k42 k) (ZM R k8 k22 k42) a b c d e f g h i j l m n o p q r s t u v x y w:=by kernel_rfl
theorem a09(R:VP)(k8 k22 k42:Nat)(b8:T8)(b22:T22)(b42:T42)(hb8:b8=l8 R k8)(hb22:b22=Io R k8 k22)(hb42:b42=N8 R k8 k22 k42):∀k,l73 R b8 b22 b42 k=YO R k8 k22 k42 k
 |0=>by kernel_rfl
 |k+1=>by
  rw[s73];simp only[forall_const];unfold l73;have ih:=a09 R k8 k22 k42 b8 b22 b42 hb8 hb22 hb42 k;subst hb8;subst hb22;subst hb42;rw[a1i R k8 k22 k42 _ _ _ rfl rfl rfl];rw[ih]
  all_goals rfl
theorem a1m(R:VP)(k8 k22 k42:Nat)(b8:T8)(b22:T22)(b42:T42)(hb8:b8=l8 R k8)(hb22:b22=Io R k8 k22)(hb42:b42=N8 R k8 k22 k42):e73 R b8 b22 b42=Zz R k8 k22 k42:=by
 unfold e73 Zz;simp only[a09 R k8 k22 k42 b8 b22 b42 hb8 hb22 hb42]
def j69(R:VP)(b8:T8)(b22:T22)(b42:T42):T69:=g69 R (e73 R b8 b22 b42)
theorem s69(R:VP)(k8 k22 k42:Nat):a03 R k8 k22 k42=λa b c d e f g h i j l m n o p q r s w=>∀_:Nat->Value,g69 R (Zz R k8 k22 k42) a b c d e f g h i j l m n o p q r s w:=by kernel_rfl
theorem a1f(R:VP)(k8 k22 k42:Nat)(b8:T8)(b22:T22)(b42:T42)(hb8:b8=l8 R k8)(hb22:b22=Io R k8 k22)(hb42:b42=N8 R k8 k22 k42):j69 R b8 b22 b42=a03 R k8 k22 k42:=by
  rw[s69];simp only[forall_const];unfold j69;subst hb8;subst hb22;subst hb42;rw[a1m R k8 k22 k42 _ _ _ rfl rfl rfl]
  all_goals rfl
def l42(R:VP)(b8:T8)(b22:T22):Nat->T42
 |0=>λ_ _ _ _ _ _ _ _ _ _ _ _ _ _ _ _ _=>False
 |k+1=>g42 R b22 (l42 R b8 b22 k) (j69 R b8 b22 (l42 R b8 b22 k))
def e42(R:VP)(b8:T8)(b22:T22):T42:=λa b c d e f g h i j l m n o p q w=>∃k,l42 R b8 b22 k a b c d e f g h i j l m n o p q w
theorem s42(R:VP)(k8 k22 k:Nat):N8 R k8 k22 (k+1)=λa b c d e f g h i j l m n o p q w=>∀_:Nat->Value,g42 R (Io R k8 k22) (N8 R k8 k22 k) (a03 R k8 k22 k) a b c d e f g h i j l m n o p q w:=by kernel_rfl
theorem a0y(R:VP)(k8 k22:Nat)(b8:T8)(b22:T22)(hb8:b8=l8 R k8)(hb22:b22=Io R k8 k22):∀k,l42 R b8 b22 k=N8 R k8 k22 k
 |0=>by kernel_rfl
 |k+1=>by
  rw[s42];simp only[forall_const];unfold l42;have ih:=a0y R k8 k22 b8 b22 hb8 hb22 k;subst hb8;subst hb22;rw[a1f R k8 k22 k _ _ _ rfl rfl ih];rw[ih]
  all_goals rfl
theorem a1p(R:VP)(k8 k22:Nat)(b8:T8)(b22:T22)(hb8:b8=l8 R k8)(hb22:b22=Io R k8 k22):e42 R b8 b22=ZZ R k8 k22:=by
 unfold e42 ZZ;simp only[a0y R k8 k22 b8 b22 hb8 hb22]
def j39(R:VP)(b8:T8)(b22:T22):T39:=g39 R (e42 R b8 b22)
theorem s39(R:VP)(k8 k22:Nat):Zp R k8 k22=λa b c d e f g h i j l m n o w=>∀_:Nat->Value,g39 R (ZZ R k8 k22) a b c d e f g h i j l m n o w:=by kernel_rfl
theorem a1r(R:VP)(k8 k22:Nat)(b8:T8)(b22:T22)(hb8:b8=l8 R k8)(hb22:b22=Io R k8 k22):j39 R b8 b22=Zp R k8 k22:=by
  rw[s39];simp only[forall_const];unfold j39;subst hb8;subst hb22;rw[a1p R k8 k22 _ _ rfl rfl]
  all_goals rfl
def l22(R:VP)(b8:T8):Nat->T22
 |0=>λ_ _ _ _ _ _ _ _ _ _ _ _=>False
 |k+1=>g22 R b8 (j39 R b8 (l22 R b8 k))
def e22(R:VP)(b8:T8):T22:=λa b c d e f g h i j l w=>∃k,l22 R b8 k a b c d e f g h i j l w
theorem s22(R:VP)(k8 k:Nat):Io R k8 (k+1)=λa b c d e f g h i j l w=>∀_:Nat->Value,g22 R (l8 R k8) (Zp R k8 k) a b c d e f g h i j l w:=by kernel_rfl
theorem a0r(R:VP)(k8:Nat)(b8:T8)(hb8:b8=l8 R k8):∀k,l22 R b8 k=Io R k8 k
 |0=>by kernel_rfl
 |k+1=>by
  rw[s22];simp only[forall_const];unfold l22;have ih:=a0r R k8 b8 hb8 k;subst hb8;rw[a1r R k8 k _ _ rfl ih]
  all_goals rfl
theorem a1d(R:VP)(k8:Nat)(b8:T8)(hb8:b8=l8 R k8):e22 R b8=a0q R k8:=by
 unfold e22 a0q;simp only[a0r R k8 b8 hb8]
theorem u8(R k a b c d e f g h i w):l8 R (k+1) a b c d e f g h i w=g8 R (e22 R (l8 R k)) a b c d e f g h i w:=by rw[a1d R k _ rfl];exact ju (by kernel_rfl)
end ag
def ag(R:VP):=ag.g0 R (ag.e8 R)
theorem ag.calls{R a b c d e f g h i j l m n o w}(k:ag R a b c d e f g h i j l m n o w):CA 41 #[AX a b c d e f g h i j l m n,.int .i64 o] w R:=cal (n:=ag.an) func41 rfl k
namespace slices_Clone_int
def an:An:=An.nil
def g0(R:VP)(a:OA)(b c:Nat)(d:World):Prop:=af a.isNone (R (.slice none 0 0) d) (nw (d.alloc (.cells #[] 3)) λe=>dC prog (Builtin.append_ #[53,53] 53 #[.slice (some (na d)) 0 0,.slice a b c]) e λa b=>∃c d e,a=.slice c d e/\(R (.slice c d e) b))
end slices_Clone_int
def slices_Clone_int(R:VP):=slices_Clone_int.g0 R
theorem slices_Clone_int.calls{R a b c w}(k:slices_Clone_int R a b c w):CA 43 #[.slice a b c] w R:=cal (n:=slices_Clone_int.an) func43 rfl k
namespace fO
def an:An:=(aL (aR (aL (.mk (some [0,5,6]) (aR (aR (aL (aL (aR (aL (aR (aL (.mk (some [0,2,5,6,14,15]) .nil .nil))))))))) .nil))))
def qf(R:VP):QT:=fin prog f47 R
def C:=cdN prog f47 an
abbrev T4:=OA->Nat->Nat->Int->Int->World->Prop
abbrev T19:=OA->Nat->Nat->Int->Int->Int->Int->Int->World->Prop
def g0(R:VP)(e4:T4)(a:OA)(b c:Nat)(d:World):Prop:=e4 a b c (b:Int) 0 d
def g4(R:VP)(e19:T19)(a:OA)(b c:Nat)(d e:Int)(f:World):Prop:=af (decide (e<d)) (ix a b e λg=>cL f ((g.add (e.toNat*5)).add 1) λg g h=>e19 a b c e d e (g:Int) 0 f) (nw (f.alloc (.cells #[.float .f64 0,.slice none 0 0,.int .i64 0,.int .i64 0,.int .i64 0,.float .f64 0,.slice none 0 0,.int .i64 0,.int .i64 0,.int .i64 0] 76)) λd=>Q1q 72 a b c (na f) 2 d λc d e b=>(Q0q ((d:Int) - 1) λa=>ix c d a λc=>st b (((c.add (a.toNat*5)).add 2).add 0) (.int .i64 1) λa=>R (.tuple #[]) a))
def g19(R:VP)(b4:T4)(b19:T19)(a:OA)(b c:Nat)(d e f g h:Int)(i:World):Prop:=af (decide (h<g)) (ix a b d λj=>cL i ((j.add (d.toNat*5)).add 1) λj k l=>ix j k h λj=>st i ((j.add (h.toNat*1)).add 0) (.int .i64 (-7)) λj=>inc h λh=>b19 a b c d e f g h j) (ix a b d λg=>cL i ((g.add (d.toNat*5)).add 1) λg h j=>nw (i.alloc (.cells (Gs 1 1 1) 3)) λk=>Q1q 53 g h j (na i) 3 k λi j k h=>(ix a b d λg=>st h (((g.add (d.toNat*5)).add 1).add 0) (.slice i j k) λg=>ix a b d λh=>st g (((h.add (d.toNat*5)).add 2).add 0) (.int .i64 (-1)) λd=>inc f λf=>b4 a b c e f d))
def q4(R:VP):QT:=(Exit.inBlock 0 (qS none (C [1]) (qf R)))
@[irreducible] def l4(R:VP)(k:Nat):T4:=λa b c d e w=>bg [0,5,6] (C [0,1,0,0]) (q4 R) k (fr ((.slice a b c::U 4 (.int .i64 d::(.int .i64 e::U 46 []))))) w
def e4(R:VP):T4:=λa b c d e w=>∃k,l4 R k a b c d e w
def q19(R:VP)(k4:Nat):QT:=(Exit.inBlock 2 (qS none (C [0,1,0,0,1,1,0,0,1,1]) (Exit.inBlock 1 (qS none (C [0,1,0,0,1,1,1]) (qL [0,5,6] (C [0,1,0,0]) (q4 R) k4)))))
def YJ(R:VP)(k4 k:Nat):T19:=λa b c d e f g h w=>bg [0,2,5,6,14,15] (C [0,1,0,0,1,1,0,0,1,0,1,0,0]) (q19 R k4) k (fr ((.slice a b c::U 1 (.int .i64 d::U 2 (.int .i64 e::(.int .i64 f::U 7 (.int .i64 g::(.int .i64 h::U 37 [])))))))) w
def a06(R:VP)(k4:Nat):T19:=λa b c d e f g h w=>∃k,YJ R k4 k a b c d e f g h w
def l19(R:VP)(b4:T4):Nat->T19
 |0=>λ_ _ _ _ _ _ _ _ _=>False
 |k+1=>g19 R b4 (l19 R b4 k)
def e19(R:VP)(b4:T4):T19:=λa b c d e f g h w=>∃k,l19 R b4 k a b c d e f g h w
theorem s19(R:VP)(k4 k:Nat):YJ R k4 (k+1)=λa b c d e f g h w=>∀_:Nat->Value,g19 R (l4 R k4) (YJ R k4 k) a b c d e f g h w:=by kernel_rfl
theorem a05(R:VP)(k4:Nat)(b4:T4)(hb4:b4=l4 R k4):∀k,l19 R b4 k=YJ R k4 k
 |0=>by kernel_rfl
 |k+1=>by
  rw[s19];simp only[forall_const];unfold l19;have ih:=a05 R k4 b4 hb4 k;subst hb4;rw[ih]
  all_goals rfl
theorem a1a(R:VP)(k4:Nat)(b4:T4)(hb4:b4=l4 R k4):e19 R b4=a06 R k4:=by
 unfold e19 a06;simp only[a05 R k4 b4 hb4]
theorem u4(R k a b c d e w):l4 R (k+1) a b c d e w=g4 R (e19 R (l4 R k)) a b c d e w:=by rw[a1a R k _ rfl];exact ju (by kernel_rfl)
end fO
def fO(R:VP):=fO.g0 R (fO.e4 R)
theorem fO.calls{R a b c w}(k:fO R a b c w):CA 47 #[.slice a b c] w R:=cal (n:=fO.an) func47 rfl k
namespace iE
def an:An:=An.nil
def g0(R:VP)(a:Int)(b:OA)(c d:Nat)(e:World):Prop:=nw (e.alloc (.cells (kU a b c d) 50)) λa=>jF a (na e) λb c d e=>CA 68 #[jh b c d e,.bool false] a λa b=>∃c d e f,a=.tuple #[.slice c d e,.int .i64 f]/\(R (.tuple #[.slice c d e,.int .i64 f]) b)
end iE
def iE(R:VP):=iE.g0 R
theorem iE.calls{R a b c d w}(k:iE R a b c d w):CA 48 #[jh a b c d] w R:=cal (n:=iE.an) func48 rfl k
namespace bY
def an:An:=(aR (aR (aR (.mk none (aR (aL (.mk (some [7,27,28,29]) (aR (aR (aL (aL (aR (aR (aR (aL (.mk (some [7,8,9,27,28,29,39,40,41]) (aR (aR (aL (aL (aR (aR (aR (.mk (some [7,8,9,13,14,15,27,28,29,39,40,41]) .nil (aR (.mk (some [7,8,9,14,15,16,27,28,29,39,40,41]) .nil .nil)))))))))) .nil))))))))) .nil))) (aR (aL (aR (aL (.mk (some [17,117]) (.mk (some [17,117,119]) .nil .nil) .nil)))))))))
def qf(R:VP):QT:=fin prog f49 R
def C:=cdN prog f49 an
abbrev T18:=(Option Nat)->OA->Nat->Nat->Int->Int->World->Prop
abbrev T34:=(Option Nat)->Int->OA->OA->Nat->Nat->Int->Int->OA->Nat->Nat->Int->Int->World->Prop
abbrev T57:=(Option Nat)->Int->OA->OA->OA->OA->OA->Nat->Nat->Int->Int->OA->Nat->Nat->Int->Int->World->Prop
abbrev T65:=(Option Nat)->Int->OA->OA->OA->OA->OA->Nat->Nat->Int->Int->OA->Nat->Nat->Int->Int->World->Prop
abbrev T78:=OA->Nat->Nat->OA->World->Prop
abbrev T81:=OA->Nat->Nat->OA->Bool->World->Prop
def g0(R:VP)(e18:T18)(a:OA)(b c:Nat)(d:Int)(e:World):Prop:=CA 69 #[.slice a b c,.int .i64 d] e λd e=>∃f,d=.int .i64 f/\(af (f != 0) (R (.tuple #[.slice none 0 0,.int .i64 f]) e) (nw (e.alloc (.map #[] 0)) λd=>e18 (some e.heap.size) a b c (b:Int) 0 d))
def g18(R:VP)(e34:T34)(e78:T78)(a:Option Nat)(b:OA)(c d:Nat)(e f:Int)(g:World):Prop:=af (decide (f<e)) (ix b c f λh=>jF g (h.add (f.toNat*2)) λh i j k=>Q8q g h i j k λh=>jF h (na g) λi j k l=>CA 70 #[jh i j k l] h λh i=>∃j k l m,h=.tuple #[.slice j k l,.int .i64 m]/\(e34 a f (some (na g)) b c d e f j k l (k:Int) 0 i)) (dC prog (Instr.range 130 (.map a)) g λa b=>∃c:Addr,a=.pointer (some c)/\(e78 none 0 0 (some c) b))
def g34(R:VP)(b18:T18)(j57:T57)(a:Option Nat)(b:Int)(c d:OA)(e f:Nat)(g h:Int)(i:OA)(j k:Nat)(l m:Int)(n:World):Prop:=af (decide (m<l)) (ix i j m λo=>VO n (o.add (m.toNat*3)) λo p q=>Qcq n o p q λo=>aV c λp=>cL o (p.add 1) λp q r=>cI o ((na n).add 0) .i64 λr=>ix p q r λp=>oh o (p.add (r.toNat*8)) λp q r s t u v w x y=>Q7q o p q r s t u v w x y λp=>cI p ((na o).add 2) .i64 λq=>dC prog (Instr.lookup 130 (.map a) (.int .i64 q) false) p λp q=>∃r,p=.pointer r/\(af r.isNone (cI q ((na o).add 2) .i64 λp=>nw (q.alloc (.cells (uf p none 0 0 none 0 0 none 0 0) 74)) λp=>cI p ((na o).add 2) .i64 λs=>dC prog (do Instr.mapUpdate 130 (.map a) (.int .i64 s) (.pointer (some (na q)));pure undef) p λ_ p=>j57 a b c (some (na n)) (some (na o)) (some (na q)) d e f g h i j k l m p) (j57 a b c (some (na n)) (some (na o)) r d e f g h i j k l m q))) (inc h λb=>b18 a d e f g b n)
def g57(R:VP)(j65:T65)(a:Option Nat)(b:Int)(c d e f g:OA)(h i:Nat)(j k:Int)(l:OA)(m n:Nat)(o p:Int)(q:World):Prop:=aV e λr=>cF q (r.add 3) .f64 λr=>aV e λs=>cL q (s.add 4) λs t u=>aV d λv=>cI q (v.add 1) .i64 λv=>aV d λd=>cI q (d.add 2) .i64 λd=>Q9q q r s t u b v d λd=>aV e λr=>cI d (r.add 0) .u8 λr=>af (r==3) (∃r:World,CK r d/\(aV f λs=>cL r (s.add 2) λs t u=>nK r (na q) λv w x y z A B=>CA 71 #[qZ v w x y z A B] d λv w=>∃x y z A B C D,v=qZ x y z A B C D/\(CK r w/\(nw (w.alloc (.cells (oG x y z A B C D) 76)) λv=>CK r v/\(Q1q 72 s t u (na w) 1 v λu v w t=>(CK r t/\(aV f λr=>st t ((r.add 2).add 0) (.slice u v w) λr=>j65 a b c e f (some (na q)) g h i j k l m n o p r))))))) (∃r:World,CK r d/\(aV f λs=>cL r (s.add 1) λs t u=>nK r (na q) λv w x y z A B=>CA 71 #[qZ v w x y z A B] d λd v=>∃w x y z A B C,d=qZ w x y z A B C/\(CK r v/\(nw (v.alloc (.cells (oG w x y z A B C) 76)) λd=>CK r d/\(Q1q 72 s t u (na v) 1 d λt u v s=>(CK r s/\(aV f λd=>st s ((d.add 1).add 0) (.slice t u v) λd=>j65 a b c e f (some (na q)) g h i j k l m n o p d)))))))
def g65(R:VP)(b34:T34)(a:Option Nat)(b:Int)(c d e f g:OA)(h i:Nat)(j k:Int)(l:OA)(m n:Nat)(o p:Int)(q:World):Prop:=aV d λd=>cI q (d.add 5) .u8 λd=>af (d==2) (∃d:World,CK d q/\(aV e λr=>cL d (r.add 3) λr s t=>aV f λf=>nK d f λf u v w x y z=>CA 71 #[qZ f u v w x y z] q λf u=>∃v w x y z A B,f=qZ v w x y z A B/\(CK d u/\(nw (u.alloc (.cells (oG v w x y z A B) 76)) λf=>CK d f/\(Q1q 72 r s t (na u) 1 f λs t u r=>(CK d r/\(aV e λd=>st r ((d.add 3).add 0) (.slice s t u) λd=>inc p λe=>b34 a b c g h i j k l m n o e d))))))) (inc p λd=>b34 a b c g h i j k l m n o d q)
def g78(R:VP)(j81:T81)(a:OA)(b c:Nat)(d:OA)(e:World):Prop:=dC prog (Instr.next (.pointer d) false 0) e λe f=>(e=.tuple #[.bool false]/\(j81 a b c d false f))\/(∃g h:Value,e=.tuple #[.bool true,g,h]/\(j81 a b c d true f))
def g81(R:VP)(b78:T78)(a:OA)(b c:Nat)(d:OA)(e:Bool)(f:World):Prop:=af e (dC prog (Instr.entry (.pointer d)) f λe g=>∃h i:Value,e=.tuple #[h,i]/\(ckN i λe=>Lc e λe=>cL g (e.add 1) λe h j=>CA 72 #[.slice e h j,.func (.func 73) #[] #[]] g λe g=>e=.tuple #[]/\(ckN i λe=>Lc e λe=>rU g e λe h i j k l m n o p=>nw (g.alloc (.cells (uf e h i j k l m n o p) 74)) λe=>Q1q 64 a b c (na g) 1 e λh i j g=>(b78 h i j d g)))) (CA 75 #[.slice a b c,.func (.func 76) #[] #[]] f λd e=>d=.tuple #[]/\(R (.tuple #[.slice a b c,.int .i64 0]) e))
def q18(R:VP):QT:=(Exit.inBlock 0 (qS none (C [1,1,1,1]) (qf R)))
@[irreducible] def l18(R:VP)(k:Nat):T18:=λa b c d e f w=>bg [7,27,28,29] (C [1,1,1,0,1,0,0]) (q18 R) k (fr (U 7 (.map a::U 19 (.slice b c d::(.int .i64 e::(.int .i64 f::U 106 [])))))) w
def e18(R:VP):T18:=λa b c d e f w=>∃k,l18 R k a b c d e f w
def q34(R:VP)(k18:Nat):QT:=(Exit.inBlock 2 (Exit.inBlock 1 (qS none (C [1,1,1,0,1,0,0,1,1,1]) (qL [7,27,28,29] (C [1,1,1,0,1,0,0]) (q18 R) k18))))
def xI(R:VP)(k18 k:Nat):T34:=λa b c d e f g h i j l m n w=>bg [7,8,9,27,28,29,39,40,41] (C [1,1,1,0,1,0,0,1,1,0,0,1,1,1,0,0]) (q34 R k18) k (fr (U 7 (.map a::(.int .i64 b::(.pointer c::U 17 (.slice d e f::(.int .i64 g::(.int .i64 h::U 9 (.slice i j l::(.int .i64 m::(.int .i64 n::U 94 []))))))))))) w
def JY(R:VP)(k18:Nat):T34:=λa b c d e f g h i j l m n w=>∃k,xI R k18 k a b c d e f g h i j l m n w
def ZT(R:VP)(k18 k34:Nat):T57:=λa b c d e f g h i j l m n o p q w=>jT (some [7,8,9,13,14,15,27,28,29,39,40,41]) (C [1,1,1,0,1,0,0,1,1,0,0,1,1,1,0,0,1,1,0,0,1,1,1,1] (Exit.inBlock 3 (qS none (C [1,1,1,0,1,0,0,1,1,0,0,1,1,1,0,0,1,1,1]) (qL [7,8,9,27,28,29,39,40,41] (C [1,1,1,0,1,0,0,1,1,0,0,1,1,1,0,0]) (q34 R k18) k34)))) (fr (U 7 (.map a::(.int .i64 b::(.pointer c::U 3 (.pointer d::(.pointer e::(.pointer f::U 11 (.slice g h i::(.int .i64 j::(.int .i64 l::U 9 (.slice m n o::(.int .i64 p::(.int .i64 q::U 94 [])))))))))))))) w
def Zh(R:VP)(k18 k34:Nat):T65:=λa b c d e f g h i j l m n o p q w=>jT (some [7,8,9,14,15,16,27,28,29,39,40,41]) (C [1,1,1,0,1,0,0,1,1,0,0,1,1,1,0,0,1,1,0,0,1,1,1,1,1,1] (Exit.inBlock 3 (qS none (C [1,1,1,0,1,0,0,1,1,0,0,1,1,1,0,0,1,1,1]) (qL [7,8,9,27,28,29,39,40,41] (C [1,1,1,0,1,0,0,1,1,0,0,1,1,1,0,0]) (q34 R k18) k34)))) (fr (U 7 (.map a::(.int .i64 b::(.pointer c::U 4 (.pointer d::(.pointer e::(.pointer f::U 10 (.slice g h i::(.int .i64 j::(.int .i64 l::U 9 (.slice m n o::(.int .i64 p::(.int .i64 q::U 94 [])))))))))))))) w
def q78(R:VP):QT:=(Exit.inBlock 4 (qS none (C [1,1,1,1,1,1]) (qf R)))
@[irreducible] def l78(R:VP)(k:Nat):T78:=λa b c d w=>bg [17,117] (C [1,1,1,1,1,0,1,0,0]) (q78 R) k (fr (U 17 (.slice a b c::U 99 (.pointer d::U 18 [])))) w
def e78(R:VP):T78:=λa b c d w=>∃k,l78 R k a b c d w
def a0z(R:VP)(k78:Nat):T81:=λa b c d e w=>jT (some [17,117,119]) (C [1,1,1,1,1,0,1,0,0,1] (qL [17,117] (C [1,1,1,1,1,0,1,0,0]) (q78 R) k78)) (fr (U 17 (.slice a b c::U 99 (.pointer d::U 1 (.bool e::U 16 []))))) w
def j65(R:VP)(b18:T18)(b34:T34):T65:=g65 R b34
theorem s65(R:VP)(k18 k34:Nat):Zh R k18 k34=λa b c d e f g h i j l m n o p q w=>∀_:Nat->Value,g65 R (xI R k18 k34) a b c d e f g h i j l m n o p q w:=by kernel_rfl
theorem a0R(R:VP)(k18 k34:Nat)(b18:T18)(b34:T34)(hb18:b18=l18 R k18)(hb34:b34=xI R k18 k34):j65 R b18 b34=Zh R k18 k34:=by
  rw[s65];simp only[forall_const];unfold j65;subst hb18;subst hb34
  all_goals rfl
def j57(R:VP)(b18:T18)(b34:T34):T57:=g57 R (j65 R b18 b34)
theorem s57(R:VP)(k18 k34:Nat):ZT R k18 k34=λa b c d e f g h i j l m n o p q w=>∀_:Nat->Value,g57 R (Zh R k18 k34) a b c d e f g h i j l m n o p q w:=by kernel_rfl
theorem a1x(R:VP)(k18 k34:Nat)(b18:T18)(b34:T34)(hb18:b18=l18 R k18)(hb34:b34=xI R k18 k34):j57 R b18 b34=ZT R k18 k34:=by
  rw[s57];simp only[forall_const];unfold j57;subst hb18;subst hb34;rw[a0R R k18 k34 _ _ rfl rfl]
  all_goals rfl
def l34(R:VP)(b18:T18):Nat->T34
 |0=>λ_ _ _ _ _ _ _ _ _ _ _ _ _ _=>False
 |k+1=>g34 R b18 (j57 R b18 (l34 R b18 k))
def e34(R:VP)(b18:T18):T34:=λa b c d e f g h i j l m n w=>∃k,l34 R b18 k a b c d e f g h i j l m n w
theorem s34(R:VP)(k18 k:Nat):xI R k18 (k+1)=λa b c d e f g h i j l m n w=>∀_:Nat->Value,g34 R (l18 R k18) (ZT R k18 k) a b c d e f g h i j l m n w:=by kernel_rfl
theorem JH(R:VP)(k18:Nat)(b18:T18)(hb18:b18=l18 R k18):∀k,l34 R b18 k=xI R k18 k
 |0=>by kernel_rfl
 |k+1=>by
  rw[s34];simp only[forall_const];unfold l34;have ih:=JH R k18 b18 hb18 k;subst hb18;rw[a1x R k18 k _ _ rfl ih]
  all_goals rfl
theorem RU(R:VP)(k18:Nat)(b18:T18)(hb18:b18=l18 R k18):e34 R b18=JY R k18:=by
 unfold e34 JY;simp only[JH R k18 b18 hb18]
def j81(R:VP)(b78:T78):T81:=g81 R b78
theorem s81(R:VP)(k78:Nat):a0z R k78=λa b c d e w=>∀_:Nat->Value,g81 R (l78 R k78) a b c d e w:=by kernel_rfl
theorem a0T(R:VP)(k78:Nat)(b78:T78)(hb78:b78=l78 R k78):j81 R b78=a0z R k78:=by
  rw[s81];simp only[forall_const];unfold j81;subst hb78
  all_goals rfl
theorem u78(R k a b c d w):l78 R (k+1) a b c d w=g78 R (j81 R (l78 R k)) a b c d w:=by rw[a0T R k _ rfl];exact ju (by kernel_rfl)
theorem u18(R k a b c d e f w):l18 R (k+1) a b c d e f w=g18 R (e34 R (l18 R k)) (e78 R) a b c d e f w:=by rw[RU R k _ rfl];exact ju (by kernel_rfl)
end bY
def bY(R:VP):=bY.g0 R (bY.e18 R)
theorem bY.calls{R a b c d w}(k:bY R a b c d w):CA 49 #[.slice a b c,.int .i64 d] w R:=cal (n:=bY.an) func49 rfl k
namespace dO
def an:An:=An.nil
def g0(R:VP)(a:Int)(b:OA)(c d:Nat)(e:World):Prop:=nw (e.alloc (.cells (kU a b c d) 50)) λa=>jF a (na e) λb c d e=>CA 52 #[jh b c d e] a λa b=>∃c d e f,a=.tuple #[.slice c d e,.int .i64 f]/\(af (f != 0) (R (.tuple #[.int .i64 0,.int .i64 f]) b) (af (decide ((d:Int)>4096)) (R (.tuple #[.int .i64 0,.int .i64 3]) b) (R (.tuple #[.int .i64 (d:Int),.int .i64 0]) b)))
end dO
def dO(R:VP):=dO.g0 R
theorem dO.calls{R a b c d w}(k:dO R a b c d w):CA 50 #[jh a b c d] w R:=cal (n:=dO.an) func50 rfl k
namespace bQ
def an:An:=(aR (aL (aR (aL (.mk (some [1,8,9,10]) .nil .nil)))))
def qf(R:VP):QT:=fin prog f51 R
def C:=cdN prog f51 an
abbrev T6:=Int->OA->Nat->Nat->Int->Int->World->Prop
def g0(R:VP)(e6:T6)(a:Int)(b:OA)(c d:Nat)(e:Int)(f:World):Prop:=nw (f.alloc (.cells (kU a b c d) 50)) λa=>cL a ((na f).add 1) λb c d=>e6 e b c d (c:Int) 0 a
def g6(R:VP)(b6:T6)(a:Int)(b:OA)(c d:Nat)(e f:Int)(g:World):Prop:=af (decide (f<e)) (ix b c f λh=>oh g (h.add (f.toNat*8)) λh i j k l m n o p q=>Q7q g h i j k l m n o p q λh=>cI h ((na g).add 0) .u8 λi=>af (i != 1) (cI h ((na g).add 2) .i64 λi=>af (decide (i>=a)) (R (.bool false) h) (inc f λi=>b6 a b c d e i h)) (inc f λf=>b6 a b c d e f h)) (R (.bool true) g)
def q6(R:VP):QT:=(Exit.inBlock 0 (qS none (C [1,1]) (qf R)))
@[irreducible] def l6(R:VP)(k:Nat):T6:=λa b c d e f w=>bg [1,8,9,10] (C [1,0,1,0,0]) (q6 R) k (fr (U 1 (.int .i64 a::U 6 (.slice b c d::(.int .i64 e::(.int .i64 f::U 13 [])))))) w
def e6(R:VP):T6:=λa b c d e f w=>∃k,l6 R k a b c d e f w
theorem u6(R k a b c d e f w):l6 R (k+1) a b c d e f w=g6 R (l6 R k) a b c d e f w:=ju
end bQ
def bQ(R:VP):=bQ.g0 R (bQ.e6 R)
theorem bQ.calls{R a b c d e w}(k:bQ R a b c d e w):CA 51 #[jh a b c d,.int .i64 e] w R:=cal (n:=bQ.an) func51 rfl k
namespace dI
def an:An:=An.nil
def g0(R:VP)(a:Int)(b:OA)(c d:Nat)(e:World):Prop:=nw (e.alloc (.cells (kU a b c d) 50)) λa=>jF a (na e) λb c d e=>CA 77 #[jh b c d e,.bool true] a λa b=>∃c d e f,a=.tuple #[.slice c d e,.int .i64 f]/\(R (.tuple #[.slice c d e,.int .i64 f]) b)
end dI
def dI(R:VP):=dI.g0 R
theorem dI.calls{R a b c d w}(k:dI R a b c d w):CA 52 #[jh a b c d] w R:=cal (n:=dI.an) func52 rfl k
namespace aj
def an:An:=(aR (aR (aR (.mk none (aR (aL (.mk (some [1,5,6,7,25,26,27]) .nil .nil))) (aR (aL (aR (aL (.mk (some [1,5,6,7,10,11]) (aR (aL (aL (aR (aR (aL (aR (aL (.mk (some [1,5,6,7,10,11,12,48,49,50]) (aR (aR (aL (aL (aR (aR (aR (.mk (some [1,5,6,7,10,11,12,13,14,48,49,50]) (aR (aR (aR (.mk none (aL (.mk (some [1,5,6,7,10,11,12,13,14,15,16,48,49,50]) .nil .nil)) (aR (aL (aR (aL (.mk (some [1,5,6,7,10,11,12,13,14,15,16,17,48,49,50]) .nil .nil))))))))) .nil)))))))) .nil))))))))) .nil)))))))))
def qf(R:VP):QT:=fin prog f53 R
def C:=cdN prog f53 an
abbrev T10:=Int->OA->Nat->Nat->OA->Nat->Nat->OA->Nat->Nat->OA->Nat->Nat->Int->Int->World->Prop
abbrev T29:=Int->OA->Nat->Nat->OA->Nat->Nat->OA->Nat->Nat->OA->Nat->Nat->Int->World->Prop
abbrev T50:=Int->OA->Nat->Nat->OA->Nat->Nat->OA->Nat->Nat->OA->Nat->Nat->Int->OA->OA->Nat->Nat->Int->Int->World->Prop
abbrev T78:=Int->OA->Nat->Nat->OA->Nat->Nat->OA->Nat->Nat->OA->Nat->Nat->Int->OA->Int->OA->OA->Int->OA->Nat->Nat->Int->Int->World->Prop
abbrev T93:=Int->OA->Nat->Nat->OA->Nat->Nat->OA->Nat->Nat->OA->Nat->Nat->Int->OA->Int->OA->OA->Int->Int->OA->Nat->Nat->Int->Int->World->Prop
abbrev YQ:=Int->OA->Nat->Nat->OA->Nat->Nat->OA->Nat->Nat->OA->Nat->Nat->Int->OA->Int->OA->OA->Nat->Nat->Int->Int->World->Prop
def g0(R:VP)(e10:T10)(a:OA)(b c:Nat)(d:Int)(e:World):Prop:=CA 78 #[.slice a b c] e λa b=>∃c e f g h i,a=.tuple #[.slice c e f,.slice g h i]/\(chk ((0:Int)<=d/\d<=d/\((1:Nat):Int)*d<=281474976710656/\d<=9223372036854775807) (nw (b.alloc (.cells (madeCells #[.bool false] ((d).toNat*1)) 4)) λa=>e10 d c e f g h i (some (na b)) ((d).toNat) ((d).toNat) g h i (h:Int) 0 a))
def g10(R:VP)(b10:T10)(e29:T29)(a:Int)(b:OA)(c d:Nat)(e:OA)(f g:Nat)(h:OA)(i j:Nat)(k:OA)(l m:Nat)(n o:Int)(p:World):Prop:=af (decide (o<n)) (ix k l o λq=>oh p (q.add (o.toNat*8)) λq r s t u v w x y z=>Q7q p q r s t u v w x y z λq=>cI q ((na p).add 2) .i64 λr=>ix h i r λs=>st q ((s.add (r.toNat*1)).add 0) (.bool true) λq=>inc o λo=>b10 a b c d e f g h i j k l m n o q) (e29 a b c d e f g h i j none 0 0 0 p)
def g29(R:VP)(b29:T29)(e50:T50)(a:Int)(b:OA)(c d:Nat)(e:OA)(f g:Nat)(h:OA)(i j:Nat)(k:OA)(l m:Nat)(n:Int)(o:World):Prop:=af (decide (n<a)) (ix h i n λp=>cB o (p.add (n.toNat*1)) λp=>af (!p) (inc n λp=>b29 a b c d e f g h i j k l m p o) (Q4q o n none 0 0 none 0 0 none 0 0 λp=>e50 a b c d e f g h i j k l m n (some (na o)) e f g (f:Int) 0 p)) (R (.slice k l m) o)
def g50(R:VP)(b29:T29)(b50:T50)(e78:T78)(j105:YQ)(a:Int)(b:OA)(c d:Nat)(e:OA)(f g:Nat)(h:OA)(i j:Nat)(k:OA)(l m:Nat)(n:Int)(o p:OA)(q r:Nat)(s t:Int)(u:World):Prop:=af (decide (t<s)) (ix p q t λv=>oh u (v.add (t.toNat*8)) λv w x y z A B C D E=>Q7q u v w x y z A B C D E λv=>cI v ((na u).add 2) .i64 λw=>af (w != n) (inc t λw=>b50 a b c d e f g h i j k l m n o p q r s w v) (inc t λw=>chk ((0:Int)<=w/\w<=(d:Int)) (chk ((0:Int)<=t/\t<=(w.toNat:Int)) (CA 37 #[.slice (slA b d t.toNat 5) (w.toNat - t.toNat) (d - t.toNat)] v λv w=>∃x y z,v=.slice x y z/\(ix x y 0 λv=>nK w (v.add 0) λv x y z A B C=>Q9q w v x y z A B C λv=>cI v ((na u).add 0) .u8 λx=>af (x==3) (aV o λx=>cL v (x.add 2) λx y z=>nK v (na w) λA B C D E F G=>nw (v.alloc (.cells (oG A B C D E F G) 76)) λA=>Q1q 72 x y z (na v) 1 A λz A B y=>(aV o λx=>st y ((x.add 2).add 0) (.slice z A B) λx=>j105 a b c d e f g h i j k l m n o t (some (na u)) p q r s t x)) (aV o λx=>cL v (x.add 1) λx x y=>e78 a b c d e f g h i j k l m n o t (some (na u)) (some (na w)) (x:Int) p q r s t v)))))) (aV o λo=>rU u o λo p q r s t v w x y=>nw (u.alloc (.cells (uf o p q r s t v w x y) 74)) λo=>Q1q 64 k l m (na u) 1 o λm o p l=>(inc n λk=>b29 a b c d e f g h i j m o p k l))
def g78(R:VP)(b78:T78)(e93:T93)(a:Int)(b:OA)(c d:Nat)(e:OA)(f g:Nat)(h:OA)(i j:Nat)(k:OA)(l m:Nat)(n:Int)(o:OA)(p:Int)(q r:OA)(s:Int)(t:OA)(u v:Nat)(w x:Int)(y:World):Prop:=af (decide (s>0)) (aV o λz=>cL y (z.add 1) λz A B=>Q0q (s - 1) λB=>ix z A B λz=>cF y ((z.add (B.toNat*5)).add 0) .f64 λz=>aV r λA=>cF y (A.add 0) .f64 λA=>af (FloatKind.f64.format.order z A==some .gt) (Q0q (s - 1) λz=>b78 a b c d e f g h i j k l m n o p q r z t u v w x y) (aV o λz=>cL y (z.add 1) λz A B=>nw (y.alloc (.cells (oG 0 none 0 0 0 0 0) 76)) λC=>Q1q 72 z A B (na y) 1 C λB C D A=>(aV o λz=>st A ((z.add 1).add 0) (.slice B C D) λz=>aV o λA=>cL z (A.add 1) λA A B=>Q0q ((A:Int) - 1) λA=>e93 a b c d e f g h i j k l m n o p q r s A t u v w x z))) (aV o λz=>cL y (z.add 1) λz A B=>nw (y.alloc (.cells (oG 0 none 0 0 0 0 0) 76)) λC=>Q1q 72 z A B (na y) 1 C λA B C z=>(aV o λy=>st z ((y.add 1).add 0) (.slice A B C) λy=>aV o λz=>cL y (z.add 1) λz z A=>Q0q ((z:Int) - 1) λz=>e93 a b c d e f g h i j k l m n o p q r s z t u v w x y))
def g93(R:VP)(b93:T93)(j105:YQ)(a:Int)(b:OA)(c d:Nat)(e:OA)(f g:Nat)(h:OA)(i j:Nat)(k:OA)(l m:Nat)(n:Int)(o:OA)(p:Int)(q r:OA)(s t:Int)(u:OA)(v w:Nat)(x y:Int)(z:World):Prop:=af (decide (t>s)) (aV o λA=>cL z (A.add 1) λA B C=>aV o λC=>cL z (C.add 1) λC D E=>Q0q (t - 1) λE=>ix C D E λC=>nK z (C.add (E.toNat*5)) λC D E F G H I=>ix A B t λA=>xZ z (A.add (t.toNat*5)) C D E F G H I λA=>Q0q (t - 1) λt=>b93 a b c d e f g h i j k l m n o p q r s t u v w x y A) (aV o λt=>cL z (t.add 1) λt A B=>aV r λr=>nK z r λr B C D E F G=>ix t A s λt=>xZ z (t.add (s.toNat*5)) r B C D E F G λr=>j105 a b c d e f g h i j k l m n o p q u v w x y r)
def ZJ(R:VP)(b50:T50)(a:Int)(b:OA)(c d:Nat)(e:OA)(f g:Nat)(h:OA)(i j:Nat)(k:OA)(l m:Nat)(n:Int)(o:OA)(p:Int)(q r:OA)(s t:Nat)(u v:Int)(w:World):Prop :=
 aV q λq=>
 cI w (q.add 5) .u8 λq=>
 af (q==2)
 (∃q:Nat->Value->World->Prop,KpF q /\
 (aV o λx=>
 cL w (x.add 3) λx y z=>
 inc p λA=>
 chk ((0:Int)<=A/\A<=(d:Int))
 (chk ((0:Int)<=p/\p<=(A.toNat:Int))
 ((∀B:World,Below w.heap.size w B->CA 37 #[.slice (slA b d p.toNat 5) (A.toNat - p.toNat) (d - p.toNat)] B λp A=>∃C D E,p = .slice C D E/\q 7 (.slice C D E) A/\Below B.heap.size B A) /\
 (∀p:Option Addr,∀A:Nat,∀B:Nat,(∃C,Below w.heap.size w C/\q 7 (.slice p A B) C) ->
 ix p A 0 λC=>
 (∀D:World,Below w.heap.size w D->q 7 (.slice p A B) D->nK D (C.add 0) λC E F G H I J=>
 q 9 (qZ C E F G H I J) D) /\
 (∀C:Nat,∀D:Option Addr,∀E:Nat,∀F:Nat,∀G:Int,∀H:Int,∀I:Int,(∃J,Below w.heap.size w J/\q 9 (qZ C D E F G H I) J) ->
 (∀J:World,Below w.heap.size w J->q 7 (.slice p A B) J->q 9 (qZ C D E F G H I) J->q 10 (.slice (some (na J)) 1 1) (J.alloc (.cells (oG C D E F G H I) 76))) /\
 (∀J:Addr,(∃K,Below w.heap.size w K/\q 10 (.slice (some J) 1 1) K) ->
 ∀K:World,Below w.heap.size w K->q 7 (.slice p A B) K->q 9 (qZ C D E F G H I) K->q 10 (.slice (some J) 1 1) K ->
 dC prog (Builtin.append_ #[72,72] 72 #[.slice x y z,.slice (some J) 1 1]) K λp q=>
 ∃x y z,p = .slice x y z /\
 (aV o λp=>
 st q ((p.add 3).add 0) (.slice x y z) λp=>
 inc v λq=>
 b50 a b c d e f g h i j k l m n o r s t u q p))))))))
 (inc v λp=>
 b50 a b c d e f g h i j k l m n o r s t u p w)
def q10(R:VP):QT:=(Exit.inBlock 0 (qS none (C [1,1,1,1]) (qf R)))
@[irreducible] def l10(R:VP)(k:Nat):T10:=λa b c d e f g h i j l m n o p w=>bg [1,5,6,7,25,26,27] (C [1,1,1,0,1,0,0]) (q10 R) k (fr (U 1 (.int .i64 a::U 3 (.slice b c d::(.slice e f g::(.slice h i j::U 17 (.slice l m n::(.int .i64 o::(.int .i64 p::U 119 []))))))))) w
def e10(R:VP):T10:=λa b c d e f g h i j l m n o p w=>∃k,l10 R k a b c d e f g h i j l m n o p w
def q29(R:VP):QT:=(Exit.inBlock 2 (qS none (C [1,1,1,1,1,1]) (qf R)))
@[irreducible] def l29(R:VP)(k:Nat):T29:=λa b c d e f g h i j l m n o w=>bg [1,5,6,7,10,11] (C [1,1,1,1,1,0,1,0,0]) (q29 R) k (fr (U 1 (.int .i64 a::U 3 (.slice b c d::(.slice e f g::(.slice h i j::U 2 (.slice l m n::(.int .i64 o::U 135 [])))))))) w
def e29(R:VP):T29:=λa b c d e f g h i j l m n o w=>∃k,l29 R k a b c d e f g h i j l m n o w
def q50(R:VP)(k29:Nat):QT:=(Exit.inBlock 4 (qS none (C [1,1,1,1,1,0,1,0,0,1,0,0,1,1,1]) (Exit.inBlock 3 (qS none (C [1,1,1,1,1,0,1,0,0,1,1]) (qL [1,5,6,7,10,11] (C [1,1,1,1,1,0,1,0,0]) (q29 R) k29)))))
def I8(R:VP)(k29 k:Nat):T50:=λa b c d e f g h i j l m n o p q r s t u w=>bg [1,5,6,7,10,11,12,48,49,50] (C [1,1,1,1,1,0,1,0,0,1,0,0,1,1,0,1,0,0]) (q50 R k29) k (fr (U 1 (.int .i64 a::U 3 (.slice b c d::(.slice e f g::(.slice h i j::U 2 (.slice l m n::(.int .i64 o::(.pointer p::U 35 (.slice q r s::(.int .i64 t::(.int .i64 u::U 96 [])))))))))))) w
def WY(R:VP)(k29:Nat):T50:=λa b c d e f g h i j l m n o p q r s t u w=>∃k,I8 R k29 k a b c d e f g h i j l m n o p q r s t u w
def q78(R:VP)(k29 k50:Nat):QT:=(Exit.inBlock 6 (qS none (C [1,1,1,1,1,0,1,0,0,1,0,0,1,1,0,1,0,0,1,1,0,0,1,1,1,0,1,1,1,1]) (qS (some [1,5,6,7,10,11,12,13,14,48,49,50]) (C [1,1,1,1,1,0,1,0,0,1,0,0,1,1,0,1,0,0,1,1,0,0,1,1,1,1]) (Exit.inBlock 5 (qS none (C [1,1,1,1,1,0,1,0,0,1,0,0,1,1,0,1,0,0,1,1,1]) (qL [1,5,6,7,10,11,12,48,49,50] (C [1,1,1,1,1,0,1,0,0,1,0,0,1,1,0,1,0,0]) (q50 R k29) k50))))))
def YI(R:VP)(k29 k50 k:Nat):T78:=λa b c d e f g h i j l m n o p q r s t u v x y z w=>bg [1,5,6,7,10,11,12,13,14,15,16,48,49,50] (C [1,1,1,1,1,0,1,0,0,1,0,0,1,1,0,1,0,0,1,1,0,0,1,1,1,0,1,1,1,0,0,0]) (q78 R k29 k50) k (fr (U 1 (.int .i64 a::U 3 (.slice b c d::(.slice e f g::(.slice h i j::U 2 (.slice l m n::(.int .i64 o::(.pointer p::(.int .i64 q::(.pointer r::(.pointer s::(.int .i64 t::U 31 (.slice u v x::(.int .i64 y::(.int .i64 z::U 96 [])))))))))))))))) w
def Zu(R:VP)(k29 k50:Nat):T78:=λa b c d e f g h i j l m n o p q r s t u v x y z w=>∃k,YI R k29 k50 k a b c d e f g h i j l m n o p q r s t u v x y z w
def q93(R:VP)(k29 k50:Nat):QT:=(Exit.inBlock 8 (qS none (C [1,1,1,1,1,0,1,0,0,1,0,0,1,1,0,1,0,0,1,1,0,0,1,1,1,0,1,1,1,1,1,1]) (qS (some [1,5,6,7,10,11,12,13,14,48,49,50]) (C [1,1,1,1,1,0,1,0,0,1,0,0,1,1,0,1,0,0,1,1,0,0,1,1,1,1]) (Exit.inBlock 5 (qS none (C [1,1,1,1,1,0,1,0,0,1,0,0,1,1,0,1,0,0,1,1,1]) (qL [1,5,6,7,10,11,12,48,49,50] (C [1,1,1,1,1,0,1,0,0,1,0,0,1,1,0,1,0,0]) (q50 R k29) k50))))))
def YU(R:VP)(k29 k50 k:Nat):T93:=λa b c d e f g h i j l m n o p q r s t u v x y z A w=>bg [1,5,6,7,10,11,12,13,14,15,16,17,48,49,50] (C [1,1,1,1,1,0,1,0,0,1,0,0,1,1,0,1,0,0,1,1,0,0,1,1,1,0,1,1,1,1,1,0,1,0,0]) (q93 R k29 k50) k (fr (U 1 (.int .i64 a::U 3 (.slice b c d::(.slice e f g::(.slice h i j::U 2 (.slice l m n::(.int .i64 o::(.pointer p::(.int .i64 q::(.pointer r::(.pointer s::(.int .i64 t::(.int .i64 u::U 30 (.slice v x y::(.int .i64 z::(.int .i64 A::U 96 []))))))))))))))))) w
def ZI(R:VP)(k29 k50:Nat):T93:=λa b c d e f g h i j l m n o p q r s t u v x y z A w=>∃k,YU R k29 k50 k a b c d e f g h i j l m n o p q r s t u v x y z A w
def Tf(R:VP)(k29 k50:Nat):YQ:=λa b c d e f g h i j l m n o p q r s t u v x w=>jT (some [1,5,6,7,10,11,12,13,14,48,49,50]) (C [1,1,1,1,1,0,1,0,0,1,0,0,1,1,0,1,0,0,1,1,0,0,1,1,1,1] (Exit.inBlock 5 (qS none (C [1,1,1,1,1,0,1,0,0,1,0,0,1,1,0,1,0,0,1,1,1]) (qL [1,5,6,7,10,11,12,48,49,50] (C [1,1,1,1,1,0,1,0,0,1,0,0,1,1,0,1,0,0]) (q50 R k29) k50)))) (fr (U 1 (.int .i64 a::U 3 (.slice b c d::(.slice e f g::(.slice h i j::U 2 (.slice l m n::(.int .i64 o::(.pointer p::(.int .i64 q::(.pointer r::U 33 (.slice s t u::(.int .i64 v::(.int .i64 x::U 96 [])))))))))))))) w
def j105(R:VP)(b29:T29)(b50:T50):YQ:=ZJ R b50
theorem a1s(R:VP)(k29 k50:Nat):Tf R k29 k50=λa b c d e f g h i j l m n o p q r s t u v x w=>∀_:Nat->Value,ZJ R (I8 R k29 k50) a b c d e f g h i j l m n o p q r s t u v x w:=by kernel_rfl
theorem XW(R:VP)(k29 k50:Nat)(b29:T29)(b50:T50)(hb29:b29=l29 R k29)(hb50:b50=I8 R k29 k50):j105 R b29 b50=Tf R k29 k50:=by
  rw[a1s];simp only[forall_const];unfold j105;subst hb29;subst hb50
  all_goals rfl
def l93(R:VP)(b29:T29)(b50:T50):Nat->T93
 |0=>λ_ _ _ _ _ _ _ _ _ _ _ _ _ _ _ _ _ _ _ _ _ _ _ _ _ _=>False
 |k+1=>g93 R (l93 R b29 b50 k) (j105 R b29 b50)
def e93(R:VP)(b29:T29)(b50:T50):T93:=λa b c d e f g h i j l m n o p q r s t u v x y z A w=>∃k,l93 R b29 b50 k a b c d e f g h i j l m n o p q r s t u v x y z A w
theorem s93(R:VP)(k29 k50 k:Nat):YU R k29 k50 (k+1)=λa b c d e f g h i j l m n o p q r s t u v x y z A w=>∀_:Nat->Value,g93 R (YU R k29 k50 k) (Tf R k29 k50) a b c d e f g h i j l m n o p q r s t u v x y z A w:=by kernel_rfl
theorem a0h(R:VP)(k29 k50:Nat)(b29:T29)(b50:T50)(hb29:b29=l29 R k29)(hb50:b50=I8 R k29 k50):∀k,l93 R b29 b50 k=YU R k29 k50 k
 |0=>by kernel_rfl
 |k+1=>by
  rw[s93];simp only[forall_const];unfold l93;have ih:=a0h R k29 k50 b29 b50 hb29 hb50 k;subst hb29;subst hb50;rw[XW R k29 k50 _ _ rfl rfl];rw[ih]
  all_goals rfl
theorem a1k(R:VP)(k29 k50:Nat)(b29:T29)(b50:T50)(hb29:b29=l29 R k29)(hb50:b50=I8 R k29 k50):e93 R b29 b50=ZI R k29 k50:=by
 unfold e93 ZI;simp only[a0h R k29 k50 b29 b50 hb29 hb50]
def l78(R:VP)(b29:T29)(b50:T50):Nat->T78
 |0=>λ_ _ _ _ _ _ _ _ _ _ _ _ _ _ _ _ _ _ _ _ _ _ _ _ _=>False
 |k+1=>g78 R (l78 R b29 b50 k) (e93 R b29 b50)
def e78(R:VP)(b29:T29)(b50:T50):T78:=λa b c d e f g h i j l m n o p q r s t u v x y z w=>∃k,l78 R b29 b50 k a b c d e f g h i j l m n o p q r s t u v x y z w
theorem s78(R:VP)(k29 k50 k:Nat):YI R k29 k50 (k+1)=λa b c d e f g h i j l m n o p q r s t u v x y z w=>∀_:Nat->Value,g78 R (YI R k29 k50 k) (ZI R k29 k50) a b c d e f g h i j l m n o p q r s t u v x y z w:=by kernel_rfl
theorem a0t(R:VP)(k29 k50:Nat)(b29:T29)(b50:T50)(hb29:b29=l29 R k29)(hb50:b50=I8 R k29 k50):∀k,l78 R b29 b50 k=YI R k29 k50 k
 |0=>by kernel_rfl
 |k+1=>by
  rw[s78];simp only[forall_const];unfold l78;have ih:=a0t R k29 k50 b29 b50 hb29 hb50 k;subst hb29;subst hb50;rw[a1k R k29 k50 _ _ rfl rfl];rw[ih]
  all_goals rfl
theorem a1b(R:VP)(k29 k50:Nat)(b29:T29)(b50:T50)(hb29:b29=l29 R k29)(hb50:b50=I8 R k29 k50):e78 R b29 b50=Zu R k29 k50:=by
 unfold e78 Zu;simp only[a0t R k29 k50 b29 b50 hb29 hb50]
def l50(R:VP)(b29:T29):Nat->T50
 |0=>λ_ _ _ _ _ _ _ _ _ _ _ _ _ _ _ _ _ _ _ _ _=>False
 |k+1=>g50 R b29 (l50 R b29 k) (e78 R b29 (l50 R b29 k)) (j105 R b29 (l50 R b29 k))
def e50(R:VP)(b29:T29):T50:=λa b c d e f g h i j l m n o p q r s t u w=>∃k,l50 R b29 k a b c d e f g h i j l m n o p q r s t u w
theorem s50(R:VP)(k29 k:Nat):I8 R k29 (k+1)=λa b c d e f g h i j l m n o p q r s t u w=>∀_:Nat->Value,g50 R (l29 R k29) (I8 R k29 k) (Zu R k29 k) (Tf R k29 k) a b c d e f g h i j l m n o p q r s t u w:=by kernel_rfl
theorem Yj(R:VP)(k29:Nat)(b29:T29)(hb29:b29=l29 R k29):∀k,l50 R b29 k=I8 R k29 k
 |0=>by kernel_rfl
 |k+1=>by
  rw[s50];simp only[forall_const];unfold l50;have ih:=Yj R k29 b29 hb29 k;subst hb29;rw[a1b R k29 k _ _ rfl ih];rw[XW R k29 k _ _ rfl ih];rw[ih]
  all_goals rfl
theorem Zf(R:VP)(k29:Nat)(b29:T29)(hb29:b29=l29 R k29):e50 R b29=WY R k29:=by
 unfold e50 WY;simp only[Yj R k29 b29 hb29]
theorem u29(R k a b c d e f g h i j l m n o w):l29 R (k+1) a b c d e f g h i j l m n o w=g29 R (l29 R k) (e50 R (l29 R k)) a b c d e f g h i j l m n o w:=by rw[Zf R k _ rfl];exact ju (by kernel_rfl)
theorem u10(R k a b c d e f g h i j l m n o p w):l10 R (k+1) a b c d e f g h i j l m n o p w=g10 R (l10 R k) (e29 R) a b c d e f g h i j l m n o p w:=ju
end aj
def aj(R:VP):=aj.g0 R (aj.e10 R)
theorem aj.calls{R a b c d w}(k:aj R a b c d w):CA 53 #[.slice a b c,.int .i64 d] w R:=cal (n:=aj.an) func53 rfl k
namespace fP
def an:An:=(aR (aR (aL (aR (aL (.mk (some [1,2,15,16,17]) .nil .nil))))))
def qf(R:VP):QT:=fin prog f54 R
def C:=cdN prog f54 an
abbrev T14:=OA->Nat->Nat->OA->Nat->Nat->Int->Int->World->Prop
def g0(R:VP)(e14:T14)(a:OA)(b c:Nat)(d:OA)(e f:Nat)(g:World):Prop:=af ((b:Int) != e) (R (.bool false) g) (e14 d e f a b c (b:Int) 0 g)
def g14(R:VP)(b14:T14)(a:OA)(b c:Nat)(d:OA)(e f:Nat)(g h:Int)(i:World):Prop:=af (decide (h<g)) (ix d e h λj=>oh i (j.add (h.toNat*8)) λj k l m n o p q r s=>Q7q i j k l m n o p q r s λj=>ix a b h λk=>oh j (k.add (h.toNat*8)) λk l m n o p q r s t=>Q7q j k l m n o p q r s t λk=>oh k (na i) λl m n o p q r s t u=>oh k (na j) λj v w x y z A B C D=>CA 55 #[Iz l m n o p q r s t u,Iz j v w x y z A B C D] k λj k=>∃l,j=.bool l/\(af (!l) (R (.bool false) k) (inc h λh=>b14 a b c d e f g h k))) (R (.bool true) i)
def q14(R:VP):QT:=(Exit.inBlock 0 (qS none (C [1,1,1]) (qf R)))
@[irreducible] def l14(R:VP)(k:Nat):T14:=λa b c d e f g h w=>bg [1,2,15,16,17] (C [1,1,0,1,0,0]) (q14 R) k (fr (U 1 (.slice a b c::(.func (.func 55) #[] #[]::U 12 (.slice d e f::(.int .i64 g::(.int .i64 h::U 14 []))))))) w
def e14(R:VP):T14:=λa b c d e f g h w=>∃k,l14 R k a b c d e f g h w
theorem u14(R k a b c d e f g h w):l14 R (k+1) a b c d e f g h w=g14 R (l14 R k) a b c d e f g h w:=ju
end fP
def fP(R:VP):=fP.g0 R (fP.e14 R)
theorem fP.calls{R a b c d e f w}(k:fP R a b c d e f w):CA 54 #[.slice a b c,.slice d e f,.func (.func 55) #[] #[]] w R:=cal (n:=fP.an) func54 rfl k
namespace gu
def an:An:=An.nil
def g0(R:VP)(a b c:Int)(d:Nat)(e:OA)(f g:Nat)(h i j k l m:Int)(n:Nat)(o:OA)(p q:Nat)(r s t:Int)(u:World):Prop:=nw (u.alloc (.cells (qx a b c d e f g h i j) 56)) λa=>nw (a.alloc (.cells (qx k l m n o p q r s t) 56)) λb=>cI b ((na u).add 0) .u8 λc=>cI b ((na a).add 0) .u8 λd=>af (c==d) (cI b ((na u).add 1) .i64 λc=>cI b ((na a).add 1) .i64 λd=>af (c==d) (cI b ((na u).add 2) .i64 λc=>cI b ((na a).add 2) .i64 λd=>af (c==d) (cF b ((na u).add 3) .f64 λc=>∃d,sJ prog (callFunc 56 #[.float .f64 c]) b (.int .u64 d)/\(cF b ((na a).add 3) .f64 λc=>∃e,sJ prog (callFunc 56 #[.float .f64 c]) b (.int .u64 e)/\(af (d==e) (cL b ((na u).add 4) λc d e=>cL b ((na a).add 4) λf g h=>∃i,(∀j:World,Below b.heap.size b j->CA 57 #[.slice c d e,.slice f g h] j λc d=>c=.bool i/\Below b.heap.size b d)/\(af i (cI b ((na u).add 5) .u8 λc=>cI b ((na a).add 5) .u8 λd=>af (c==d) (cI b ((na u).add 6) .i64 λc=>cI b ((na a).add 6) .i64 λd=>af (c==d) (cI b ((na u).add 7) .i64 λc=>cI b ((na a).add 7) .i64 λa=>∀d:World,Below b.heap.size b d->R (.bool (c==a)) d) (∀a:World,Below b.heap.size b a->R (.bool false) a)) (∀a:World,Below b.heap.size b a->R (.bool false) a)) (∀a:World,Below b.heap.size b a->R (.bool false) a))) (∀a:World,Below b.heap.size b a->R (.bool false) a)))) (∀a:World,Below b.heap.size b a->R (.bool false) a)) (∀a:World,Below b.heap.size b a->R (.bool false) a)) (∀a:World,Below b.heap.size b a->R (.bool false) a)
end gu
def gu(R:VP):=gu.g0 R
theorem gu.calls{R a b c d e f g h i j l m n o p q r s t u w}(k:gu R a b c d e f g h i j l m n o p q r s t u w):CA 55 #[Iz a b c d e f g h i j,Iz l m n o p q r s t u] w R:=cal (n:=gu.an) func55 rfl k
namespace slices_Equal_int
def an:An:=(aR (aR (aL (aR (aL (.mk (some [0,1,12,13]) .nil .nil))))))
def qf(R:VP):QT:=fin prog f57 R
def C:=cdN prog f57 an
abbrev T14:=OA->Nat->Nat->OA->Nat->Nat->Int->Int->World->Prop
def g0(R:VP)(e14:T14)(a:OA)(b c:Nat)(d:OA)(e f:Nat)(g:World):Prop:=af ((b:Int) != e) (R (.bool false) g) (e14 a b c d e f (b:Int) 0 g)
def g14(R:VP)(b14:T14)(a:OA)(b c:Nat)(d:OA)(e f:Nat)(g h:Int)(i:World):Prop:=af (decide (h<g)) (ix a b h λj=>cI i (j.add (h.toNat*1)) .i64 λj=>ix d e h λk=>cI i (k.add (h.toNat*1)) .i64 λk=>af (j != k) (R (.bool false) i) (inc h λh=>b14 a b c d e f g h i)) (R (.bool true) i)
def q14(R:VP):QT:=(Exit.inBlock 0 (qS none (C [1,1,1]) (qf R)))
@[irreducible] def l14(R:VP)(k:Nat):T14:=λa b c d e f g h w=>bg [0,1,12,13] (C [1,1,0,1,0,0]) (q14 R) k (fr ((.slice a b c::(.slice d e f::U 10 (.int .i64 g::(.int .i64 h::U 12 [])))))) w
def e14(R:VP):T14:=λa b c d e f g h w=>∃k,l14 R k a b c d e f g h w
theorem u14(R k a b c d e f g h w):l14 R (k+1) a b c d e f g h w=g14 R (l14 R k) a b c d e f g h w:=ju
end slices_Equal_int
def slices_Equal_int(R:VP):=slices_Equal_int.g0 R (slices_Equal_int.e14 R)
theorem slices_Equal_int.calls{R a b c d e f w}(k:slices_Equal_int R a b c d e f w):CA 57 #[.slice a b c,.slice d e f] w R:=cal (n:=slices_Equal_int.an) func57 rfl k
namespace bJ
def an:An:=(aR (aR (aL (aR (aL (.mk (some [1,13,14,15]) .nil .nil))))))
def qf(R:VP):QT:=fin prog f58 R
def C:=cdN prog f58 an
abbrev T14:=OA->Nat->Nat->OA->Nat->Nat->Int->Int->World->Prop
def g0(R:VP)(e14:T14)(a:OA)(b c:Nat)(d:OA)(e f:Nat)(g:World):Prop:=af ((b:Int) != e) (R (.bool false) g) (e14 d e f a b c (b:Int) 0 g)
def g14(R:VP)(b14:T14)(a:OA)(b c:Nat)(d:OA)(e f:Nat)(g h:Int)(i:World):Prop:=af (decide (h<g)) (ix d e h λj=>nK i (j.add (h.toNat*5)) λj k l m n o p=>Q9q i j k l m n o p λj=>ix a b h λk=>nK j (k.add (h.toNat*5)) λk l m n o p q=>Q9q j k l m n o p q λk=>cF k ((na i).add 0) .f64 λl=>∃m,sJ prog (callFunc 56 #[.float .f64 l]) k (.int .u64 m)/\(cF k ((na j).add 0) .f64 λl=>∃n,sJ prog (callFunc 56 #[.float .f64 l]) k (.int .u64 n)/\(af (m != n) (∀l:World,Below k.heap.size k l->R (.bool false) l) (cL k ((na i).add 1) λl m n=>cL k ((na j).add 1) λo p q=>∃r,(∀s:World,Below k.heap.size k s->CA 34 #[.slice l m n,.slice o p q] s λl m=>l=.bool r/\Below k.heap.size k m)/\(af (!r) (∀l:World,Below k.heap.size k l->R (.bool false) l) (cI k ((na i).add 2) .i64 λl=>cI k ((na j).add 2) .i64 λm=>af (l != m) (∀l:World,Below k.heap.size k l->R (.bool false) l) (cI k ((na i).add 3) .i64 λl=>cI k ((na j).add 3) .i64 λm=>af (l != m) (∀l:World,Below k.heap.size k l->R (.bool false) l) (cI k ((na i).add 4) .i64 λl=>cI k ((na j).add 4) .i64 λj=>∀m:World,Below k.heap.size k m->af (l != j) (R (.bool false) m) (inc h λh=>b14 a b c d e f g h m))))))))) (R (.bool true) i)
def q14(R:VP):QT:=(Exit.inBlock 0 (qS none (C [1,1,1]) (qf R)))
@[irreducible] def l14(R:VP)(k:Nat):T14:=λa b c d e f g h w=>bg [1,13,14,15] (C [1,1,0,1,0,0]) (q14 R) k (fr (U 1 (.slice a b c::U 11 (.slice d e f::(.int .i64 g::(.int .i64 h::U 45 [])))))) w
def e14(R:VP):T14:=λa b c d e f g h w=>∃k,l14 R k a b c d e f g h w
theorem u14(R k a b c d e f g h w):l14 R (k+1) a b c d e f g h w=g14 R (l14 R k) a b c d e f g h w:=ju
end bJ
def bJ(R:VP):=bJ.g0 R (bJ.e14 R)
theorem bJ.calls{R a b c d e f w}(k:bJ R a b c d e f w):CA 58 #[.slice a b c,.slice d e f] w R:=cal (n:=bJ.an) func58 rfl k
namespace aZ
def an:An:=(aR (aR (.mk none (aR (aL (.mk (some [3,4,6,15,16,17]) .nil .nil))) (aL (aR (aL (.mk (some [3,4,6,51]) .nil .nil)))))))
def qf(R:VP):QT:=fin prog f59 R
def C:=cdN prog f59 an
abbrev T8:=OA->OA->OA->OA->Nat->Nat->Int->Int->World->Prop
abbrev T33:=OA->OA->OA->OA->World->Prop
def g0(R:VP)(e8:T8)(a:OA)(b c:Nat)(d:OA)(e f:Nat)(g:World):Prop:=nw (g.alloc (.cells #[.slice d e f] 23)) λd=>nw (d.alloc (.cells (kU 0 none 0 0) 50)) λe=>nw (e.alloc (.map #[] 0)) λf=>nw (f.alloc (.cells #[.map none] 144)) λh=>st h ((na f).add 0) (.map (some e.heap.size)) λe=>e8 (some (na g)) (some (na d)) (some (na f)) a b c (b:Int) 0 e
def g8(R:VP)(b8:T8)(e33:T33)(a b c d:OA)(e f:Nat)(g h:Int)(i:World):Prop:=af (decide (h<g)) (ix d e h λj=>mf i (j.add (h.toNat*10)) λj k l m n o p q r s t u=>Qdq i j k l m n o p q r s t u λj=>cI j ((na i).add 8) .i64 λk=>af (decide (k<0)) (aV b λk=>y8 j k 0 none 0 0 λk=>aV b λl=>jF k l λl m n o=>R (.tuple #[jh l m n o,.bool false]) k) (cI j ((na i).add 9) .i64 λk=>cI j ((na i).add 8) .i64 λl=>af (decide (k<=l)) (aV b λk=>y8 j k 0 none 0 0 λk=>aV b λl=>jF k l λl m n o=>R (.tuple #[jh l m n o,.bool false]) k) (cI j ((na i).add 9) .i64 λk=>aV a λl=>cL j l λl l m=>af (decide (k>=(l:Int))) (aV b λk=>y8 j k 0 none 0 0 λk=>aV b λl=>jF k l λl m n o=>R (.tuple #[jh l m n o,.bool false]) k) (∃(k:World) (l:zg6) (m:World->zg6) (n:Nat->Value->zg6),GX k j l m n/\(aV c λj=>cM k j λj=>cI k ((na i).add 8) .i64 λo=>aV c λp=>cM k p λp=>cI k ((na i).add 8) .i64 λq=>(∀r:World,l r->dC prog (Instr.lookup 144 (.map p) (.int .i64 q) false) r λp q=>∃s t u,p=.slice s t u/\n 6 (.slice s t u) q/\m r q)/\(∀p:Option Addr,∀q:Nat,∀r:Nat,(∃s,l s/\n 6 (.slice p q r) s)->mf k (na i) λk s t u v w x y z A B C=>(∀D:World,l D->n 8 (.slice (some (na D)) 1 1) (D.alloc (.cells (mJ k s t u v w x y z A B C) 115))/\m D (D.alloc (.cells (mJ k s t u v w x y z A B C) 115)))/\(∀k:Addr,(∃s,l s/\n 8 (.slice (some k) 1 1) s)->(∀s:World,l s->n 6 (.slice p q r) s->n 8 (.slice (some k) 1 1) s->dC prog (Builtin.append_ #[113,113] 113 #[.slice p q r,.slice (some k) 1 1]) s λt u=>∃v w x,t=.slice v w x/\n 9 (.slice v w x) u/\m s u)/\(∀m:Option Addr,∀s:Nat,∀t:Nat,(∃u,l u/\n 9 (.slice m s t) u)->∀u:World,l u->n 6 (.slice p q r) u->n 8 (.slice (some k) 1 1) u->n 9 (.slice m s t) u->dC prog (do Instr.mapUpdate 144 (.map j) (.int .i64 o) (.slice m s t);pure undef) u λ_ j=>inc h λh=>b8 a b c d e f g h j)))))))) (aV c λd=>cM i d λd=>dC prog (Instr.range 144 (.map d)) i λd e=>∃f:Addr,d=.pointer (some f)/\(e33 a b c (some f) e))
def g33(R:VP)(b33:T33)(a b c d:OA)(e:World):Prop:=dC prog (Instr.next (.pointer d) false 0) e λe f=>(e=.tuple #[.bool false]/\(nw (f.alloc (.cells (kU 0 none 0 0) 50)) λg=>nw (g.alloc (.cells #[.bool false] 4)) λh=>st h ((na g).add 0) (.bool true) λh=>nw (h.alloc (.cells #[.nilFunc] 147)) λi=>st i ((na h).add 0) (.func (.func 81) #[] #[.pointer (some (na g)),.pointer (some (na f)),.pointer a,.pointer c,.pointer (some (na h))]) λi=>cV i (na h) λh=>aV a λj=>cL i j λj j k=>zO prog h #[.int .i64 0,.int .i64 (j:Int)] i λh i=>h=.tuple #[]/\(∃h:World,CK h i/\(jF i (na f) λj k l m=>cB h (na g) λg=>aV b λn=>y8 i n j k l m λi=>CK h i/\(aV b λh=>jF i h λh j k l=>R (.tuple #[jh h j k l,.bool g]) i)))))\/(∃g h:Value,e=.tuple #[.bool true,g,h]/\(dC prog (Instr.entry (.pointer d)) f λe f=>∃g h:Value,e=.tuple #[g,h]/\(CA 79 #[h,.func (.func 80) #[] #[]] f λe f=>e=.tuple #[]/\(b33 a b c d f))))
def q8(R:VP):QT:=(Exit.inBlock 0 (qS none (C [1,1,1]) (qf R)))
@[irreducible] def l8(R:VP)(k:Nat):T8:=λa b c d e f g h w=>bg [3,4,6,15,16,17] (C [1,1,0,1,0,0]) (q8 R) k (fr (U 3 (.pointer a::(.pointer b::U 1 (.pointer c::U 8 (.slice d e f::(.int .i64 g::(.int .i64 h::U 47 [])))))))) w
def e8(R:VP):T8:=λa b c d e f g h w=>∃k,l8 R k a b c d e f g h w
def q33(R:VP):QT:=(Exit.inBlock 2 (qS none (C [1,1,1,1]) (qf R)))
@[irreducible] def l33(R:VP)(k:Nat):T33:=λa b c d w=>bg [3,4,6,51] (C [1,1,1,0,1,0,0]) (q33 R) k (fr (U 3 (.pointer a::(.pointer b::U 1 (.pointer c::U 44 (.pointer d::U 13 [])))))) w
def e33(R:VP):T33:=λa b c d w=>∃k,l33 R k a b c d w
theorem u33(R k a b c d w):l33 R (k+1) a b c d w=g33 R (l33 R k) a b c d w:=ju
theorem u8(R k a b c d e f g h w):l8 R (k+1) a b c d e f g h w=g8 R (l8 R k) (e33 R) a b c d e f g h w:=ju
end aZ
def aZ(R:VP):=aZ.g0 R (aZ.e8 R)
theorem aZ.calls{R a b c d e f w}(k:aZ R a b c d e f w):CA 59 #[.slice a b c,.slice d e f] w R:=cal (n:=aZ.an) func59 rfl k
namespace cO
def an:An:=(aR (aR (aL (aR (aL (.mk (some [0,1,12,13]) .nil .nil))))))
def qf(R:VP):QT:=fin prog f60 R
def C:=cdN prog f60 an
abbrev T14:=OA->Nat->Nat->OA->Nat->Nat->Int->Int->World->Prop
def g0(R:VP)(e14:T14)(a:OA)(b c:Nat)(d:OA)(e f:Nat)(g:World):Prop:=af ((b:Int) != e) (R (.bool false) g) (e14 a b c d e f (b:Int) 0 g)
def g14(R:VP)(b14:T14)(a:OA)(b c:Nat)(d:OA)(e f:Nat)(g h:Int)(i:World):Prop:=af (decide (h<g)) (ix a b h λj=>cI i (j.add (h.toNat*1)) .i64 λj=>ix d e h λk=>cI i (k.add (h.toNat*1)) .i64 λk=>af (j != k) (R (.bool false) i) (inc h λh=>b14 a b c d e f g h i)) (R (.bool true) i)
def q14(R:VP):QT:=(Exit.inBlock 0 (qS none (C [1,1,1]) (qf R)))
@[irreducible] def l14(R:VP)(k:Nat):T14:=λa b c d e f g h w=>bg [0,1,12,13] (C [1,1,0,1,0,0]) (q14 R) k (fr ((.slice a b c::(.slice d e f::U 10 (.int .i64 g::(.int .i64 h::U 12 [])))))) w
def e14(R:VP):T14:=λa b c d e f g h w=>∃k,l14 R k a b c d e f g h w
theorem u14(R k a b c d e f g h w):l14 R (k+1) a b c d e f g h w=g14 R (l14 R k) a b c d e f g h w:=ju
end cO
def cO(R:VP):=cO.g0 R (cO.e14 R)
theorem cO.calls{R a b c d e f w}(k:cO R a b c d e f w):CA 60 #[.slice a b c,.slice d e f] w R:=cal (n:=cO.an) func60 rfl k
namespace iL
def an:An:=(aR (aR (aL (aR (aL (.mk (some [1,2,15,16,17]) .nil .nil))))))
def qf(R:VP):QT:=fin prog f61 R
def C:=cdN prog f61 an
abbrev T14:=OA->Nat->Nat->OA->Nat->Nat->Int->Int->World->Prop
def g0(R:VP)(e14:T14)(a:OA)(b c:Nat)(d:OA)(e f:Nat)(g:World):Prop:=af ((b:Int) != e) (R (.bool false) g) (e14 d e f a b c (b:Int) 0 g)
def g14(R:VP)(b14:T14)(a:OA)(b c:Nat)(d:OA)(e f:Nat)(g h:Int)(i:World):Prop:=af (decide (h<g)) (ix d e h λj=>EH i (j.add (h.toNat*5)) λj k l m n o p q r s t u v=>Q5q i j k l m n o p q r s t u v λj=>ix a b h λk=>EH j (k.add (h.toNat*5)) λk l m n o p q r s t u v w=>Q5q j k l m n o p q r s t u v w λk=>EH k (na i) λl m n o p q r s t u v w x=>EH k (na j) λj y z A B C D E F G H I J=>CA 62 #[AX l m n o p q r s t u v w x,AX j y z A B C D E F G H I J] k λj k=>∃l,j=.bool l/\(af (!l) (R (.bool false) k) (inc h λh=>b14 a b c d e f g h k))) (R (.bool true) i)
def q14(R:VP):QT:=(Exit.inBlock 0 (qS none (C [1,1,1]) (qf R)))
@[irreducible] def l14(R:VP)(k:Nat):T14:=λa b c d e f g h w=>bg [1,2,15,16,17] (C [1,1,0,1,0,0]) (q14 R) k (fr (U 1 (.slice a b c::(.func (.func 62) #[] #[]::U 12 (.slice d e f::(.int .i64 g::(.int .i64 h::U 14 []))))))) w
def e14(R:VP):T14:=λa b c d e f g h w=>∃k,l14 R k a b c d e f g h w
theorem u14(R k a b c d e f g h w):l14 R (k+1) a b c d e f g h w=g14 R (l14 R k) a b c d e f g h w:=ju
end iL
def iL(R:VP):=iL.g0 R (iL.e14 R)
theorem iL.calls{R a b c d e f w}(k:iL R a b c d e f w):CA 61 #[.slice a b c,.slice d e f,.func (.func 62) #[] #[]] w R:=cal (n:=iL.an) func61 rfl k
namespace gp
def an:An:=An.nil
def g0(R:VP)(a:Int)(b:OA)(c d:Nat)(e:OA)(f g:Nat)(h:OA)(i j:Nat)(k:OA)(l m:Nat)(n:Int)(o:OA)(p q:Nat)(r:OA)(s t:Nat)(u:OA)(v w:Nat)(x:OA)(y z:Nat)(A:World):Prop:=nw (A.alloc (.cells (nD a b c d e f g h i j k l m) 66)) λa=>nw (a.alloc (.cells (nD n o p q r s t u v w x y z) 66)) λb=>cI b ((na A).add 0) .i64 λc=>cI b ((na a).add 0) .i64 λd=>af (c==d) (cL b ((na A).add 1) λc d e=>cL b ((na a).add 1) λf g h=>CA 57 #[.slice c d e,.slice f g h] b λc d=>∃e,c=.bool e/\(af e (cL d ((na A).add 2) λc e f=>cL d ((na a).add 2) λg h i=>CA 63 #[.slice c e f,.slice g h i,.func (.func 60) #[] #[]] d λc e=>∃f,c=.bool f/\(af f (cL e ((na A).add 3) λc f g=>cL e ((na a).add 3) λh i j=>CA 57 #[.slice c f g,.slice h i j] e λc f=>∃g,c=.bool g/\(af g (cL f ((na A).add 4) λc g h=>cL f ((na a).add 4) λa i j=>CA 64 #[.slice c g h,.slice a i j,.func (.func 65) #[] #[]] f λa c=>∃g,a=.bool g/\(R (.bool g) c)) (R (.bool false) f))) (R (.bool false) e))) (R (.bool false) d))) (R (.bool false) b)
end gp
def gp(R:VP):=gp.g0 R
theorem gp.calls{R a b c d e f g h i j l m n o p q r s t u v x y z A B w}(k:gp R a b c d e f g h i j l m n o p q r s t u v x y z A B w):CA 62 #[AX a b c d e f g h i j l m n,AX o p q r s t u v x y z A B] w R:=cal (n:=gp.an) func62 rfl k
namespace jC
def an:An:=(aR (aR (aL (aR (aL (.mk (some [1,2,15,16,17]) .nil .nil))))))
def qf(R:VP):QT:=fin prog f63 R
def C:=cdN prog f63 an
abbrev T14:=OA->Nat->Nat->OA->Nat->Nat->Int->Int->World->Prop
def g0(R:VP)(e14:T14)(a:OA)(b c:Nat)(d:OA)(e f:Nat)(g:World):Prop:=af ((b:Int) != e) (R (.bool false) g) (e14 d e f a b c (b:Int) 0 g)
def g14(R:VP)(b14:T14)(a:OA)(b c:Nat)(d:OA)(e f:Nat)(g h:Int)(i:World):Prop:=af (decide (h<g)) (ix d e h λj=>cL i (j.add (h.toNat*1)) λj k l=>ix a b h λm=>cL i (m.add (h.toNat*1)) λm n o=>CA 60 #[.slice j k l,.slice m n o] i λj k=>∃l,j=.bool l/\(af (!l) (R (.bool false) k) (inc h λh=>b14 a b c d e f g h k))) (R (.bool true) i)
def q14(R:VP):QT:=(Exit.inBlock 0 (qS none (C [1,1,1]) (qf R)))
@[irreducible] def l14(R:VP)(k:Nat):T14:=λa b c d e f g h w=>bg [1,2,15,16,17] (C [1,1,0,1,0,0]) (q14 R) k (fr (U 1 (.slice a b c::(.func (.func 60) #[] #[]::U 12 (.slice d e f::(.int .i64 g::(.int .i64 h::U 14 []))))))) w
def e14(R:VP):T14:=λa b c d e f g h w=>∃k,l14 R k a b c d e f g h w
theorem u14(R k a b c d e f g h w):l14 R (k+1) a b c d e f g h w=g14 R (l14 R k) a b c d e f g h w:=ju
end jC
def jC(R:VP):=jC.g0 R (jC.e14 R)
theorem jC.calls{R a b c d e f w}(k:jC R a b c d e f w):CA 63 #[.slice a b c,.slice d e f,.func (.func 60) #[] #[]] w R:=cal (n:=jC.an) func63 rfl k
end Go.Mir
