/- Part of a proof; no conditions. -/
import Derived.Test.YtmjlipmapfofmaaGreatMMA
set_option linter.unusedVariables false
set_option linter.unusedSimpArgs false
set_option linter.unusedSectionVars false
set_option maxRecDepth 100000
open Go.Proofs.Tryz (prog f64 func64 f65 func65 f66 func66 f68 func68 f69 func69 f70 func70 f71 func71 f72 func72 f73 func73 f74 func74 f75 func75 f76 func76 f77 func77 f78 func78 f79 func79 f80 func80 f81 func81 f82 func82 f83 func83 f84 func84 f85 func85 f86 func86 f87 func87 f88 func88 f89 func89 f90 func90 f91 func91)
namespace Go.Mir
open Go Go.E Go.RowKit
namespace jD
def an:An:=(aR (aR (aL (aR (aL (.mk (some [1,2,15,16,17]) .nil .nil))))))
def qf(R:VP):QT:=fin prog f64 R
def C:=cdN prog f64 an
abbrev T14:=OA->Nat->Nat->OA->Nat->Nat->Int->Int->World->Prop
def g0(R:VP)(e14:T14)(a:OA)(b c:Nat)(d:OA)(e f:Nat)(g:World):Prop:=af ((b:Int) != e) (R (.bool false) g) (e14 d e f a b c (b:Int) 0 g)
def g14(R:VP)(b14:T14)(a:OA)(b c:Nat)(d:OA)(e f:Nat)(g h:Int)(i:World):Prop:=af (decide (h<g)) (ix d e h λj=>rU i (j.add (h.toNat*4)) λj k l m n o p q r s=>Q4q i j k l m n o p q r s λj=>ix a b h λk=>rU j (k.add (h.toNat*4)) λk l m n o p q r s t=>Q4q j k l m n o p q r s t λk=>rU k (na i) λl m n o p q r s t u=>rU k (na j) λj v w x y z A B C D=>CA 65 #[D6 l m n o p q r s t u,D6 j v w x y z A B C D] k λj k=>∃l,j=.bool l/\(af (!l) (R (.bool false) k) (inc h λh=>b14 a b c d e f g h k))) (R (.bool true) i)
def q14(R:VP):QT:=(Exit.inBlock 0 (qS none (C [1,1,1]) (qf R)))
@[irreducible] def l14(R:VP)(k:Nat):T14:=λa b c d e f g h w=>bg [1,2,15,16,17] (C [1,1,0,1,0,0]) (q14 R) k (fr (U 1 (.slice a b c::(.func (.func 65) #[] #[]::U 12 (.slice d e f::(.int .i64 g::(.int .i64 h::U 14 []))))))) w
def e14(R:VP):T14:=λa b c d e f g h w=>∃k,l14 R k a b c d e f g h w
theorem u14(R k a b c d e f g h w):l14 R (k+1) a b c d e f g h w=g14 R (l14 R k) a b c d e f g h w:=ju
end jD
def jD(R:VP):=jD.g0 R (jD.e14 R)
theorem jD.calls{R a b c d e f w}(k:jD R a b c d e f w):CA 64 #[.slice a b c,.slice d e f,.func (.func 65) #[] #[]] w R:=cal (n:=jD.an) func64 rfl k
namespace fF
def an:An:=An.nil
def g0(R:VP)(a:Int)(b:OA)(c d:Nat)(e:OA)(f g:Nat)(h:OA)(i j:Nat)(k:Int)(l:OA)(m n:Nat)(o:OA)(p q:Nat)(r:OA)(s t:Nat)(u:World):Prop:=nw (u.alloc (.cells (uf a b c d e f g h i j) 74)) λa=>nw (a.alloc (.cells (uf k l m n o p q r s t) 74)) λb=>cI b ((na u).add 0) .i64 λc=>cI b ((na a).add 0) .i64 λd=>af (c==d) (cL b ((na u).add 1) λc d e=>cL b ((na a).add 1) λf g h=>CA 66 #[.slice c d e,.slice f g h] b λc d=>∃e,c=.bool e/\(af e (cL d ((na u).add 2) λc e f=>cL d ((na a).add 2) λg h i=>CA 66 #[.slice c e f,.slice g h i] d λc e=>∃f,c=.bool f/\(af f (cL e ((na u).add 3) λc f g=>cL e ((na a).add 3) λa h i=>CA 66 #[.slice c f g,.slice a h i] e λa c=>∃f,a=.bool f/\(R (.bool f) c)) (R (.bool false) e))) (R (.bool false) d))) (R (.bool false) b)
end fF
def fF(R:VP):=fF.g0 R
theorem fF.calls{R a b c d e f g h i j l m n o p q r s t u w}(k:fF R a b c d e f g h i j l m n o p q r s t u w):CA 65 #[D6 a b c d e f g h i j,D6 l m n o p q r s t u] w R:=cal (n:=fF.an) func65 rfl k
namespace iQ
def an:An:=An.nil
def g0(R:VP)(a:OA)(b c:Nat)(d:OA)(e f:Nat)(g:World):Prop:=CA 82 #[.slice a b c,.slice d e f,.func (.func 83) #[] #[]] g λa b=>∃c,a=.bool c/\(R (.bool c) b)
end iQ
def iQ(R:VP):=iQ.g0 R
theorem iQ.calls{R a b c d e f w}(k:iQ R a b c d e f w):CA 66 #[.slice a b c,.slice d e f] w R:=cal (n:=iQ.an) func66 rfl k
namespace iK
def an:An:=An.nil
def g0(R:VP)(a:Int)(b:OA)(c d:Nat)(e:Bool)(f:World):Prop:=nw (f.alloc (.cells (kU a b c d) 50)) λa=>nw (a.alloc (.cells #[.bool e] 4)) λb=>jF b (na f) λc d e g=>CA 84 #[jh c d e g] b λb c=>∃d e,b=.tuple #[.int .i64 d,.int .i64 e]/\(af (d != 0) (R (.tuple #[.slice none 0 0,.int .i64 d]) c) (nw (c.alloc (.cells #[.slice none 0 0] 53)) λb=>jF b (na f) λd e g h=>CA 85 #[jh d e g h] b λb d=>∃e,b=e/\(OT prog e d (λb d d e=>cL d ((na f).add 1) λf g h=>ix f g b λf=>oh d (f.add (b.toNat*8)) λf g h i j k l m n o=>∃p,(∀q:World,Below d.heap.size d q->CA 86 #[Iz f g h i j k l m n o] q λf g=>f=.bool p/\Below d.heap.size d g)/\(cB d (na a) λa=>∀f:World,Below d.heap.size d f->af (p==a) (cL f (na c) λa d g=>nw (f.alloc (.cells #[.int .i64 b] 3)) λb=>Q1q 53 a d g (na f) 1 b λd g h b=>(st b ((na c).add 0) (.slice d g h) λa=>e a)) (e f))) (λa b=>cL b (na c) λc d e=>b.heap[a]?=some (.deferred (some []))/\nw (b.putObj a (.deferred none)) λa=>R (.tuple #[.slice c d e,.int .i64 0]) a))))
end iK
def iK(R:VP):=iK.g0 R
theorem iK.calls{R a b c d e w}(k:iK R a b c d e w):CA 68 #[jh a b c d,.bool e] w R:=cal (n:=iK.an) func68 rfl k
namespace dB
def an:An:=(aR (aR (aR (aL (aR (aL (.mk (some [1,20,21,22]) (aR (aR (aL (aL (aR (aR (aR (aR (aR (aL (.mk (some [1,20,21,22,38,39,40]) .nil .nil))))))))))) .nil)))))))
def qf(R:VP):QT:=fin prog f69 R
def C:=cdN prog f69 an
abbrev T22:=Int->OA->Nat->Nat->Int->Int->World->Prop
abbrev T54:=Int->OA->Nat->Nat->Int->Int->OA->Nat->Nat->Int->Int->World->Prop
def g0(R:VP)(e22:T22)(a:OA)(b c:Nat)(d:Int)(e:World):Prop:=af (decide (d<0)) (R (.int .i64 2) e) (af (decide (d>65536)) (R (.int .i64 2) e) (af (decide ((b:Int)>65536)) (R (.int .i64 3) e) (e22 d a b c (b:Int) 0 e)))
def g22(R:VP)(e54:T54)(a:Int)(b:OA)(c d:Nat)(e f:Int)(g:World):Prop:=af (decide (f<e)) (ix b c f λh=>jF g (h.add (f.toNat*2)) λh i j k=>Q8q g h i j k λh=>jF h (na g) λi j k l=>CA 48 #[jh i j k l] h λh i=>∃j k l m,h=.tuple #[.slice j k l,.int .i64 m]/\(af (m != 0) (R (.int .i64 m) i) (af (decide ((k:Int)>4096)) (R (.int .i64 3) i) (cL i ((na g).add 1) λh j k=>e54 a b c d e f h j k (j:Int) 0 i)))) (R (.int .i64 0) g)
def g54(R:VP)(b22:T22)(b54:T54)(a:Int)(b:OA)(c d:Nat)(e f:Int)(g:OA)(h i:Nat)(j k:Int)(l:World):Prop:=af (decide (k<j)) (ix g h k λm=>oh l (m.add (k.toNat*8)) λm n o p q r s t u v=>Q7q l m n o p q r s t u v λm=>cI m ((na l).add 0) .u8 λn=>af (n != 1) (cI m ((na l).add 2) .i64 λn=>af (decide (n>=a)) (R (.int .i64 72) m) (inc k λn=>b54 a b c d e f g h i j n m)) (inc k λk=>b54 a b c d e f g h i j k m)) (inc f λf=>b22 a b c d e f l)
def q22(R:VP):QT:=(Exit.inBlock 0 (qS none (C [1,1,1,1]) (qf R)))
@[irreducible] def l22(R:VP)(k:Nat):T22:=λa b c d e f w=>bg [1,20,21,22] (C [1,1,1,0,1,0,0]) (q22 R) k (fr (U 1 (.int .i64 a::U 18 (.slice b c d::(.int .i64 e::(.int .i64 f::U 32 [])))))) w
def e22(R:VP):T22:=λa b c d e f w=>∃k,l22 R k a b c d e f w
def q54(R:VP)(k22:Nat):QT:=(Exit.inBlock 2 (Exit.inBlock 1 (qS none (C [1,1,1,0,1,0,0,1,1,1]) (qL [1,20,21,22] (C [1,1,1,0,1,0,0]) (q22 R) k22))))
def YW(R:VP)(k22 k:Nat):T54:=λa b c d e f g h i j l w=>bg [1,20,21,22,38,39,40] (C [1,1,1,0,1,0,0,1,1,0,0,1,1,1,1,1,0,0]) (q54 R k22) k (fr (U 1 (.int .i64 a::U 18 (.slice b c d::(.int .i64 e::(.int .i64 f::U 15 (.slice g h i::(.int .i64 j::(.int .i64 l::U 14 []))))))))) w
def a08(R:VP)(k22:Nat):T54:=λa b c d e f g h i j l w=>∃k,YW R k22 k a b c d e f g h i j l w
def l54(R:VP)(b22:T22):Nat->T54
 |0=>λ_ _ _ _ _ _ _ _ _ _ _ _=>False
 |k+1=>g54 R b22 (l54 R b22 k)
def e54(R:VP)(b22:T22):T54:=λa b c d e f g h i j l w=>∃k,l54 R b22 k a b c d e f g h i j l w
theorem s54(R:VP)(k22 k:Nat):YW R k22 (k+1)=λa b c d e f g h i j l w=>∀_:Nat->Value,g54 R (l22 R k22) (YW R k22 k) a b c d e f g h i j l w:=by kernel_rfl
theorem a0L(R:VP)(k22:Nat)(b22:T22)(hb22:b22=l22 R k22):∀k,l54 R b22 k=YW R k22 k
 |0=>by kernel_rfl
 |k+1=>by
  rw[s54];simp only[forall_const];unfold l54;have ih:=a0L R k22 b22 hb22 k;subst hb22;rw[ih]
  all_goals rfl
theorem a1q(R:VP)(k22:Nat)(b22:T22)(hb22:b22=l22 R k22):e54 R b22=a08 R k22:=by
 unfold e54 a08;simp only[a0L R k22 b22 hb22]
theorem u22(R k a b c d e f w):l22 R (k+1) a b c d e f w=g22 R (e54 R (l22 R k)) a b c d e f w:=by rw[a1q R k _ rfl];exact ju (by kernel_rfl)
end dB
def dB(R:VP):=dB.g0 R (dB.e22 R)
theorem dB.calls{R a b c d w}(k:dB R a b c d w):CA 69 #[.slice a b c,.int .i64 d] w R:=cal (n:=dB.an) func69 rfl k
namespace iT
def an:An:=An.nil
def g0(R:VP)(a:Int)(b:OA)(c d:Nat)(e:World):Prop:=nw (e.alloc (.cells (kU a b c d) 50)) λa=>jF a (na e) λb c d f=>CA 87 #[jh b c d f] a λa b=>∃c d,a=.tuple #[.int .i64 c,.int .i64 d]/\(af (d != 0) (R (.tuple #[.slice none 0 0,.int .i64 d]) b) (nw (b.alloc (.cells #[.slice none 0 0] 131)) λa=>nw (a.alloc (.cells #[.nilFunc] 154)) λc=>st c ((na a).add 0) (.func (.func 88) #[] #[.pointer (some (na e)),.pointer (some (na b)),.pointer (some (na a))]) λc=>cV c (na a) λa=>zO prog a #[.int .i64 0,.int .i64 0] c λa c=>∃d,a=.int .i64 d/\(cL c (na b) λa b d=>R (.tuple #[.slice a b d,.int .i64 0]) c)))
end iT
def iT(R:VP):=iT.g0 R
theorem iT.calls{R a b c d w}(k:iT R a b c d w):CA 70 #[jh a b c d] w R:=cal (n:=iT.an) func70 rfl k
namespace iD
def an:An:=An.nil
def g0(R:VP)(a:Nat)(b:OA)(c d:Nat)(e f g:Int)(h:World):Prop:=nw (h.alloc (.cells (oG a b c d e f g) 76)) λa=>nw (a.alloc (.cells (oG 0 none 0 0 0 0 0) 76)) λb=>cL b ((na h).add 1) λc d e=>dC prog (Builtin.append_ #[53,53] 53 #[.slice none 0 0,.slice c d e]) b λb c=>∃d e f,b=.slice d e f/\(st c (((na h).add 1).add 0) (.slice d e f) λb=>nK b (na h) λc d e f g h i=>xZ b (na a) c d e f g h i λb=>nK b (na a) λa c d e f g h=>R (qZ a c d e f g h) b)
end iD
def iD(R:VP):=iD.g0 R
theorem iD.calls{R a b c d e f g w}(k:iD R a b c d e f g w):CA 71 #[qZ a b c d e f g] w R:=cal (n:=iD.an) func71 rfl k
namespace jk
def an:An:=An.nil
def g0(R:VP)(a:OA)(b c:Nat)(d:World):Prop:=nw (d.alloc (.cells #[.func (.func 73) #[] #[]] 138)) λe=>CA 89 #[.slice a b c,.func (.func 90) #[] #[.pointer (some (na d))]] e λa b=>a=.tuple #[]/\(R (.tuple #[]) b)
end jk
def jk(R:VP):=jk.g0 R
theorem jk.calls{R a b c w}(k:jk R a b c w):CA 72 #[.slice a b c,.func (.func 73) #[] #[]] w R:=cal (n:=jk.an) func72 rfl k
namespace jl
def an:An:=An.nil
def g0(R:VP)(a:Nat)(b:OA)(c d:Nat)(e f g:Int)(h:World):Prop:=nw (h.alloc (.cells (oG a b c d e f g) 76)) λa=>cF a ((na h).add 0) .f64 λb=>CA 74 #[.float .f64 b] a λa b=>∃c,a=.int .u64 c/\(R (.int .u64 c) b)
end jl
def jl(R:VP):=jl.g0 R
theorem jl.calls{R a b c d e f g w}(k:jl R a b c d e f g w):CA 73 #[qZ a b c d e f g] w R:=cal (n:=jl.an) func73 rfl k
namespace jH
def an:An:=An.nil
def g0(R:VP)(a:Nat)(b:World):Prop:=∃c,sJ prog (callFunc 56 #[.float .f64 a]) b (.int .u64 c)/\(af (FloatKind.f64.format.order a a != some .eq) (R (.int .u64 18437736874454810625) b) (nv (Int.fdiv c (2 ^ (min (63:Int).toNat 64))) λa=>af (a==0) (nv (IntKind.u64.wrap (9218868437227405312+c)) λa=>R (.int .u64 a) b) (nv (Qo .andNot .u64 c 9223372036854775808) λa=>nv (IntKind.u64.wrap (9218868437227405312 - a)) λa=>R (.int .u64 a) b)))
end jH
def jH(R:VP):=jH.g0 R
theorem jH.calls{R a w}(k:jH R a w):CA 74 #[.float .f64 a] w R:=cal (n:=jH.an) func74 rfl k
namespace iM
def an:An:=An.nil
def g0(R:VP)(a:OA)(b c:Nat)(d:World):Prop:=nw (d.alloc (.cells #[.func (.func 76) #[] #[]] 140)) λe=>CA 92 #[.slice a b c,.func (.func 93) #[] #[.pointer (some (na d))]] e λa b=>a=.tuple #[]/\(R (.tuple #[]) b)
end iM
def iM(R:VP):=iM.g0 R
theorem iM.calls{R a b c w}(k:iM R a b c w):CA 75 #[.slice a b c,.func (.func 76) #[] #[]] w R:=cal (n:=iM.an) func75 rfl k
namespace jm
def an:An:=An.nil
def g0(R:VP)(a:Int)(b:OA)(c d:Nat)(e:OA)(f g:Nat)(h:OA)(i j:Nat)(k:World):Prop:=nw (k.alloc (.cells (uf a b c d e f g h i j) 74)) λa=>cI a ((na k).add 0) .i64 λb=>R (.int .i64 b) a
end jm
def jm(R:VP):=jm.g0 R
theorem jm.calls{R a b c d e f g h i j w}(k:jm R a b c d e f g h i j w):CA 76 #[D6 a b c d e f g h i j] w R:=cal (n:=jm.an) func76 rfl k
namespace bP
def an:An:=(aR (aR (aR (aR (aL (aR (aL (.mk (some [1,2,8,20,21,22]) .nil .nil))))))))
def qf(R:VP):QT:=fin prog f77 R
def C:=cdN prog f77 an
abbrev T18:=Bool->OA->OA->Nat->Nat->OA->Nat->Nat->Int->Int->World->Prop
def g0(R:VP)(e18:T18)(a:Int)(b:OA)(c d:Nat)(e:Bool)(f:World):Prop:=nw (f.alloc (.cells (kU a b c d) 50)) λa=>jF a (na f) λb c d g=>CA 95 #[jh b c d g] a λa b=>∃c d,a=.tuple #[.int .i64 c,.int .i64 d]/\(af (c != 0) (R (.tuple #[.slice none 0 0,.int .i64 c]) b) (jF b (na f) λa c d g=>CA 96 #[jh a c d g] b λa b=>∃c d g,a=.slice c d g/\(e18 e (some (na f)) none 0 0 c d g (d:Int) 0 b)))
def g18(R:VP)(b18:T18)(a:Bool)(b c:OA)(d e:Nat)(f:OA)(g h:Nat)(i j:Int)(k:World):Prop:=af (decide (j<i)) (ix f g j λl=>cI k (l.add (j.toNat*1)) .i64 λl=>aV b λm=>cL k (m.add 1) λm n o=>ix m n l λm=>cI k ((m.add (l.toNat*8)).add 0) .u8 λm=>af ((m==1)==a) (nw (k.alloc (.cells #[.int .i64 l] 3)) λl=>Q1q 53 c d e (na k) 1 l λn o p m=>(inc j λl=>b18 a b n o p f g h i l m)) (inc j λj=>b18 a b c d e f g h i j k)) (R (.tuple #[.slice c d e,.int .i64 0]) k)
def q18(R:VP):QT:=(Exit.inBlock 0 (qS none (C [1,1,1,1,1]) (qf R)))
@[irreducible] def l18(R:VP)(k:Nat):T18:=λa b c d e f g h i j w=>bg [1,2,8,20,21,22] (C [1,1,1,1,0,1,0,0]) (q18 R) k (fr (U 1 (.bool a::(.pointer b::U 5 (.slice c d e::U 11 (.slice f g h::(.int .i64 i::(.int .i64 j::U 18 [])))))))) w
def e18(R:VP):T18:=λa b c d e f g h i j w=>∃k,l18 R k a b c d e f g h i j w
theorem u18(R k a b c d e f g h i j w):l18 R (k+1) a b c d e f g h i j w=g18 R (l18 R k) a b c d e f g h i j w:=ju
end bP
def bP(R:VP):=bP.g0 R (bP.e18 R)
theorem bP.calls{R a b c d e w}(k:bP R a b c d e w):CA 77 #[jh a b c d,.bool e] w R:=cal (n:=bP.an) func77 rfl k
namespace aP
def an:An:=(aR (aR (aR (aL (aR (aL (.mk (some [4,5,13,14,15]) (aR (aR (aL (aL (aR (aR (aR (aL (.mk (some [4,5,6,7,13,14,15,25,26,27]) .nil .nil))))))))) .nil)))))))
def qf(R:VP):QT:=fin prog f78 R
def C:=cdN prog f78 an
abbrev T10:=OA->Nat->Nat->OA->Nat->Nat->OA->Nat->Nat->Int->Int->World->Prop
abbrev T26:=OA->Nat->Nat->OA->Nat->Nat->Int->OA->OA->Nat->Nat->Int->Int->OA->Nat->Nat->Int->Int->World->Prop
def g0(R:VP)(e10:T10)(a:OA)(b c:Nat)(d:World):Prop:=e10 none 0 0 none 0 0 a b c (b:Int) 0 d
def g10(R:VP)(e26:T26)(a:OA)(b c:Nat)(d:OA)(e f:Nat)(g:OA)(h i:Nat)(j k:Int)(l:World):Prop:=af (decide (k<j)) (ix g h k λm=>jF l (m.add (k.toNat*2)) λm n o p=>Q8q l m n o p λm=>jF m (na l) λn o p q=>CA 97 #[jh n o p q] m λm n=>∃o p q r,m=.tuple #[.slice o p q,.int .i64 r]/\(e26 a b c d e f k (some (na l)) g h i j k o p q (p:Int) 0 n)) (R (.tuple #[.slice a b c,.slice d e f]) l)
def g26(R:VP)(b10:T10)(b26:T26)(a:OA)(b c:Nat)(d:OA)(e f:Nat)(g:Int)(h i:OA)(j k:Nat)(l m:Int)(n:OA)(o p:Nat)(q r:Int)(s:World):Prop:=af (decide (r<q)) (ix n o r λt=>VO s (t.add (r.toNat*3)) λt u v=>Qcq s t u v λt=>aV h λu=>cL t (u.add 1) λu v v=>cI t ((na s).add 0) .i64 λw=>cI t ((na s).add 0) .i64 λx=>inc x λx=>chk ((0:Int)<=x/\x<=(v:Int)) (chk ((0:Int)<=w/\w<=(x.toNat:Int)) (CA 22 #[.slice (slA u v w.toNat 8) (x.toNat - w.toNat) (v - w.toNat)] t λt u=>∃v w x,t=.slice v w x/\(ix v w 0 λt=>oh u (t.add 0) λt v w x y z A B C D=>Q7q u t v w x y z A B C D λt=>cF t ((na u).add 3) .f64 λv=>cL t ((na u).add 4) λw x y=>cI t ((na s).add 1) .i64 λz=>cI t ((na s).add 2) .i64 λA=>nw (t.alloc (.cells (oG v w x y g z A) 76)) λv=>Q1q 72 a b c (na t) 1 v λw x y v=>(oh v (na u) λt u z A B C D E F G=>nw (v.alloc (.cells (qx t u z A B C D E F G) 56)) λt=>Q1q 48 d e f (na v) 1 t λv z A u=>(inc r λr=>b26 w x y v z A g h i j k l m n o p q r u)))))) (inc m λg=>b10 a b c d e f i j k l g s)
def q10(R:VP):QT:=(Exit.inBlock 0 (qS none (C [1,1,1,1]) (qf R)))
@[irreducible] def l10(R:VP)(k:Nat):T10:=λa b c d e f g h i j l w=>bg [4,5,13,14,15] (C [1,1,1,0,1,0,0]) (q10 R) k (fr (U 4 (.slice a b c::(.slice d e f::U 7 (.slice g h i::(.int .i64 j::(.int .i64 l::U 47 []))))))) w
def e10(R:VP):T10:=λa b c d e f g h i j l w=>∃k,l10 R k a b c d e f g h i j l w
def q26(R:VP)(k10:Nat):QT:=(Exit.inBlock 2 (Exit.inBlock 1 (qS none (C [1,1,1,0,1,0,0,1,1,1]) (qL [4,5,13,14,15] (C [1,1,1,0,1,0,0]) (q10 R) k10))))
def YS(R:VP)(k10 k:Nat):T26:=λa b c d e f g h i j l m n o p q r s w=>bg [4,5,6,7,13,14,15,25,26,27] (C [1,1,1,0,1,0,0,1,1,0,0,1,1,1,0,0]) (q26 R k10) k (fr (U 4 (.slice a b c::(.slice d e f::(.int .i64 g::(.pointer h::U 5 (.slice i j l::(.int .i64 m::(.int .i64 n::U 9 (.slice o p q::(.int .i64 r::(.int .i64 s::U 35 [])))))))))))) w
def a0l(R:VP)(k10:Nat):T26:=λa b c d e f g h i j l m n o p q r s w=>∃k,YS R k10 k a b c d e f g h i j l m n o p q r s w
def l26(R:VP)(b10:T10):Nat->T26
 |0=>λ_ _ _ _ _ _ _ _ _ _ _ _ _ _ _ _ _ _ _=>False
 |k+1=>g26 R b10 (l26 R b10 k)
def e26(R:VP)(b10:T10):T26:=λa b c d e f g h i j l m n o p q r s w=>∃k,l26 R b10 k a b c d e f g h i j l m n o p q r s w
theorem s26(R:VP)(k10 k:Nat):YS R k10 (k+1)=λa b c d e f g h i j l m n o p q r s w=>∀_:Nat->Value,g26 R (l10 R k10) (YS R k10 k) a b c d e f g h i j l m n o p q r s w:=by kernel_rfl
theorem a0G(R:VP)(k10:Nat)(b10:T10)(hb10:b10=l10 R k10):∀k,l26 R b10 k=YS R k10 k
 |0=>by kernel_rfl
 |k+1=>by
  rw[s26];simp only[forall_const];unfold l26;have ih:=a0G R k10 b10 hb10 k;subst hb10;rw[ih]
  all_goals rfl
theorem a19(R:VP)(k10:Nat)(b10:T10)(hb10:b10=l10 R k10):e26 R b10=a0l R k10:=by
 unfold e26 a0l;simp only[a0G R k10 b10 hb10]
theorem u10(R k a b c d e f g h i j l w):l10 R (k+1) a b c d e f g h i j l w=g10 R (e26 R (l10 R k)) a b c d e f g h i j l w:=by rw[a19 R k _ rfl];exact ju (by kernel_rfl)
end aP
def aP(R:VP):=aP.g0 R (aP.e10 R)
theorem aP.calls{R a b c w}(k:aP R a b c w):CA 78 #[.slice a b c] w R:=cal (n:=aP.an) func78 rfl k
namespace jX
def an:An:=An.nil
def g0(R:VP)(a:OA)(b c:Nat)(d:World):Prop:=CA 98 #[.slice a b c,.int .i64 (b:Int),.func (.func 80) #[] #[]] d λa b=>a=.tuple #[]/\(R (.tuple #[]) b)
end jX
def jX(R:VP):=jX.g0 R
theorem jX.calls{R a b c w}(k:jX R a b c w):CA 79 #[.slice a b c,.func (.func 80) #[] #[]] w R:=cal (n:=jX.an) func79 rfl k
namespace eQ
def an:An:=An.nil
def g0(R:VP)(a b c:Int)(d:Nat)(e:OA)(f g:Nat)(h i j k l m n o:Int)(p:Nat)(q:OA)(r s:Nat)(t u v w x:Int)(y:World):Prop:=nw (y.alloc (.cells (mJ a b c d e f g h i j k l) 115)) λa=>nw (a.alloc (.cells (mJ m n o p q r s t u v w x) 115)) λb=>cI b ((na a).add 9) .i64 λa=>cI b ((na y).add 9) .i64 λc=>Q0q (a - c) λa=>R (.int .i64 a) b
end eQ
def eQ(R:VP):=eQ.g0 R
theorem eQ.calls{R a b c d e f g h i j l m n o p q r s t u v x y z w}(k:eQ R a b c d e f g h i j l m n o p q r s t u v x y z w):CA 80 #[Ae a b c d e f g h i j l m,Ae n o p q r s t u v x y z] w R:=cal (n:=eQ.an) func80 rfl k
namespace dD
def an:An:=An.nil
def g0(R:VP)(a b:Int)(c d e f g:Addr)(h:World):Prop:=cB h c λi=>af (!i) (R (.tuple #[]) h) (Q0q (b - a) λi=>af (i==1) (∃i:Nat->Value->World->Prop,KpF i/\(cL h (d.add 1) λj k l=>cL h e λe m n=>ix e m a λe=>cI h (e.add (a.toNat*1)) .i64 λe=>(∀m:World,Below h.heap.size h m->i 7 (.slice (some (na m)) 1 1) (m.alloc (.cells (qx 1 e 0 0 none 0 0 0 0 0) 56)))/\(∀e:Addr,(∃m,Below h.heap.size h m/\i 7 (.slice (some e) 1 1) m)->∀m:World,Below h.heap.size h m->i 7 (.slice (some e) 1 1) m->Q1q 48 j k l e 1 m λj k l i=>(st i ((d.add 1).add 0) (.slice j k l) λe=>R (.tuple #[]) e)))) (cM h f λe=>dC prog (Instr.lookup 144 (.map e) (.int .i64 a) false) h λe h=>∃i j k,e=.slice i j k/\(af ((j:Int)==0) (st h (c.add 0) (.bool false) λe=>R (.tuple #[]) e) (ix i j 0 λe=>cI h ((e.add 0).add 9) .i64 λe=>af (decide (e>=b)) (st h (c.add 0) (.bool false) λc=>R (.tuple #[]) c) (cM h f λc=>chk ((0:Int)<=1/\1<=(j:Int)) (dC prog (do Instr.mapUpdate 144 (.map c) (.int .i64 a) (.slice (slA i k 1 10) (j - 1) (k - 1));pure undef) h λ_ c=>cL c (d.add 1) λe e f=>ix i j 0 λf=>oh c ((f.add 0).add 0) λf h k l m n o p q r=>Q7q c f h k l m n o p q r λf=>Q0q ((e:Int)+1) λh=>st f (((na c).add 6).add 0) (.int .i64 h) λf=>cL f (d.add 1) λh k l=>oh f (na c) λc m n o p q r s t u=>nw (f.alloc (.cells (qx c m n o p q r s t u) 56)) λc=>Q1q 48 h k l (na f) 1 c λh k l f=>(st f ((d.add 1).add 0) (.slice h k l) λc=>cV c g λf=>ix i j 0 λh=>cI c ((h.add 0).add 9) .i64 λh=>Tn prog f #[.int .i64 a,.int .i64 h] c λa c=>a=.tuple #[]/\(cL c (d.add 1) λa f h=>cL c (d.add 1) λd d h=>ix a f (e:Int) λa=>st c (((a.add ((e:Int).toNat*8)).add 7).add 0) (.int .i64 (d:Int)) λa=>cV a g λc=>ix i j 0 λd=>cI a ((d.add 0).add 9) .i64 λd=>Tn prog c #[.int .i64 d,.int .i64 b] a λa b=>a=.tuple #[]/\(R (.tuple #[]) b)))))))))
end dD
def dD(R:VP):=dD.g0 R
theorem dD.calls{R a b c d e f g w}(k:dD R a b c d e f g w):CA 81 #[.int .i64 a,.int .i64 b,.pointer (some c),.pointer (some d),.pointer (some e),.pointer (some f),.pointer (some g)] w R:=cal (n:=dD.an) func81 rfl k
namespace lW
def an:An:=(aR (aR (aL (aR (aL (.mk (some [1,2,15,16,17]) .nil .nil))))))
def qf(R:VP):QT:=fin prog f82 R
def C:=cdN prog f82 an
abbrev T14:=OA->Nat->Nat->OA->Nat->Nat->Int->Int->World->Prop
def g0(R:VP)(e14:T14)(a:OA)(b c:Nat)(d:OA)(e f:Nat)(g:World):Prop:=af ((b:Int) != e) (R (.bool false) g) (e14 d e f a b c (b:Int) 0 g)
def g14(R:VP)(b14:T14)(a:OA)(b c:Nat)(d:OA)(e f:Nat)(g h:Int)(i:World):Prop:=af (decide (h<g)) (ix d e h λj=>nK i (j.add (h.toNat*5)) λj k l m n o p=>Q9q i j k l m n o p λj=>ix a b h λk=>nK j (k.add (h.toNat*5)) λk l m n o p q=>Q9q j k l m n o p q λk=>nK k (na i) λl m n o p q r=>nK k (na j) λj s t u v w x=>CA 83 #[qZ l m n o p q r,qZ j s t u v w x] k λj k=>∃l,j=.bool l/\(af (!l) (R (.bool false) k) (inc h λh=>b14 a b c d e f g h k))) (R (.bool true) i)
def q14(R:VP):QT:=(Exit.inBlock 0 (qS none (C [1,1,1]) (qf R)))
@[irreducible] def l14(R:VP)(k:Nat):T14:=λa b c d e f g h w=>bg [1,2,15,16,17] (C [1,1,0,1,0,0]) (q14 R) k (fr (U 1 (.slice a b c::(.func (.func 83) #[] #[]::U 12 (.slice d e f::(.int .i64 g::(.int .i64 h::U 14 []))))))) w
def e14(R:VP):T14:=λa b c d e f g h w=>∃k,l14 R k a b c d e f g h w
theorem u14(R k a b c d e f g h w):l14 R (k+1) a b c d e f g h w=g14 R (l14 R k) a b c d e f g h w:=ju
end lW
def lW(R:VP):=lW.g0 R (lW.e14 R)
theorem lW.calls{R a b c d e f w}(k:lW R a b c d e f w):CA 82 #[.slice a b c,.slice d e f,.func (.func 83) #[] #[]] w R:=cal (n:=lW.an) func82 rfl k
namespace gG
def an:An:=An.nil
def g0(R:VP)(a:Nat)(b:OA)(c d:Nat)(e f g:Int)(h:Nat)(i:OA)(j k:Nat)(l m n:Int)(o:World):Prop:=nw (o.alloc (.cells (oG a b c d e f g) 76)) λa=>nw (a.alloc (.cells (oG h i j k l m n) 76)) λb=>cF b ((na o).add 0) .f64 λc=>∃d,sJ prog (callFunc 56 #[.float .f64 c]) b (.int .u64 d)/\(cF b ((na a).add 0) .f64 λc=>∃e,sJ prog (callFunc 56 #[.float .f64 c]) b (.int .u64 e)/\(af (d==e) (cL b ((na o).add 1) λc d e=>cL b ((na a).add 1) λf g h=>∃i,(∀j:World,Below b.heap.size b j->CA 57 #[.slice c d e,.slice f g h] j λc d=>c=.bool i/\Below b.heap.size b d)/\(af i (cI b ((na o).add 2) .i64 λc=>cI b ((na a).add 2) .i64 λd=>af (c==d) (cI b ((na o).add 3) .i64 λc=>cI b ((na a).add 3) .i64 λd=>af (c==d) (cI b ((na o).add 4) .i64 λc=>cI b ((na a).add 4) .i64 λa=>∀d:World,Below b.heap.size b d->R (.bool (c==a)) d) (∀a:World,Below b.heap.size b a->R (.bool false) a)) (∀a:World,Below b.heap.size b a->R (.bool false) a)) (∀a:World,Below b.heap.size b a->R (.bool false) a))) (∀a:World,Below b.heap.size b a->R (.bool false) a)))
end gG
def gG(R:VP):=gG.g0 R
theorem gG.calls{R a b c d e f g h i j l m n o w}(k:gG R a b c d e f g h i j l m n o w):CA 83 #[qZ a b c d e f g,qZ h i j l m n o] w R:=cal (n:=gG.an) func83 rfl k
namespace bU
def an:An:=(aR (aR (aR (.mk none (aR (aL (.mk (some [1,4,22,23,24]) .nil .nil))) (aR (aR (.mk none (aL (.mk (some [1,4,7,8]) .nil .nil)) (aL (aR (aL (.mk (some [4,7,95,96]) .nil .nil)))))))))))
def qf(R:VP):QT:=fin prog f84 R
def C:=cdN prog f84 an
abbrev T16:=OA->OA->Nat->Nat->OA->Nat->Nat->Int->Int->World->Prop
abbrev T49:=OA->OA->Nat->Nat->OA->Nat->Nat->OA->Nat->Nat->World->Prop
abbrev T80:=OA->Nat->Nat->OA->Nat->Nat->Int->Int->World->Prop
def g0(R:VP)(e16:T16)(a:Int)(b:OA)(c d:Nat)(e:World):Prop:=nw (e.alloc (.cells (kU a b c d) 50)) λa=>cL a ((na e).add 1) λb b c=>af ((b:Int)==0) (R (.tuple #[.int .i64 70,.int .i64 0]) a) (cL a ((na e).add 1) λb b c=>chk ((0:Int)<=(b:Int)/\(b:Int)<=(b:Int)/\((8:Nat):Int)*(b:Int)<=281474976710656/\(b:Int)<=9223372036854775807) (nw (a.alloc (.cells (madeCells #[.int .i64 0] (((b:Int)).toNat*1)) 3)) λc=>cL c ((na e).add 1) λd f g=>e16 (some (na e)) (some (na a)) (((b:Int)).toNat) (((b:Int)).toNat) d f g (f:Int) 0 c))
def g16(R:VP)(b16:T16)(e49:T49)(a b:OA)(c d:Nat)(e:OA)(f g:Nat)(h i:Int)(j:World):Prop:=af (decide (i<h)) (ix e f i λk=>oh j (k.add (i.toNat*8)) λk l m n o p q r s t=>Q7q j k l m n o p q r s t λk=>oh k (na j) λl m n o p q r s t u=>aV a λv=>cL k (v.add 1) λv v w=>CA 99 #[Iz l m n o p q r s t u,.int .i64 (v:Int)] k λk l=>∃m,k=.bool m/\(af (!m) (R (.tuple #[.int .i64 71,.int .i64 i]) l) (oh l (na j) λk m n o p q r s t u=>CA 86 #[Iz k m n o p q r s t u] l λk l=>∃m,k=.bool m/\(af m (cI l ((na j).add 6) .i64 λk=>ix b c k λm=>cI l (m.add (k.toNat*1)) .i64 λm=>inc m λm=>ix b c k λn=>st l ((n.add (k.toNat*1)).add 0) (.int .i64 m) λk=>cI k ((na j).add 7) .i64 λm=>ix b c m λn=>cI k (n.add (m.toNat*1)) .i64 λn=>inc n λn=>ix b c m λo=>st k ((o.add (m.toNat*1)).add 0) (.int .i64 n) λk=>inc i λm=>b16 a b c d e f g h m k) (inc i λi=>b16 a b c d e f g h i l))))) (aV a λe=>cL j (e.add 1) λe e f=>chk ((0:Int)<=(e:Int)/\(e:Int)<=(e:Int)/\((1:Nat):Int)*(e:Int)<=281474976710656/\(e:Int)<=9223372036854775807) (nw (j.alloc (.cells (madeCells #[.bool false] (((e:Int)).toNat*1)) 4)) λf=>nw (f.alloc (.cells #[.int .i64 0] 3)) λg=>e49 a b c d (some (na j)) (((e:Int)).toNat) (((e:Int)).toNat) (some (na f)) 1 1 g))
def g49(R:VP)(b49:T49)(e80:T80)(a b:OA)(c d:Nat)(e:OA)(f g:Nat)(h:OA)(i j:Nat)(k:World):Prop:=af (decide ((i:Int)>0)) (Q0q ((i:Int) - 1) λl=>ix h i l λm=>cI k (m.add (l.toNat*1)) .i64 λl=>Q0q ((i:Int) - 1) λi=>chk ((0:Int)<=i/\i<=(j:Int)) (ix e f l λm=>cB k (m.add (l.toNat*1)) λm=>af m (b49 a b c d e f g (slA h j 0 1) i.toNat j k) (ix e f l λm=>st k ((m.add (l.toNat*1)).add 0) (.bool true) λm=>aV a λn=>cL m (n.add 1) λn o p=>ix n o l λn=>oh m (n.add (l.toNat*8)) λl n o p q r s t u v=>Q7q m l n o p q r s t u v λl=>oh l (na m) λn o p q r s t u v w=>CA 86 #[Iz n o p q r s t u v w] l λl n=>∃o,l=.bool o/\(af o (cI n ((na m).add 6) .i64 λl=>cI n ((na m).add 7) .i64 λm=>nw (n.alloc (.cells (L6 l m) 3)) λl=>dC prog (Builtin.append_ #[53,53] 53 #[.slice (slA h j 0 1) i.toNat j,.slice (some (na n)) 2 2]) l λl m=>∃o p q,l=.slice o p q/\(b49 a b c d e f g o p q m)) (b49 a b c d e f g (slA h j 0 1) i.toNat j n))))) (aV a λa=>cL k (a.add 1) λa a h=>e80 b c d e f g (a:Int) 0 k)
def g80(R:VP)(b80:T80)(a:OA)(b c:Nat)(d:OA)(e f:Nat)(g h:Int)(i:World):Prop:=af (decide (h<g)) (nv ((if 1<h then 1 else h)) λj=>ix a b h λk=>cI i (k.add (h.toNat*1)) .i64 λk=>af (k != j) (R (.tuple #[.int .i64 70,.int .i64 h]) i) (ix d e h λj=>cB i (j.add (h.toNat*1)) λj=>af (!j) (R (.tuple #[.int .i64 70,.int .i64 h]) i) (inc h λh=>b80 a b c d e f g h i))) (R (.tuple #[.int .i64 0,.int .i64 0]) i)
def q16(R:VP):QT:=(Exit.inBlock 0 (qS none (C [1,1,1,1]) (qf R)))
@[irreducible] def l16(R:VP)(k:Nat):T16:=λa b c d e f g h i w=>bg [1,4,22,23,24] (C [1,1,1,0,1,0,0]) (q16 R) k (fr (U 1 (.pointer a::U 2 (.slice b c d::U 17 (.slice e f g::(.int .i64 h::(.int .i64 i::U 91 []))))))) w
def e16(R:VP):T16:=λa b c d e f g h i w=>∃k,l16 R k a b c d e f g h i w
def q49(R:VP):QT:=(Exit.inBlock 2 (qS none (C [1,1,1,1,1,1,1]) (qf R)))
@[irreducible] def l49(R:VP)(k:Nat):T49:=λa b c d e f g h i j w=>bg [1,4,7,8] (C [1,1,1,1,1,1,0,0,0]) (q49 R) k (fr (U 1 (.pointer a::U 2 (.slice b c d::U 2 (.slice e f g::(.slice h i j::U 107 [])))))) w
def e49(R:VP):T49:=λa b c d e f g h i j w=>∃k,l49 R k a b c d e f g h i j w
def q80(R:VP):QT:=(Exit.inBlock 4 (qS none (C [1,1,1,1,1,1,1,1]) (qf R)))
@[irreducible] def l80(R:VP)(k:Nat):T80:=λa b c d e f g h w=>bg [4,7,95,96] (C [1,1,1,1,1,1,1,0,1,0,0]) (q80 R) k (fr (U 4 (.slice a b c::U 2 (.slice d e f::U 87 (.int .i64 g::(.int .i64 h::U 19 [])))))) w
def e80(R:VP):T80:=λa b c d e f g h w=>∃k,l80 R k a b c d e f g h w
theorem u80(R k a b c d e f g h w):l80 R (k+1) a b c d e f g h w=g80 R (l80 R k) a b c d e f g h w:=ju
theorem u49(R k a b c d e f g h i j w):l49 R (k+1) a b c d e f g h i j w=g49 R (l49 R k) (e80 R) a b c d e f g h i j w:=ju
theorem u16(R k a b c d e f g h i w):l16 R (k+1) a b c d e f g h i w=g16 R (l16 R k) (e49 R) a b c d e f g h i w:=ju
end bU
def bU(R:VP):=bU.g0 R (bU.e16 R)
theorem bU.calls{R a b c d w}(k:bU R a b c d w):CA 84 #[jh a b c d] w R:=cal (n:=bU.an) func84 rfl k
namespace jK
def an:An:=An.nil
def g0(R:VP)(a:Int)(b:OA)(c d:Nat)(e:World):Prop:=nw (e.alloc (.cells (kU a b c d) 50)) λa=>R (.func (.func 100) #[] #[.pointer (some (na e))]) a
end jK
def jK(R:VP):=jK.g0 R
theorem jK.calls{R a b c d w}(k:jK R a b c d w):CA 85 #[jh a b c d] w R:=cal (n:=jK.an) func85 rfl k
namespace iV
def an:An:=An.nil
def g0(R:VP)(a b c:Int)(d:Nat)(e:OA)(f g:Nat)(h i j:Int)(k:World):Prop:=nw (k.alloc (.cells (qx a b c d e f g h i j) 56)) λa=>cI a ((na k).add 0) .u8 λb=>af (b==2) (R (.bool true) a) (cI a ((na k).add 0) .u8 λb=>R (.bool (b==3)) a)
end iV
def iV(R:VP):=iV.g0 R
theorem iV.calls{R a b c d e f g h i j w}(k:iV R a b c d e f g h i j w):CA 86 #[Iz a b c d e f g h i j] w R:=cal (n:=iV.an) func86 rfl k
namespace iw
def an:An:=An.nil
def g0(R:VP)(a:Int)(b:OA)(c d:Nat)(e:World):Prop:=nw (e.alloc (.cells (kU a b c d) 50)) λa=>jF a (na e) λb c d e=>CA 48 #[jh b c d e] a λa b=>∃c d e f,a=.tuple #[.slice c d e,.int .i64 f]/\(af (f==0) (af (decide ((d:Int)>4096)) (R (.tuple #[.int .i64 0,.int .i64 3]) b) (R (.tuple #[.int .i64 (d:Int),.int .i64 f]) b)) (R (.tuple #[.int .i64 (d:Int),.int .i64 f]) b))
end iw
def iw(R:VP):=iw.g0 R
theorem iw.calls{R a b c d w}(k:iw R a b c d w):CA 87 #[jh a b c d] w R:=cal (n:=iw.an) func87 rfl k
namespace eP
def an:An:=An.nil
def g0(R:VP)(a b:Int)(c d e:Addr)(f:World):Prop:=cL f (c.add 1) λc g h=>ix c g a λc=>oh f (c.add (a.toNat*8)) λc g h i j k l m n o=>Q7q f c g h i j k l m n o λc=>cI c ((na f).add 0) .u8 λg=>af (g==1) (inc b λg=>R (.int .i64 g) c) (cL c d λg g h=>cL c d λh i j=>nw (c.alloc (.cells (Gs a b 0) 135)) λa=>Q1q 131 h i j (na c) 1 a λh i j c=>(st c (d.add 0) (.slice h i j) λa=>cV a e λc=>cI a ((na f).add 6) .i64 λh=>zO prog c #[.int .i64 h,.int .i64 b] a λa b=>∃c,a=.int .i64 c/\(cL b d λa d h=>ix a d (g:Int) λa=>st b (((a.add ((g:Int).toNat*3)).add 2).add 0) (.int .i64 c) λa=>cV a e λb=>cI a ((na f).add 7) .i64 λd=>zO prog b #[.int .i64 d,.int .i64 c] a λa b=>∃c,a=.int .i64 c/\(R (.int .i64 c) b))))
end eP
def eP(R:VP):=eP.g0 R
theorem eP.calls{R a b c d e w}(k:eP R a b c d e w):CA 88 #[.int .i64 a,.int .i64 b,.pointer (some c),.pointer (some d),.pointer (some e)] w R:=cal (n:=eP.an) func88 rfl k
namespace oL
def an:An:=An.nil
def g0(R:VP)(a:OA)(b c:Nat)(d:Addr)(e:World):Prop:=CA 101 #[.slice a b c,.int .i64 (b:Int),.func (.func 90) #[] #[.pointer (some d)]] e λa b=>a=.tuple #[]/\(R (.tuple #[]) b)
end oL
def oL(R:VP):=oL.g0 R
theorem oL.calls{R a b c d w}(k:oL R a b c d w):CA 89 #[.slice a b c,.func (.func 90) #[] #[.pointer (some d)]] w R:=cal (n:=oL.an) func89 rfl k
namespace iy
def an:An:=An.nil
def g0(R:VP)(a:Nat)(b:OA)(c d:Nat)(e f g:Int)(h:Nat)(i:OA)(j k:Nat)(l m n:Int)(o:Addr)(p:World):Prop:=nw (p.alloc (.cells (oG a b c d e f g) 76)) λa=>nw (a.alloc (.cells (oG h i j k l m n) 76)) λb=>cV b o λc=>nK b (na p) λd e f g h i j=>qfN prog c #[qZ d e f g h i j] 104 b λc=>cV b o λd=>nK b (na a) λa e f g h i j=>qfN prog d #[qZ a e f g h i j] 104 b λa=>∃d,(∀e:World,Below b.heap.size b e->CA 91 #[c,a] e λa c=>a=.int .i64 d/\Below b.heap.size b c)/\(∀a:World,Below b.heap.size b a->R (.int .i64 d) a)
end iy
def iy(R:VP):=iy.g0 R
theorem iy.calls{R a b c d e f g h i j l m n o p w}(k:iy R a b c d e f g h i j l m n o p w):CA 90 #[qZ a b c d e f g,qZ h i j l m n o,.pointer (some p)] w R:=cal (n:=iy.an) func90 rfl k
namespace fE
def an:An:=An.nil
def g0(R:VP)(a b:Int)(c:World):Prop:=CA 102 #[.int .u64 a] c λc d=>∃e,c=.bool e/\(CA 102 #[.int .u64 b] d λc d=>∃f,c=.bool f/\(af e (af f (R (.int .i64 0) d) (R (.int .i64 (-1)) d)) (af f (R (.int .i64 1) d) (af (decide (a<b)) (R (.int .i64 (-1)) d) (af (decide (a>b)) (R (.int .i64 1) d) (R (.int .i64 0) d))))))
end fE
def fE(R:VP):=fE.g0 R
theorem fE.calls{R a b w}(k:fE R a b w):CA 91 #[.int .u64 a,.int .u64 b] w R:=cal (n:=fE.an) func91 rfl k
end Go.Mir
