/- Part of a proof; no conditions. -/
import Derived.Test.YtmjlipmapfofmaaGreatMMA
set_option linter.unusedVariables false
set_option linter.unusedSimpArgs false
set_option linter.unusedSectionVars false
set_option maxRecDepth 100000
open Go.Proofs.Tryz (prog f92 func92 f93 func93 f94 func94 f95 func95 f96 func96 f97 func97 f98 func98 f99 func99 f100 func100 f101 func101 f102 func102 f103 func103 f104 func104 f105 func105 f106 func106 f107 func107 f108 func108 f109 func109 f110 func110 f111 func111 f112 func112 f113 func113 f114 func114 f115 func115 f116 func116 f117 func117 f118 func118 f119 func119 f120 func120)
namespace Go.Mir
open Go Go.E Go.RowKit
namespace lN
def an:An:=An.nil
def g0(R:VP)(a:OA)(b c:Nat)(d:Addr)(e:World):Prop:=CA 103 #[.slice a b c,.int .i64 (b:Int),.func (.func 93) #[] #[.pointer (some d)]] e λa b=>a=.tuple #[]/\(R (.tuple #[]) b)
end lN
def lN(R:VP):=lN.g0 R
theorem lN.calls{R a b c d w}(k:lN R a b c d w):CA 92 #[.slice a b c,.func (.func 93) #[] #[.pointer (some d)]] w R:=cal (n:=lN.an) func92 rfl k
namespace gI
def an:An:=An.nil
def g0(R:VP)(a:Int)(b:OA)(c d:Nat)(e:OA)(f g:Nat)(h:OA)(i j:Nat)(k:Int)(l:OA)(m n:Nat)(o:OA)(p q:Nat)(r:OA)(s t:Nat)(u:Addr)(v:World):Prop:=nw (v.alloc (.cells (uf a b c d e f g h i j) 74)) λa=>nw (a.alloc (.cells (uf k l m n o p q r s t) 74)) λb=>cV b u λc=>rU b (na v) λd e f g h i j k l m=>qfN prog c #[D6 d e f g h i j k l m] 3 b λc=>cV b u λd=>rU b (na a) λa e f g h i j k l m=>qfN prog d #[D6 a e f g h i j k l m] 3 b λa=>∃d,(∀e:World,Below b.heap.size b e->CA 94 #[c,a] e λa c=>a=.int .i64 d/\Below b.heap.size b c)/\(∀a:World,Below b.heap.size b a->R (.int .i64 d) a)
end gI
def gI(R:VP):=gI.g0 R
theorem gI.calls{R a b c d e f g h i j l m n o p q r s t u v w}(k:gI R a b c d e f g h i j l m n o p q r s t u v w):CA 93 #[D6 a b c d e f g h i j,D6 l m n o p q r s t u,.pointer (some v)] w R:=cal (n:=gI.an) func93 rfl k
namespace cmp_Compare_int
def an:An:=An.nil
def g0(R:VP)(a b:Int)(c:World):Prop:=CA 104 #[.int .i64 a] c λc d=>∃e,c=.bool e/\(CA 104 #[.int .i64 b] d λc d=>∃f,c=.bool f/\(af e (af f (R (.int .i64 0) d) (R (.int .i64 (-1)) d)) (af f (R (.int .i64 1) d) (af (decide (a<b)) (R (.int .i64 (-1)) d) (af (decide (a>b)) (R (.int .i64 1) d) (R (.int .i64 0) d))))))
end cmp_Compare_int
def cmp_Compare_int(R:VP):=cmp_Compare_int.g0 R
theorem cmp_Compare_int.calls{R a b w}(k:cmp_Compare_int R a b w):CA 94 #[.int .i64 a,.int .i64 b] w R:=cal (n:=cmp_Compare_int.an) func94 rfl k
namespace ay
def an:An:=(aR (aR (aR (aR (.mk none (aR (aL (.mk (some [1,4,5,21,22,23]) .nil .nil))) (aR (aR (.mk none (aL (.mk (some [1,5,8,9]) .nil .nil)) (aL (aR (aL (.mk (some [5,8,92,93]) .nil .nil))))))))))))
def qf(R:VP):QT:=fin prog f95 R
def C:=cdN prog f95 an
abbrev T18:=OA->Int->OA->Nat->Nat->OA->Nat->Nat->Int->Int->World->Prop
abbrev T51:=OA->OA->Nat->Nat->OA->Nat->Nat->OA->Nat->Nat->World->Prop
abbrev T82:=OA->Nat->Nat->OA->Nat->Nat->Int->Int->World->Prop
def g0(R:VP)(e18:T18)(a:Int)(b:OA)(c d:Nat)(e:World):Prop:=nw (e.alloc (.cells (kU a b c d) 50)) λa=>cL a ((na e).add 1) λb b c=>af ((b:Int)==0) (R (.tuple #[.int .i64 70,.int .i64 0]) a) (chk ((0:Int)<=(b:Int)/\(b:Int)<=(b:Int)/\((8:Nat):Int)*(b:Int)<=281474976710656/\(b:Int)<=9223372036854775807) (nw (a.alloc (.cells (madeCells #[.int .i64 0] (((b:Int)).toNat*1)) 3)) λc=>cL c ((na e).add 1) λd f g=>e18 (some (na e)) (b:Int) (some (na a)) (((b:Int)).toNat) (((b:Int)).toNat) d f g (f:Int) 0 c))
def g18(R:VP)(b18:T18)(e51:T51)(a:OA)(b:Int)(c:OA)(d e:Nat)(f:OA)(g h:Nat)(i j:Int)(k:World):Prop:=af (decide (j<i)) (ix f g j λl=>oh k (l.add (j.toNat*8)) λl m n o p q r s t u=>Q7q k l m n o p q r s t u λl=>oh l (na k) λm n o p q r s t u v=>CA 105 #[Iz m n o p q r s t u v,.int .i64 b] l λl m=>∃n,l=.bool n/\(af (!n) (R (.tuple #[.int .i64 71,.int .i64 j]) m) (cI m ((na k).add 0) .u8 λl=>af (l != 1) (cI m ((na k).add 6) .i64 λl=>ix c d l λn=>cI m (n.add (l.toNat*1)) .i64 λn=>inc n λn=>ix c d l λo=>st m ((o.add (l.toNat*1)).add 0) (.int .i64 n) λl=>cI l ((na k).add 7) .i64 λn=>ix c d n λo=>cI l (o.add (n.toNat*1)) .i64 λo=>inc o λo=>ix c d n λp=>st l ((p.add (n.toNat*1)).add 0) (.int .i64 o) λl=>inc j λn=>b18 a b c d e f g h i n l) (inc j λj=>b18 a b c d e f g h i j m)))) (chk ((0:Int)<=b/\b<=b/\((1:Nat):Int)*b<=281474976710656/\b<=9223372036854775807) (nw (k.alloc (.cells (madeCells #[.bool false] ((b).toNat*1)) 4)) λf=>nw (f.alloc (.cells #[.int .i64 0] 3)) λg=>e51 a c d e (some (na k)) ((b).toNat) ((b).toNat) (some (na f)) 1 1 g))
def g51(R:VP)(b51:T51)(e82:T82)(a b:OA)(c d:Nat)(e:OA)(f g:Nat)(h:OA)(i j:Nat)(k:World):Prop:=af (decide ((i:Int)>0)) (Q0q ((i:Int) - 1) λl=>ix h i l λm=>cI k (m.add (l.toNat*1)) .i64 λl=>Q0q ((i:Int) - 1) λi=>chk ((0:Int)<=i/\i<=(j:Int)) (ix e f l λm=>cB k (m.add (l.toNat*1)) λm=>af m (b51 a b c d e f g (slA h j 0 1) i.toNat j k) (ix e f l λm=>st k ((m.add (l.toNat*1)).add 0) (.bool true) λm=>aV a λn=>cL m (n.add 1) λn o p=>ix n o l λn=>oh m (n.add (l.toNat*8)) λl n o p q r s t u v=>Q7q m l n o p q r s t u v λl=>cI l ((na m).add 0) .u8 λn=>af (n != 1) (cI l ((na m).add 6) .i64 λn=>cI l ((na m).add 7) .i64 λm=>nw (l.alloc (.cells (L6 n m) 3)) λm=>dC prog (Builtin.append_ #[53,53] 53 #[.slice (slA h j 0 1) i.toNat j,.slice (some (na l)) 2 2]) m λm n=>∃o p q,m=.slice o p q/\(b51 a b c d e f g o p q n)) (b51 a b c d e f g (slA h j 0 1) i.toNat j l)))) (aV a λa=>cL k (a.add 1) λa a h=>e82 b c d e f g (a:Int) 0 k)
def g82(R:VP)(b82:T82)(a:OA)(b c:Nat)(d:OA)(e f:Nat)(g h:Int)(i:World):Prop:=af (decide (h<g)) (af (h==0) (ix a b h λj=>cI i (j.add (h.toNat*1)) .i64 λj=>af (j != 0) (R (.tuple #[.int .i64 70,.int .i64 h]) i) (af (decide (h>0)) (ix a b h λj=>cI i (j.add (h.toNat*1)) .i64 λj=>af (j != 1) (R (.tuple #[.int .i64 70,.int .i64 h]) i) (ix d e h λj=>cB i (j.add (h.toNat*1)) λj=>af (!j) (R (.tuple #[.int .i64 70,.int .i64 h]) i) (inc h λj=>b82 a b c d e f g j i))) (ix d e h λj=>cB i (j.add (h.toNat*1)) λj=>af (!j) (R (.tuple #[.int .i64 70,.int .i64 h]) i) (inc h λj=>b82 a b c d e f g j i)))) (af (decide (h>0)) (ix a b h λj=>cI i (j.add (h.toNat*1)) .i64 λj=>af (j != 1) (R (.tuple #[.int .i64 70,.int .i64 h]) i) (ix d e h λj=>cB i (j.add (h.toNat*1)) λj=>af (!j) (R (.tuple #[.int .i64 70,.int .i64 h]) i) (inc h λj=>b82 a b c d e f g j i))) (ix d e h λj=>cB i (j.add (h.toNat*1)) λj=>af (!j) (R (.tuple #[.int .i64 70,.int .i64 h]) i) (inc h λh=>b82 a b c d e f g h i)))) (R (.tuple #[.int .i64 0,.int .i64 0]) i)
def q18(R:VP):QT:=(Exit.inBlock 0 (qS none (C [1,1,1,1,1]) (qf R)))
@[irreducible] def l18(R:VP)(k:Nat):T18:=λa b c d e f g h i j w=>bg [1,4,5,21,22,23] (C [1,1,1,1,0,1,0,0]) (q18 R) k (fr (U 1 (.pointer a::U 2 (.int .i64 b::(.slice c d e::U 15 (.slice f g h::(.int .i64 i::(.int .i64 j::U 101 [])))))))) w
def e18(R:VP):T18:=λa b c d e f g h i j w=>∃k,l18 R k a b c d e f g h i j w
def q51(R:VP):QT:=(Exit.inBlock 2 (qS none (C [1,1,1,1,1,1,1,1]) (qf R)))
@[irreducible] def l51(R:VP)(k:Nat):T51:=λa b c d e f g h i j w=>bg [1,5,8,9] (C [1,1,1,1,1,1,1,0,0,0]) (q51 R) k (fr (U 1 (.pointer a::U 3 (.slice b c d::U 2 (.slice e f g::(.slice h i j::U 115 [])))))) w
def e51(R:VP):T51:=λa b c d e f g h i j w=>∃k,l51 R k a b c d e f g h i j w
def q82(R:VP):QT:=(Exit.inBlock 4 (qS none (C [1,1,1,1,1,1,1,1,1]) (qf R)))
@[irreducible] def l82(R:VP)(k:Nat):T82:=λa b c d e f g h w=>bg [5,8,92,93] (C [1,1,1,1,1,1,1,1,0,1,0,0]) (q82 R) k (fr (U 5 (.slice a b c::U 2 (.slice d e f::U 83 (.int .i64 g::(.int .i64 h::U 31 [])))))) w
def e82(R:VP):T82:=λa b c d e f g h w=>∃k,l82 R k a b c d e f g h w
theorem u82(R k a b c d e f g h w):l82 R (k+1) a b c d e f g h w=g82 R (l82 R k) a b c d e f g h w:=ju
theorem u51(R k a b c d e f g h i j w):l51 R (k+1) a b c d e f g h i j w=g51 R (l51 R k) (e82 R) a b c d e f g h i j w:=ju
theorem u18(R k a b c d e f g h i j w):l18 R (k+1) a b c d e f g h i j w=g18 R (l18 R k) (e51 R) a b c d e f g h i j w:=ju
end ay
def ay(R:VP):=ay.g0 R (ay.e18 R)
theorem ay.calls{R a b c d w}(k:ay R a b c d w):CA 95 #[jh a b c d] w R:=cal (n:=ay.an) func95 rfl k
namespace bI
def an:An:=(aR (aR (aR (aL (aL (.mk (some [1,3,4]) .nil .nil))))))
def qf(R:VP):QT:=fin prog f96 R
def C:=cdN prog f96 an
abbrev T8:=OA->OA->Nat->Nat->OA->Nat->Nat->World->Prop
def g0(R:VP)(e8:T8)(a:Int)(b:OA)(c d:Nat)(e:World):Prop:=nw (e.alloc (.cells (kU a b c d) 50)) λa=>nw (a.alloc (.cells #[.int .i64 0] 3)) λb=>e8 (some (na e)) none 0 0 (some (na a)) 1 1 b
def g8(R:VP)(b8:T8)(a b:OA)(c d:Nat)(e:OA)(f g:Nat)(h:World):Prop:=af (decide ((f:Int)>0)) (Q0q ((f:Int) - 1) λi=>ix e f i λj=>cI h (j.add (i.toNat*1)) .i64 λi=>Q0q ((f:Int) - 1) λf=>chk ((0:Int)<=f/\f<=(g:Int)) (nw (h.alloc (.cells #[.int .i64 i] 3)) λj=>Q1q 53 b c d (na h) 1 j λl m n k=>(aV a λj=>cL k (j.add 1) λj o p=>ix j o i λj=>oh k (j.add (i.toNat*8)) λi j o p q r s t u v=>Q7q k i j o p q r s t u v λi=>cI i ((na k).add 0) .u8 λj=>af (j != 1) (cI i ((na k).add 7) .i64 λj=>cI i ((na k).add 6) .i64 λk=>nw (i.alloc (.cells (L6 j k) 3)) λj=>dC prog (Builtin.append_ #[53,53] 53 #[.slice (slA e g 0 1) f.toNat g,.slice (some (na i)) 2 2]) j λj k=>∃o p q,j=.slice o p q/\(b8 a l m n o p q k)) (b8 a l m n (slA e g 0 1) f.toNat g i)))) (R (.slice b c d) h)
def q8(R:VP):QT:=(Exit.inBlock 0 (qS none (C [1,1,1,1]) (qf R)))
@[irreducible] def l8(R:VP)(k:Nat):T8:=λa b c d e f g w=>bg [1,3,4] (C [1,1,1,0,0,0]) (q8 R) k (fr (U 1 (.pointer a::U 1 (.slice b c d::(.slice e f g::U 37 []))))) w
def e8(R:VP):T8:=λa b c d e f g w=>∃k,l8 R k a b c d e f g w
theorem u8(R k a b c d e f g w):l8 R (k+1) a b c d e f g w=g8 R (l8 R k) a b c d e f g w:=ju
end bI
def bI(R:VP):=bI.g0 R (bI.e8 R)
theorem bI.calls{R a b c d w}(k:bI R a b c d w):CA 96 #[jh a b c d] w R:=cal (n:=bI.an) func96 rfl k
namespace bK
def an:An:=(aR (aR (aR (aR (aR (aL (aR (aL (.mk (some [1,6,7,25,26,27]) .nil .nil)))))))))
def qf(R:VP):QT:=fin prog f97 R
def C:=cdN prog f97 an
abbrev T20:=OA->OA->Nat->Nat->OA->Nat->Nat->OA->Nat->Nat->Int->Int->World->Prop
def g0(R:VP)(e20:T20)(a:Int)(b:OA)(c d:Nat)(e:World):Prop:=nw (e.alloc (.cells (kU a b c d) 50)) λa=>jF a (na e) λb c d f=>CA 50 #[jh b c d f] a λa b=>∃c d,a=.tuple #[.int .i64 c,.int .i64 d]/\(af (d != 0) (R (.tuple #[.slice none 0 0,.int .i64 d]) b) (cL b ((na e).add 1) λa a c=>chk ((0:Int)<=(a:Int)/\(a:Int)<=(a:Int)/\((8:Nat):Int)*(a:Int)<=281474976710656/\(a:Int)<=9223372036854775807) (nw (b.alloc (.cells (madeCells #[.int .i64 0] (((a:Int)).toNat*1)) 3)) λc=>jF c (na e) λd f g h=>CA 96 #[jh d f g h] c λc d=>∃f g h,c=.slice f g h/\(e20 (some (na e)) (some (na b)) (((a:Int)).toNat) (((a:Int)).toNat) none 0 0 f g h (g:Int) 0 d))))
def g20(R:VP)(b20:T20)(a b:OA)(c d:Nat)(e:OA)(f g:Nat)(h:OA)(i j:Nat)(k l:Int)(m:World):Prop:=af (decide (l<k)) (ix h i l λn=>cI m (n.add (l.toNat*1)) .i64 λn=>aV a λo=>cL m (o.add 1) λo p q=>ix o p n λo=>oh m (o.add (n.toNat*8)) λo p q r s t u v w x=>Q7q m o p q r s t u v w x λo=>cI o ((na m).add 0) .u8 λp=>af (p==1) (inc l λp=>b20 a b c d e f g h i j k p o) (aV a λp=>jF o p λp q r s=>cI o ((na m).add 6) .i64 λt=>CA 106 #[jh p q r s,.int .i64 t] o λo p=>∃q,o=.int .i64 q/\(∃o:Nat->Value->World->Prop,KpF o/\(ix b c n λr=>cI p (r.add (n.toNat*1)) .i64 λr=>ix b c n λs=>cI p (s.add (n.toNat*1)) .i64 λs=>Q0q (s+q) λs=>(∀t:World,Below p.heap.size p t->o 13 (.slice (some (na t)) 1 1) (t.alloc (.cells (Gs n r s) 135)))/\(∀r:Addr,(∃s,Below p.heap.size p s/\o 13 (.slice (some r) 1 1) s)->∀s:World,Below p.heap.size p s->o 13 (.slice (some r) 1 1) s->Q1q 131 e f g r 1 s λr s t p=>(cI p ((na m).add 6) .i64 λo=>ix b c n λu=>cI p (u.add (n.toNat*1)) .i64 λu=>ix b c o λv=>st p ((v.add (o.toNat*1)).add 0) (.int .i64 u) λo=>cI o ((na m).add 7) .i64 λp=>ix b c n λu=>cI o (u.add (n.toNat*1)) .i64 λn=>Q0q (n+q) λn=>ix b c p λq=>st o ((q.add (p.toNat*1)).add 0) (.int .i64 n) λn=>inc l λl=>b20 a b c d r s t h i j k l n)))))) (R (.tuple #[.slice e f g,.int .i64 0]) m)
def q20(R:VP):QT:=(Exit.inBlock 0 (qS none (C [1,1,1,1,1,1]) (qf R)))
@[irreducible] def l20(R:VP)(k:Nat):T20:=λa b c d e f g h i j l m w=>bg [1,6,7,25,26,27] (C [1,1,1,1,1,0,1,0,0]) (q20 R) k (fr (U 1 (.pointer a::U 4 (.slice b c d::(.slice e f g::U 17 (.slice h i j::(.int .i64 l::(.int .i64 m::U 50 [])))))))) w
def e20(R:VP):T20:=λa b c d e f g h i j l m w=>∃k,l20 R k a b c d e f g h i j l m w
theorem u20(R k a b c d e f g h i j l m w):l20 R (k+1) a b c d e f g h i j l m w=g20 R (l20 R k) a b c d e f g h i j l m w:=ju
end bK
def bK(R:VP):=bK.g0 R (bK.e20 R)
theorem bK.calls{R a b c d w}(k:bK R a b c d w):CA 97 #[jh a b c d] w R:=cal (n:=bK.an) func97 rfl k
namespace eu
def an:An:=(aR (aR (.mk none (aL (.mk (some [0,1,2,6,7,8]) .nil .nil)) (aR (aL (.mk (some [0,1,2,6]) (aR (aL (aR (aL (aL (.mk (some [0,1,2,6,7,8]) .nil .nil)))))) .nil))))))
def qf(R:VP):QT:=fin prog f98 R
def C:=cdN prog f98 an
abbrev T6:=OA->Nat->Nat->Int->Int->Int->Int->World->Prop
abbrev T22:=OA->Nat->Nat->Int->Int->World->Prop
abbrev T34:=OA->Nat->Nat->Int->Int->Int->Int->World->Prop
def g0(R:VP)(e6:T6)(a:OA)(b c:Nat)(d:Int)(e:World):Prop:=e6 a b c d 20 0 20 e
def g6(R:VP)(b6:T6)(e22:T22)(a:OA)(b c:Nat)(d e f g:Int)(h:World):Prop:=af (decide (g<=d)) (CA 107 #[.slice a b c,.int .i64 f,.int .i64 g,.func (.func 80) #[] #[]] h λi j=>i=.tuple #[]/\(Q0q (g+e) λi=>b6 a b c d e g i j)) (CA 107 #[.slice a b c,.int .i64 f,.int .i64 d,.func (.func 80) #[] #[]] h λf g=>f=.tuple #[]/\(e22 a b c d e g))
def g22(R:VP)(e34:T34)(a:OA)(b c:Nat)(d e:Int)(f:World):Prop:=af (decide (e<d)) (Q0q (2*e) λg=>e34 a b c d e 0 g f) (R (.tuple #[]) f)
def g34(R:VP)(b22:T22)(b34:T34)(a:OA)(b c:Nat)(d e f g:Int)(h:World):Prop:=af (decide (g<=d)) (Q0q (f+e) λi=>CA 108 #[.slice a b c,.int .i64 f,.int .i64 i,.int .i64 g,.func (.func 80) #[] #[]] h λi j=>i=.tuple #[]/\(Q0q (2*e) λi=>Q0q (g+i) λi=>b34 a b c d e g i j)) (Q0q (f+e) λg=>af (decide (g<d)) (CA 108 #[.slice a b c,.int .i64 f,.int .i64 g,.int .i64 d,.func (.func 80) #[] #[]] h λf g=>f=.tuple #[]/\(Q0q (e*2) λf=>b22 a b c d f g)) (Q0q (e*2) λe=>b22 a b c d e h))
def q6(R:VP):QT:=(Exit.inBlock 0 (qS none (C [1,1,1]) (qf R)))
@[irreducible] def l6(R:VP)(k:Nat):T6:=λa b c d e f g w=>bg [0,1,2,6,7,8] (C [1,1,0,0,0]) (q6 R) k (fr ((.slice a b c::(.int .i64 d::(.func (.func 80) #[] #[]::U 3 (.int .i64 e::(.int .i64 f::(.int .i64 g::U 54 [])))))))) w
def e6(R:VP):T6:=λa b c d e f g w=>∃k,l6 R k a b c d e f g w
def q22(R:VP):QT:=(Exit.inBlock 2 (qf R))
@[irreducible] def l22(R:VP)(k:Nat):T22:=λa b c d e w=>bg [0,1,2,6] (C [1,1,1,1,0,0]) (q22 R) k (fr ((.slice a b c::(.int .i64 d::(.func (.func 80) #[] #[]::U 3 (.int .i64 e::U 56 [])))))) w
def e22(R:VP):T22:=λa b c d e w=>∃k,l22 R k a b c d e w
def q34(R:VP)(k22:Nat):QT:=(Exit.inBlock 4 (qS none (C [1,1,1,1,0,0,1,0,1,1]) (Exit.inBlock 3 (qL [0,1,2,6] (C [1,1,1,1,0,0]) (q22 R) k22))))
def xI(R:VP)(k22 k:Nat):T34:=λa b c d e f g w=>bg [0,1,2,6,7,8] (C [1,1,1,1,0,0,1,0,1,0,0,0]) (q34 R k22) k (fr ((.slice a b c::(.int .i64 d::(.func (.func 80) #[] #[]::U 3 (.int .i64 e::(.int .i64 f::(.int .i64 g::U 54 [])))))))) w
def JY(R:VP)(k22:Nat):T34:=λa b c d e f g w=>∃k,xI R k22 k a b c d e f g w
def l34(R:VP)(b22:T22):Nat->T34
 |0=>λ_ _ _ _ _ _ _ _=>False
 |k+1=>g34 R b22 (l34 R b22 k)
def e34(R:VP)(b22:T22):T34:=λa b c d e f g w=>∃k,l34 R b22 k a b c d e f g w
theorem s34(R:VP)(k22 k:Nat):xI R k22 (k+1)=λa b c d e f g w=>∀_:Nat->Value,g34 R (l22 R k22) (xI R k22 k) a b c d e f g w:=by kernel_rfl
theorem JH(R:VP)(k22:Nat)(b22:T22)(hb22:b22=l22 R k22):∀k,l34 R b22 k=xI R k22 k
 |0=>by kernel_rfl
 |k+1=>by
  rw[s34];simp only[forall_const];unfold l34;have ih:=JH R k22 b22 hb22 k;subst hb22;rw[ih]
  all_goals rfl
theorem RU(R:VP)(k22:Nat)(b22:T22)(hb22:b22=l22 R k22):e34 R b22=JY R k22:=by
 unfold e34 JY;simp only[JH R k22 b22 hb22]
theorem u22(R k a b c d e w):l22 R (k+1) a b c d e w=g22 R (e34 R (l22 R k)) a b c d e w:=by rw[RU R k _ rfl];exact ju (by kernel_rfl)
theorem u6(R k a b c d e f g w):l6 R (k+1) a b c d e f g w=g6 R (l6 R k) (e22 R) a b c d e f g w:=ju
end eu
def eu(R:VP):=eu.g0 R (eu.e6 R)
theorem eu.calls{R a b c d w}(k:eu R a b c d w):CA 98 #[.slice a b c,.int .i64 d,.func (.func 80) #[] #[]] w R:=cal (n:=eu.an) func98 rfl k
namespace ed
def an:An:=(aR (aR (aR (aR (aR (aR (aL (aR (aL (.mk (some [5,6,108,109,110]) .nil .nil))))))))))
def qf(R:VP):QT:=fin prog f99 R
def C:=cdN prog f99 an
abbrev T34:=Bool->Int->OA->Nat->Nat->Int->Int->World->Prop
def g0(R:VP)(e34:T34)(a b c:Int)(d:Nat)(e:OA)(f g:Nat)(h i j k:Int)(l:World):Prop:=nw (l.alloc (.cells (qx a b c d e f g h i j) 56)) λa=>cF a ((na l).add 3) .f64 λb=>∃c,sJ prog (callFunc 56 #[.float .f64 b]) a (.int .u64 c)/\(cI a ((na l).add 0) .u8 λb=>af (b==1) (cI a ((na l).add 2) .i64 λb=>af (b==0) (af (c==0) (cL a ((na l).add 4) λb b d=>af ((b:Int)==0) (cI a ((na l).add 5) .u8 λb=>af (b==0) (cI a ((na l).add 6) .i64 λb=>af (b==0) (cI a ((na l).add 7) .i64 λb=>R (.bool (b==0)) a) (R (.bool false) a)) (R (.bool false) a)) (R (.bool false) a)) (R (.bool false) a)) (R (.bool false) a)) (oh a (na l) λb d e f g h i j m n=>CA 86 #[Iz b d e f g h i j m n] a λa b=>∃d,a=.bool d/\(af (!d) (R (.bool false) b) (cI b ((na l).add 1) .i64 λa=>af (a != 0) (R (.bool false) b) (cI b ((na l).add 2) .i64 λa=>af (decide (a<0)) (R (.bool false) b) (cI b ((na l).add 2) .i64 λa=>af (decide (a>=65536)) (R (.bool false) b) (cI b ((na l).add 5) .u8 λa=>af (a != 1) (cI b ((na l).add 5) .u8 λa=>af (a != 2) (R (.bool false) b) (cI b ((na l).add 6) .i64 λa=>af (decide (a<1)) (R (.bool false) b) (cI b ((na l).add 6) .i64 λa=>af (decide (a>=k)) (R (.bool false) b) (cI b ((na l).add 7) .i64 λa=>af (decide (a<1)) (R (.bool false) b) (cI b ((na l).add 7) .i64 λa=>af (decide (a>=k)) (R (.bool false) b) (cI b ((na l).add 0) .u8 λa=>af (a==2) (cF b ((na l).add 3) .f64 λa=>cF b ((na l).add 3) .f64 λd=>af (FloatKind.f64.format.order a d==some .eq) (cL b ((na l).add 4) λa a d=>R (.bool ((a:Int)==0)) b) (R (.bool false) b)) (cL b ((na l).add 4) λa d e=>e34 (c==0) (-1) a d e (d:Int) 0 b))))))) (cI b ((na l).add 6) .i64 λa=>af (decide (a<1)) (R (.bool false) b) (cI b ((na l).add 6) .i64 λa=>af (decide (a>=k)) (R (.bool false) b) (cI b ((na l).add 7) .i64 λa=>af (decide (a<1)) (R (.bool false) b) (cI b ((na l).add 7) .i64 λa=>af (decide (a>=k)) (R (.bool false) b) (cI b ((na l).add 0) .u8 λa=>af (a==2) (cF b ((na l).add 3) .f64 λa=>cF b ((na l).add 3) .f64 λd=>af (FloatKind.f64.format.order a d==some .eq) (cL b ((na l).add 4) λa a d=>R (.bool ((a:Int)==0)) b) (R (.bool false) b)) (cL b ((na l).add 4) λa d e=>e34 (c==0) (-1) a d e (d:Int) 0 b)))))))))))))
def g34(R:VP)(b34:T34)(a:Bool)(b:Int)(c:OA)(d e:Nat)(f g:Int)(h:World):Prop:=af (decide (g<f)) (ix c d g λi=>cI h (i.add (g.toNat*1)) .i64 λi=>af (decide (i<=b)) (R (.bool false) h) (af (decide (i>=1024)) (R (.bool false) h) (inc g λg=>b34 a i c d e f g h))) (af a (R (.bool (decide (b>=0))) h) (R (.bool false) h))
def q34(R:VP):QT:=(Exit.inBlock 0 (qS none (C [1,1,1,1,1,1,1]) (qf R)))
@[irreducible] def l34(R:VP)(k:Nat):T34:=λa b c d e f g w=>bg [5,6,108,109,110] (C [1,1,1,1,1,1,0,1,0,0]) (q34 R) k (fr (U 5 (.bool a::(.int .i64 b::U 101 (.slice c d e::(.int .i64 f::(.int .i64 g::U 17 []))))))) w
def e34(R:VP):T34:=λa b c d e f g w=>∃k,l34 R k a b c d e f g w
theorem u34(R k a b c d e f g w):l34 R (k+1) a b c d e f g w=g34 R (l34 R k) a b c d e f g w:=ju
end ed
def ed(R:VP):=ed.g0 R (ed.e34 R)
theorem ed.calls{R a b c d e f g h i j l w}(k:ed R a b c d e f g h i j l w):CA 99 #[Iz a b c d e f g h i j,.int .i64 l] w R:=cal (n:=ed.an) func99 rfl k
namespace eX
def an:An:=(aR (aL (.mk (some [0,1,3]) .nil .nil)))
def qf(R:VP):QT:=fin prog f100 R
def C:=cdN prog f100 an
abbrev T3:=Nat->Addr->OA->Nat->Nat->World->Prop
def g0(R:VP)(e3:T3)(a:Nat)(b:Addr)(c:World):Prop:=nw (c.alloc (.cells (L6 0 0) 166)) λd=>e3 a b (some (na c)) 1 1 d
def g3(R:VP)(b3:T3)(a:Nat)(b:Addr)(c:OA)(d e:Nat)(f:World):Prop:=af (decide ((d:Int)>0)) (Q0q ((d:Int) - 1) λg=>ix c d g λh=>Xd f (h.add (g.toNat*2)) λg h=>Qeq f g h λg=>Q0q ((d:Int) - 1) λd=>chk ((0:Int)<=d/\d<=(e:Int)) (cI g ((na f).add 0) .i64 λh=>cI g ((na f).add 1) .i64 λi=>xk prog a #[.int .i64 h,.int .i64 i] g λg h=>∃i,g=.bool i/\(af (!i) (R (.tuple #[]) h) (cL h (b.add 1) λg i j=>cI h ((na f).add 0) .i64 λj=>ix g i j λg=>oh h (g.add (j.toNat*8)) λg i j k l m n o p q=>Q7q h g i j k l m n o p q λg=>oh g (na h) λi j k l m n o p q r=>CA 86 #[Iz i j k l m n o p q r] g λg i=>∃j,g=.bool j/\(af j (cI i ((na h).add 7) .i64 λg=>cI i ((na f).add 1) .i64 λj=>inc j λj=>cI i ((na h).add 6) .i64 λh=>cI i ((na f).add 1) .i64 λk=>inc k λk=>nw (i.alloc (.cells (Yx g j h k) 166)) λg=>dC prog (Builtin.append_ #[167,167] 167 #[.slice (slA c e 0 2) d.toNat e,.slice (some (na i)) 2 2]) g λg h=>∃j k l,g=.slice j k l/\(b3 a b j k l h)) (b3 a b (slA c e 0 2) d.toNat e i)))))) (R (.tuple #[]) f)
def q3(R:VP):QT:=(Exit.inBlock 0 (qf R))
@[irreducible] def l3(R:VP)(k:Nat):T3:=λa b c d e w=>bg [0,1,3] (C [1,0,0]) (q3 R) k (fr ((.func (.yield a) #[] #[]::(.pointer (some b)::U 1 (.slice c d e::U 48 []))))) w
def e3(R:VP):T3:=λa b c d e w=>∃k,l3 R k a b c d e w
theorem u3(R k a b c d e w):l3 R (k+1) a b c d e w=g3 R (l3 R k) a b c d e w:=ju
end eX
def eX(R:VP):=eX.g0 R (eX.e3 R)
theorem eX.calls{R a b w}(k:eX R a b w):CA 100 #[.func (.yield a) #[] #[],.pointer (some b)] w R:=cal (n:=eX.an) func100 rfl k
namespace fU
def an:An:=(aR (aR (.mk none (aL (.mk (some [0,1,2,6,7,8]) .nil .nil)) (aR (aL (.mk (some [0,1,2,6]) (aR (aL (aR (aL (aL (.mk (some [0,1,2,6,7,8]) .nil .nil)))))) .nil))))))
def qf(R:VP):QT:=fin prog f101 R
def C:=cdN prog f101 an
abbrev T6:=OA->Nat->Nat->Int->Addr->Int->Int->Int->World->Prop
abbrev T22:=OA->Nat->Nat->Int->Addr->Int->World->Prop
abbrev T34:=OA->Nat->Nat->Int->Addr->Int->Int->Int->World->Prop
def g0(R:VP)(e6:T6)(a:OA)(b c:Nat)(d:Int)(e:Addr)(f:World):Prop:=e6 a b c d e 20 0 20 f
def g6(R:VP)(b6:T6)(e22:T22)(a:OA)(b c:Nat)(d:Int)(e:Addr)(f g h:Int)(i:World):Prop:=af (decide (h<=d)) (CA 109 #[.slice a b c,.int .i64 g,.int .i64 h,.func (.func 90) #[] #[.pointer (some e)]] i λj k=>j=.tuple #[]/\(Q0q (h+f) λj=>b6 a b c d e f h j k)) (CA 109 #[.slice a b c,.int .i64 g,.int .i64 d,.func (.func 90) #[] #[.pointer (some e)]] i λg h=>g=.tuple #[]/\(e22 a b c d e f h))
def g22(R:VP)(e34:T34)(a:OA)(b c:Nat)(d:Int)(e:Addr)(f:Int)(g:World):Prop:=af (decide (f<d)) (Q0q (2*f) λh=>e34 a b c d e f 0 h g) (R (.tuple #[]) g)
def g34(R:VP)(b22:T22)(b34:T34)(a:OA)(b c:Nat)(d:Int)(e:Addr)(f g h:Int)(i:World):Prop:=af (decide (h<=d)) (Q0q (g+f) λj=>CA 110 #[.slice a b c,.int .i64 g,.int .i64 j,.int .i64 h,.func (.func 90) #[] #[.pointer (some e)]] i λj k=>j=.tuple #[]/\(Q0q (2*f) λj=>Q0q (h+j) λj=>b34 a b c d e f h j k)) (Q0q (g+f) λh=>af (decide (h<d)) (CA 110 #[.slice a b c,.int .i64 g,.int .i64 h,.int .i64 d,.func (.func 90) #[] #[.pointer (some e)]] i λg h=>g=.tuple #[]/\(Q0q (f*2) λg=>b22 a b c d e g h)) (Q0q (f*2) λf=>b22 a b c d e f i))
def q6(R:VP):QT:=(Exit.inBlock 0 (qS none (C [1,1,1]) (qf R)))
@[irreducible] def l6(R:VP)(k:Nat):T6:=λa b c d e f g h w=>bg [0,1,2,6,7,8] (C [1,1,0,0,0]) (q6 R) k (fr ((.slice a b c::(.int .i64 d::(.func (.func 90) #[] #[.pointer (some e)]::U 3 (.int .i64 f::(.int .i64 g::(.int .i64 h::U 54 [])))))))) w
def e6(R:VP):T6:=λa b c d e f g h w=>∃k,l6 R k a b c d e f g h w
def q22(R:VP):QT:=(Exit.inBlock 2 (qf R))
@[irreducible] def l22(R:VP)(k:Nat):T22:=λa b c d e f w=>bg [0,1,2,6] (C [1,1,1,1,0,0]) (q22 R) k (fr ((.slice a b c::(.int .i64 d::(.func (.func 90) #[] #[.pointer (some e)]::U 3 (.int .i64 f::U 56 [])))))) w
def e22(R:VP):T22:=λa b c d e f w=>∃k,l22 R k a b c d e f w
def q34(R:VP)(k22:Nat):QT:=(Exit.inBlock 4 (qS none (C [1,1,1,1,0,0,1,0,1,1]) (Exit.inBlock 3 (qL [0,1,2,6] (C [1,1,1,1,0,0]) (q22 R) k22))))
def xI(R:VP)(k22 k:Nat):T34:=λa b c d e f g h w=>bg [0,1,2,6,7,8] (C [1,1,1,1,0,0,1,0,1,0,0,0]) (q34 R k22) k (fr ((.slice a b c::(.int .i64 d::(.func (.func 90) #[] #[.pointer (some e)]::U 3 (.int .i64 f::(.int .i64 g::(.int .i64 h::U 54 [])))))))) w
def JY(R:VP)(k22:Nat):T34:=λa b c d e f g h w=>∃k,xI R k22 k a b c d e f g h w
def l34(R:VP)(b22:T22):Nat->T34
 |0=>λ_ _ _ _ _ _ _ _ _=>False
 |k+1=>g34 R b22 (l34 R b22 k)
def e34(R:VP)(b22:T22):T34:=λa b c d e f g h w=>∃k,l34 R b22 k a b c d e f g h w
theorem s34(R:VP)(k22 k:Nat):xI R k22 (k+1)=λa b c d e f g h w=>∀_:Nat->Value,g34 R (l22 R k22) (xI R k22 k) a b c d e f g h w:=by kernel_rfl
theorem JH(R:VP)(k22:Nat)(b22:T22)(hb22:b22=l22 R k22):∀k,l34 R b22 k=xI R k22 k
 |0=>by kernel_rfl
 |k+1=>by
  rw[s34];simp only[forall_const];unfold l34;have ih:=JH R k22 b22 hb22 k;subst hb22;rw[ih]
  all_goals rfl
theorem RU(R:VP)(k22:Nat)(b22:T22)(hb22:b22=l22 R k22):e34 R b22=JY R k22:=by
 unfold e34 JY;simp only[JH R k22 b22 hb22]
theorem u22(R k a b c d e f w):l22 R (k+1) a b c d e f w=g22 R (e34 R (l22 R k)) a b c d e f w:=by rw[RU R k _ rfl];exact ju (by kernel_rfl)
theorem u6(R k a b c d e f g h w):l6 R (k+1) a b c d e f g h w=g6 R (l6 R k) (e22 R) a b c d e f g h w:=ju
end fU
def fU(R:VP):=fU.g0 R (fU.e6 R)
theorem fU.calls{R a b c d e w}(k:fU R a b c d e w):CA 101 #[.slice a b c,.int .i64 d,.func (.func 90) #[] #[.pointer (some e)]] w R:=cal (n:=fU.an) func101 rfl k
namespace gq
def an:An:=An.nil
def g0(R:VP)(a:Int)(b:World):Prop:=R (.bool (a != a)) b
end gq
def gq(R:VP):=gq.g0 R
theorem gq.calls{R a w}(k:gq R a w):CA 102 #[.int .u64 a] w R:=cal (n:=gq.an) func102 rfl k
namespace fG
def an:An:=(aR (aR (.mk none (aL (.mk (some [0,1,2,6,7,8]) .nil .nil)) (aR (aL (.mk (some [0,1,2,6]) (aR (aL (aR (aL (aL (.mk (some [0,1,2,6,7,8]) .nil .nil)))))) .nil))))))
def qf(R:VP):QT:=fin prog f103 R
def C:=cdN prog f103 an
abbrev T6:=OA->Nat->Nat->Int->Addr->Int->Int->Int->World->Prop
abbrev T22:=OA->Nat->Nat->Int->Addr->Int->World->Prop
abbrev T34:=OA->Nat->Nat->Int->Addr->Int->Int->Int->World->Prop
def g0(R:VP)(e6:T6)(a:OA)(b c:Nat)(d:Int)(e:Addr)(f:World):Prop:=e6 a b c d e 20 0 20 f
def g6(R:VP)(b6:T6)(e22:T22)(a:OA)(b c:Nat)(d:Int)(e:Addr)(f g h:Int)(i:World):Prop:=af (decide (h<=d)) (CA 111 #[.slice a b c,.int .i64 g,.int .i64 h,.func (.func 93) #[] #[.pointer (some e)]] i λj k=>j=.tuple #[]/\(Q0q (h+f) λj=>b6 a b c d e f h j k)) (CA 111 #[.slice a b c,.int .i64 g,.int .i64 d,.func (.func 93) #[] #[.pointer (some e)]] i λg h=>g=.tuple #[]/\(e22 a b c d e f h))
def g22(R:VP)(e34:T34)(a:OA)(b c:Nat)(d:Int)(e:Addr)(f:Int)(g:World):Prop:=af (decide (f<d)) (Q0q (2*f) λh=>e34 a b c d e f 0 h g) (R (.tuple #[]) g)
def g34(R:VP)(b22:T22)(b34:T34)(a:OA)(b c:Nat)(d:Int)(e:Addr)(f g h:Int)(i:World):Prop:=af (decide (h<=d)) (Q0q (g+f) λj=>CA 112 #[.slice a b c,.int .i64 g,.int .i64 j,.int .i64 h,.func (.func 93) #[] #[.pointer (some e)]] i λj k=>j=.tuple #[]/\(Q0q (2*f) λj=>Q0q (h+j) λj=>b34 a b c d e f h j k)) (Q0q (g+f) λh=>af (decide (h<d)) (CA 112 #[.slice a b c,.int .i64 g,.int .i64 h,.int .i64 d,.func (.func 93) #[] #[.pointer (some e)]] i λg h=>g=.tuple #[]/\(Q0q (f*2) λg=>b22 a b c d e g h)) (Q0q (f*2) λf=>b22 a b c d e f i))
def q6(R:VP):QT:=(Exit.inBlock 0 (qS none (C [1,1,1]) (qf R)))
@[irreducible] def l6(R:VP)(k:Nat):T6:=λa b c d e f g h w=>bg [0,1,2,6,7,8] (C [1,1,0,0,0]) (q6 R) k (fr ((.slice a b c::(.int .i64 d::(.func (.func 93) #[] #[.pointer (some e)]::U 3 (.int .i64 f::(.int .i64 g::(.int .i64 h::U 54 [])))))))) w
def e6(R:VP):T6:=λa b c d e f g h w=>∃k,l6 R k a b c d e f g h w
def q22(R:VP):QT:=(Exit.inBlock 2 (qf R))
@[irreducible] def l22(R:VP)(k:Nat):T22:=λa b c d e f w=>bg [0,1,2,6] (C [1,1,1,1,0,0]) (q22 R) k (fr ((.slice a b c::(.int .i64 d::(.func (.func 93) #[] #[.pointer (some e)]::U 3 (.int .i64 f::U 56 [])))))) w
def e22(R:VP):T22:=λa b c d e f w=>∃k,l22 R k a b c d e f w
def q34(R:VP)(k22:Nat):QT:=(Exit.inBlock 4 (qS none (C [1,1,1,1,0,0,1,0,1,1]) (Exit.inBlock 3 (qL [0,1,2,6] (C [1,1,1,1,0,0]) (q22 R) k22))))
def xI(R:VP)(k22 k:Nat):T34:=λa b c d e f g h w=>bg [0,1,2,6,7,8] (C [1,1,1,1,0,0,1,0,1,0,0,0]) (q34 R k22) k (fr ((.slice a b c::(.int .i64 d::(.func (.func 93) #[] #[.pointer (some e)]::U 3 (.int .i64 f::(.int .i64 g::(.int .i64 h::U 54 [])))))))) w
def JY(R:VP)(k22:Nat):T34:=λa b c d e f g h w=>∃k,xI R k22 k a b c d e f g h w
def l34(R:VP)(b22:T22):Nat->T34
 |0=>λ_ _ _ _ _ _ _ _ _=>False
 |k+1=>g34 R b22 (l34 R b22 k)
def e34(R:VP)(b22:T22):T34:=λa b c d e f g h w=>∃k,l34 R b22 k a b c d e f g h w
theorem s34(R:VP)(k22 k:Nat):xI R k22 (k+1)=λa b c d e f g h w=>∀_:Nat->Value,g34 R (l22 R k22) (xI R k22 k) a b c d e f g h w:=by kernel_rfl
theorem JH(R:VP)(k22:Nat)(b22:T22)(hb22:b22=l22 R k22):∀k,l34 R b22 k=xI R k22 k
 |0=>by kernel_rfl
 |k+1=>by
  rw[s34];simp only[forall_const];unfold l34;have ih:=JH R k22 b22 hb22 k;subst hb22;rw[ih]
  all_goals rfl
theorem RU(R:VP)(k22:Nat)(b22:T22)(hb22:b22=l22 R k22):e34 R b22=JY R k22:=by
 unfold e34 JY;simp only[JH R k22 b22 hb22]
theorem u22(R k a b c d e f w):l22 R (k+1) a b c d e f w=g22 R (e34 R (l22 R k)) a b c d e f w:=by rw[RU R k _ rfl];exact ju (by kernel_rfl)
theorem u6(R k a b c d e f g h w):l6 R (k+1) a b c d e f g h w=g6 R (l6 R k) (e22 R) a b c d e f g h w:=ju
end fG
def fG(R:VP):=fG.g0 R (fG.e6 R)
theorem fG.calls{R a b c d e w}(k:fG R a b c d e w):CA 103 #[.slice a b c,.int .i64 d,.func (.func 93) #[] #[.pointer (some e)]] w R:=cal (n:=fG.an) func103 rfl k
namespace cmp_isNaN_int
def an:An:=An.nil
def g0(R:VP)(a:Int)(b:World):Prop:=R (.bool (a != a)) b
end cmp_isNaN_int
def cmp_isNaN_int(R:VP):=cmp_isNaN_int.g0 R
theorem cmp_isNaN_int.calls{R a w}(k:cmp_isNaN_int R a w):CA 104 #[.int .i64 a] w R:=cal (n:=cmp_isNaN_int.an) func104 rfl k
namespace dX
def an:An:=An.nil
def g0(R:VP)(a b c:Int)(d:Nat)(e:OA)(f g:Nat)(h i j k:Int)(l:World):Prop:=nw (l.alloc (.cells (qx a b c d e f g h i j) 56)) λa=>cI a ((na l).add 0) .u8 λb=>af (b==1) (cI a ((na l).add 2) .i64 λc=>af (c==0) (cF a ((na l).add 3) .f64 λc=>∃d,sJ prog (callFunc 56 #[.float .f64 c]) a (.int .u64 d)/\(af (d==0) (cL a ((na l).add 4) λc c d=>af ((c:Int)==0) (cI a ((na l).add 5) .u8 λc=>af (c==0) (cI a ((na l).add 6) .i64 λc=>af (c==0) (cI a ((na l).add 7) .i64 λc=>R (.bool (c==0)) a) (R (.bool false) a)) (R (.bool false) a)) (R (.bool false) a)) (R (.bool false) a))) (R (.bool false) a)) (af (b==2) (cF a ((na l).add 3) .f64 λc=>CA 113 #[.float .f64 c] a λc d=>∃e,c=.bool e/\(af e (R (.bool false) d) (cL d ((na l).add 4) λc c e=>af (decide ((c:Int)>0)) (R (.bool false) d) (cI d ((na l).add 1) .i64 λc=>af (c==0) (cI d ((na l).add 2) .i64 λc=>af (decide (c>=0)) (cI d ((na l).add 2) .i64 λc=>af (decide (c<65536)) (cI d ((na l).add 5) .u8 λc=>af (c==1) (cI d ((na l).add 6) .i64 λc=>af (decide (c>=1)) (cI d ((na l).add 6) .i64 λc=>af (decide (c<k)) (cI d ((na l).add 7) .i64 λc=>af (decide (c>=1)) (cI d ((na l).add 7) .i64 λc=>R (.bool (decide (c<k))) d) (R (.bool false) d)) (R (.bool false) d)) (R (.bool false) d)) (cI d ((na l).add 5) .u8 λc=>af (c==2) (cI d ((na l).add 6) .i64 λc=>af (decide (c>=1)) (cI d ((na l).add 6) .i64 λc=>af (decide (c<k)) (cI d ((na l).add 7) .i64 λc=>af (decide (c>=1)) (cI d ((na l).add 7) .i64 λc=>R (.bool (decide (c<k))) d) (R (.bool false) d)) (R (.bool false) d)) (R (.bool false) d)) (R (.bool false) d))) (R (.bool false) d)) (R (.bool false) d)) (R (.bool false) d))))) (af (b==3) (cF a ((na l).add 3) .f64 λb=>∃c,sJ prog (callFunc 56 #[.float .f64 b]) a (.int .u64 c)/\(af (c != 0) (R (.bool false) a) (cL a ((na l).add 4) λb c d=>CA 114 #[.slice b c d] a λb c=>∃d,b=.bool d/\(af (!d) (R (.bool false) c) (cI c ((na l).add 1) .i64 λb=>af (b==0) (cI c ((na l).add 2) .i64 λb=>af (decide (b>=0)) (cI c ((na l).add 2) .i64 λb=>af (decide (b<65536)) (cI c ((na l).add 5) .u8 λb=>af (b==1) (cI c ((na l).add 6) .i64 λb=>af (decide (b>=1)) (cI c ((na l).add 6) .i64 λb=>af (decide (b<k)) (cI c ((na l).add 7) .i64 λb=>af (decide (b>=1)) (cI c ((na l).add 7) .i64 λb=>R (.bool (decide (b<k))) c) (R (.bool false) c)) (R (.bool false) c)) (R (.bool false) c)) (cI c ((na l).add 5) .u8 λb=>af (b==2) (cI c ((na l).add 6) .i64 λb=>af (decide (b>=1)) (cI c ((na l).add 6) .i64 λb=>af (decide (b<k)) (cI c ((na l).add 7) .i64 λb=>af (decide (b>=1)) (cI c ((na l).add 7) .i64 λb=>R (.bool (decide (b<k))) c) (R (.bool false) c)) (R (.bool false) c)) (R (.bool false) c)) (R (.bool false) c))) (R (.bool false) c)) (R (.bool false) c)) (R (.bool false) c)))))) (R (.bool false) a)))
end dX
def dX(R:VP):=dX.g0 R
theorem dX.calls{R a b c d e f g h i j l w}(k:dX R a b c d e f g h i j l w):CA 105 #[Iz a b c d e f g h i j,.int .i64 l] w R:=cal (n:=dX.an) func105 rfl k
namespace bD
def an:An:=(aR (aR (aR (aL (aL (.mk (some [2,5,6]) .nil .nil))))))
def qf(R:VP):QT:=fin prog f106 R
def C:=cdN prog f106 an
abbrev T8:=OA->Int->OA->Nat->Nat->World->Prop
def g0(R:VP)(e8:T8)(a:Int)(b:OA)(c d:Nat)(e:Int)(f:World):Prop:=nw (f.alloc (.cells (kU a b c d) 50)) λa=>nw (a.alloc (.cells #[.int .i64 e] 3)) λb=>e8 (some (na f)) 0 (some (na a)) 1 1 b
def g8(R:VP)(b8:T8)(a:OA)(b:Int)(c:OA)(d e:Nat)(f:World):Prop:=af (decide ((d:Int)>0)) (∃g:Nat->Value->World->Prop,KpF g/\(aV a λh=>cL f (h.add 1) λh i j=>Q0q ((d:Int) - 1) λj=>ix c d j λk=>cI f (k.add (j.toNat*1)) .i64 λj=>ix h i j λh=>oh f (h.add (j.toNat*8)) λh i j k l m n o p q=>(∀r:World,Below f.heap.size f r->g 10 (.pointer (some (na r))) (r.alloc (.cells (qx 0 0 0 0 none 0 0 0 0 0) 56)))/\(∀r:Addr,(∃s,Below f.heap.size f s/\g 10 (.pointer (some r)) s)->∀s:World,Below f.heap.size f s->g 10 (.pointer (some r)) s->xW s r h i j k l m n o p q λg=>Q0q ((d:Int) - 1) λd=>chk ((0:Int)<=d/\d<=(e:Int)) (cI g (r.add 0) .u8 λh=>af (h==1) (inc b λh=>b8 a h (slA c e 0 1) d.toNat e g) (cI g (r.add 6) .i64 λh=>cI g (r.add 7) .i64 λi=>nw (g.alloc (.cells (L6 h i) 3)) λh=>dC prog (Builtin.append_ #[53,53] 53 #[.slice (slA c e 0 1) d.toNat e,.slice (some (na g)) 2 2]) h λc d=>∃e g h,c=.slice e g h/\(b8 a b e g h d)))))) (R (.int .i64 b) f)
def q8(R:VP):QT:=(Exit.inBlock 0 (qS none (C [1,1,1,1]) (qf R)))
@[irreducible] def l8(R:VP)(k:Nat):T8:=λa b c d e w=>bg [2,5,6] (C [1,1,1,0,0,0]) (q8 R) k (fr (U 2 (.pointer a::U 2 (.int .i64 b::(.slice c d e::U 34 []))))) w
def e8(R:VP):T8:=λa b c d e w=>∃k,l8 R k a b c d e w
theorem u8(R k a b c d e w):l8 R (k+1) a b c d e w=g8 R (l8 R k) a b c d e w:=ju
end bD
def bD(R:VP):=bD.g0 R (bD.e8 R)
theorem bD.calls{R a b c d e w}(k:bD R a b c d e w):CA 106 #[jh a b c d,.int .i64 e] w R:=cal (n:=bD.an) func106 rfl k
namespace iY
def an:An:=(aR (aL (.mk (some [0,1,2,3,8]) (aR (aL (aL (aR (aL (.mk (some [0,1,2,3,8,9]) .nil .nil)))))) .nil)))
def qf(R:VP):QT:=fin prog f107 R
def C:=cdN prog f107 an
abbrev T3:=OA->Nat->Nat->Int->Int->Int->World->Prop
abbrev T15:=OA->Nat->Nat->Int->Int->Int->Int->World->Prop
def g0(R:VP)(e3:T3)(a:OA)(b c:Nat)(d e:Int)(f:World):Prop:=inc d λg=>e3 a b c d e g f
def g3(R:VP)(e15:T15)(a:OA)(b c:Nat)(d e f:Int)(g:World):Prop:=af (decide (f<e)) (e15 a b c d e f f g) (R (.tuple #[]) g)
def g15(R:VP)(b3:T3)(b15:T15)(a:OA)(b c:Nat)(d e f g:Int)(h:World):Prop:=af (decide (g>d)) (ix a b g λi=>mf h (i.add (g.toNat*10)) λi j k l m n o p q r s t=>Q0q (g - 1) λu=>ix a b u λv=>mf h (v.add (u.toNat*10)) λu v w x y z A B C D E F=>CA 80 #[Ae i j k l m n o p q r s t,Ae u v w x y z A B C D E F] h λi j=>∃k,i=.int .i64 k/\(af (decide (k<0)) (∃i:World,CK i j/\(Q0q (g - 1) λk=>Q0q (g - 1) λl=>ix a b l λm=>mf j (m.add (l.toNat*10)) λl m n o p q r s t u v w=>ix a b g λx=>mf j (x.add (g.toNat*10)) λx y z A B C D E F G H I=>ix a b g λJ=>ug j (J.add (g.toNat*10)) l m n o p q r s t u v w λl=>CK i l/\(ix a b k λi=>ug l (i.add (k.toNat*10)) x y z A B C D E F G H I λi=>Q0q (g - 1) λg=>b15 a b c d e f g i))) (inc f λg=>b3 a b c d e g j))) (inc f λf=>b3 a b c d e f h)
def q3(R:VP):QT:=(Exit.inBlock 0 (qf R))
@[irreducible] def l3(R:VP)(k:Nat):T3:=λa b c d e f w=>bg [0,1,2,3,8] (C [1,0,0]) (q3 R) k (fr ((.slice a b c::(.int .i64 d::(.int .i64 e::(.func (.func 80) #[] #[]::U 4 (.int .i64 f::U 44 []))))))) w
def e3(R:VP):T3:=λa b c d e f w=>∃k,l3 R k a b c d e f w
def q15(R:VP)(k3:Nat):QT:=(Exit.inBlock 2 (Exit.inBlock 1 (qS none (C [1,0,0,1,1]) (qL [0,1,2,3,8] (C [1,0,0]) (q3 R) k3))))
def JB(R:VP)(k3 k:Nat):T15:=λa b c d e f g w=>bg [0,1,2,3,8,9] (C [1,0,0,1,0,0,1,0,0]) (q15 R k3) k (fr ((.slice a b c::(.int .i64 d::(.int .i64 e::(.func (.func 80) #[] #[]::U 4 (.int .i64 f::(.int .i64 g::U 43 [])))))))) w
def U3(R:VP)(k3:Nat):T15:=λa b c d e f g w=>∃k,JB R k3 k a b c d e f g w
def l15(R:VP)(b3:T3):Nat->T15
 |0=>λ_ _ _ _ _ _ _ _=>False
 |k+1=>g15 R b3 (l15 R b3 k)
def e15(R:VP)(b3:T3):T15:=λa b c d e f g w=>∃k,l15 R b3 k a b c d e f g w
theorem s15(R:VP)(k3 k:Nat):JB R k3 (k+1)=λa b c d e f g w=>∀_:Nat->Value,g15 R (l3 R k3) (JB R k3 k) a b c d e f g w:=by kernel_rfl
theorem U0(R:VP)(k3:Nat)(b3:T3)(hb3:b3=l3 R k3):∀k,l15 R b3 k=JB R k3 k
 |0=>by kernel_rfl
 |k+1=>by
  rw[s15];simp only[forall_const];unfold l15;have ih:=U0 R k3 b3 hb3 k;subst hb3;rw[ih]
  all_goals rfl
theorem Yp(R:VP)(k3:Nat)(b3:T3)(hb3:b3=l3 R k3):e15 R b3=U3 R k3:=by
 unfold e15 U3;simp only[U0 R k3 b3 hb3]
theorem u3(R k a b c d e f w):l3 R (k+1) a b c d e f w=g3 R (e15 R (l3 R k)) a b c d e f w:=by rw[Yp R k _ rfl];exact ju (by kernel_rfl)
end iY
def iY(R:VP):=iY.g0 R (iY.e3 R)
theorem iY.calls{R a b c d e w}(k:iY R a b c d e w):CA 107 #[.slice a b c,.int .i64 d,.int .i64 e,.func (.func 80) #[] #[]] w R:=cal (n:=iY.an) func107 rfl k
namespace dZ
def an:An:=(.mk none (aR (aL (aR (aR (.mk none (aL (.mk (some [0,1,4,10,11]) .nil .nil)) (aL (aR (aL (.mk (some [0,10,13]) .nil .nil))))))))) (.mk none (aR (aL (aR (aR (.mk none (aL (.mk (some [0,2,4,14,15]) .nil .nil)) (aL (aR (aL (.mk (some [0,14,17]) .nil .nil))))))))) (aR (aR (aR (.mk (some [0,1,2,3,4,18,19,20,21]) .nil (aR (.mk none (aL (.mk (some [0,1,2,3,4,18,19,20,21,22]) .nil .nil)) (aR (.mk (some [0,1,3,4,18,20,24]) .nil (.mk (some [0,3,4,18,24]) .nil .nil)))))))))))
def qf(R:VP):QT:=fin prog f108 R
def C:=cdN prog f108 an
abbrev T10:=OA->Nat->Nat->Int->Int->Int->World->Prop
abbrev T29:=OA->Nat->Nat->Int->Int->World->Prop
abbrev T52:=OA->Nat->Nat->Int->Int->Int->World->Prop
abbrev T71:=OA->Nat->Nat->Int->Int->World->Prop
abbrev Og:=OA->Nat->Nat->Int->Int->Int->Int->Int->Int->Int->World->Prop
abbrev IW:=OA->Nat->Nat->Int->Int->Int->Int->Int->Int->Int->Int->World->Prop
abbrev Oc:=OA->Nat->Nat->Int->Int->Int->Int->Int->World->Prop
abbrev Py:=OA->Nat->Nat->Int->Int->Int->World->Prop
def g0(R:VP)(e10:T10)(e52:T52)(j100:Og)(a:OA)(b c:Nat)(d e f:Int)(g:World):Prop:=Q0q (e - d) λh=>af (h==1) (e10 a b c d e f g) (Q0q (f - e) λh=>af (h==1) (e52 a b c e d e g) (Q0q (d+f) λh=>nv (IntKind.u64.wrap h) λh=>nv (Int.fdiv h (2 ^ 1)) λh=>Q0q (h) λh=>Q0q (h+e) λi=>af (decide (e>h)) (Q0q (i - f) λj=>j100 a b c d e f h i j h g) (j100 a b c d e f h i d e g)))
def g10(R:VP)(b10:T10)(e29:T29)(a:OA)(b c:Nat)(d e f:Int)(g:World):Prop:=af (decide (e<f)) (Q0q (e+f) λh=>nv (IntKind.u64.wrap h) λh=>nv (Int.fdiv h (2 ^ 1)) λh=>Q0q (h) λh=>ix a b h λi=>mf g (i.add (h.toNat*10)) λi j k l m n o p q r s t=>ix a b d λu=>mf g (u.add (d.toNat*10)) λu v w x y z A B C D E F=>CA 80 #[Ae i j k l m n o p q r s t,Ae u v w x y z A B C D E F] g λi j=>∃k,i=.int .i64 k/\(af (decide (k<0)) (inc h λi=>b10 a b c d i f j) (b10 a b c d e h j))) (e29 a b c e d g)
def g29(R:VP)(b29:T29)(a:OA)(b c:Nat)(d e:Int)(f:World):Prop:=Q0q (d - 1) λg=>af (decide (e<g)) (∃g:World,CK g f/\(inc e λh=>inc e λi=>ix a b i λj=>mf f (j.add (i.toNat*10)) λi j k l m n o p q r s t=>ix a b e λu=>mf f (u.add (e.toNat*10)) λu v w x y z A B C D E F=>ix a b e λG=>ug f (G.add (e.toNat*10)) i j k l m n o p q r s t λi=>CK g i/\(ix a b h λg=>ug i (g.add (h.toNat*10)) u v w x y z A B C D E F λg=>inc e λe=>b29 a b c d e g))) (R (.tuple #[]) f)
def g52(R:VP)(b52:T52)(e71:T71)(a:OA)(b c:Nat)(d e f:Int)(g:World):Prop:=af (decide (e<f)) (Q0q (e+f) λh=>nv (IntKind.u64.wrap h) λh=>nv (Int.fdiv h (2 ^ 1)) λh=>Q0q (h) λh=>ix a b d λi=>mf g (i.add (d.toNat*10)) λi j k l m n o p q r s t=>ix a b h λu=>mf g (u.add (h.toNat*10)) λu v w x y z A B C D E F=>CA 80 #[Ae i j k l m n o p q r s t,Ae u v w x y z A B C D E F] g λi j=>∃k,i=.int .i64 k/\(af (!(decide (k<0))) (inc h λi=>b52 a b c d i f j) (b52 a b c d e h j))) (e71 a b c e d g)
def g71(R:VP)(b71:T71)(a:OA)(b c:Nat)(d e:Int)(f:World):Prop:=af (decide (e>d)) (∃g:World,CK g f/\(Q0q (e - 1) λh=>Q0q (e - 1) λi=>ix a b i λj=>mf f (j.add (i.toNat*10)) λi j k l m n o p q r s t=>ix a b e λu=>mf f (u.add (e.toNat*10)) λu v w x y z A B C D E F=>ix a b e λG=>ug f (G.add (e.toNat*10)) i j k l m n o p q r s t λi=>CK g i/\(ix a b h λg=>ug i (g.add (h.toNat*10)) u v w x y z A B C D E F λg=>Q0q (e - 1) λe=>b71 a b c d e g))) (R (.tuple #[]) f)
def Ua(R:VP)(Jh:IW)(a:OA)(b c:Nat)(d e f g h i j:Int)(k:World):Prop :=
 nv (IntKind.i64.wrap (h - 1)) λl=>
 Jh a b c d e f g h i j l k
def Y4(R:VP)(b104:IW)(j127:Oc)(a:OA)(b c:Nat)(d e f g h i j k:Int)(l:World):Prop :=
 af (decide (i<j))
 (nv (IntKind.i64.wrap (i+j)) λm=>
 nv (IntKind.u64.wrap m) λm=>
 nv (Int.fdiv m (2 ^ 1)) λm=>
 nv (IntKind.i64.wrap m) λm=>
 nv (IntKind.i64.wrap (k - m)) λn=>
 ix a b n λo=>
 mf l (o.add (n.toNat*10)) λn o p q r s t u v w x y=>
 ix a b m λz=>
 mf l (z.add (m.toNat*10)) λz A B C D E F G H I J K=>
 CA 80 #[Ae n o p q r s t u v w x y,Ae z A B C D E F G H I J K] l λn o=>
 ∃p,n = .int .i64 p /\
 (af (!(decide (p<0)))
 (inc m λn=>
 b104 a b c d e f g h n j k o)
 (b104 a b c d e f g h i m k o)))
 (nv (IntKind.i64.wrap (h - i)) λh=>
 af (decide (i<e))
 (af (decide (e<h))
 (CA 115 #[.slice a b c,.int .i64 i,.int .i64 e,.int .i64 h,.func (.func 80) #[] #[]] l λe j=>
 e = .tuple #[] /\
 (j127 a b c d f g i h j))
 (j127 a b c d f g i h l))
 (j127 a b c d f g i h l))
def Us(R:VP)(j133:Py)(a:OA)(b c:Nat)(d e f g h:Int)(i:World):Prop :=
 af (decide (d<g))
 (af (decide (g<f))
 (CA 108 #[.slice a b c,.int .i64 d,.int .i64 g,.int .i64 f,.func (.func 80) #[] #[]] i λd g=>
 d = .tuple #[] /\
 (j133 a b c e f h g))
 (j133 a b c e f h i))
 (j133 a b c e f h i)
def Uf(R:VP)(a:OA)(b c:Nat)(d e f:Int)(g:World):Prop :=
 af (decide (e<f))
 (af (decide (f<d))
 (CA 108 #[.slice a b c,.int .i64 e,.int .i64 f,.int .i64 d,.func (.func 80) #[] #[]] g λa b=>
 a = .tuple #[] /\
 (R (.tuple #[]) b))
 (R (.tuple #[]) g))
 (R (.tuple #[]) g)
def q10(R:VP):QT:=(Exit.inBlock 0 (qS none (C [0,1,0,1,1,1]) (qS none (C [1]) (qf R))))
@[irreducible] def l10(R:VP)(k:Nat):T10:=λa b c d e f w=>bg [0,1,4,10,11] (C [0,1,0,1,1,0,0,0]) (q10 R) k (fr ((.slice a b c::(.int .i64 d::U 2 (.func (.func 80) #[] #[]::U 5 (.int .i64 e::(.int .i64 f::U 208 []))))))) w
def e10(R:VP):T10:=λa b c d e f w=>∃k,l10 R k a b c d e f w
def q29(R:VP):QT:=(Exit.inBlock 2 (qS none (C [0,1,0,1,1,1,1]) (qS none (C [1]) (qf R))))
@[irreducible] def l29(R:VP)(k:Nat):T29:=λa b c d e w=>bg [0,10,13] (C [0,1,0,1,1,1,0,1,0,0]) (q29 R) k (fr ((.slice a b c::U 9 (.int .i64 d::U 2 (.int .i64 e::U 206 []))))) w
def e29(R:VP):T29:=λa b c d e w=>∃k,l29 R k a b c d e w
def q52(R:VP):QT:=(Exit.inBlock 4 (qS none (C [1,0,1,0,1,1,1]) (qS none (C [1,1]) (qf R))))
@[irreducible] def l52(R:VP)(k:Nat):T52:=λa b c d e f w=>bg [0,2,4,14,15] (C [1,0,1,0,1,1,0,0,0]) (q52 R) k (fr ((.slice a b c::U 1 (.int .i64 d::U 1 (.func (.func 80) #[] #[]::U 9 (.int .i64 e::(.int .i64 f::U 204 []))))))) w
def e52(R:VP):T52:=λa b c d e f w=>∃k,l52 R k a b c d e f w
def q71(R:VP):QT:=(Exit.inBlock 6 (qS none (C [1,0,1,0,1,1,1,1]) (qS none (C [1,1]) (qf R))))
@[irreducible] def l71(R:VP)(k:Nat):T71:=λa b c d e w=>bg [0,14,17] (C [1,0,1,0,1,1,1,0,1,0,0]) (q71 R) k (fr ((.slice a b c::U 13 (.int .i64 d::U 2 (.int .i64 e::U 202 []))))) w
def e71(R:VP):T71:=λa b c d e w=>∃k,l71 R k a b c d e w
def FY(R:VP):Og:=λa b c d e f g h i j w=>jT (some [0,1,2,3,4,18,19,20,21]) (C [1,1,1,1,1,1] (qf R)) (fr ((.slice a b c::(.int .i64 d::(.int .i64 e::(.int .i64 f::(.func (.func 80) #[] #[]::U 13 (.int .i64 g::(.int .i64 h::(.int .i64 i::(.int .i64 j::U 198 []))))))))))) w
def Ub(R:VP):QT:=(Exit.inBlock 8 (qS none (C [1,1,1,1,1,1,1,1]) (qf R)))
@[irreducible] def Ai(R:VP)(k:Nat):IW:=λa b c d e f g h i j l w=>bg [0,1,2,3,4,18,19,20,21,22] (C [1,1,1,1,1,1,1,0,0,0]) (Ub R) k (fr ((.slice a b c::(.int .i64 d::(.int .i64 e::(.int .i64 f::(.func (.func 80) #[] #[]::U 13 (.int .i64 g::(.int .i64 h::(.int .i64 i::(.int .i64 j::(.int .i64 l::U 197 [])))))))))))) w
def Jh(R:VP):IW:=λa b c d e f g h i j l w=>∃k,Ai R k a b c d e f g h i j l w
def EM(R:VP):Oc:=λa b c d e f g h w=>jT (some [0,1,3,4,18,20,24]) (C [1,1,1,1,1,1,1,1,1,1] (qf R)) (fr ((.slice a b c::(.int .i64 d::U 1 (.int .i64 e::(.func (.func 80) #[] #[]::U 13 (.int .i64 f::U 1 (.int .i64 g::U 3 (.int .i64 h::U 195 []))))))))) w
def zC(R:VP):Py:=λa b c d e f w=>jT (some [0,3,4,18,24]) (C [1,1,1,1,1,1,1,1,1,1,1] (qf R)) (fr ((.slice a b c::U 2 (.int .i64 d::(.func (.func 80) #[] #[]::U 13 (.int .i64 e::U 5 (.int .i64 f::U 195 []))))))) w
theorem u29(R k a b c d e w):l29 R (k+1) a b c d e w=g29 R (l29 R k) a b c d e w:=ju
theorem u10(R k a b c d e f w):l10 R (k+1) a b c d e f w=g10 R (l10 R k) (e29 R) a b c d e f w:=ju
theorem u71(R k a b c d e w):l71 R (k+1) a b c d e w=g71 R (l71 R k) a b c d e w:=ju
theorem u52(R k a b c d e f w):l52 R (k+1) a b c d e f w=g52 R (l52 R k) (e71 R) a b c d e f w:=ju
def j133(R:VP):Py:=Uf R
theorem Xh(R:VP):zC R=λa b c d e f w=>∀_:Nat->Value,Uf R a b c d e f w:=by kernel_rfl
theorem Oq(R:VP):j133 R=zC R:=by
  rw[Xh];simp only[forall_const];unfold j133
  all_goals rfl
def j127(R:VP):Oc:=Us R (j133 R)
theorem Xq(R:VP):EM R=λa b c d e f g h w=>∀_:Nat->Value,Us R (zC R) a b c d e f g h w:=by kernel_rfl
theorem P9(R:VP):j127 R=EM R:=by
  rw[Xq];simp only[forall_const];unfold j127;rw[Oq R]
  all_goals rfl
theorem Yq(R k a b c d e f g h i j l w):Ai R (k+1) a b c d e f g h i j l w=Y4 R (Ai R k) (j127 R) a b c d e f g h i j l w:=by rw[P9 R];exact ju (by kernel_rfl)
def j100(R:VP):Og:=Ua R (Jh R)
theorem Xb(R:VP):FY R=λa b c d e f g h i j w=>∀_:Nat->Value,Ua R (Jh R) a b c d e f g h i j w:=by kernel_rfl
theorem Nj(R:VP):j100 R=FY R:=by
  rw[Xb];simp only[forall_const];unfold j100
  all_goals rfl
end dZ
def dZ(R:VP):=dZ.g0 R (dZ.e10 R) (dZ.e52 R) (dZ.j100 R)
theorem dZ.calls{R a b c d e f w}(k:dZ R a b c d e f w):CA 108 #[.slice a b c,.int .i64 d,.int .i64 e,.int .i64 f,.func (.func 80) #[] #[]] w R:=cal (n:=dZ.an) func108 rfl k (by unfold dZ;rw[dZ.Nj R];kernel_rfl)
namespace kX
def an:An:=(aR (aL (.mk (some [0,1,2,3,8]) (aR (aL (aL (aR (aL (.mk (some [0,1,2,3,8,9]) .nil .nil)))))) .nil)))
def qf(R:VP):QT:=fin prog f109 R
def C:=cdN prog f109 an
abbrev T3:=OA->Nat->Nat->Int->Int->Addr->Int->World->Prop
abbrev T15:=OA->Nat->Nat->Int->Int->Addr->Int->Int->World->Prop
def g0(R:VP)(e3:T3)(a:OA)(b c:Nat)(d e:Int)(f:Addr)(g:World):Prop:=inc d λh=>e3 a b c d e f h g
def g3(R:VP)(e15:T15)(a:OA)(b c:Nat)(d e:Int)(f:Addr)(g:Int)(h:World):Prop:=af (decide (g<e)) (e15 a b c d e f g g h) (R (.tuple #[]) h)
def g15(R:VP)(b3:T3)(b15:T15)(a:OA)(b c:Nat)(d e:Int)(f:Addr)(g h:Int)(i:World):Prop:=af (decide (h>d)) (ix a b h λj=>nK i (j.add (h.toNat*5)) λj k l m n o p=>Q0q (h - 1) λq=>ix a b q λr=>nK i (r.add (q.toNat*5)) λq r s t u v w=>CA 90 #[qZ j k l m n o p,qZ q r s t u v w,.pointer (some f)] i λj k=>∃l,j=.int .i64 l/\(af (decide (l<0)) (∃j:World,CK j k/\(Q0q (h - 1) λl=>Q0q (h - 1) λm=>ix a b m λn=>nK k (n.add (m.toNat*5)) λm n o p q r s=>ix a b h λt=>nK k (t.add (h.toNat*5)) λt u v w x y z=>ix a b h λA=>xZ k (A.add (h.toNat*5)) m n o p q r s λm=>CK j m/\(ix a b l λj=>xZ m (j.add (l.toNat*5)) t u v w x y z λj=>Q0q (h - 1) λh=>b15 a b c d e f g h j))) (inc g λh=>b3 a b c d e f h k))) (inc g λg=>b3 a b c d e f g i)
def q3(R:VP):QT:=(Exit.inBlock 0 (qf R))
@[irreducible] def l3(R:VP)(k:Nat):T3:=λa b c d e f g w=>bg [0,1,2,3,8] (C [1,0,0]) (q3 R) k (fr ((.slice a b c::(.int .i64 d::(.int .i64 e::(.func (.func 90) #[] #[.pointer (some f)]::U 4 (.int .i64 g::U 44 []))))))) w
def e3(R:VP):T3:=λa b c d e f g w=>∃k,l3 R k a b c d e f g w
def q15(R:VP)(k3:Nat):QT:=(Exit.inBlock 2 (Exit.inBlock 1 (qS none (C [1,0,0,1,1]) (qL [0,1,2,3,8] (C [1,0,0]) (q3 R) k3))))
def JB(R:VP)(k3 k:Nat):T15:=λa b c d e f g h w=>bg [0,1,2,3,8,9] (C [1,0,0,1,0,0,1,0,0]) (q15 R k3) k (fr ((.slice a b c::(.int .i64 d::(.int .i64 e::(.func (.func 90) #[] #[.pointer (some f)]::U 4 (.int .i64 g::(.int .i64 h::U 43 [])))))))) w
def U3(R:VP)(k3:Nat):T15:=λa b c d e f g h w=>∃k,JB R k3 k a b c d e f g h w
def l15(R:VP)(b3:T3):Nat->T15
 |0=>λ_ _ _ _ _ _ _ _ _=>False
 |k+1=>g15 R b3 (l15 R b3 k)
def e15(R:VP)(b3:T3):T15:=λa b c d e f g h w=>∃k,l15 R b3 k a b c d e f g h w
theorem s15(R:VP)(k3 k:Nat):JB R k3 (k+1)=λa b c d e f g h w=>∀_:Nat->Value,g15 R (l3 R k3) (JB R k3 k) a b c d e f g h w:=by kernel_rfl
theorem U0(R:VP)(k3:Nat)(b3:T3)(hb3:b3=l3 R k3):∀k,l15 R b3 k=JB R k3 k
 |0=>by kernel_rfl
 |k+1=>by
  rw[s15];simp only[forall_const];unfold l15;have ih:=U0 R k3 b3 hb3 k;subst hb3;rw[ih]
  all_goals rfl
theorem Yp(R:VP)(k3:Nat)(b3:T3)(hb3:b3=l3 R k3):e15 R b3=U3 R k3:=by
 unfold e15 U3;simp only[U0 R k3 b3 hb3]
theorem u3(R k a b c d e f g w):l3 R (k+1) a b c d e f g w=g3 R (e15 R (l3 R k)) a b c d e f g w:=by rw[Yp R k _ rfl];exact ju (by kernel_rfl)
end kX
def kX(R:VP):=kX.g0 R (kX.e3 R)
theorem kX.calls{R a b c d e f w}(k:kX R a b c d e f w):CA 109 #[.slice a b c,.int .i64 d,.int .i64 e,.func (.func 90) #[] #[.pointer (some f)]] w R:=cal (n:=kX.an) func109 rfl k
namespace ik
def an:An:=(.mk none (aR (aL (aR (aR (.mk none (aL (.mk (some [0,1,4,10,11]) .nil .nil)) (aL (aR (aL (.mk (some [0,10,13]) .nil .nil))))))))) (.mk none (aR (aL (aR (aR (.mk none (aL (.mk (some [0,2,4,14,15]) .nil .nil)) (aL (aR (aL (.mk (some [0,14,17]) .nil .nil))))))))) (aR (aR (aR (.mk (some [0,1,2,3,4,18,19,20,21]) .nil (aR (.mk none (aL (.mk (some [0,1,2,3,4,18,19,20,21,22]) .nil .nil)) (aR (.mk (some [0,1,3,4,18,20,24]) .nil (.mk (some [0,3,4,18,24]) .nil .nil)))))))))))
def qf(R:VP):QT:=fin prog f110 R
def C:=cdN prog f110 an
abbrev T10:=OA->Nat->Nat->Int->Addr->Int->Int->World->Prop
abbrev T29:=OA->Nat->Nat->Int->Int->World->Prop
abbrev T52:=OA->Nat->Nat->Int->Addr->Int->Int->World->Prop
abbrev T71:=OA->Nat->Nat->Int->Int->World->Prop
abbrev Og:=OA->Nat->Nat->Int->Int->Int->Addr->Int->Int->Int->Int->World->Prop
abbrev IW:=OA->Nat->Nat->Int->Int->Int->Addr->Int->Int->Int->Int->Int->World->Prop
abbrev Oc:=OA->Nat->Nat->Int->Int->Addr->Int->Int->Int->World->Prop
abbrev Py:=OA->Nat->Nat->Int->Addr->Int->Int->World->Prop
def g0(R:VP)(e10:T10)(e52:T52)(j100:Og)(a:OA)(b c:Nat)(d e f:Int)(g:Addr)(h:World):Prop:=Q0q (e - d) λi=>af (i==1) (e10 a b c d g e f h) (Q0q (f - e) λi=>af (i==1) (e52 a b c e g d e h) (Q0q (d+f) λi=>nv (IntKind.u64.wrap i) λi=>nv (Int.fdiv i (2 ^ 1)) λi=>Q0q (i) λi=>Q0q (i+e) λj=>af (decide (e>i)) (Q0q (j - f) λk=>j100 a b c d e f g i j k i h) (j100 a b c d e f g i j d e h)))
def g10(R:VP)(b10:T10)(e29:T29)(a:OA)(b c:Nat)(d:Int)(e:Addr)(f g:Int)(h:World):Prop:=af (decide (f<g)) (Q0q (f+g) λi=>nv (IntKind.u64.wrap i) λi=>nv (Int.fdiv i (2 ^ 1)) λi=>Q0q (i) λi=>ix a b i λj=>nK h (j.add (i.toNat*5)) λj k l m n o p=>ix a b d λq=>nK h (q.add (d.toNat*5)) λq r s t u v w=>CA 90 #[qZ j k l m n o p,qZ q r s t u v w,.pointer (some e)] h λj k=>∃l,j=.int .i64 l/\(af (decide (l<0)) (inc i λj=>b10 a b c d e j g k) (b10 a b c d e f i k))) (e29 a b c f d h)
def g29(R:VP)(b29:T29)(a:OA)(b c:Nat)(d e:Int)(f:World):Prop:=Q0q (d - 1) λg=>af (decide (e<g)) (∃g:World,CK g f/\(inc e λh=>inc e λi=>ix a b i λj=>nK f (j.add (i.toNat*5)) λi j k l m n o=>ix a b e λp=>nK f (p.add (e.toNat*5)) λp q r s t u v=>ix a b e λw=>xZ f (w.add (e.toNat*5)) i j k l m n o λi=>CK g i/\(ix a b h λg=>xZ i (g.add (h.toNat*5)) p q r s t u v λg=>inc e λe=>b29 a b c d e g))) (R (.tuple #[]) f)
def g52(R:VP)(b52:T52)(e71:T71)(a:OA)(b c:Nat)(d:Int)(e:Addr)(f g:Int)(h:World):Prop:=af (decide (f<g)) (Q0q (f+g) λi=>nv (IntKind.u64.wrap i) λi=>nv (Int.fdiv i (2 ^ 1)) λi=>Q0q (i) λi=>ix a b d λj=>nK h (j.add (d.toNat*5)) λj k l m n o p=>ix a b i λq=>nK h (q.add (i.toNat*5)) λq r s t u v w=>CA 90 #[qZ j k l m n o p,qZ q r s t u v w,.pointer (some e)] h λj k=>∃l,j=.int .i64 l/\(af (!(decide (l<0))) (inc i λj=>b52 a b c d e j g k) (b52 a b c d e f i k))) (e71 a b c f d h)
def g71(R:VP)(b71:T71)(a:OA)(b c:Nat)(d e:Int)(f:World):Prop:=af (decide (e>d)) (∃g:World,CK g f/\(Q0q (e - 1) λh=>Q0q (e - 1) λi=>ix a b i λj=>nK f (j.add (i.toNat*5)) λi j k l m n o=>ix a b e λp=>nK f (p.add (e.toNat*5)) λp q r s t u v=>ix a b e λw=>xZ f (w.add (e.toNat*5)) i j k l m n o λi=>CK g i/\(ix a b h λg=>xZ i (g.add (h.toNat*5)) p q r s t u v λg=>Q0q (e - 1) λe=>b71 a b c d e g))) (R (.tuple #[]) f)
def Ua(R:VP)(Jh:IW)(a:OA)(b c:Nat)(d e f:Int)(g:Addr)(h i j k:Int)(l:World):Prop :=
 nv (IntKind.i64.wrap (i - 1)) λm=>
 Jh a b c d e f g h i j k m l
def Y4(R:VP)(b104:IW)(j127:Oc)(a:OA)(b c:Nat)(d e f:Int)(g:Addr)(h i j k l:Int)(m:World):Prop :=
 af (decide (j<k))
 (nv (IntKind.i64.wrap (j+k)) λn=>
 nv (IntKind.u64.wrap n) λn=>
 nv (Int.fdiv n (2 ^ 1)) λn=>
 nv (IntKind.i64.wrap n) λn=>
 nv (IntKind.i64.wrap (l - n)) λo=>
 ix a b o λp=>
 nK m (p.add (o.toNat*5)) λo p q r s t u=>
 ix a b n λv=>
 nK m (v.add (n.toNat*5)) λv w x y z A B=>
 CA 90 #[qZ o p q r s t u,qZ v w x y z A B,.pointer (some g)] m λo p=>
 ∃q,o = .int .i64 q /\
 (af (!(decide (q<0)))
 (inc n λo=>
 b104 a b c d e f g h i o k l p)
 (b104 a b c d e f g h i j n l p)))
 (nv (IntKind.i64.wrap (i - j)) λi=>
 af (decide (j<e))
 (af (decide (e<i))
 (CA 116 #[.slice a b c,.int .i64 j,.int .i64 e,.int .i64 i,.func (.func 90) #[] #[.pointer (some g)]] m λe k=>
 e = .tuple #[] /\
 (j127 a b c d f g h j i k))
 (j127 a b c d f g h j i m))
 (j127 a b c d f g h j i m))
def Us(R:VP)(j133:Py)(a:OA)(b c:Nat)(d e:Int)(f:Addr)(g h i:Int)(j:World):Prop :=
 af (decide (d<h))
 (af (decide (h<g))
 (CA 110 #[.slice a b c,.int .i64 d,.int .i64 h,.int .i64 g,.func (.func 90) #[] #[.pointer (some f)]] j λd h=>
 d = .tuple #[] /\
 (j133 a b c e f g i h))
 (j133 a b c e f g i j))
 (j133 a b c e f g i j)
def Uf(R:VP)(a:OA)(b c:Nat)(d:Int)(e:Addr)(f g:Int)(h:World):Prop :=
 af (decide (f<g))
 (af (decide (g<d))
 (CA 110 #[.slice a b c,.int .i64 f,.int .i64 g,.int .i64 d,.func (.func 90) #[] #[.pointer (some e)]] h λa b=>
 a = .tuple #[] /\
 (R (.tuple #[]) b))
 (R (.tuple #[]) h))
 (R (.tuple #[]) h)
def q10(R:VP):QT:=(Exit.inBlock 0 (qS none (C [0,1,0,1,1,1]) (qS none (C [1]) (qf R))))
@[irreducible] def l10(R:VP)(k:Nat):T10:=λa b c d e f g w=>bg [0,1,4,10,11] (C [0,1,0,1,1,0,0,0]) (q10 R) k (fr ((.slice a b c::(.int .i64 d::U 2 (.func (.func 90) #[] #[.pointer (some e)]::U 5 (.int .i64 f::(.int .i64 g::U 208 []))))))) w
def e10(R:VP):T10:=λa b c d e f g w=>∃k,l10 R k a b c d e f g w
def q29(R:VP):QT:=(Exit.inBlock 2 (qS none (C [0,1,0,1,1,1,1]) (qS none (C [1]) (qf R))))
@[irreducible] def l29(R:VP)(k:Nat):T29:=λa b c d e w=>bg [0,10,13] (C [0,1,0,1,1,1,0,1,0,0]) (q29 R) k (fr ((.slice a b c::U 9 (.int .i64 d::U 2 (.int .i64 e::U 206 []))))) w
def e29(R:VP):T29:=λa b c d e w=>∃k,l29 R k a b c d e w
def q52(R:VP):QT:=(Exit.inBlock 4 (qS none (C [1,0,1,0,1,1,1]) (qS none (C [1,1]) (qf R))))
@[irreducible] def l52(R:VP)(k:Nat):T52:=λa b c d e f g w=>bg [0,2,4,14,15] (C [1,0,1,0,1,1,0,0,0]) (q52 R) k (fr ((.slice a b c::U 1 (.int .i64 d::U 1 (.func (.func 90) #[] #[.pointer (some e)]::U 9 (.int .i64 f::(.int .i64 g::U 204 []))))))) w
def e52(R:VP):T52:=λa b c d e f g w=>∃k,l52 R k a b c d e f g w
def q71(R:VP):QT:=(Exit.inBlock 6 (qS none (C [1,0,1,0,1,1,1,1]) (qS none (C [1,1]) (qf R))))
@[irreducible] def l71(R:VP)(k:Nat):T71:=λa b c d e w=>bg [0,14,17] (C [1,0,1,0,1,1,1,0,1,0,0]) (q71 R) k (fr ((.slice a b c::U 13 (.int .i64 d::U 2 (.int .i64 e::U 202 []))))) w
def e71(R:VP):T71:=λa b c d e w=>∃k,l71 R k a b c d e w
def FY(R:VP):Og:=λa b c d e f g h i j l w=>jT (some [0,1,2,3,4,18,19,20,21]) (C [1,1,1,1,1,1] (qf R)) (fr ((.slice a b c::(.int .i64 d::(.int .i64 e::(.int .i64 f::(.func (.func 90) #[] #[.pointer (some g)]::U 13 (.int .i64 h::(.int .i64 i::(.int .i64 j::(.int .i64 l::U 198 []))))))))))) w
def Ub(R:VP):QT:=(Exit.inBlock 8 (qS none (C [1,1,1,1,1,1,1,1]) (qf R)))
@[irreducible] def Ai(R:VP)(k:Nat):IW:=λa b c d e f g h i j l m w=>bg [0,1,2,3,4,18,19,20,21,22] (C [1,1,1,1,1,1,1,0,0,0]) (Ub R) k (fr ((.slice a b c::(.int .i64 d::(.int .i64 e::(.int .i64 f::(.func (.func 90) #[] #[.pointer (some g)]::U 13 (.int .i64 h::(.int .i64 i::(.int .i64 j::(.int .i64 l::(.int .i64 m::U 197 [])))))))))))) w
def Jh(R:VP):IW:=λa b c d e f g h i j l m w=>∃k,Ai R k a b c d e f g h i j l m w
def EM(R:VP):Oc:=λa b c d e f g h i w=>jT (some [0,1,3,4,18,20,24]) (C [1,1,1,1,1,1,1,1,1,1] (qf R)) (fr ((.slice a b c::(.int .i64 d::U 1 (.int .i64 e::(.func (.func 90) #[] #[.pointer (some f)]::U 13 (.int .i64 g::U 1 (.int .i64 h::U 3 (.int .i64 i::U 195 []))))))))) w
def zC(R:VP):Py:=λa b c d e f g w=>jT (some [0,3,4,18,24]) (C [1,1,1,1,1,1,1,1,1,1,1] (qf R)) (fr ((.slice a b c::U 2 (.int .i64 d::(.func (.func 90) #[] #[.pointer (some e)]::U 13 (.int .i64 f::U 5 (.int .i64 g::U 195 []))))))) w
theorem u29(R k a b c d e w):l29 R (k+1) a b c d e w=g29 R (l29 R k) a b c d e w:=ju
theorem u10(R k a b c d e f g w):l10 R (k+1) a b c d e f g w=g10 R (l10 R k) (e29 R) a b c d e f g w:=ju
theorem u71(R k a b c d e w):l71 R (k+1) a b c d e w=g71 R (l71 R k) a b c d e w:=ju
theorem u52(R k a b c d e f g w):l52 R (k+1) a b c d e f g w=g52 R (l52 R k) (e71 R) a b c d e f g w:=ju
def j133(R:VP):Py:=Uf R
theorem Xh(R:VP):zC R=λa b c d e f g w=>∀_:Nat->Value,Uf R a b c d e f g w:=by kernel_rfl
theorem Oq(R:VP):j133 R=zC R:=by
  rw[Xh];simp only[forall_const];unfold j133
  all_goals rfl
def j127(R:VP):Oc:=Us R (j133 R)
theorem Xq(R:VP):EM R=λa b c d e f g h i w=>∀_:Nat->Value,Us R (zC R) a b c d e f g h i w:=by kernel_rfl
theorem P9(R:VP):j127 R=EM R:=by
  rw[Xq];simp only[forall_const];unfold j127;rw[Oq R]
  all_goals rfl
theorem Yq(R k a b c d e f g h i j l m w):Ai R (k+1) a b c d e f g h i j l m w=Y4 R (Ai R k) (j127 R) a b c d e f g h i j l m w:=by rw[P9 R];exact ju (by kernel_rfl)
def j100(R:VP):Og:=Ua R (Jh R)
theorem Xb(R:VP):FY R=λa b c d e f g h i j l w=>∀_:Nat->Value,Ua R (Jh R) a b c d e f g h i j l w:=by kernel_rfl
theorem Nj(R:VP):j100 R=FY R:=by
  rw[Xb];simp only[forall_const];unfold j100
  all_goals rfl
end ik
def ik(R:VP):=ik.g0 R (ik.e10 R) (ik.e52 R) (ik.j100 R)
theorem ik.calls{R a b c d e f g w}(k:ik R a b c d e f g w):CA 110 #[.slice a b c,.int .i64 d,.int .i64 e,.int .i64 f,.func (.func 90) #[] #[.pointer (some g)]] w R:=cal (n:=ik.an) func110 rfl k (by unfold ik;rw[ik.Nj R];kernel_rfl)
namespace jy
def an:An:=(aR (aL (.mk (some [0,1,2,3,8]) (aR (aL (aL (aR (aL (.mk (some [0,1,2,3,8,9]) .nil .nil)))))) .nil)))
def qf(R:VP):QT:=fin prog f111 R
def C:=cdN prog f111 an
abbrev T3:=OA->Nat->Nat->Int->Int->Addr->Int->World->Prop
abbrev T15:=OA->Nat->Nat->Int->Int->Addr->Int->Int->World->Prop
def g0(R:VP)(e3:T3)(a:OA)(b c:Nat)(d e:Int)(f:Addr)(g:World):Prop:=inc d λh=>e3 a b c d e f h g
def g3(R:VP)(e15:T15)(a:OA)(b c:Nat)(d e:Int)(f:Addr)(g:Int)(h:World):Prop:=af (decide (g<e)) (e15 a b c d e f g g h) (R (.tuple #[]) h)
def g15(R:VP)(b3:T3)(b15:T15)(a:OA)(b c:Nat)(d e:Int)(f:Addr)(g h:Int)(i:World):Prop:=af (decide (h>d)) (ix a b h λj=>rU i (j.add (h.toNat*4)) λj k l m n o p q r s=>Q0q (h - 1) λt=>ix a b t λu=>rU i (u.add (t.toNat*4)) λt u v w x y z A B C=>CA 93 #[D6 j k l m n o p q r s,D6 t u v w x y z A B C,.pointer (some f)] i λj k=>∃l,j=.int .i64 l/\(af (decide (l<0)) (∃j:World,CK j k/\(Q0q (h - 1) λl=>Q0q (h - 1) λm=>ix a b m λn=>rU k (n.add (m.toNat*4)) λm n o p q r s t u v=>ix a b h λw=>rU k (w.add (h.toNat*4)) λw x y z A B C D E F=>ix a b h λG=>Es k (G.add (h.toNat*4)) m n o p q r s t u v λm=>CK j m/\(ix a b l λj=>Es m (j.add (l.toNat*4)) w x y z A B C D E F λj=>Q0q (h - 1) λh=>b15 a b c d e f g h j))) (inc g λh=>b3 a b c d e f h k))) (inc g λg=>b3 a b c d e f g i)
def q3(R:VP):QT:=(Exit.inBlock 0 (qf R))
@[irreducible] def l3(R:VP)(k:Nat):T3:=λa b c d e f g w=>bg [0,1,2,3,8] (C [1,0,0]) (q3 R) k (fr ((.slice a b c::(.int .i64 d::(.int .i64 e::(.func (.func 93) #[] #[.pointer (some f)]::U 4 (.int .i64 g::U 44 []))))))) w
def e3(R:VP):T3:=λa b c d e f g w=>∃k,l3 R k a b c d e f g w
def q15(R:VP)(k3:Nat):QT:=(Exit.inBlock 2 (Exit.inBlock 1 (qS none (C [1,0,0,1,1]) (qL [0,1,2,3,8] (C [1,0,0]) (q3 R) k3))))
def JB(R:VP)(k3 k:Nat):T15:=λa b c d e f g h w=>bg [0,1,2,3,8,9] (C [1,0,0,1,0,0,1,0,0]) (q15 R k3) k (fr ((.slice a b c::(.int .i64 d::(.int .i64 e::(.func (.func 93) #[] #[.pointer (some f)]::U 4 (.int .i64 g::(.int .i64 h::U 43 [])))))))) w
def U3(R:VP)(k3:Nat):T15:=λa b c d e f g h w=>∃k,JB R k3 k a b c d e f g h w
def l15(R:VP)(b3:T3):Nat->T15
 |0=>λ_ _ _ _ _ _ _ _ _=>False
 |k+1=>g15 R b3 (l15 R b3 k)
def e15(R:VP)(b3:T3):T15:=λa b c d e f g h w=>∃k,l15 R b3 k a b c d e f g h w
theorem s15(R:VP)(k3 k:Nat):JB R k3 (k+1)=λa b c d e f g h w=>∀_:Nat->Value,g15 R (l3 R k3) (JB R k3 k) a b c d e f g h w:=by kernel_rfl
theorem U0(R:VP)(k3:Nat)(b3:T3)(hb3:b3=l3 R k3):∀k,l15 R b3 k=JB R k3 k
 |0=>by kernel_rfl
 |k+1=>by
  rw[s15];simp only[forall_const];unfold l15;have ih:=U0 R k3 b3 hb3 k;subst hb3;rw[ih]
  all_goals rfl
theorem Yp(R:VP)(k3:Nat)(b3:T3)(hb3:b3=l3 R k3):e15 R b3=U3 R k3:=by
 unfold e15 U3;simp only[U0 R k3 b3 hb3]
theorem u3(R k a b c d e f g w):l3 R (k+1) a b c d e f g w=g3 R (e15 R (l3 R k)) a b c d e f g w:=by rw[Yp R k _ rfl];exact ju (by kernel_rfl)
end jy
def jy(R:VP):=jy.g0 R (jy.e3 R)
theorem jy.calls{R a b c d e f w}(k:jy R a b c d e f w):CA 111 #[.slice a b c,.int .i64 d,.int .i64 e,.func (.func 93) #[] #[.pointer (some f)]] w R:=cal (n:=jy.an) func111 rfl k
namespace fK
def an:An:=(.mk none (aR (aL (aR (aR (.mk none (aL (.mk (some [0,1,4,10,11]) .nil .nil)) (aL (aR (aL (.mk (some [0,10,13]) .nil .nil))))))))) (.mk none (aR (aL (aR (aR (.mk none (aL (.mk (some [0,2,4,14,15]) .nil .nil)) (aL (aR (aL (.mk (some [0,14,17]) .nil .nil))))))))) (aR (aR (aR (.mk (some [0,1,2,3,4,18,19,20,21]) .nil (aR (.mk none (aL (.mk (some [0,1,2,3,4,18,19,20,21,22]) .nil .nil)) (aR (.mk (some [0,1,3,4,18,20,24]) .nil (.mk (some [0,3,4,18,24]) .nil .nil)))))))))))
def qf(R:VP):QT:=fin prog f112 R
def C:=cdN prog f112 an
abbrev T10:=OA->Nat->Nat->Int->Addr->Int->Int->World->Prop
abbrev T29:=OA->Nat->Nat->Int->Int->World->Prop
abbrev T52:=OA->Nat->Nat->Int->Addr->Int->Int->World->Prop
abbrev T71:=OA->Nat->Nat->Int->Int->World->Prop
abbrev Og:=OA->Nat->Nat->Int->Int->Int->Addr->Int->Int->Int->Int->World->Prop
abbrev IW:=OA->Nat->Nat->Int->Int->Int->Addr->Int->Int->Int->Int->Int->World->Prop
abbrev Oc:=OA->Nat->Nat->Int->Int->Addr->Int->Int->Int->World->Prop
abbrev Py:=OA->Nat->Nat->Int->Addr->Int->Int->World->Prop
def g0(R:VP)(e10:T10)(e52:T52)(j100:Og)(a:OA)(b c:Nat)(d e f:Int)(g:Addr)(h:World):Prop:=Q0q (e - d) λi=>af (i==1) (e10 a b c d g e f h) (Q0q (f - e) λi=>af (i==1) (e52 a b c e g d e h) (Q0q (d+f) λi=>nv (IntKind.u64.wrap i) λi=>nv (Int.fdiv i (2 ^ 1)) λi=>Q0q (i) λi=>Q0q (i+e) λj=>af (decide (e>i)) (Q0q (j - f) λk=>j100 a b c d e f g i j k i h) (j100 a b c d e f g i j d e h)))
def g10(R:VP)(b10:T10)(e29:T29)(a:OA)(b c:Nat)(d:Int)(e:Addr)(f g:Int)(h:World):Prop:=af (decide (f<g)) (Q0q (f+g) λi=>nv (IntKind.u64.wrap i) λi=>nv (Int.fdiv i (2 ^ 1)) λi=>Q0q (i) λi=>ix a b i λj=>rU h (j.add (i.toNat*4)) λj k l m n o p q r s=>ix a b d λt=>rU h (t.add (d.toNat*4)) λt u v w x y z A B C=>CA 93 #[D6 j k l m n o p q r s,D6 t u v w x y z A B C,.pointer (some e)] h λj k=>∃l,j=.int .i64 l/\(af (decide (l<0)) (inc i λj=>b10 a b c d e j g k) (b10 a b c d e f i k))) (e29 a b c f d h)
def g29(R:VP)(b29:T29)(a:OA)(b c:Nat)(d e:Int)(f:World):Prop:=Q0q (d - 1) λg=>af (decide (e<g)) (∃g:World,CK g f/\(inc e λh=>inc e λi=>ix a b i λj=>rU f (j.add (i.toNat*4)) λi j k l m n o p q r=>ix a b e λs=>rU f (s.add (e.toNat*4)) λs t u v w x y z A B=>ix a b e λC=>Es f (C.add (e.toNat*4)) i j k l m n o p q r λi=>CK g i/\(ix a b h λg=>Es i (g.add (h.toNat*4)) s t u v w x y z A B λg=>inc e λe=>b29 a b c d e g))) (R (.tuple #[]) f)
def g52(R:VP)(b52:T52)(e71:T71)(a:OA)(b c:Nat)(d:Int)(e:Addr)(f g:Int)(h:World):Prop:=af (decide (f<g)) (Q0q (f+g) λi=>nv (IntKind.u64.wrap i) λi=>nv (Int.fdiv i (2 ^ 1)) λi=>Q0q (i) λi=>ix a b d λj=>rU h (j.add (d.toNat*4)) λj k l m n o p q r s=>ix a b i λt=>rU h (t.add (i.toNat*4)) λt u v w x y z A B C=>CA 93 #[D6 j k l m n o p q r s,D6 t u v w x y z A B C,.pointer (some e)] h λj k=>∃l,j=.int .i64 l/\(af (!(decide (l<0))) (inc i λj=>b52 a b c d e j g k) (b52 a b c d e f i k))) (e71 a b c f d h)
def g71(R:VP)(b71:T71)(a:OA)(b c:Nat)(d e:Int)(f:World):Prop:=af (decide (e>d)) (∃g:World,CK g f/\(Q0q (e - 1) λh=>Q0q (e - 1) λi=>ix a b i λj=>rU f (j.add (i.toNat*4)) λi j k l m n o p q r=>ix a b e λs=>rU f (s.add (e.toNat*4)) λs t u v w x y z A B=>ix a b e λC=>Es f (C.add (e.toNat*4)) i j k l m n o p q r λi=>CK g i/\(ix a b h λg=>Es i (g.add (h.toNat*4)) s t u v w x y z A B λg=>Q0q (e - 1) λe=>b71 a b c d e g))) (R (.tuple #[]) f)
def Ua(R:VP)(Jh:IW)(a:OA)(b c:Nat)(d e f:Int)(g:Addr)(h i j k:Int)(l:World):Prop :=
 nv (IntKind.i64.wrap (i - 1)) λm=>
 Jh a b c d e f g h i j k m l
def Y4(R:VP)(b104:IW)(j127:Oc)(a:OA)(b c:Nat)(d e f:Int)(g:Addr)(h i j k l:Int)(m:World):Prop :=
 af (decide (j<k))
 (nv (IntKind.i64.wrap (j+k)) λn=>
 nv (IntKind.u64.wrap n) λn=>
 nv (Int.fdiv n (2 ^ 1)) λn=>
 nv (IntKind.i64.wrap n) λn=>
 nv (IntKind.i64.wrap (l - n)) λo=>
 ix a b o λp=>
 rU m (p.add (o.toNat*4)) λo p q r s t u v w x=>
 ix a b n λy=>
 rU m (y.add (n.toNat*4)) λy z A B C D E F G H=>
 CA 93 #[D6 o p q r s t u v w x,D6 y z A B C D E F G H,.pointer (some g)] m λo p=>
 ∃q,o = .int .i64 q /\
 (af (!(decide (q<0)))
 (inc n λo=>
 b104 a b c d e f g h i o k l p)
 (b104 a b c d e f g h i j n l p)))
 (nv (IntKind.i64.wrap (i - j)) λi=>
 af (decide (j<e))
 (af (decide (e<i))
 (CA 117 #[.slice a b c,.int .i64 j,.int .i64 e,.int .i64 i,.func (.func 93) #[] #[.pointer (some g)]] m λe k=>
 e = .tuple #[] /\
 (j127 a b c d f g h j i k))
 (j127 a b c d f g h j i m))
 (j127 a b c d f g h j i m))
def Us(R:VP)(j133:Py)(a:OA)(b c:Nat)(d e:Int)(f:Addr)(g h i:Int)(j:World):Prop :=
 af (decide (d<h))
 (af (decide (h<g))
 (CA 112 #[.slice a b c,.int .i64 d,.int .i64 h,.int .i64 g,.func (.func 93) #[] #[.pointer (some f)]] j λd h=>
 d = .tuple #[] /\
 (j133 a b c e f g i h))
 (j133 a b c e f g i j))
 (j133 a b c e f g i j)
def Uf(R:VP)(a:OA)(b c:Nat)(d:Int)(e:Addr)(f g:Int)(h:World):Prop :=
 af (decide (f<g))
 (af (decide (g<d))
 (CA 112 #[.slice a b c,.int .i64 f,.int .i64 g,.int .i64 d,.func (.func 93) #[] #[.pointer (some e)]] h λa b=>
 a = .tuple #[] /\
 (R (.tuple #[]) b))
 (R (.tuple #[]) h))
 (R (.tuple #[]) h)
def q10(R:VP):QT:=(Exit.inBlock 0 (qS none (C [0,1,0,1,1,1]) (qS none (C [1]) (qf R))))
@[irreducible] def l10(R:VP)(k:Nat):T10:=λa b c d e f g w=>bg [0,1,4,10,11] (C [0,1,0,1,1,0,0,0]) (q10 R) k (fr ((.slice a b c::(.int .i64 d::U 2 (.func (.func 93) #[] #[.pointer (some e)]::U 5 (.int .i64 f::(.int .i64 g::U 208 []))))))) w
def e10(R:VP):T10:=λa b c d e f g w=>∃k,l10 R k a b c d e f g w
def q29(R:VP):QT:=(Exit.inBlock 2 (qS none (C [0,1,0,1,1,1,1]) (qS none (C [1]) (qf R))))
@[irreducible] def l29(R:VP)(k:Nat):T29:=λa b c d e w=>bg [0,10,13] (C [0,1,0,1,1,1,0,1,0,0]) (q29 R) k (fr ((.slice a b c::U 9 (.int .i64 d::U 2 (.int .i64 e::U 206 []))))) w
def e29(R:VP):T29:=λa b c d e w=>∃k,l29 R k a b c d e w
def q52(R:VP):QT:=(Exit.inBlock 4 (qS none (C [1,0,1,0,1,1,1]) (qS none (C [1,1]) (qf R))))
@[irreducible] def l52(R:VP)(k:Nat):T52:=λa b c d e f g w=>bg [0,2,4,14,15] (C [1,0,1,0,1,1,0,0,0]) (q52 R) k (fr ((.slice a b c::U 1 (.int .i64 d::U 1 (.func (.func 93) #[] #[.pointer (some e)]::U 9 (.int .i64 f::(.int .i64 g::U 204 []))))))) w
def e52(R:VP):T52:=λa b c d e f g w=>∃k,l52 R k a b c d e f g w
def q71(R:VP):QT:=(Exit.inBlock 6 (qS none (C [1,0,1,0,1,1,1,1]) (qS none (C [1,1]) (qf R))))
@[irreducible] def l71(R:VP)(k:Nat):T71:=λa b c d e w=>bg [0,14,17] (C [1,0,1,0,1,1,1,0,1,0,0]) (q71 R) k (fr ((.slice a b c::U 13 (.int .i64 d::U 2 (.int .i64 e::U 202 []))))) w
def e71(R:VP):T71:=λa b c d e w=>∃k,l71 R k a b c d e w
def FY(R:VP):Og:=λa b c d e f g h i j l w=>jT (some [0,1,2,3,4,18,19,20,21]) (C [1,1,1,1,1,1] (qf R)) (fr ((.slice a b c::(.int .i64 d::(.int .i64 e::(.int .i64 f::(.func (.func 93) #[] #[.pointer (some g)]::U 13 (.int .i64 h::(.int .i64 i::(.int .i64 j::(.int .i64 l::U 198 []))))))))))) w
def Ub(R:VP):QT:=(Exit.inBlock 8 (qS none (C [1,1,1,1,1,1,1,1]) (qf R)))
@[irreducible] def Ai(R:VP)(k:Nat):IW:=λa b c d e f g h i j l m w=>bg [0,1,2,3,4,18,19,20,21,22] (C [1,1,1,1,1,1,1,0,0,0]) (Ub R) k (fr ((.slice a b c::(.int .i64 d::(.int .i64 e::(.int .i64 f::(.func (.func 93) #[] #[.pointer (some g)]::U 13 (.int .i64 h::(.int .i64 i::(.int .i64 j::(.int .i64 l::(.int .i64 m::U 197 [])))))))))))) w
def Jh(R:VP):IW:=λa b c d e f g h i j l m w=>∃k,Ai R k a b c d e f g h i j l m w
def EM(R:VP):Oc:=λa b c d e f g h i w=>jT (some [0,1,3,4,18,20,24]) (C [1,1,1,1,1,1,1,1,1,1] (qf R)) (fr ((.slice a b c::(.int .i64 d::U 1 (.int .i64 e::(.func (.func 93) #[] #[.pointer (some f)]::U 13 (.int .i64 g::U 1 (.int .i64 h::U 3 (.int .i64 i::U 195 []))))))))) w
def zC(R:VP):Py:=λa b c d e f g w=>jT (some [0,3,4,18,24]) (C [1,1,1,1,1,1,1,1,1,1,1] (qf R)) (fr ((.slice a b c::U 2 (.int .i64 d::(.func (.func 93) #[] #[.pointer (some e)]::U 13 (.int .i64 f::U 5 (.int .i64 g::U 195 []))))))) w
theorem u29(R k a b c d e w):l29 R (k+1) a b c d e w=g29 R (l29 R k) a b c d e w:=ju
theorem u10(R k a b c d e f g w):l10 R (k+1) a b c d e f g w=g10 R (l10 R k) (e29 R) a b c d e f g w:=ju
theorem u71(R k a b c d e w):l71 R (k+1) a b c d e w=g71 R (l71 R k) a b c d e w:=ju
theorem u52(R k a b c d e f g w):l52 R (k+1) a b c d e f g w=g52 R (l52 R k) (e71 R) a b c d e f g w:=ju
def j133(R:VP):Py:=Uf R
theorem Xh(R:VP):zC R=λa b c d e f g w=>∀_:Nat->Value,Uf R a b c d e f g w:=by kernel_rfl
theorem Oq(R:VP):j133 R=zC R:=by
  rw[Xh];simp only[forall_const];unfold j133
  all_goals rfl
def j127(R:VP):Oc:=Us R (j133 R)
theorem Xq(R:VP):EM R=λa b c d e f g h i w=>∀_:Nat->Value,Us R (zC R) a b c d e f g h i w:=by kernel_rfl
theorem P9(R:VP):j127 R=EM R:=by
  rw[Xq];simp only[forall_const];unfold j127;rw[Oq R]
  all_goals rfl
theorem Yq(R k a b c d e f g h i j l m w):Ai R (k+1) a b c d e f g h i j l m w=Y4 R (Ai R k) (j127 R) a b c d e f g h i j l m w:=by rw[P9 R];exact ju (by kernel_rfl)
def j100(R:VP):Og:=Ua R (Jh R)
theorem Xb(R:VP):FY R=λa b c d e f g h i j l w=>∀_:Nat->Value,Ua R (Jh R) a b c d e f g h i j l w:=by kernel_rfl
theorem Nj(R:VP):j100 R=FY R:=by
  rw[Xb];simp only[forall_const];unfold j100
  all_goals rfl
end fK
def fK(R:VP):=fK.g0 R (fK.e10 R) (fK.e52 R) (fK.j100 R)
theorem fK.calls{R a b c d e f g w}(k:fK R a b c d e f g w):CA 112 #[.slice a b c,.int .i64 d,.int .i64 e,.int .i64 f,.func (.func 93) #[] #[.pointer (some g)]] w R:=cal (n:=fK.an) func112 rfl k (by unfold fK;rw[fK.Nj R];kernel_rfl)
namespace eH
def an:An:=An.nil
def g0(R:VP)(a:Nat)(b:World):Prop:=R (.bool (FloatKind.f64.format.order a a != some .eq)) b
end eH
def eH(R:VP):=eH.g0 R
theorem eH.calls{R a w}(k:eH R a w):CA 113 #[.float .f64 a] w R:=cal (n:=eH.an) func113 rfl k
namespace bT
def an:An:=(aR (aL (aR (aL (.mk (some [0,5,6,7]) .nil .nil)))))
def qf(R:VP):QT:=fin prog f114 R
def C:=cdN prog f114 an
abbrev T6:=OA->Nat->Nat->OA->Nat->Nat->Int->Int->World->Prop
def g0(R:VP)(e6:T6)(a:OA)(b c:Nat)(d:World):Prop:=e6 a b c a b c (b:Int) 0 d
def g6(R:VP)(b6:T6)(a:OA)(b c:Nat)(d:OA)(e f:Nat)(g h:Int)(i:World):Prop:=af (decide (h<g)) (ix d e h λj=>cI i (j.add (h.toNat*1)) .i64 λj=>af (decide (j<0)) (R (.bool false) i) (af (decide (j>=1024)) (R (.bool false) i) (af (decide (h>0)) (Q0q (h - 1) λk=>ix a b k λl=>cI i (l.add (k.toNat*1)) .i64 λk=>af (decide (j<=k)) (R (.bool false) i) (inc h λj=>b6 a b c d e f g j i)) (inc h λh=>b6 a b c d e f g h i)))) (R (.bool (decide ((b:Int)>0))) i)
def q6(R:VP):QT:=(Exit.inBlock 0 (qS none (C [1,1]) (qf R)))
@[irreducible] def l6(R:VP)(k:Nat):T6:=λa b c d e f g h w=>bg [0,5,6,7] (C [1,0,1,0,0]) (q6 R) k (fr ((.slice a b c::U 4 (.slice d e f::(.int .i64 g::(.int .i64 h::U 27 [])))))) w
def e6(R:VP):T6:=λa b c d e f g h w=>∃k,l6 R k a b c d e f g h w
theorem u6(R k a b c d e f g h w):l6 R (k+1) a b c d e f g h w=g6 R (l6 R k) a b c d e f g h w:=ju
end bT
def bT(R:VP):=bT.g0 R (bT.e6 R)
theorem bT.calls{R a b c w}(k:bT R a b c w):CA 114 #[.slice a b c] w R:=cal (n:=bT.an) func114 rfl k
namespace iZ
def an:An:=(aR (aR (aL (aL (.mk (some [0,2,4,10,11]) .nil .nil)))))
def qf(R:VP):QT:=fin prog f115 R
def C:=cdN prog f115 an
abbrev T6:=OA->Nat->Nat->Int->Int->Int->World->Prop
def g0(R:VP)(e6:T6)(a:OA)(b c:Nat)(d e f:Int)(g:World):Prop:=Q0q (e - d) λd=>Q0q (f - e) λf=>e6 a b c e d f g
def g6(R:VP)(b6:T6)(a:OA)(b c:Nat)(d e f:Int)(g:World):Prop:=af (e != f) (af (decide (e>f)) (Q0q (d - e) λh=>CA 118 #[.slice a b c,.int .i64 h,.int .i64 d,.int .i64 f,.func (.func 80) #[] #[]] g λh i=>h=.tuple #[]/\(Q0q (e - f) λh=>b6 a b c d h f i)) (Q0q (d - e) λh=>Q0q (d+f) λi=>Q0q (i - e) λi=>CA 118 #[.slice a b c,.int .i64 h,.int .i64 i,.int .i64 e,.func (.func 80) #[] #[]] g λh i=>h=.tuple #[]/\(Q0q (f - e) λf=>b6 a b c d e f i))) (Q0q (d - e) λf=>CA 118 #[.slice a b c,.int .i64 f,.int .i64 d,.int .i64 e,.func (.func 80) #[] #[]] g λa b=>a=.tuple #[]/\(R (.tuple #[]) b))
def q6(R:VP):QT:=(Exit.inBlock 0 (qS none (C [1,1,1]) (qf R)))
@[irreducible] def l6(R:VP)(k:Nat):T6:=λa b c d e f w=>bg [0,2,4,10,11] (C [1,1,0,0,0]) (q6 R) k (fr ((.slice a b c::U 1 (.int .i64 d::U 1 (.func (.func 80) #[] #[]::U 5 (.int .i64 e::(.int .i64 f::U 46 []))))))) w
def e6(R:VP):T6:=λa b c d e f w=>∃k,l6 R k a b c d e f w
theorem u6(R k a b c d e f w):l6 R (k+1) a b c d e f w=g6 R (l6 R k) a b c d e f w:=ju
end iZ
def iZ(R:VP):=iZ.g0 R (iZ.e6 R)
theorem iZ.calls{R a b c d e f w}(k:iZ R a b c d e f w):CA 115 #[.slice a b c,.int .i64 d,.int .i64 e,.int .i64 f,.func (.func 80) #[] #[]] w R:=cal (n:=iZ.an) func115 rfl k
namespace kY
def an:An:=(aR (aR (aL (aL (.mk (some [0,2,4,10,11]) .nil .nil)))))
def qf(R:VP):QT:=fin prog f116 R
def C:=cdN prog f116 an
abbrev T6:=OA->Nat->Nat->Int->Addr->Int->Int->World->Prop
def g0(R:VP)(e6:T6)(a:OA)(b c:Nat)(d e f:Int)(g:Addr)(h:World):Prop:=Q0q (e - d) λd=>Q0q (f - e) λf=>e6 a b c e g d f h
def g6(R:VP)(b6:T6)(a:OA)(b c:Nat)(d:Int)(e:Addr)(f g:Int)(h:World):Prop:=af (f != g) (af (decide (f>g)) (Q0q (d - f) λi=>CA 119 #[.slice a b c,.int .i64 i,.int .i64 d,.int .i64 g,.func (.func 90) #[] #[.pointer (some e)]] h λi j=>i=.tuple #[]/\(Q0q (f - g) λi=>b6 a b c d e i g j)) (Q0q (d - f) λi=>Q0q (d+g) λj=>Q0q (j - f) λj=>CA 119 #[.slice a b c,.int .i64 i,.int .i64 j,.int .i64 f,.func (.func 90) #[] #[.pointer (some e)]] h λi j=>i=.tuple #[]/\(Q0q (g - f) λg=>b6 a b c d e f g j))) (Q0q (d - f) λg=>CA 119 #[.slice a b c,.int .i64 g,.int .i64 d,.int .i64 f,.func (.func 90) #[] #[.pointer (some e)]] h λa b=>a=.tuple #[]/\(R (.tuple #[]) b))
def q6(R:VP):QT:=(Exit.inBlock 0 (qS none (C [1,1,1]) (qf R)))
@[irreducible] def l6(R:VP)(k:Nat):T6:=λa b c d e f g w=>bg [0,2,4,10,11] (C [1,1,0,0,0]) (q6 R) k (fr ((.slice a b c::U 1 (.int .i64 d::U 1 (.func (.func 90) #[] #[.pointer (some e)]::U 5 (.int .i64 f::(.int .i64 g::U 46 []))))))) w
def e6(R:VP):T6:=λa b c d e f g w=>∃k,l6 R k a b c d e f g w
theorem u6(R k a b c d e f g w):l6 R (k+1) a b c d e f g w=g6 R (l6 R k) a b c d e f g w:=ju
end kY
def kY(R:VP):=kY.g0 R (kY.e6 R)
theorem kY.calls{R a b c d e f g w}(k:kY R a b c d e f g w):CA 116 #[.slice a b c,.int .i64 d,.int .i64 e,.int .i64 f,.func (.func 90) #[] #[.pointer (some g)]] w R:=cal (n:=kY.an) func116 rfl k
namespace jA
def an:An:=(aR (aR (aL (aL (.mk (some [0,2,4,10,11]) .nil .nil)))))
def qf(R:VP):QT:=fin prog f117 R
def C:=cdN prog f117 an
abbrev T6:=OA->Nat->Nat->Int->Addr->Int->Int->World->Prop
def g0(R:VP)(e6:T6)(a:OA)(b c:Nat)(d e f:Int)(g:Addr)(h:World):Prop:=Q0q (e - d) λd=>Q0q (f - e) λf=>e6 a b c e g d f h
def g6(R:VP)(b6:T6)(a:OA)(b c:Nat)(d:Int)(e:Addr)(f g:Int)(h:World):Prop:=af (f != g) (af (decide (f>g)) (Q0q (d - f) λi=>CA 120 #[.slice a b c,.int .i64 i,.int .i64 d,.int .i64 g,.func (.func 93) #[] #[.pointer (some e)]] h λi j=>i=.tuple #[]/\(Q0q (f - g) λi=>b6 a b c d e i g j)) (Q0q (d - f) λi=>Q0q (d+g) λj=>Q0q (j - f) λj=>CA 120 #[.slice a b c,.int .i64 i,.int .i64 j,.int .i64 f,.func (.func 93) #[] #[.pointer (some e)]] h λi j=>i=.tuple #[]/\(Q0q (g - f) λg=>b6 a b c d e f g j))) (Q0q (d - f) λg=>CA 120 #[.slice a b c,.int .i64 g,.int .i64 d,.int .i64 f,.func (.func 93) #[] #[.pointer (some e)]] h λa b=>a=.tuple #[]/\(R (.tuple #[]) b))
def q6(R:VP):QT:=(Exit.inBlock 0 (qS none (C [1,1,1]) (qf R)))
@[irreducible] def l6(R:VP)(k:Nat):T6:=λa b c d e f g w=>bg [0,2,4,10,11] (C [1,1,0,0,0]) (q6 R) k (fr ((.slice a b c::U 1 (.int .i64 d::U 1 (.func (.func 93) #[] #[.pointer (some e)]::U 5 (.int .i64 f::(.int .i64 g::U 46 []))))))) w
def e6(R:VP):T6:=λa b c d e f g w=>∃k,l6 R k a b c d e f g w
theorem u6(R k a b c d e f g w):l6 R (k+1) a b c d e f g w=g6 R (l6 R k) a b c d e f g w:=ju
end jA
def jA(R:VP):=jA.g0 R (jA.e6 R)
theorem jA.calls{R a b c d e f g w}(k:jA R a b c d e f g w):CA 117 #[.slice a b c,.int .i64 d,.int .i64 e,.int .i64 f,.func (.func 93) #[] #[.pointer (some g)]] w R:=cal (n:=jA.an) func117 rfl k
namespace jg
def an:An:=(aR (aL (.mk (some [0,1,2,3,10]) .nil .nil)))
def qf(R:VP):QT:=fin prog f118 R
def C:=cdN prog f118 an
abbrev T3:=OA->Nat->Nat->Int->Int->Int->Int->World->Prop
def g0(R:VP)(e3:T3)(a:OA)(b c:Nat)(d e f:Int)(g:World):Prop:=e3 a b c d e f 0 g
def g3(R:VP)(b3:T3)(a:OA)(b c:Nat)(d e f g:Int)(h:World):Prop:=af (decide (g<f)) (∃i:World,CK i h/\(Q0q (d+g) λj=>Q0q (e+g) λk=>Q0q (e+g) λl=>ix a b l λm=>mf h (m.add (l.toNat*10)) λl m n o p q r s t u v w=>Q0q (d+g) λx=>ix a b x λy=>mf h (y.add (x.toNat*10)) λx y z A B C D E F G H I=>ix a b j λJ=>ug h (J.add (j.toNat*10)) l m n o p q r s t u v w λj=>CK i j/\(ix a b k λi=>ug j (i.add (k.toNat*10)) x y z A B C D E F G H I λi=>inc g λg=>b3 a b c d e f g i))) (R (.tuple #[]) h)
def q3(R:VP):QT:=(Exit.inBlock 0 (qf R))
@[irreducible] def l3(R:VP)(k:Nat):T3:=λa b c d e f g w=>bg [0,1,2,3,10] (C [1,0,0]) (q3 R) k (fr ((.slice a b c::(.int .i64 d::(.int .i64 e::(.int .i64 f::U 6 (.int .i64 g::U 27 []))))))) w
def e3(R:VP):T3:=λa b c d e f g w=>∃k,l3 R k a b c d e f g w
theorem u3(R k a b c d e f g w):l3 R (k+1) a b c d e f g w=g3 R (l3 R k) a b c d e f g w:=ju
end jg
def jg(R:VP):=jg.g0 R (jg.e3 R)
theorem jg.calls{R a b c d e f w}(k:jg R a b c d e f w):CA 118 #[.slice a b c,.int .i64 d,.int .i64 e,.int .i64 f,.func (.func 80) #[] #[]] w R:=cal (n:=jg.an) func118 rfl k
namespace lL
def an:An:=(aR (aL (.mk (some [0,1,2,3,10]) .nil .nil)))
def qf(R:VP):QT:=fin prog f119 R
def C:=cdN prog f119 an
abbrev T3:=OA->Nat->Nat->Int->Int->Int->Int->World->Prop
def g0(R:VP)(e3:T3)(a:OA)(b c:Nat)(d e f:Int)(g:Addr)(h:World):Prop:=e3 a b c d e f 0 h
def g3(R:VP)(b3:T3)(a:OA)(b c:Nat)(d e f g:Int)(h:World):Prop:=af (decide (g<f)) (∃i:World,CK i h/\(Q0q (d+g) λj=>Q0q (e+g) λk=>Q0q (e+g) λl=>ix a b l λm=>nK h (m.add (l.toNat*5)) λl m n o p q r=>Q0q (d+g) λs=>ix a b s λt=>nK h (t.add (s.toNat*5)) λs t u v w x y=>ix a b j λz=>xZ h (z.add (j.toNat*5)) l m n o p q r λj=>CK i j/\(ix a b k λi=>xZ j (i.add (k.toNat*5)) s t u v w x y λi=>inc g λg=>b3 a b c d e f g i))) (R (.tuple #[]) h)
def q3(R:VP):QT:=(Exit.inBlock 0 (qf R))
@[irreducible] def l3(R:VP)(k:Nat):T3:=λa b c d e f g w=>bg [0,1,2,3,10] (C [1,0,0]) (q3 R) k (fr ((.slice a b c::(.int .i64 d::(.int .i64 e::(.int .i64 f::U 6 (.int .i64 g::U 27 []))))))) w
def e3(R:VP):T3:=λa b c d e f g w=>∃k,l3 R k a b c d e f g w
theorem u3(R k a b c d e f g w):l3 R (k+1) a b c d e f g w=g3 R (l3 R k) a b c d e f g w:=ju
end lL
def lL(R:VP):=lL.g0 R (lL.e3 R)
theorem lL.calls{R a b c d e f g w}(k:lL R a b c d e f g w):CA 119 #[.slice a b c,.int .i64 d,.int .i64 e,.int .i64 f,.func (.func 90) #[] #[.pointer (some g)]] w R:=cal (n:=lL.an) func119 rfl k
namespace jS
def an:An:=(aR (aL (.mk (some [0,1,2,3,10]) .nil .nil)))
def qf(R:VP):QT:=fin prog f120 R
def C:=cdN prog f120 an
abbrev T3:=OA->Nat->Nat->Int->Int->Int->Int->World->Prop
def g0(R:VP)(e3:T3)(a:OA)(b c:Nat)(d e f:Int)(g:Addr)(h:World):Prop:=e3 a b c d e f 0 h
def g3(R:VP)(b3:T3)(a:OA)(b c:Nat)(d e f g:Int)(h:World):Prop:=af (decide (g<f)) (∃i:World,CK i h/\(Q0q (d+g) λj=>Q0q (e+g) λk=>Q0q (e+g) λl=>ix a b l λm=>rU h (m.add (l.toNat*4)) λl m n o p q r s t u=>Q0q (d+g) λv=>ix a b v λw=>rU h (w.add (v.toNat*4)) λv w x y z A B C D E=>ix a b j λF=>Es h (F.add (j.toNat*4)) l m n o p q r s t u λj=>CK i j/\(ix a b k λi=>Es j (i.add (k.toNat*4)) v w x y z A B C D E λi=>inc g λg=>b3 a b c d e f g i))) (R (.tuple #[]) h)
def q3(R:VP):QT:=(Exit.inBlock 0 (qf R))
@[irreducible] def l3(R:VP)(k:Nat):T3:=λa b c d e f g w=>bg [0,1,2,3,10] (C [1,0,0]) (q3 R) k (fr ((.slice a b c::(.int .i64 d::(.int .i64 e::(.int .i64 f::U 6 (.int .i64 g::U 27 []))))))) w
def e3(R:VP):T3:=λa b c d e f g w=>∃k,l3 R k a b c d e f g w
theorem u3(R k a b c d e f g w):l3 R (k+1) a b c d e f g w=g3 R (l3 R k) a b c d e f g w:=ju
end jS
def jS(R:VP):=jS.g0 R (jS.e3 R)
theorem jS.calls{R a b c d e f g w}(k:jS R a b c d e f g w):CA 120 #[.slice a b c,.int .i64 d,.int .i64 e,.int .i64 f,.func (.func 93) #[] #[.pointer (some g)]] w R:=cal (n:=jS.an) func120 rfl k
end Go.Mir
