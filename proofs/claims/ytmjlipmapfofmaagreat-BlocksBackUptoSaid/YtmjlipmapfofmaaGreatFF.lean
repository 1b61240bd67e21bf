/- Part of a proof; no conditions. -/
import Derived.Test.YtmjlipmapfofmaaGreatFE
set_option linter.unusedVariables false
set_option linter.unusedSimpArgs false
set_option linter.unusedSectionVars false
set_option maxRecDepth 100000
open Go.Proofs.Tryz (prog)
namespace Go.Mir
open Go Go.E Go.RowKit Go.Tr Go.Ss Go.ChangeShapes
section
end
section
end
noncomputable def inn(t:TD):Int:=((dA t.nodes true).length:Int)
section
variable{w x:World}{a:OA}{n c g:Nat}{F:Nat->Prop}{p:Addr}{f:fC}
theorem atF{α:Type}{k e:Nat}{en:α->List Value}{xs:List α}(hl:∀x,(en x).length=k)(hk0:0<k)(h:aK k en e w a n c xs g){i:Int}{x:α}{K:Addr->Prop}(h0:0<=i)(hi:i<n)(hx:xs[i.toNat]?=some x)
  (hk:∀p,a=some p->AtL w (p.add (i.toNat*k)) (en x)->K p):ix a n i K:=by
 obtain⟨p,hp,hc⟩:=(h.slk hl hk0).get i.toNat x hx;rw[hp];exact dK ⟨h0,hi⟩ (hk p hp λj v hj=>by rw[add_add];exact hc j v hj)
theorem Jv{α:Type}{l:List α}{i:Nat}{x:α}(h:l[i]?=some x):l.set i x=l:=by
 obtain⟨hlt,rfl⟩:=za1.1 h;exact List.set_getElem_self hlt
theorem S53:fV prog 72 tC' 5 56:=sliceT (by kernel_rfl)
theorem lsC{l:List CD}(h:aK 5 nJ tC' w a n c l g)(hF:∀b,b+1=g->F b)(hc:∀x∈l,LsI F w x.2.a x.2.n x.2.c x.1.aT):Ls tC F w a n c (l.map (·.1)) :=
 aK.lsK (T:=tC) (k:=5) (en:=nJ) (f:=λx=>x.1) (λ_=>rfl) (by omega) rfl h hF λx hx=>⟨_,rfl,hc x hx⟩
end
section
variable{w u x:World}{a:OA}{n c g:Nat}{F F' S:Nat->Prop}{f:fC}{t:SH}
abbrev LD:=dL×(SH×SH×SH)
abbrev Na(x:LD):List Value:=enL x.1 x.2.1 x.2.2.1 x.2.2.2
theorem JJ(x:LD):∀v∈Na x,v.oneCell'=true:=by
 intro v hv;simp only[Na,enL,zb3,zf9,or_false]at hv
 rcases hv with h | h | h | h <;> subst h <;> rfl
theorem S54:fV prog 64 tL' 4 80:=sliceT (by kernel_rfl)
structure rX(F:Nat->Prop)(w:World)(x:LD):Prop where
 a:Ls tC F w x.2.1.a x.2.1.n x.2.1.c x.1.numbers
 b:Ls tC F w x.2.2.1.a x.2.2.1.n x.2.2.1.c x.1.aT
 c:Ls tC F w x.2.2.2.a x.2.2.2.n x.2.2.2.c x.1.lost
theorem rX.mod{x:LD}(h:rX F w x)(hm:Mod S w u)(hn:∀b,F b->¬ S b):rX F u x:=⟨h.a.mod hm hn,h.b.mod hm hn,h.c.mod hm hn⟩
theorem rX.kept{x:LD}(h:rX F w x)(hk:Kept w u):rX F u x:=⟨h.a.kept hk,h.b.kept hk,h.c.kept hk⟩
theorem rX.mono{x:LD}(h:rX F w x)(hF:∀b,F b->F' b):rX F' w x:=⟨h.a.mono hF,h.b.mono hF,h.c.mono hF⟩
theorem lsL{l:List LD}(h:aK 4 Na tL' w a n c l g)(hF:∀b,b+1=g->F b)(hc:∀x∈l,rX F w x):Ls tL F w a n c (l.map (·.1)) :=
 aK.lsK (T:=tL) (k:=4) (en:=Na) (f:=λx=>x.1) (λ_=>rfl) (by omega) rfl h hF λx hx=>⟨_,_,_,rfl,(hc x hx).a,(hc x hx).b,(hc x hx).c⟩
theorem lsV{l:List VD}(h:aK 1 H7 tV' w a n c l g)(hF:∀b,b+1=g->F b)(hc:∀x∈l,LsI F w x.2.a x.2.n x.2.c x.1):Ls (vJ .i64).sl F w a n c (l.map (·.1)) :=
 aK.lsK (T:=(vJ .i64).sl) (k:=1) (en:=H7) (f:=λx=>x.1) (λ_=>rfl) (by omega) rfl h hF λx hx=>⟨_,_,_,rfl,hc x hx⟩
theorem jw.kept'{b:kJ}{s1 s2 s3 s4:SH}(h:jw F w b s1 s2 s3 s4)(hk:Kept w u):jw F u b s1 s2 s3 s4:=⟨h.l.kept hk,h.v.kept hk,h.o.kept hk,h.t.kept hk⟩
end
section
variable{w u:World}{a:OA}{n c B:Nat}
def Kq(B:Nat)(u:World)(ys:List cZ)(v:Value):Prop:=∃a n c,v = .slice a n c/\Ls tC (λb=>B<=b/\b<u.heap.size) u a n c ys
theorem Kq.kept{ys:List cZ}{v:Value}(h:Kq B w ys v)(hk:Kept w u):Kq B u ys v:=by
 obtain⟨a,n,c,h1,h2⟩:=h;exact⟨a,n,c,h1,(h2.kept hk).mono λb hb=>⟨hb.1,by have:=hb.2;have:=hk.size;omega⟩⟩
end
section
end
section
variable{w u wB x:World}{a:OA}{n c g:Nat}{F F' S:Nat->Prop}{f:fC}{s t:SH}
abbrev CpA(wB:World)(f:fC):VP:=λv u=>∃s k:SH,v=vF f s k/\pR (nwB wB u) u f s k/\Kept wB u
abbrev BIn(F:Nat->Prop)(w:World)(x:BD):Prop:=jw F w x.1 x.2.1 x.2.2.1 x.2.2.2.1 x.2.2.2.2
theorem BIn.mod{x:BD}(h:BIn F w x)(hm:Mod S w u)(hn:∀b,F b->¬ S b):BIn F u x:=⟨h.l.mod hm hn,h.v.mod hm hn,h.o.mod hm hn,h.t.mod hm hn⟩
theorem BIn.mono{x:BD}(h:BIn F w x)(hF:∀b,F b->F' b):BIn F' w x:=⟨h.l.mono hF,h.v.mono hF,h.o.mono hF,h.t.mono hF⟩
theorem lsB{l:List BD}(h:aK 5 Fb tB' w a n c l g)(hF:∀b,b+1=g->F b)(hc:∀x∈l,BIn F w x):Ls tB F w a n c (l.map (·.1)) :=
 aK.lsK (T:=tB) (k:=5) (en:=Fb) (f:=λx=>x.1) (λ_=>rfl) (by omega) rfl h hF λx hx=>⟨_,_,_,_,rfl,(hc x hx).l,(hc x hx).v,(hc x hx).o,(hc x hx).t⟩
end
section
end
section
variable{w u x:World}{a a1:OA}{n c n1 c1 g m:Nat}{F:Nat->Prop}{B:Nat}{R:VP}
abbrev OwC(B g:Nat)(w:World)(x:CD):Prop:=LsI (λb=>B<=b/\b<w.heap.size/\b+1≠g) w x.2.a x.2.n x.2.c x.1.aT
structure a02(B:Nat)(w:World)(a:OA)(n c:Nat)(xs:List cZ)(g:Nat):Prop where
 row:∃l:List CD,aK 5 nJ tC' w a n c l g/\l.map (·.1)=xs/\∀x∈l,OwC B g w x
 gB:g=0\/B<g
theorem a02.ls{xs:List cZ}(h:a02 B w a n c xs g):Ls tC (λb=>B<=b/\b<w.heap.size) w a n c xs:=by
 obtain⟨l,h1,h2,h3⟩:=h.row;have:=h.gB;rw[<- h2];exact lsC h1 (λb hb=>⟨by omega,by have:=Row.le h1;omega⟩) λx hx=>(h3 x hx).mono λb hb=>⟨hb.1,hb.2.1⟩
theorem S59:fV prog 53 tI' 1 8:=sliceT (by kernel_rfl)
theorem UI{xs:List cZ}(hs:Ls tC F w a1 n1 c1 xs)(hF:∀b,F b->b<w.heap.size)(hm:nz xs):∀(k i:Nat) (u:World) (a:OA) (n c g:Nat),i+k=n1->n=i->Kept w u->a02 w.heap.size u a n c (xs.take i) g ->
  aI.l8 (λv u=>∃a' n' c',v = .slice a' n' c'/\Ls tC (nwB w u) u a' n' c' xs/\Kept w u) (k+1) a n c a1 n1 c1 n1 i u:=by
 intro k;have hl:=hs.len;have hmx:xs.length<=1073741824:=hm.1
 induction k with
 |zero=>
  intro i u a n c g hi hni hk h;obtain rfl:i=n1:=by omega
  rw[aI.u8];unfold aI.g8;refine aA (by omega) ?_;have:=h.ls;rw[zb1 (by omega)]at this;exact⟨a,n,c,rfl,this,hk⟩
 |succ k ih=>
  intro i u a n c g hi hni hk h;rw[aI.u8];unfold aI.g8;refine aH (by omega) ?_;refine(hs.kept hk).rdC (by omega) (by omega) λx a' n' c' hx hcs=>?_;rw[za3]at hx;have hsm:x.aT.length<=1048576:=hm.2 x (za0 hx);refine boxS (zs:=(oG 0 none 0 0 0 0 0).toList) (vs:=enC x ⟨a',n',c'⟩) rfl λu1 hA hb1 hk1=>?_;have hcl:=hcs.len;have hz:=hk.size;have hz1:=hk1.size;have hb1l:=hb1.lt;refine⟨_,_,_,hA 1 _ rfl,?_⟩;refine Arr.pushes S59 (Arr.nil enI tI' u1) (λ_=>rfl) (hcs.kept hk1).sl (by simp only[maxLen];omega) (by omega) λa2 c2 g2 u2 r2 hg2 ho2=>⟨a2,_,c2,rfl,?_⟩;rw[zc9,zd1]at r2;have hk2:Kept u1 u2:=Mod.kept ho2 λk hk h=>by have h':k+1=0:=h;omega
  have hb2:=hb1.keep hk2;have hlt:=hb2.lt;have bs:=hb2.set 1 (.slice a2 (0+n') c2);have os:=zg5 u2 u.heap.size 1 (.slice a2 (0+n') c2);have e1:(((na u:Addr).add 1).add 0)=⟨u.heap.size,1,none⟩:=by rw[gK,addr_add]
  show st u2 (((na u).add 1).add 0) _ _;rw[e1];refine⟨hb2.ok (by simp),bZ ?_⟩;generalize u2.setCell ⟨u.heap.size,1,none⟩ (.slice a2 (0+n') c2)=u3 at bs os;have hA3:AtL u3 (na u) (enC x ⟨a2,0+n',c2⟩):=by simpa using AtL.blk (b:=u) bs
  obtain⟨l,q1,q2,q3⟩:=h.row;have hgB:=h.gB;have hgl:=Row.le q1;have hz2:=hk2.size;have hz3:=os.size;have no:∀k,k+1=g->¬ (k+1=u.heap.size+1):=λk h1 h2=>by omega
  have q1':aK 5 nJ tC' u3 a n c l g:=aK.mod (aK.kept q1 (zg1 hk1 hk2)) os no;refine hA3.ldC ?_;refine aK.pY (P:=prog) (k:=5) (en:=nJ) (ys:=[(x,⟨a2,0+n',c2⟩)]) (m:=1) S53 (λ_=>rfl) (by omega) q1' yI rfl rfl (by omega) (by simp only[maxLen];omega) (by omega) λa5 c5 g5 u5 r5 hg5 _ ho5=>⟨a5,n+1,c5,rfl,aC (by omega) ?_⟩;have hz5:=ho5.size;have r2le:=r2.le;have hku5:Kept w u5:=by
   have h1:From w.heap.size w u3:=From.then (Kept.mod (zg1 hk (zg1 hk1 hk2))) os λk _ hk=>by have hk':k+1=u.heap.size+1:=hk;omega
   exact zg4 (From.then h1 ho5 λk _ hk=>by have hk':k+1=g:=hk;omega)
  refine ih (i+1) u5 a5 (n+1) c5 g5 (by omega) (by omega) hku5 ⟨⟨l++[(x,⟨a2,0+n',c2⟩)],r5,?_,λy hy=>?_⟩,by omega⟩
  .rw[zb8,q2,List.take_add_one,hx];rfl
  .rcases zb2.1 hy with hy | hy
   .have h1:=(q3 y hy).kept (zg1 hk1 hk2);have h2:=h1.mod os λb hb hk=>by have hk':b+1=u.heap.size+1:=hk;have:=hb.2.1;omega
    have key:∀b,(w.heap.size<=b/\b<u.heap.size/\b+1≠g)->(w.heap.size<=b/\b<u5.heap.size/\b+1≠g5):=λb ⟨k1,k2,k3⟩=>⟨k1,by omega,by rcases hg5 with e | e <;> omega⟩;exact(h2.mod ho5 λb hb hk=>hb.2.2 hk).mono key
   .obtain rfl:y=_:=by simpa using hy
    have h1:=(Arr.ls (h1:=λ_=>rfl) r2).mod os λb hb hk=>by have hb':b+1=g2:=hb;have hk':b+1=u.heap.size+1:=hk;rcases hg2 with e | e <;> omega
    have h2:LsI (λb=>b+1=g2) u5 a2 n' c2 x.aT:=h1.mod ho5 λb hb hk=>by have hb':b+1=g2:=hb;have hk':b+1=g:=hk;rcases hg2 with e | e <;> omega
    exact h2.mono λb hb=>⟨by rcases hg2 with e | e <;> omega,by omega,by rcases hg2 with e | e <;> rcases hg5 with e' | e' <;> omega⟩
theorem Qh{xs:List cZ}(hs:Ls tC F w a1 n1 c1 xs)(hF:∀b,F b->b<w.heap.size)(hm:nz xs):E.CallsD prog 37 #[.slice a1 n1 c1] w λv u=>∃a' n' c',v = .slice a' n' c'/\Ls tC (nwB w u) u a' n' c' xs/\Kept w u:=by
 refine aI.calls (R:=λv u=>∃a' n' c',v = .slice a' n' c'/\Ls tC (nwB w u) u a' n' c' xs/\Kept w u) ?_;unfold aI aI.g0;exact za4 (n1+1) (UI hs hF hm n1 0 w none 0 0 0 (by omega) rfl (Kept.refl _) ⟨⟨[],aK.nil _ _ _ _,rfl,λ_ h=>by cases h⟩,.inl rfl⟩)
end
end Go.Mir
