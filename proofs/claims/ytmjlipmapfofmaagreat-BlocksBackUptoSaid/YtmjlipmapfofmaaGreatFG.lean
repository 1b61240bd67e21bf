/- Part of a proof; no conditions. -/
import Derived.Test.YtmjlipmapfofmaaGreatFF
import Derived.Test.YtmjlipmapfofmaaGreatKA
set_option linter.unusedVariables false
set_option linter.unusedSimpArgs false
set_option linter.unusedSectionVars false
set_option maxRecDepth 100000
open Go.Proofs.Tryz (prog)
namespace Go.Mir
open Go Go.E Go.RowKit Go.Tr Go.Ss Go.ChangeShapes
section
variable{w w0 u x:World}{a:OA}{n c g m:Nat}{F S:Nat->Prop}{B:Nat}{R:VP}
abbrev Bx(pb B:Nat):Nat->Prop:=λb=>b=pb\/B<=b
theorem Ei{pb B:Nat}(h:Mod (Bx pb B) w0 w)(hk:Kept w u):Mod (Bx pb B) w0 u:=zg2 h (Kept.mod (S:=λ_=>False) hk) (λ_ _ h=>h) (λ_ _ h=>h.elim)
theorem Oz{pb B:Nat}(h:Mod (Bx pb B) w0 w)(hg:g=0\/B<g)(ho:Only g w u):Mod (Bx pb B) w0 u:=zg2 h ho (λ_ _ h=>h) (λb _ h=>by have h':b+1=g:=h;show b=pb\/B<=b;omega)
theorem JA{pb B:Nat}(h:Mod (Bx pb B) w0 w)(ho:Only (pb+1) w u):Mod (Bx pb B) w0 u:=zg2 h ho (λ_ _ h=>h) (λb _ h=>by have h':b+1=pb+1:=h;show b=pb\/B<=b;omega)
theorem stB{pb j e:Nat}{cs:Array Value}{v:Value}{K:zg6}(hb:Blk w pb cs e)(hj:j<cs.size)(hk:∀u,Blk u pb (cs.setIfInBounds j v) e->Only (pb+1) w u->K u):st w (((⟨pb,0,none⟩:Addr).add j).add 0) v K:=by
 rw[addr_add,addr_add,zd1,zd2];exact⟨hb.ok hj,bZ (hk _ (hb.set j v) (zg5 w pb j v))⟩
theorem atB{pb e:Nat}{cs:List Value}(hb:Blk w pb cs.toArray e):AtL w (⟨pb,0,none⟩:Addr) cs:=λj v hj=>by rw[addr_add,zd1,hb.cell];simpa using hj
theorem Hm{b10:az.T10}{kz kout:OA}{kb kc:Nat}{aB:OA}{nB cB:Nat}{xn xi:Int}{x:kJ}{z1 z2 z3 z4 s1 s3:SH}(hbk:Blk w0 kb (mG x z1 z2 z3 z4).toArray tB')(hne:kb≠kc)(hv:Ls (vJ .i64).sl F w0 z2.a z2.n z2.c x.values)(hF:∀b,F b->b<w0.heap.size/\b≠kc)(hm:z2.n<=1048576)(hvs:∀v∈x.values,v.length<=1048576)
  (hc0:kc<w0.heap.size)
  (hend:∀u s2 gv (vl:List VD),Mod (Bx kc w0.heap.size) w0 u->Blk u kc (mG x s1 s2 s3 ⟨none,0,0⟩).toArray tB'->aK 1 H7 tV' u s2.a s2.n s2.c vl gv->(gv=0\/w0.heap.size<gv)->vl.map (·.1)=x.values->(∀y∈vl,LsI (λb=>w0.heap.size<=b/\b<u.heap.size/\b+1≠gv) u y.2.a y.2.n y.2.c y.1)->az.e50 R b10 kz kout (some ⟨kc,0,none⟩) aB nB cB xn xi z4.a z4.n z4.c (z4.n:Int) 0 u) :
  ∀(k i:Nat) (w:World) (s2:SH) (gv:Nat) (vl:List VD),i+k=z2.n->s2.n=i->Mod (Bx kc w0.heap.size) w0 w->Blk w kc (mG x s1 s2 s3 ⟨none,0,0⟩).toArray tB'->aK 1 H7 tV' w s2.a s2.n s2.c vl gv->(gv=0\/w0.heap.size<gv)->vl.map (·.1)=x.values.take i->(∀y∈vl,LsI (λb=>w0.heap.size<=b/\b<w.heap.size/\b+1≠gv) w y.2.a y.2.n y.2.c y.1) ->
   az.l31 R b10 (k+1) kz kout (some ⟨kb,0,none⟩) (some ⟨kc,0,none⟩) aB nB cB xn xi z2.a z2.n z2.c z2.n i w:=by
 intro k;have hvl:=hv.len;have hlb:=hbk.lt
 induction k with
 |zero=>
  intro i w s2 gv vl hi hs hw hb hA hg hl hx;obtain rfl:i=z2.n:=by omega
  have hbw:=hbk.mod hw (λh=>by rcases h with h | h <;> omega);unfold az.l31 az.g31;refine aA (by omega) ?_;refine⟨_,_,_,(atB hbw) 4 _ rfl,hend w s2 gv vl hw hb hA hg ?_ hx⟩;rw[hl,zb1 (by omega)]
 |succ k ih=>
  intro i w s2 gv vl hi hs hw hb hA hg hl hx;have hln:=aK.len (k:=1) (en:=H7) (λ_=>rfl) (by omega) hA;have hsz:=hw.size;have hgl:=Row.le hA;have hvw:=hv.mod hw (λb hb h=>by have:=hF b hb;rcases h with h | h <;> omega);unfold az.l31 az.g31;refine aH (by omega) ?_;refine hvw.RQ (by omega) (by omega) λy a' n' c' hy hys=>?_;rw[za3]at hy;have hyl:=hys.len;have hym:=hvs y (za0 hy);have hkc:kc+1≠gv:=by omega
  refine⟨uG s2.a w,pU hA (Mod.refl _),s2.a,s2.n,s2.c,Ag hA (by rw[add_block];exact hkc) ((atB hb) 2 _ rfl),?_⟩;refine Arr.pushes Y2 (Arr.nil enI t64 w) (λ_=>rfl) hys.sl (by simp only[maxLen];omega) (by omega) λa2 c2 g2 w2 r2 hg2 ho2=>⟨a2,_,c2,rfl,?_⟩;rw[zc9]at r2;have hk2:Kept w w2:=Mod.kept ho2 λk hk h=>by have h':k+1=0:=h;omega
  have hz2:=hk2.size;refine⟨pU hA (Kept.mod hk2),?_⟩;have hA2:=aK.kept hA hk2;refine bZ ⟨?_,?_⟩
  .exact pU hA (Kept.mod (zg1 hk2 (zg3 w2 _)))
  refine aK.pY (P:=prog) (k:=1) (en:=H7) (ys:=[(y,⟨a2,0+n',c2⟩)]) (m:=1) a0A (λ_=>rfl) (by omega) hA2 IY rfl rfl (by omega) (by simp only[maxLen];omega) (by omega) λa3 c3 g3 w3 r3 hg3 _ ho3=>?_;refine⟨a3,s2.n+1,c3,rfl,pU hA (zg2 (S:=λk=>k+1=gv) (Kept.mod hk2) ho3 zg7 zg7),?_⟩;have hz3:=ho3.size;have hb3:=(hb.keep hk2).mod ho3 (λhk=>by have hk':kc+1=gv:=hk;omega);refine stB hb3 (by simp) λw4 hb4 ho4=>aC (by omega) ?_;have hz4:=ho4.size;have hb4':Blk w4 kc (mG x s1 ⟨a3,s2.n+1,c3⟩ s3 ⟨none,0,0⟩).toArray tB':=hb4;have r2le:=r2.le;have hkcw:kc<w.heap.size:=by omega
  have r4:aK 1 H7 tV' w4 a3 (s2.n+1) c3 (vl++[(y,⟨a2,0+n',c2⟩)]) g3:=aK.mod r3 ho4 (λb hb hk=>by have hk':b+1=kc+1:=hk;rcases hg3 with e | e <;> omega);refine ih (i+1) w4 ⟨a3,s2.n+1,c3⟩ g3 (vl++[(y,⟨a2,0+n',c2⟩)]) (by omega) (by show s2.n+1=i+1;omega) (JA (Oz (Ei hw hk2) hg ho3) ho4) hb4' r4 (by omega) ?_ λz hz=>?_
  .rw[zb8,hl,List.take_add_one,hy];rfl
  .rcases zb2.1 hz with hz | hz
   .have key:∀b,(w0.heap.size<=b/\b<w.heap.size/\b+1≠gv)->(w0.heap.size<=b/\b<w4.heap.size/\b+1≠g3):=λb ⟨k1,k2,k3⟩=>⟨k1,by omega,by rcases hg3 with e | e <;> omega⟩;exact((((hx z hz).kept hk2).mod ho3 λb hb hk=>hb.2.2 hk).mod ho4 λb hb hk=>by have hk':b+1=kc+1:=hk;have:=hb.1;omega).mono key
   .obtain rfl:z=_:=by simpa using hz
    have h1:LsI (λb=>b+1=g2) w4 a2 (0+n') c2 y:=((Arr.ls (h1:=λ_=>rfl) r2).mod ho3 λb hb hk=>by have hb':b+1=g2:=hb;have hk':b+1=gv:=hk;omega).mod ho4 λb hb hk=>by have hb':b+1=g2:=hb;have hk':b+1=kc+1:=hk;omega
    rw[zd1]at h1;exact h1.mono λb hb=>⟨by omega,by omega,by rcases hg3 with e | e <;> omega⟩
end
section
variable{w w0 u w1 x:World}{a a1:OA}{n c n1 c1 m:Nat}{F:Nat->Prop}{p q:Addr}{B:Nat}{R:VP}{s t:SH}
def FR3(B:Nat)(y:dL):Nat->Value->World->Prop:=λi v u=>match i with
 |6=>Kq B u y.numbers v
 |9=>Kq B u y.aT v
 |12=>Kq B u y.lost v
 |_=>∃(p:Addr) (s1 s2 s3:SH),v = .slice (some p) 1 1/\AtL u p (enL y s1 s2 s3)/\rX (λb=>B<=b/\b<u.heap.size) u (y,s1,s2,s3)
theorem FR3.keep{B:Nat}{y:dL}(i:Nat)(v:Value)(u u':World)(h:FR3 B y i v u)(hk:Below u.heap.size u u'):FR3 B y i v u':=by
 unfold FR3 at h ⊢;split at h
 .exact Kq.kept h hk
 .exact Kq.kept h hk
 .exact Kq.kept h hk
 .obtain⟨p,s1,s2,s3,h1,h2,h3⟩:=h;exact⟨p,s1,s2,s3,h1,h2.kept hk,(h3.kept hk).mono λb hb=>⟨hb.1,by have:=hb.2;have:=hk.size;omega⟩⟩
set_option maxHeartbeats 1000000 in
theorem GZ{b10:az.T10}{kz kout:OA}{kc:Nat}{aB:OA}{nB cB:Nat}{xn xi:Int}{x:kJ}{z4 s1 s2 s3:SH}(hv:Ls tL F w0 z4.a z4.n z4.c x.lists)(hF:∀b,F b->b<w0.heap.size/\b≠kc)(hm:z4.n<=1073741824)(hvs:∀l∈x.lists,l.sm)(hc0:kc<w0.heap.size)
  (hend:∀u s4 gl (ll:List LD),Mod (Bx kc w0.heap.size) w0 u->Blk u kc (mG x s1 s2 s3 s4).toArray tB'->aK 4 Na tL' u s4.a s4.n s4.c ll gl->(gl=0\/w0.heap.size<gl)->ll.map (·.1)=x.lists->(∀y∈ll,rX (λb=>w0.heap.size<=b/\b<u.heap.size/\b+1≠gl) u y) ->
   aV kout λi=>cL u (i.add 3) λi j k=>EH u ⟨kc,0,none⟩ λc l m o p q r s t y v w x'=>nw (u.alloc (.cells (nD c l m o p q r s t y v w x') 66)) λc=>dC prog (Builtin.append_ #[29,29] 29 #[.slice i j k,.slice (some (na u)) 1 1]) c λc i=>∃j k l,c = .slice j k l/\(aV kout λc=>st i ((c.add 3).add 0) (.slice j k l) λc=>inc xi λh=>b10 kz kout aB nB cB xn h c)) :
  ∀(k i:Nat) (w:World) (s4:SH) (gl:Nat) (ll:List LD),i+k=z4.n->s4.n=i->Mod (Bx kc w0.heap.size) w0 w->Blk w kc (mG x s1 s2 s3 s4).toArray tB'->aK 4 Na tL' w s4.a s4.n s4.c ll gl->(gl=0\/w0.heap.size<gl)->ll.map (·.1)=x.lists.take i->(∀y∈ll,rX (λb=>w0.heap.size<=b/\b<w.heap.size/\b+1≠gl) w y) ->
   az.l50 R b10 (k+1) kz kout (some ⟨kc,0,none⟩) aB nB cB xn xi z4.a z4.n z4.c z4.n i w:=by
 intro k;have hvl:=hv.len
 induction k with
 |zero=>
  intro i w s4 gl ll hi hs hw hb hA hg hl hx;obtain rfl:i=z4.n:=by omega
  unfold az.l50 az.g50;refine aA (by omega) ?_;exact hend w s4 gl ll hw hb hA hg (by rw[hl,zb1 (by omega)]) hx
 |succ k ih=>
  intro i w s4 gl ll hi hs hw hb hA hg hl hx;have hln:=aK.len (k:=4) (en:=Na) (λ_=>rfl) (by omega) hA;have hsz:=hw.size;have hgl:=Row.le hA;have hvw:=hv.mod hw (λb hb h=>by have:=hF b hb;rcases h with h | h <;> omega);unfold az.l50 az.g50;refine aH (by omega) ?_;refine hvw.rdL (by omega) (by omega) λy b1 m1 d1 b2 m2 d2 b3 m3 d3 hy ha hb' hc=>?_;rw[za3]at hy;have hysm:=hvs y (za0 hy);refine boxS (zs:=(uf 0 none 0 0 none 0 0 none 0 0).toList) (vs:=enL y ⟨b1,m1,d1⟩ ⟨b2,m2,d2⟩ ⟨b3,m3,d3⟩) rfl λw1 hA1 hb1 hk1=>?_;have hz1:=hk1.size;have hFo:∀ {o:World},Kept w1 o->∀b,F b->b<o.heap.size:=λho b hb=>by have:=(hF b hb).1;have:=ho.size;omega
  have cc:∀ {xs:List cZ} {aa:OA} {nn cc':Nat} (_:Ls tC F w aa nn cc' xs) (_:nz xs) (j:Nat),(∀v u,Kq w1.heap.size u xs v->FR3 w1.heap.size y j v u)->∀o,Kept w1 o->E.CallsD prog 37 #[.slice aa nn cc'] o λv u=>∃n p q,v = .slice n p q/\FR3 w1.heap.size y j (.slice n p q) u/\Below o.heap.size o u:=λhL hs j hj o ho=>by
   refine zg0 (Qh ((hL.kept hk1).kept ho) (hFo ho) hs) λv u ⟨a',n',c',hv,hN,hk⟩=>⟨a',n',c',hv,hj _ _ ⟨a',n',c',rfl,hN.mono λb hb=>⟨by have:=hb.1;have:=ho.size;omega,hb.2⟩⟩,hk⟩
  refine⟨FR3 w1.heap.size y,FR3.keep,_,_,_,(atB (hb.keep hk1)) 4 _ rfl,_,hA1 0 _ rfl,?_⟩;refine⟨_,_,_,hA1 1 _ rfl,cc ha hysm.1 6 (λv u h=>h),λa1 n1 c1 _=>?_⟩;refine⟨_,_,_,hA1 2 _ rfl,λo ho _=>cc hb' hysm.2.1 9 (λv u h=>h) o ho,λa2 n2 c2 _=>?_⟩;refine⟨_,_,_,hA1 3 _ rfl,λo ho _ _=>cc hc hysm.2.2 12 (λv u h=>h) o ho,λa3 n3 c3 _=>?_⟩;have inj:∀ {a a':OA} {n n' c c':Nat},Value.slice a n c = .slice a' n' c'->a=a'/\n=n'/\c=c':=λh=>by simpa using h
  refine⟨λD hD h6 h9 h12=>?_,λt ht=>?_⟩
  .obtain⟨_,_,_,e1,k1⟩:=(show Kq w1.heap.size D y.numbers (.slice a1 n1 c1) from h6);obtain⟨_,_,_,e2,k2⟩:=(show Kq w1.heap.size D y.aT (.slice a2 n2 c2) from h9);obtain⟨_,_,_,e3,k3⟩:=(show Kq w1.heap.size D y.lost (.slice a3 n3 c3) from h12);obtain⟨rfl,rfl,rfl⟩:=inj e1;obtain⟨rfl,rfl,rfl⟩:=inj e2;obtain⟨rfl,rfl,rfl⟩:=inj e3;have hkn:=zg3 D (.cells (enL y ⟨a1,n1,c1⟩ ⟨a2,n2,c2⟩ ⟨a3,n3,c3⟩).toArray tL');have hzn:=hkn.size;refine⟨na D,⟨a1,n1,c1⟩,⟨a2,n2,c2⟩,⟨a3,n3,c3⟩,rfl,AtL.new D (enL y ⟨a1,n1,c1⟩ ⟨a2,n2,c2⟩ ⟨a3,n3,c3⟩) tL',?_⟩;have hmo:∀b,(w1.heap.size<=b/\b<D.heap.size)->(w1.heap.size<=b/\b<(D.alloc (.cells (enL y ⟨a1,n1,c1⟩ ⟨a2,n2,c2⟩ ⟨a3,n3,c3⟩).toArray tL')).heap.size):=λb hb=>⟨hb.1,by omega⟩;exact⟨(k1.kept hkn).mono hmo,(k2.kept hkn).mono hmo,(k3.kept hkn).mono hmo⟩
  .intro D hD h6 h9 h12 h14;obtain⟨pt,q1,q2,q3,e,hAt,hLst⟩:=(show∃(p:Addr) (s1 s2 s3:SH),Value.slice (some t) 1 1 = .slice (some p) 1 1/\AtL D p (enL y s1 s2 s3)/\rX (λb=>w1.heap.size<=b/\b<D.heap.size) D (y,s1,s2,s3) from h14);obtain rfl:t=pt:=by simpa using e
   have hkD:=zg1 hk1 hD;have hzD:=hD.size;have hbl:=hb1.lt;refine aK.mY (P:=prog) (k:=4) (en:=Na) S54 (λ_=>rfl) (by omega) (aK.kept hA hkD) (x:=(y,q1,q2,q3)) hAt (JJ _) (by simp only[maxLen];omega) (by omega) λa5 c5 g5 w5 r5 hg5 _ ho5=>⟨a5,s4.n+1,c5,rfl,?_⟩;have hz5:=ho5.size;have hb5:=(hb.keep hkD).mod ho5 (λhk=>by have hk':kc+1=gl:=hk;omega);refine stB hb5 (by simp) λw6 hb6 ho6=>aC (by omega) ?_;have hz6:=ho6.size;have hb6':Blk w6 kc (mG x s1 s2 s3 ⟨a5,s4.n+1,c5⟩).toArray tB':=hb6;have r6:aK 4 Na tL' w6 a5 (s4.n+1) c5 (ll++[(y,q1,q2,q3)]) g5:=aK.mod r5 ho6 (λb hb hk=>by have hk':b+1=kc+1:=hk;rcases hg5 with e | e <;> omega);refine ih (i+1) w6 ⟨a5,s4.n+1,c5⟩ g5 (ll++[(y,q1,q2,q3)]) (by omega) (by show s4.n+1=i+1;omega) (JA (Oz (Ei hw hkD) hg ho5) ho6) hb6' r6 (by omega) ?_ λz hz=>?_
   .rw[zb8,hl,List.take_add_one,hy];rfl
   .rcases zb2.1 hz with hz | hz
    .have key:∀b,(w0.heap.size<=b/\b<w.heap.size/\b+1≠gl)->(w0.heap.size<=b/\b<w6.heap.size/\b+1≠g5):=λb ⟨k1,k2,k3⟩=>⟨k1,by omega,by rcases hg5 with e | e <;> omega⟩;exact((((hx z hz).kept hkD).mod ho5 λb hb hk=>hb.2.2 hk).mod ho6 λb hb hk=>by have hk':b+1=kc+1:=hk;have:=hb.1;omega).mono key
    .obtain rfl:z=_:=by simpa using hz
     exact((hLst.mod ho5 λb hb hk=>by have hk':b+1=gl:=hk;have:=hb.1;omega).mod ho6 λb hb hk=>by have hk':b+1=kc+1:=hk;have:=hb.1;omega).mono λb hb=>⟨by have:=hb.1;omega,by have:=hb.2;omega,by have h1:=hb.1;have h2:=hb.2;rcases hg5 with e | e <;> omega⟩
end
section
variable{w w0 u w1 wB x:World}{a a4:OA}{n c c4 g m:Nat}{F F' S:Nat->Prop}{R:VP}{f:fC}{s t:SH}
set_option maxHeartbeats 4000000 in
theorem H9{W0:World}{kz kout gb:Nat}{sb:SH}(hF:∀b,F b->b<wB.heap.size)(hfm:From wB.heap.size wB W0)(hbs:Ls tB F W0 t.a t.n t.c f.blocks)(hbz:Blk W0 kz #[.int .i64 0,.int .i64 0,.slice none 0 0,.slice none 0 0] jb)(hne:kz≠kout)(hkz:wB.heap.size<=kz)(hko:wB.heap.size<=kout)(hko':kout<W0.heap.size)
  (hba:Arr enI t64 W0 sb.a sb.n sb.c f.base gb) (hgb:gb=0\/wB.heap.size<gb) (hgo:gb≠kout+1) (hgz:gb≠kz+1) (hsm:f.sm) :
  ∀(k i:Nat) (w:World) (sB:SH) (g:Nat) (l:List BD),i+k=t.n->sB.n=i->Mod (Bx kout W0.heap.size) W0 w->Blk w kout (jo f sb sB).toArray jb->aK 5 Fb tB' w sB.a sB.n sB.c l g->(g=0\/W0.heap.size<g)->l.map (·.1)=f.blocks.take i->(∀y∈l,BIn (λb=>W0.heap.size<=b/\b<w.heap.size/\b+1≠g) w y) ->
   az.l10 (CpA wB f) (k+1) (some ⟨kz,0,none⟩) (some ⟨kout,0,none⟩) t.a t.n t.c t.n i w:=by
 have hB0:=hfm.size;intro k;have hbl:=hbs.len;have hlz:=hbz.lt;have hgl0:=hba.le
 induction k with
 |zero=>
  intro i w sB g l hi hs hw hb hA hg hl hx;obtain rfl:i=t.n:=by omega
  have hsz:=hw.size;have bz:=hbz.mod hw (λh=>by rcases h with h | h <;> omega);have ba:=hba.mod hw (λk hk h=>by rcases h with h | h <;> omega);have hAf:=atB hb;rw[az.u10];unfold az.g10;refine aA (by omega) ?_;refine⟨_,hAf 0 _ rfl,_,hAf 1 _ rfl,sb.a,sb.n,sb.c,hAf 2 _ rfl,sB.a,sB.n,sB.c,hAf 3 _ rfl,?_⟩;refine wrA (e:=jb) (b:=kz) (vs:=jo f sb sB) (zs:=[.int .i64 0,.int .i64 0,.slice none 0 0,.slice none 0 0]) bz rfl λu hb' ho=>?_;have hAz:=atB hb';refine⟨_,hAz 0 _ rfl,_,hAz 1 _ rfl,sb.a,sb.n,sb.c,hAz 2 _ rfl,sB.a,sB.n,sB.c,hAz 3 _ rfl,sb,sB,rfl,?_,?_⟩
  .have hzo:=ho.size;have hgle:=Row.le hA;refine⟨?_,?_⟩
   .refine((Arr.ls (h1:=λ_=>rfl) ba).mod ho λb hb hk=>by have hk':b+1=kz+1:=hk;have hb':b+1=gb:=hb;omega).mono λb hb=>⟨by omega,by omega⟩
   .have e1:l.map (·.1)=f.blocks:=by rw[hl,zb1 (by omega)]
    rw[<- e1];exact((lsB (F:=λb=>W0.heap.size<=b/\b<w.heap.size) hA (λb hb=>⟨by omega,by omega⟩) λy hy=>(hx y hy).mono λb hb=>⟨hb.1,hb.2.1⟩).mod ho λb hb hk=>by have hk':b+1=kz+1:=hk;omega).mono λb hb=>⟨by omega,by omega⟩
  .have h1:From wB.heap.size wB w:=zg2 (S:=λk=>wB.heap.size<=k) hfm hw (λ_ _ h=>h) (λk hk hk2=>by rcases hk2 with hk2 | hk2 <;> (show wB.heap.size<=k;omega));exact zg4 (From.then h1 ho λk _ hk=>by have hk':k+1=kz+1:=hk;omega)
 |succ k ih=>
  intro i w sB g l hi hs hw hb hA hg hl hx;have hln:=aK.len (k:=5) (en:=Fb) (λ_=>rfl) (by omega) hA;have hsz:=hw.size;have hgl:=Row.le hA;have hml:f.blocks.length<=1048576:=hsm.2.1;have hvw:Ls tB F w t.a t.n t.c f.blocks:=hbs.mod hw (λb hb h=>by have:=hF b hb;rcases h with h | h <;> omega);rw[az.u10];unfold az.g10;refine aH (by omega) ?_;refine hvw.rdB (by omega) (by omega) λx b1 m1 d1 b2 m2 d2 b3 m3 d3 b4 m4 d4 hy h1 h2 h3 h4=>?_;rw[za3]at hy;have hxsm:x.sm:=hsm.2.2 x (za0 hy);obtain⟨q1,q2,q3,q4,q5,q6⟩:=hxsm;have e1:=h1.len;have e2:=h2.len;have e3:=h3.len;have e4:=h4.len;refine boxS (zs:=(nD 0 none 0 0 none 0 0 none 0 0 none 0 0).toList) (vs:=mG x ⟨b1,m1,d1⟩ ⟨b2,m2,d2⟩ ⟨b3,m3,d3⟩ ⟨b4,m4,d4⟩) rfl λw1 hA1 hb1 hk1=>?_;have hz1:=hk1.size;refine⟨_,hA1 0 _ rfl,?_⟩;refine boxS (zs:=(nD 0 none 0 0 none 0 0 none 0 0 none 0 0).toList) (vs:=mG x ⟨none,0,0⟩ ⟨none,0,0⟩ ⟨none,0,0⟩ ⟨none,0,0⟩) rfl λw2 hA2 hb2 hk2=>?_;have hz2:=hk2.size;have hl1:=hb1.lt;have hl2:=hb2.lt;have k12:=zg1 hk1 hk2;have hb12:=hb1.keep hk2;refine⟨none,0,0,hA2 1 _ rfl,b1,m1,d1,atB hb12 1 _ rfl,?_⟩;refine Arr.pushes Yw (Arr.nil enI tI' w2) (λ_=>rfl) (h1.kept k12).sl (by simp only[maxLen];omega) (by omega) λa3 c3 g3 w3 r3 hg3 ho3=>⟨a3,_,c3,rfl,?_⟩;rw[zc9]at r3;have hk3:Kept w2 w3:=Mod.kept ho3 λk hk h=>by have h':k+1=0:=h;omega
  have hz3:=hk3.size;have hg3':g3=0\/w2.heap.size<g3:=by omega
  refine stB (hb2.keep hk3) (by simp) λw4 hb4 ho4=>?_;have hb4':Blk w4 w1.heap.size (mG x ⟨a3,0+m1,c3⟩ ⟨none,0,0⟩ ⟨none,0,0⟩ ⟨none,0,0⟩).toArray tB':=hb4;have hz4:=ho4.size;have hb14:=(hb12.keep hk3).mod ho4 (λh=>by have h':w.heap.size+1=w1.heap.size+1:=h;omega);have hr3:=r3.le;have r3':=r3.mod ho4 (λk hk h=>by have h':k+1=w1.heap.size+1:=h;omega);have fr4:From w.heap.size w w4:=From.then (Kept.mod (zg1 k12 hk3)) ho4 λk _ h=>by have h':k+1=w1.heap.size+1:=h;omega
  refine⟨none,0,0,atB hb4' 3 _ rfl,b3,m3,d3,atB hb14 3 _ rfl,?_⟩;have hFw:∀b,F b->b<w.heap.size:=λb hb=>by have:=hF b hb;omega
  refine Arr.pushes Yw (Arr.nil enI tI' w4) (λ_=>rfl) (From.ls h3 fr4 hFw).sl (by simp only[maxLen];omega) (by omega) λa5 c5 g5 w5 r5 hg5 ho5=>⟨a5,_,c5,rfl,?_⟩;rw[zc9]at r5;have hk5:Kept w4 w5:=Mod.kept ho5 λk hk h=>by have h':k+1=0:=h;omega
  have hz5:=hk5.size;have hg5':g5=0\/w4.heap.size<g5:=by omega
  refine stB (hb4'.keep hk5) (by simp) λw6 hb6 ho6=>?_;have hb6':Blk w6 w1.heap.size (mG x ⟨a3,0+m1,c3⟩ ⟨none,0,0⟩ ⟨a5,0+m3,c5⟩ ⟨none,0,0⟩).toArray tB':=hb6;have hz6:=ho6.size;have hr5:=r5.le;have hb16:=(hb14.keep hk5).mod ho6 (λh=>by have h':w.heap.size+1=w1.heap.size+1:=h;omega);have r36:=(r3'.kept hk5).mod ho6 (λk hk h=>by have h':k+1=w1.heap.size+1:=h;omega);have r56:=r5.mod ho6 (λk hk h=>by have h':k+1=w1.heap.size+1:=h;omega);have fr6:From w.heap.size w w6:=From.then (From.aG fr4 hk5) ho6 λk _ h=>by have h':k+1=w1.heap.size+1:=h;omega
  refine⟨b2,m2,d2,atB hb16 2 _ rfl,?_⟩;refine za4 (m2+1) (Hm (R:=CpA wB f) (w0:=w6) (F:=F) (x:=x) (z1:=⟨b1,m1,d1⟩) (z2:=⟨b2,m2,d2⟩) (z3:=⟨b3,m3,d3⟩) (z4:=⟨b4,m4,d4⟩) (s1:=⟨a3,0+m1,c3⟩) (s3:=⟨a5,0+m3,c5⟩) (kb:=w.heap.size) (kc:=w1.heap.size) hb16 (by omega) (From.ls h2 fr6 hFw) (λb hb=>by have:=hFw b hb;omega) (by show m2<=_;omega) q3 (by omega) (λu s2 gv vl hmu hbu hvu hgv hvm hvs=>?_) m2 0 w6 ⟨none,0,0⟩ 0 [] (by show 0+m2=m2;omega) rfl (Mod.refl _) hb6' (aK.nil _ _ _ _) (.inl rfl) rfl (λy hy=>by cases hy));have hzu:=hmu.size;have fru:From w.heap.size w u:=zg2 (S:=λk=>w.heap.size<=k) fr6 hmu (λ_ _ h=>h) (λk hk hk2=>by rcases hk2 with hk2 | hk2 <;> (show w.heap.size<=k;omega));refine za4 (m4+1) (GZ (R:=CpA wB f) (w0:=u) (F:=F) (x:=x) (z4:=⟨b4,m4,d4⟩) (s1:=⟨a3,0+m1,c3⟩) (s2:=s2) (s3:=⟨a5,0+m3,c5⟩) (kc:=w1.heap.size) (From.ls h4 fru hFw) (λb hb=>by have:=hFw b hb;omega) (by show m4<=_;omega) q6 (by omega) (λx2 s4 gl ll hm2 hb2' hl2 hgl2 hlm hls=>?_) m4 0 u ⟨none,0,0⟩ 0 [] (by show 0+m4=m4;omega) rfl (Mod.refl _) hbu (aK.nil _ _ _ _) (.inl rfl) rfl (λy hy=>by cases hy));have hzx:=hm2.size;have fr2:From w.heap.size w x2:=zg2 (S:=λk=>w.heap.size<=k) fru hm2 (λ_ _ h=>h) (λk hk hk2=>by rcases hk2 with hk2 | hk2 <;> (show w.heap.size<=k;omega));have kx:Kept w x2:=zg4 fr2;have hbo:=hb.keep kx;have hAx:=aK.kept hA kx;have hAc:=atB hb2';refine⟨sB.a,sB.n,sB.c,atB hbo 3 _ rfl,?_⟩;refine hAc.ldB ?_;have hkbo:=hb.lt;refine aK.pY (P:=prog) (k:=5) (en:=Fb) (ys:=[(x,⟨a3,0+m1,c3⟩,s2,⟨a5,0+m3,c5⟩,s4)]) (m:=1) ZN (λ_=>rfl) (by omega) hAx Eo rfl rfl (by omega) (by simp only[maxLen];omega) (by omega) λa7 c7 g7 w7 r7 hg7 _ ho7=>?_;refine⟨a7,sB.n+1,c7,rfl,?_⟩;have hz7:=ho7.size;have hb7:=hbo.mod ho7 (λhk=>by have hk':kout+1=g:=hk;omega);refine stB hb7 (by simp) λw8 hb8 ho8=>aC (by omega) ?_;have hz8:=ho8.size;have hb8':Blk w8 kout (jo f sb ⟨a7,sB.n+1,c7⟩).toArray jb:=hb8;have r8:aK 5 Fb tB' w8 a7 (sB.n+1) c7 (l++[(x,⟨a3,0+m1,c3⟩,s2,⟨a5,0+m3,c5⟩,s4)]) g7:=aK.mod r7 ho8 (λb hb hk=>by have hk':b+1=kout+1:=hk;rcases hg7 with e | e <;> omega);refine ih (i+1) w8 ⟨a7,sB.n+1,c7⟩ g7 (l++[(x,⟨a3,0+m1,c3⟩,s2,⟨a5,0+m3,c5⟩,s4)]) (by omega) (by show sB.n+1=i+1;omega) (JA (Oz (Ei hw kx) hg ho7) ho8) hb8' r8 (by omega) ?_ λz hz=>?_
  .rw[zb8,hl,List.take_add_one,hy];rfl
  .rcases zb2.1 hz with hz | hz
   .have key:∀b,(W0.heap.size<=b/\b<w.heap.size/\b+1≠g)->(W0.heap.size<=b/\b<w8.heap.size/\b+1≠g7):=λb ⟨k1,k2,k3⟩=>⟨k1,by omega,by rcases hg7 with e | e <;> omega⟩;have hB:BIn (λb=>W0.heap.size<=b/\b<w.heap.size/\b+1≠g) x2 z:=jw.kept' (hx z hz) kx;exact((hB.mod ho7 λb hb hk=>hb.2.2 hk).mod ho8 λb hb hk=>by have hk':b+1=kout+1:=hk;have:=hb.1;omega).mono key
   .obtain rfl:=zd0.1 hz;have hB:BIn (λb=>w2.heap.size<=b/\b<x2.heap.size) x2 (x,⟨a3,0+m1,c3⟩,s2,⟨a5,0+m3,c5⟩,s4):=by
     refine⟨?_,?_,?_,?_⟩
     .have:=(Arr.ls (h1:=λ_=>rfl) ((r36.mod hmu (λk hk h=>by rcases h with h | h <;> omega)).mod hm2 (λk hk h=>by rcases h with h | h <;> omega))).mono (F':=λb=>w2.heap.size<=b/\b<x2.heap.size) λb hb=>⟨by omega,by omega⟩;exact this
     .have hvx:aK 1 H7 tV' x2 s2.a s2.n s2.c vl gv:=aK.mod hvu hm2 (λk hk h=>by have:=Row.le hvu;rcases h with h | h <;> omega);have hvl:=Row.le hvu;have:=lsV (F:=λb=>w2.heap.size<=b/\b<x2.heap.size) hvx (λb hb=>⟨by omega,by omega⟩) λy hy=>((hvs y hy).mod hm2 λb hb hk=>by have:=hb.1;have:=hb.2.1;rcases hk with hk | hk <;> omega).mono λb hb=>⟨by have:=hb.1;omega,by have:=hb.2.1;omega⟩;rw[hvm]at this;exact this
     .have:=(Arr.ls (h1:=λ_=>rfl) ((r56.mod hmu (λk hk h=>by rcases h with h | h <;> omega)).mod hm2 (λk hk h=>by rcases h with h | h <;> omega))).mono (F':=λb=>w2.heap.size<=b/\b<x2.heap.size) λb hb=>⟨by omega,by omega⟩;exact this
     .have hll:=Row.le hl2;have:=lsL (F:=λb=>w2.heap.size<=b/\b<x2.heap.size) hl2 (λb hb=>⟨by omega,by omega⟩) λy hy=>(hls y hy).mono λb hb=>⟨by have:=hb.1;omega,by have:=hb.2.1;omega⟩;rw[hlm]at this;exact this
    exact((hB.mod ho7 λb hb hk=>by have hk':b+1=g:=hk;have:=hb.1;omega).mod ho8 λb hb hk=>by have hk':b+1=kout+1:=hk;have:=hb.1;omega).mono λb hb=>⟨by have:=hb.1;omega,by have:=hb.2;omega,by have h1:=hb.1;have h2:=hb.2;rcases hg7 with e | e <;> omega⟩
set_option maxHeartbeats 1000000 in
theorem MC(hG:jr F w f s t)(hF:∀b,F b->b<w.heap.size):E.CallsD prog 14 #[vF f s t] w (CpA w f):=by
 refine az.calls (R:=CpA w f) ?_;unfold az az.g0;have hbl:=hG.bs.len;have hkl:=hG.ks.len;have hsm:=hG.sm;have hs1:=hsm.1;have hs2:=hsm.2.1;refine bZ ?_;have hbf:Blk (w.alloc (.cells (jo f s t).toArray jb)) w.heap.size (jo f s t).toArray jb:=Blk.new w _ _;have hk1:=zg3 w (.cells (jo f s t).toArray jb);change nw ((w.alloc (.cells (jo f s t).toArray jb)).alloc _) _;have hz1:(w.alloc (.cells (jo f s t).toArray jb)).heap.size=w.heap.size+1:=by simp
 generalize w.alloc (.cells (jo f s t).toArray jb)=w1 at hbf hk1 hz1;refine bZ ?_;have hbz:Blk (w1.alloc (.cells (mr 0 0 none 0 0 none 0 0) jb)) w1.heap.size #[.int .i64 0,.int .i64 0,.slice none 0 0,.slice none 0 0] jb:=Blk.new w1 _ _;have hk2:=zg3 w1 (.cells (mr 0 0 none 0 0 none 0 0) jb);have hz2:(w1.alloc (.cells (mr 0 0 none 0 0 none 0 0) jb)).heap.size=w1.heap.size+1:=by simp
 generalize w1.alloc (.cells (mr 0 0 none 0 0 none 0 0) jb)=w2 at hbz hk2 hz2;have bf2:=hbf.keep hk2;refine⟨_,atB bf2 0 _ rfl,_,atB bf2 1 _ rfl,?_⟩;refine boxS (zs:=(mr 0 0 none 0 0 none 0 0).toList) (vs:=jo f ⟨none,0,0⟩ ⟨none,0,0⟩) rfl λw3 hA3 hb3 hk3=>?_;have hz3:=hk3.size;have k13:=zg1 (zg1 hk1 hk2) hk3;have bf3:=bf2.keep hk3;have bz3:=hbz.keep hk3;have hl3:=hb3.lt;refine⟨none,0,0,hA3 2 _ rfl,s.a,s.n,s.c,atB bf3 2 _ rfl,?_⟩;refine Arr.pushes Y2 (Arr.nil enI t64 w3) (λ_=>rfl) (hG.bs.kept k13).sl (by simp only[maxLen];omega) (by omega) λa4 c4 g4 w4 r4 hg4 ho4=>⟨a4,_,c4,rfl,?_⟩;rw[zc9]at r4;have hk4:Kept w3 w4:=Mod.kept ho4 λk hk h=>by have h':k+1=0:=h;omega
 have hz4:=hk4.size;refine stB (hb3.keep hk4) (by simp) λw5 hb5 ho5=>?_;have hb5':Blk w5 w2.heap.size (jo f ⟨a4,0+s.n,c4⟩ ⟨none,0,0⟩).toArray jb:=hb5;have hz5:=ho5.size;have hr4:=r4.le;have r5:=r4.mod ho5 (λk hk h=>by have h':k+1=w2.heap.size+1:=h;omega);have bf5:=(bf3.keep hk4).mod ho5 (λh=>by have h':w.heap.size+1=w2.heap.size+1:=h;omega);have bz5:=(bz3.keep hk4).mod ho5 (λh=>by have h':w1.heap.size+1=w2.heap.size+1:=h;omega);have fr5:From w.heap.size w w5:=From.then (Kept.mod (zg1 k13 hk4)) ho5 λk _ h=>by have h':k+1=w2.heap.size+1:=h;omega
 refine⟨t.a,t.n,t.c,atB bf5 3 _ rfl,?_⟩;exact za4 (t.n+1) (H9 (F:=F) (wB:=w) (W0:=w5) (kz:=w1.heap.size) (kout:=w2.heap.size) (gb:=g4) (sb:=⟨a4,0+s.n,c4⟩) hF fr5 (From.ls hG.ks fr5 hF) bz5 (by omega) (by omega) (by omega) (by omega) r5 (by omega) (by omega) (by omega) hsm t.n 0 w5 ⟨none,0,0⟩ 0 [] (by show 0+t.n=t.n;omega) rfl (Mod.refl _) hb5' (aK.nil _ _ _ _) (.inl rfl) rfl (λy hy=>by cases hy))
end
def rf(B:Nat)(w:World)(a:OA)(n c:Nat)(cs:List cZ):Prop:=∃g l,aK 5 nJ tC' w a n c l g/\fresh B g/\cs=l.map (·.1)/\∀x∈l,∃gx,Arr enI tI' w x.2.a x.2.n x.2.c x.1.aT gx/\fresh B gx
section
variable{w w0 u w1 x:World}{a:OA}{n c g m:Nat}{F S:Nat->Prop}{q:Addr}{B B':Nat}{R:VP}{cs:List cZ}{ts:List TD}{nodes:List ND}
theorem rf.mD(h:rf B w a n c cs)(hm:Mod S w u)(hS:Apart S w [tC',tI']):rf B u a n c cs:=by
 obtain⟨g,l,h1,h2,h3,h4⟩:=h;exact⟨g,l,Row.mD h1 hm hS (by simp),h2,h3,λx hx=>let⟨gx,k1,k2⟩:=h4 x hx; ⟨gx,Row.mD k1 hm hS (by simp),k2⟩⟩
theorem rf.kept(h:rf B w a n c cs)(hk:Kept w u):rf B u a n c cs:=h.mD (S:=λ_=>False) (Kept.mod hk) (λ_ _ _ h=>h.elim)
theorem rf.weak(h:rf B w a n c cs)(hB:B'<=B):rf B' w a n c cs:=by
 obtain⟨g,l,h1,h2,h3,h4⟩:=h;exact⟨g,l,h1,h2.imp id (λh=>Nat.lt_of_le_of_lt hB h),h3,λx hx=>let⟨gx,k1,k2⟩:=h4 x hx; ⟨gx,k1,k2.imp id (λh=>Nat.lt_of_le_of_lt hB h)⟩⟩
theorem rf.nil(B:Nat)(w:World):rf B w none 0 0 []:=⟨0,[],aK.nil _ _ _ _,.inl rfl,rfl,λx hx=>by cases hx⟩
theorem rf.len(h:rf B w a n c cs):n=cs.length:=by
 obtain⟨g,l,h1,h2,h3,h4⟩:=h;rw[h3,za7];exact aK.len (k:=5) (en:=nJ) (λ_=>rfl) (by omega) h1
theorem rf.ls(h:rf B w a n c cs):Ls tC (WT B w) w a n c cs:=by
 obtain⟨g,l,h1,h2,rfl,h4⟩:=h;refine lsC h1 (λb hb=>?_) λx hx=>?_
 .have:=Row.le h1;unfold fresh at h2;unfold WT;omega
 .obtain⟨gx,k1,k2⟩:=h4 x hx;refine(Arr.ls (h1:=λ_=>rfl) k1).mono λb hb=>?_;have:=k1.le;unfold fresh at k2;unfold WT;omega
structure Yz(B e:Nat)(w u:World)(g:Nat):Prop where
 only:Only g w u
 ap:∀es:List Nat,e∉es->Apart (λk=>k+1=g) w es
 fr:fresh B g
theorem Yz.from{e:Nat}(h:Yz B e w u g):From B w u:=h.only.weak λk _ hk=>by have hk':k+1=g:=hk;have:=h.fr;unfold fresh at this;show B<=k;omega
theorem rf.push(h:rf B w a n c cs){y:cZ}{s:SH}{gx:Nat}(hy:Arr enI tI' w s.a s.n s.c y.aT gx)(hg:fresh B gx)(hB:B<=w.heap.size)(hm:n<=1073741824){K:Value->zg6}(hk:∀a' c' u g,rf B u a' (n+1) c' (cs++[y])->Yz B tC' w u g->K (.slice a' (n+1) c') u) :
  nw (w.alloc (.cells (nJ (y,s)).toArray tC')) λw'=>dC prog (Builtin.append_ #[72,72] 72 #[.slice a n c,.slice (some (na w)) 1 1]) w' K:=by
 obtain⟨g,l,h1,h2,h3,h4⟩:=h;refine aK.pY (P:=prog) (k:=5) (en:=nJ) (ys:=[(y,s)]) (m:=1) S53 (λ_=>rfl) (by omega) h1 yI (by simp) rfl (by omega) (by simp only[maxLen];omega) (by omega) λa' c' g' u hA hg' _ ho=>hk a' c' u g ⟨g',l++[(y,s)],hA,?_,by rw[h3];simp,λx hx=>?_⟩ ⟨ho,λes he=>Row.apart h1 he,h2⟩
 .unfold fresh at h2 ⊢;omega
 .have ap:Apart (λk=>k+1=g) w [tI']:=Row.apart h1 (by decide)
  rcases zb2.1 hx with hx | hx
  .obtain⟨gx,k1,k2⟩:=h4 x hx;exact⟨gx,Row.mD k1 ho ap (by simp),k2⟩
  .obtain rfl:=zd0.1 hx;exact⟨gx,Row.mD hy ho ap (by simp),hg⟩
theorem Am.push(h:Am B w a n c nodes){y:ND}{s:SH}{gx:Nat}(hy:Arr enI tI' w s.a s.n s.c y.aT gx)(hg:fresh B gx)(hB:B<=w.heap.size)(hm:n<=1073741824){K:Value->zg6}(hk:∀a' c' u g,Am B u a' (n+1) c' (nodes++[y])->Yz B tN' w u g->K (.slice a' (n+1) c') u) :
  nw (w.alloc (.cells (enH (y,s)).toArray tN')) λw'=>dC prog (Builtin.append_ #[48,48] 48 #[.slice a n c,.slice (some (na w)) 1 1]) w' K:=by
 obtain⟨g,l,h1,h2,h3,h4⟩:=h;refine aK.pY (P:=prog) (k:=8) (en:=enH) (ys:=[(y,s)]) (m:=1) S_N (λ_=>rfl) (by omega) h1 NY (by simp) rfl (by omega) (by simp only[maxLen];omega) (by omega) λa' c' g' u hA hg' _ ho=>hk a' c' u g ⟨g',l++[(y,s)],hA,?_,by rw[h3];simp,λx hx=>?_⟩ ⟨ho,λes he=>Row.apart h1 he,h2⟩
 .unfold fresh at h2 ⊢;omega
 .have ap:Apart (λk=>k+1=g) w [tI']:=Row.apart h1 (by decide)
  rcases zb2.1 hx with hx | hx
  .obtain⟨gx,k1,k2⟩:=h4 x hx;exact⟨gx,Row.mD k1 ho ap (by simp),k2⟩
  .obtain rfl:=zd0.1 hx;exact⟨gx,Row.mD hy ho ap (by simp),hg⟩
theorem xP:∀(xs ys:List TD) (k:Nat),dH (xs++ys) k=dH xs k++dH ys (k+xs.length)
 | [],ys,k=>rfl
 |x::xs,ys,k=>by
  show kP k x.nodes++dH (xs++ys) (k+1)=(kP k x.nodes++dH xs (k+1))++_;rw[xP xs ys (k+1),za5,zc5,show k+1+xs.length=k+(xs.length+1) by omega]
theorem RV(k:Nat)(nodes:List ND):(kP k nodes).length<=4096:=zb5 (List.length_filterMap_le _ _) (nZ nodes)
theorem En:∀(ts:List TD) (k:Nat),(dH ts k).length<=4096*ts.length
 | [],_=>zb4 _
 |t::ts,k=>by
  have h1:=RV k t.nodes;have h2:=En ts (k+1);show(kP k t.nodes++dH ts (k+1)).length<=_;rw[za6,zc5];omega
structure CtS(B:Nat)(w0 w:World)(sC sN:SH)(A:List (ND×cZ)):Prop where
 fr:From B w0 w
 cs:rf B w sC.a sC.n sC.c (A.map (·.2))
 ns:Am B w sN.a sN.n sN.c (A.map (·.1))
theorem CtS.kept{sC sN:SH}{A:List (ND×cZ)}(h:CtS B w0 w sC sN A)(hk:Kept w u):CtS B w0 u sC sN A:=⟨h.fr.aG hk,h.cs.kept hk,h.ns.kept hk⟩
abbrev CtA(w:World)(ts:List TD):VP:=λv u=>∃sC sN:SH,v = .tuple #[sC.v,sN.v]/\rf w.heap.size u sC.a sC.n sC.c ((dH ts 0).map (·.2))/\Am w.heap.size u sN.a sN.n sN.c ((dH ts 0).map (·.1))/\Kept w u
theorem Nq{d:Int}(hG:pM F w a n c ts d):E.CallsD prog 78 #[.slice a n c] w (CtA w ts):=by
 refine aP.calls (R:=CtA w ts) ?_;unfold aP aP.g0;have hlen:=hG.ls.len;have hmx:=hG.max;have key:∀(k i:Nat) (v:World) (sC sN:SH),i+k=n->CtS w.heap.size w v sC sN (dH (ts.take i) 0)->aP.l10 (CtA w ts) (k+1) sC.a sC.n sC.c sN.a sN.n sN.c a n c n i v:=by
  intro k
  induction k with
  |zero=>
   intro i v sC sN hi hS;rw[aP.u10];unfold aP.g10;refine aA (by omega) ?_;obtain rfl:i=ts.length:=by omega
   rw[zd3]at hS;exact⟨sC,sN,rfl,hS.cs,hS.ns,zg4 hS.fr⟩
  |succ k ih=>
   intro i v sC sN hi hS;rw[aP.u10];unfold aP.g10;refine aH (by omega) ?_;have kv:=zg4 hS.fr;refine(hG.ls.kept kv).rdT (by omega) (by omega) λt a' n' c' ht hnodes=>?_;rw[za3]at ht;obtain⟨o1,o2,o3,o4⟩:=hG.ok t (za0 ht);have hnl:=hnodes.len;have hGt:Good F v a' n' c' t.nodes:=⟨hnodes,λb hb=>by have:=hG.old b hb;have:=kv.size;omega,by omega,o2⟩;refine boxS (zs:=(kU 0 none 0 0).toList) (vs:=[.int .i64 t.output,.slice a' n' c']) rfl λw1 hT hbT hk1=>?_;refine⟨_,hT 0 _ rfl,_,_,_,hT 1 _ rfl,?_⟩;refine zg0 (Lt (o:=t.output) (hGt.kept hk1)) λr w2 ⟨a2,n2,c2,hr,hM⟩=>⟨_,_,_,_,hr,?_⟩;have hk2:=hM.kept;have hml:=hM.len;have hsk:=hM.slk;have hk12:=zg1 hk1 hk2;have hS2:=hS.kept hk12;have hm4:=nZ t.nodes;have hin:=Ed o3 o4;obtain⟨g2,hrow,hg2,_⟩:=hM;have hz12:=hk12.size;have hzv:=kv.size;have hbT2:=hbT.keep hk2;have hil:((ts.take i).length:Int)=(i:Int):=by rw[zb6];omega
   have hAl:(dH (ts.take i) 0).length<=4096*i:=zb5 (En _ _) (by rw[zb6];omega);have inner:∀(j r:Nat) (z:World) (sC sN:SH),r+j=n2->From w.heap.size v z->CtS w.heap.size w z sC sN (dH (ts.take i) 0++((iq t.nodes).take r).filterMap (sU i t.nodes))->Blk z v.heap.size #[.int .i64 t.output,.slice a' n' c'] tT'->aK 3 enM tM' z a2 n2 c2 (iq t.nodes) g2 ->
     aP.l26 (CtA w ts) (aP.l10 (CtA w ts) (k+1)) (j+1) sC.a sC.n sC.c sN.a sN.n sN.c i (some (na v)) a n c n i a2 n2 c2 n2 r z:=by
    intro j
    induction j with
    |zero=>
     intro r z sC sN hr hv hS hb hA;unfold aP.l26 aP.g26;refine aA (by omega) ?_;obtain rfl:r=n2:=by omega
     rw[show(iq t.nodes).take r=iq t.nodes from zb1 (by omega)]at hS;refine aC (by omega) (ih (i+1) z sC sN (by omega) ?_);rw[take_snoc ht,xP];have e:dH [t] (0+(ts.take i).length)=(iq t.nodes).filterMap (sU i t.nodes):=by
      rw[zd1,show(ts.take i).length=i by omega];show kP i t.nodes++[]=_;rw[zc8];rfl
     rw[e];exact hS
    |succ j ihj=>
     intro r z sC sN hr hv hS hb hA;unfold aP.l26 aP.g26;refine aH (by omega) ?_;refine a0m (hA.slk wE (by omega)) (by omega) (by omega) λm hm=>?_;rw[za3]at hm;refine boxS (zs:=[.int .i64 0,.int .i64 0,.int .i64 0]) (vs:=enM m) (e:=tM') rfl λz1 hAm bm hk3=>?_;have hb1:=hb.keep hk3;obtain⟨q,x,hq,hx,hxi,_⟩:=hin m (za0 hm);have hql:=(za1.1 hx).1;refine⟨_,_,_,atB hb1 1 _ rfl,_,hAm 0 _ rfl,_,hAm 0 _ rfl,?_⟩;rw[hq];refine aC (by omega) ?_;have kz1:=zg1 (zg4 hS.fr) hk3;have hnz:Ls tN F z1 a' n' c' t.nodes:=From.ls (B:=w.heap.size) hnodes (hv.aG hk3) hG.old;have hcap:=hnz.cap;refine dK ⟨by omega,by omega⟩ ?_;refine dK ⟨by omega,by omega⟩ ?_;have hsub:=hnz.sub (i:=q) (j:=q+1) (by omega) (by omega);have e1:((t.nodes.take (q+1)).drop q)=[x]:=by
      rw[take_snoc hx,List.drop_append_of_le_length (by rw[zb6];omega),List.drop_of_length_le (by rw[zb6];omega)];rfl
     have hGx:Good F z1 (slA a' c' q 8) (q+1 - q) (c' - q) [x]:=⟨by rw[<- e1];exact hsub,λb hb=>by have:=hG.old b hb;have:=kz1.size;omega,by omega,λy hy=>o2 y (by rw[zd0.1 hy];exact za0 hx)⟩;refine zg0 (LG hGx) λr3 z2 ⟨a5,c5,hr3,hO,hk4⟩=>⟨_,_,_,hr3,?_⟩;obtain⟨g5,l5,h51,h52,h53,h54⟩:=hO;obtain⟨⟨x5,s5⟩,rfl⟩:∃y,l5=[y]:=by
      cases l5 with
      |nil=>cases h53
      |cons y l5=>cases l5 with
       |nil=>exact⟨y,rfl⟩
       |cons z l=>simp at h53
     obtain rfl:x=x5:=by simpa using h53
     refine atF (k:=8) (en:=enH) (λ_=>rfl) (by omega) h51 (i:=0) (x:=(x,s5)) (by omega) (by omega) rfl λp5 _ hA5=>?_;obtain⟨gx,hgx1,hgx2⟩:=h54 (x,s5) (.head _);refine⟨_,hA5 0 _ rfl,_,hA5 1 _ rfl,_,hA5 2 _ rfl,_,hA5 3 _ rfl,_,_,_,hA5 4 _ rfl,_,hA5 5 _ rfl,_,hA5 6 _ rfl,_,hA5 7 _ rfl,?_⟩;refine boxS (zs:=[.int .u8 0,.int .i64 0,.int .i64 0,.float .f64 0,.slice none 0 0,.int .u8 0,.int .i64 0,.int .i64 0]) (vs:=enH (x,s5)) (e:=tN') rfl λz3 hA6 b6 hk5=>?_;have hAm3:=(hAm.kept hk4).kept hk5;refine⟨_,hA6 3 _ rfl,_,_,_,hA6 4 _ rfl,_,hAm3 1 _ rfl,_,hAm3 2 _ rfl,?_⟩;have hk35:=zg1 (zg1 hk3 hk4) hk5;have hS3:=hS.kept hk35;have z35:=hk35.size;have zz:=hS.fr.size;have hfx:fresh w.heap.size gx:=by unfold fresh at hgx2 ⊢;have:=kz1.size;omega
     have hrc:sU i t.nodes m=some (x,⟨x.thr,x.aT,(i:Int),m.frm,m.to⟩):=by unfold sU;rw[hq,za3,hx];rfl
     have hcl:=hS3.cs.len;have hnl2:=hS3.ns.len;have hfl:(((iq t.nodes).take r).filterMap (sU i t.nodes)).length<=4096:=zb5 (List.length_filterMap_le _ _) (by rw[zb6];omega);rw[za7,za6]at hcl hnl2;refine rf.push (y:=⟨x.thr,x.aT,(i:Int),m.frm,m.to⟩) (s:=s5) hS3.cs (hgx1.kept hk5) hfx (by omega) (by omega) λa7 c7 z4 g7 hC7 ho7=>⟨_,_,_,rfl,?_⟩;have b7:Blk z4 z2.heap.size (enH (x,s5)).toArray tN':=b6.mod ho7.only λhk=>ho7.ap [tN'] (by decide) _ _ _ hk b6 (by simp);have hA7:=atB b7;have z7:=ho7.only.size;refine⟨_,hA7 0 _ rfl,_,hA7 1 _ rfl,_,hA7 2 _ rfl,_,hA7 3 _ rfl,_,_,_,hA7 4 _ rfl,_,hA7 5 _ rfl,_,hA7 6 _ rfl,_,hA7 7 _ rfl,?_⟩;have hN7:Am w.heap.size z4 sN.a sN.n sN.c _:=hS3.ns.mD ho7.only (ho7.ap _ (by decide));refine Am.push (y:=x) (s:=s5) hN7 (Row.mD (hgx1.kept hk5) ho7.only (ho7.ap [tI'] (by decide)) (by simp)) hfx (by omega) (by omega) λa8 c8 z5 g8 hN8 ho8=>⟨_,_,_,rfl,aC (by omega) ?_⟩;have fr35:From w.heap.size z z3:=Kept.mod hk35;have frz:From w.heap.size z z5:=zg2 (zg2 fr35 ho7.from zg7 zg7) ho8.from zg7 zg7;have hbz:Blk z5 v.heap.size #[.int .i64 t.output,.slice a' n' c'] tT':=by
      have h3:=hb.keep hk35;have h4:=h3.mod ho7.only λhk=>ho7.ap [tT'] (by decide) _ _ _ hk h3 (by simp);exact h4.mod ho8.only λhk=>ho8.ap [tT'] (by decide) _ _ _ hk h4 (by simp)
     have hAz:aK 3 enM tM' z5 a2 n2 c2 (iq t.nodes) g2:=Row.mD (Row.mD (aK.kept hA hk35) ho7.only (ho7.ap [tM'] (by decide)) (by simp)) ho8.only (ho8.ap [tM'] (by decide)) (by simp);refine ihj (r+1) z5 ⟨a7,sC.n+1,c7⟩ ⟨a8,sN.n+1,c8⟩ (by omega) (zg2 hv frz zg7 zg7) ⟨zg2 hS.fr frz zg7 zg7,?_,?_⟩ hbz hAz
     .have hC8:=hC7.mD ho8.only (ho8.ap _ (by decide));rw[take_snoc hm,List.filterMap_append,<- List.append_assoc,zb8];simpa[hrc] using hC8
     .rw[take_snoc hm,List.filterMap_append,<- List.append_assoc,zb8];simpa[hrc] using hN8
   exact za4 (n2+1) (inner n2 0 w2 sC sN (by omega) (Kept.mod hk12) (by simpa using hS2) hbT2 hrow)
 exact za4 (n+1) (key n 0 w ⟨none,0,0⟩ ⟨none,0,0⟩ (by omega) ⟨From.refl _ _,rf.nil _ _,Am.nil _ _ _ _ ⟨rfl,rfl⟩⟩)
end
def vr(r:Nat):Nat:=if r<4503599627370496 then r else(4503599627370496+r % 4503599627370496)*2 ^ (r / 4503599627370496 - 1)
theorem PI(r:Nat):vr r<vr (r+1):=by
 unfold vr
 by_cases h1:r+1<4503599627370496
 .rw[if_pos (by omega),if_pos h1];omega
 .rw[if_neg h1]
  by_cases h2:r<4503599627370496
  .rw[if_pos h2];have e:r=4503599627370495:=by omega
   subst e;decide
  .rw[if_neg h2];have hq:1<=r / 4503599627370496:=by omega
   have hp:0<2 ^ (r / 4503599627370496 - 1):=Nat.two_pow_pos _
   by_cases h3:r % 4503599627370496+1<4503599627370496
   .have e1:(r+1) / 4503599627370496=r / 4503599627370496:=by omega
    have e2:(r+1) % 4503599627370496=r % 4503599627370496+1:=by omega
    rw[e1,e2];exact Nat.mul_lt_mul_of_lt_of_le (by omega) (zb4 _) hp
   .have e1:(r+1) / 4503599627370496=r / 4503599627370496+1:=by omega
    have e2:(r+1) % 4503599627370496=0:=by omega
    rw[e1,e2,show r / 4503599627370496+1 - 1=(r / 4503599627370496 - 1)+1 by omega,Nat.pow_succ];generalize 2 ^ (r / 4503599627370496 - 1)=P at hp;rw[Nat.mul_comm P 2,<- Nat.mul_assoc];exact Nat.mul_lt_mul_of_lt_of_le (by omega) (zb4 _) hp
theorem Xc{r s:Nat}(h:r<s):vr r<vr s:=by
 induction s with
 |zero=>omega
 |succ s ih=>
  by_cases e:r=s
  .subst e;exact PI r
  .exact Nat.lt_trans (ih (by omega)) (PI s)
theorem Ih(r s:Nat):vr r<vr s↔r<s:=⟨λh=>Nat.lt_of_not_le λh2=>by
 rcases Nat.lt_or_eq_of_le h2 with h3 | h3
 .exact Nat.lt_asymm h (Xc h3)
 .subst h3;exact Nat.lt_irrefl _ h,Xc⟩
theorem Vo:vr 0=0:=rfl
def srg(z:Nat):Int:=if z / 9223372036854775808 % 2=1 then -((z % 9223372036854775808:Nat):Int) else((z % 9223372036854775808:Nat):Int)
theorem Ep(z:Nat)(h:z % 9223372036854775808<9218868437227405312):∃(m:Nat) (a:Nat),FloatKind.f64.format.read z = .number (z / 9223372036854775808 % 2==1) m (FloatKind.f64.format.leastPlace+a)/\m*2 ^ a=vr (z % 9223372036854775808):=by
 have e:FloatKind.f64.format=Ieee.double:=rfl;rw[e];unfold Ieee.Format.read;have w:Ieee.double.signWeight=9223372036854775808:=by decide
 have b:Ieee.double.binade=4503599627370496:=by decide
 have i:Ieee.double.infRung=9218868437227405312:=by decide
 rw[w,b,i];simp only
 by_cases h1:z % 9223372036854775808<4503599627370496
 .rw[if_pos h1];exact⟨_,0,by rw[show(((0:Nat):Int))=0 from rfl,Int.add_zero],by unfold vr;rw[if_pos h1];simp⟩
 .rw[if_neg h1,if_pos h];exact⟨_,_,rfl,by unfold vr;rw[if_neg h1]⟩
theorem yw(z:Nat)(h:z % 9223372036854775808=9218868437227405312):FloatKind.f64.format.read z = .infinity (z / 9223372036854775808 % 2==1):=by
 have e:FloatKind.f64.format=Ieee.double:=rfl;rw[e];unfold Ieee.Format.read;have w:Ieee.double.signWeight=9223372036854775808:=by decide
 have b:Ieee.double.binade=4503599627370496:=by decide
 have i:Ieee.double.infRung=9218868437227405312:=by decide
 rw[w,b,i];simp only;rw[if_neg (by omega),if_neg (by omega),if_pos h]
theorem RZ(z:Nat)(h:9218868437227405312<z % 9223372036854775808):iC z=true:=by
 have e:FloatKind.f64.format=Ieee.double:=rfl;unfold iC Ieee.Format.order;rw[e];unfold Ieee.Format.read;have w:Ieee.double.signWeight=9223372036854775808:=by decide
 have b:Ieee.double.binade=4503599627370496:=by decide
 have i:Ieee.double.infRung=9218868437227405312:=by decide
 rw[w,b,i];simp only;rw[if_neg (by omega),if_neg (by omega),if_neg (by omega)];rfl
theorem CJ{z:Nat}(h:iC z=false):z % 9223372036854775808<=9218868437227405312:=Nat.le_of_not_lt λh2=>by rw[RZ z h2]at h;cases h
theorem XB(x y:Int):(some (compare x y)==some Ordering.gt)=decide (y<x):=by
 rcases Int.lt_trichotomy x y with h | h | h
 .rw[show compare x y = .lt from Int.compare_eq_lt.2 h];simp;omega
 .subst h;rw[show compare x x = .eq from Int.compare_eq_eq.2 rfl];simp
 .rw[show compare x y = .gt from Int.compare_eq_gt.2 h];simp;omega
theorem RN{m a c:Nat}(h:c<=a):m <<< (a - c)*2 ^ c=m*2 ^ a:=by
 rw[Nat.shiftLeft_eq,Nat.mul_assoc,<- Nat.pow_add,Nat.sub_add_cancel h]
theorem Kw{p q k:Int}(hk:0<k):p*k<q*k↔p<q:=⟨λh=>Int.lt_of_mul_lt_mul_right h (Int.le_of_lt hk),λh=>Int.mul_lt_mul_of_pos_right h hk⟩
def sgn(s:Bool)(v:Nat):Int:=if s then -(v:Int) else v
theorem BC{s:Bool}{m a c:Nat}(h:c<=a):Ieee.signed s m (a - c)*((2 ^ c:Nat):Int)=sgn s (m*2 ^ a):=by
 unfold Ieee.signed sgn;rw[<- RN h]
 cases s <;> simp[Int.neg_mul]
theorem Xt{s t:Bool}{x y:Nat}:sgn s (vr x)<sgn t (vr y)↔sgn s x<sgn t y:=by
 have h1:=Ih x y;have h2:=Ih y x;have h3:=Ih 0 x;have h4:=Ih 0 y;rw[Vo]at h3 h4;unfold sgn
 cases s <;> cases t <;> simp <;> omega
theorem RD{x y:Nat}(hx:iC x=false)(hy:iC y=false):(FloatKind.f64.format.order x y==some .gt)=decide (srg y<srg x):=by
 have rx:=CJ hx;have ry:=CJ hy;have sx:∀z:Nat,srg z=sgn (z / 9223372036854775808 % 2==1) (z % 9223372036854775808):=λz=>by unfold srg sgn;simp
 rw[sx,sx];unfold Ieee.Format.order
 rcases Nat.lt_or_eq_of_le rx with hx1 | hx1
 .obtain⟨m,a,hr,hv⟩:=Ep x hx1
  rcases Nat.lt_or_eq_of_le ry with hy1 | hy1
  .obtain⟨n,b,hr',hv'⟩:=Ep y hy1;rw[hr,hr'];generalize (x / 9223372036854775808 % 2==1)=s;generalize (y / 9223372036854775808 % 2==1)=t;show(some (compare _ _)==some Ordering.gt)=_;rw[XB];have e1:(FloatKind.f64.format.leastPlace+(a:Int) - min (FloatKind.f64.format.leastPlace+(a:Int)) (FloatKind.f64.format.leastPlace+(b:Int))).toNat=a - min a b:=by omega
   have e2:(FloatKind.f64.format.leastPlace+(b:Int) - min (FloatKind.f64.format.leastPlace+(a:Int)) (FloatKind.f64.format.leastPlace+(b:Int))).toNat=b - min a b:=by omega
   simp only[e1,e2];congr 1;refine propext ?_;rw[<- Xt,<- hv,<- hv',<- BC (c:=min a b) (Nat.min_le_left a b),<- BC (c:=min a b) (Nat.min_le_right a b),Kw];exact Int.natCast_pos.2 (Nat.two_pow_pos _)
  .rw[hr,yw y hy1,hy1];generalize (x / 9223372036854775808 % 2==1)=s;generalize (y / 9223372036854775808 % 2==1)=t;show(some (if t then Ordering.gt else .lt)==some Ordering.gt)=_;unfold sgn
   cases s <;> cases t <;> simp <;> omega
 .rcases Nat.lt_or_eq_of_le ry with hy1 | hy1
  .obtain⟨n,b,hr',hv'⟩:=Ep y hy1;rw[hr',yw x hx1,hx1];generalize (x / 9223372036854775808 % 2==1)=s;generalize (y / 9223372036854775808 % 2==1)=t;show(some (if s then Ordering.lt else .gt)==some Ordering.gt)=_;unfold sgn
   cases s <;> cases t <;> simp <;> omega
  .rw[yw x hx1,yw y hy1,hx1,hy1];generalize (x / 9223372036854775808 % 2==1)=s;generalize (y / 9223372036854775808 % 2==1)=t;unfold sgn
   cases s <;> cases t <;> decide
theorem IM{z:Nat}(hz:iC z=false)(h64:z<18446744073709551616):G7 z=9218868437227405312+srg z:=by
 have r:=CJ hz;unfold G7 srg;rw[if_neg (by rw[hz];decide)];have e:(2:Int) ^ (min (63:Int).toNat 64)=9223372036854775808:=by decide
 rw[e,Int.fdiv_eq_ediv_of_nonneg _ (by decide)]
 by_cases h:z<9223372036854775808
 .rw[if_pos (by omega),if_neg (by omega),Ju (by omega) (by omega)];omega
 .rw[if_neg (by omega),if_pos (by omega)];have hb:Qo .andNot .u64 (z:Int) 9223372036854775808=((z % 9223372036854775808:Nat):Int):=by
   show IntKind.u64.wrap (((BitVec.ofInt 64 (z:Int)) &&& ~~~ (BitVec.ofInt 64 9223372036854775808)).toNat:Int)=_;have e1:BitVec.ofInt 64 (z:Int)=BitVec.ofNat 64 z:=by
    apply BitVec.eq_of_toNat_eq;rw[BitVec.toNat_ofInt,BitVec.toNat_ofNat];omega
   have e2:(~~~ BitVec.ofInt 64 9223372036854775808)=BitVec.ofNat 64 9223372036854775807:=by decide
   rw[e1,e2,BitVec.toNat_and,BitVec.toNat_ofNat,BitVec.toNat_ofNat,show(9223372036854775807:Nat) % 2 ^ 64=2 ^ 63 - 1 from by decide,Nat.and_two_pow_sub_one_eq_mod,Ju (by omega) (by omega)];omega
  rw[hb,Ju (by omega) (by omega)];omega
theorem Qc{x y:Nat}(hx:iC x=false)(hy:iC y=false)(bx:x<18446744073709551616)(by_:y<18446744073709551616):(FloatKind.f64.format.order x y==some .gt)=decide (G7 y<G7 x):=by
 rw[RD hx hy,IM hx bx,IM hy by_];congr 1;refine propext ?_;omega
def Nc(x:ND)(c:cZ)(e:dL):dL :=
 let e1:=if x.kind=3 then { e with aT:=e.aT++[c] } else { e with numbers:=lX ltD e.numbers c }
 if x.missing=2 then { e1 with lost:=e1.lost++[c] } else e1
def xY(f:Int):List (ND×cZ)->dL->dL
 | [],e=>e
 |p::A,e=>xY f A (if p.1.feature=f then Nc p.1 p.2 e else e)
def SC(f:Int):List (ND×cZ)->dL->dL
 | [],e=>e
 |p::A,e=>SC f A (if p.1.feature=f then vI p.1 p.2 e else e)
def rQ(A:List (ND×cZ))(f:Int):Bool:=A.any λp=>p.1.feature==f
def jU(A:List (ND×cZ)):Nat->List dL
 |0=>[]
 |d+1=>jU A d++if rQ A d then[xY d A ⟨d,[],[],[]⟩] else[]
theorem WO(x:ND)(c:cZ)(e:dL):Az (vI x c e)=Nc x c (Az e):=by
 have h:∀l:List cZ,sorted ltD (l++[c])=lX ltD (sorted ltD l) c:=λl=>by unfold sorted;rw[List.foldl_append];rfl
 unfold vI Nc Az
 by_cases h1:x.kind=3 <;> by_cases h2:x.missing=2 <;> simp[h1,h2,h]
theorem Ov(f:Int):∀(A:List (ND×cZ)) (e:dL),Az (SC f A e)=xY f A (Az e)
 | [],e=>rfl
 |p::A,e=>by
  unfold SC xY;rw[Ov f A]
  split
  .rw[WO]
  .rfl
theorem EY(x:ND)(c:cZ)(e:dL):(Nc x c e).feature=e.feature:=by
 unfold Nc
 by_cases h1:x.kind=3 <;> by_cases h2:x.missing=2 <;> simp[h1,h2]
theorem qM(f:Int):∀(A:List (ND×cZ)) (e:dL),(xY f A e).feature=e.feature
 | [],_=>rfl
 |p::A,e=>by
  unfold xY;rw[qM f A]
  split
  .exact EY ..
  .rfl
theorem Fg(f:Int)(p:ND×cZ):∀(A:List (ND×cZ)) (e:dL),xY f (A++[p]) e=if p.1.feature=f then Nc p.1 p.2 (xY f A e) else xY f A e
 | [],e=>rfl
 |q::A,e=>by
  rw[ze1];unfold xY;exact Fg f p A _
theorem Ij:∀(A:List (ND×cZ)) (L:List dL),∀e∈A.foldl nM L,(∃e0∈L,e0.feature=e.feature/\e=SC e.feature A e0)\/((∀e0∈L,e0.feature≠e.feature)/\e=SC e.feature A ⟨e.feature,[],[],[]⟩)
 | [],L,e,h => .inl ⟨e,h,rfl,rfl⟩
 |p::A,L,e,h=>by
  rw[ze9]at h
  rcases Ij A (nM L p) e h with ⟨e1,h1,h2,h3⟩ | ⟨h1,h2⟩
  .obtain⟨e0,h4,h5⟩:=zd4.1 (show e1∈(xX p.1.feature L).map _ from h1);have hf:e0.feature=e.feature:=by
    rw[<- h2,<- h5]
    split
    .exact(iJ ..).symm
    .rfl
   have hstep:(if p.1.feature=e.feature then vI p.1 p.2 e0 else e0)=e1:=by
    rw[<- h5,hf]
    by_cases hh:e.feature=p.1.feature
    .rw[if_pos hh,if_pos hh.symm]
    .rw[if_neg hh,if_neg (λh=>hh h.symm)]
   unfold xX at h4;split at h4
   .refine .inl ⟨e0,h4,hf,?_⟩;show e=SC e.feature A (if p.1.feature=e.feature then vI p.1 p.2 e0 else e0);rw[hstep];exact h3
   .rename_i hn
    rcases zb2.1 h4 with h4 | h4
    .refine .inl ⟨e0,h4,hf,?_⟩;show e=SC e.feature A (if p.1.feature=e.feature then vI p.1 p.2 e0 else e0);rw[hstep];exact h3
    .obtain rfl:=zd0.1 h4;refine .inr ⟨λe0 h0 he=>hn ?_,?_⟩
     .have hf':p.1.feature=e.feature:=hf;rw[hf',<- he];exact ze8 (f:=dL.feature) h0
     .have hf':p.1.feature=e.feature:=hf;show e=SC e.feature A (if p.1.feature=e.feature then vI p.1 p.2 ⟨e.feature,[],[],[]⟩ else⟨e.feature,[],[],[]⟩);rw[show(⟨e.feature,[],[],[]⟩:dL)=⟨p.1.feature,[],[],[]⟩ by rw[hf'],hstep];exact h3
  .have hne:p.1.feature≠e.feature:=λhh=>by
    obtain⟨y,hy,hy2⟩:=zd4.1 (Df p.1.feature L);refine h1 _ (ze8 (f:=λe=>if e.feature=p.1.feature then vI p.1 p.2 e else e) hy) ?_;rw[if_pos hy2,iJ,hy2,hh]
   refine .inr ⟨λe0 h0 he=>?_,?_⟩
   .have hm:e0∈xX p.1.feature L:=by
     unfold xX
     split
     .exact h0
     .exact List.mem_append_left _ h0
    refine h1 _ (ze8 (f:=λe=>if e.feature=p.1.feature then vI p.1 p.2 e else e) hm) ?_
    split
    .rw[iJ,he]
    .exact he
   .show e=SC e.feature A (if p.1.feature=e.feature then vI p.1 p.2 ⟨e.feature,[],[],[]⟩ else⟨e.feature,[],[],[]⟩);rw[if_neg hne];exact h2
theorem zV:∀(A:List (ND×cZ)) (L:List dL) (f:Int),f∈(A.foldl nM L).map dL.feature↔f∈L.map dL.feature\/∃p∈A,p.1.feature=f
 | [],L,f=>by simp
 |p::A,L,f=>by
  rw[ze9,zV A,uw];unfold xX
  split
  .rename_i hm;constructor
   .rintro(h | ⟨q,h1,h2⟩)
    .exact .inl h
    .exact .inr ⟨q,.tail _ h1,h2⟩
   .rintro(h | ⟨q,h1,h2⟩)
    .exact .inl h
    .rcases zb3.1 h1 with rfl | h1
     .exact .inl (h2 ▸ hm)
     .exact .inr ⟨q,h1,h2⟩
  .rw[zb8,zb2];constructor
   .rintro((h | h) | ⟨q,h1,h2⟩)
    .exact .inl h
    .exact .inr ⟨p,.head _,(by simpa using h:f=p.1.feature).symm⟩
    .exact .inr ⟨q,.tail _ h1,h2⟩
   .rintro(h | ⟨q,h1,h2⟩)
    .exact .inl (.inl h)
    .rcases zb3.1 h1 with rfl | h1
     .exact .inl (.inr (by simp[h2]))
     .exact .inr ⟨q,h1,h2⟩
theorem pI{A:List (ND×cZ)}:∀ {d:Nat} {e:dL},e∈jU A d↔∃f:Nat,f<d/\rQ A f=true/\e=xY f A ⟨f,[],[],[]⟩
 |0,e=>by simp[jU]
 |d+1,e=>by
  unfold jU;rw[zb2,pI];constructor
  .rintro(⟨f,h1,h2,h3⟩ | h)
   .exact⟨f,by omega,h2,h3⟩
   .split at h
    .rename_i hu;exact⟨d,by omega,hu,by simpa using h⟩
    .cases h
  .rintro⟨f,h1,h2,h3⟩
   by_cases hf:f=d
   .subst hf;rw[if_pos h2];exact .inr (by simp[h3])
   .exact .inl ⟨f,by omega,h2,h3⟩
theorem A8{A:List (ND×cZ)}:∀d:Nat,(jU A d).Pairwise λa b=>ltF a b=true
 |0 => .nil
 |d+1=>by
  unfold jU;refine List.pairwise_append.2 ⟨A8 d,?_,λa ha b hb=>?_⟩
  .split
   .exact List.pairwise_singleton _ _
   .exact .nil
  .obtain⟨f,h1,_,h3⟩:=pI.1 ha;split at hb
   .obtain rfl:=zd0.1 hb;unfold ltF;rw[h3,qM,qM];simp;omega
   .cases hb
theorem NP{A:List (ND×cZ)}{d:Nat}(hd:∀p∈A,0<=p.1.feature/\p.1.feature<d):jU A d=sorted ltF ((A.foldl nM []).map Az):=by
 have hw:Wk ltF:=F7 λx:dL=>x.feature;have hn:=wV A [] (List.nodup_nil);have one:∀e∈A.foldl nM [],Az e=xY e.feature A ⟨e.feature,[],[],[]⟩:=λe he=>by
  rcases Ij A [] e he with ⟨e0,h0,_⟩ | ⟨_,h2⟩
  .cases h0
  .exact(congrArg Az h2).trans (Ov ..)
 refine(wK hw ?_ (A8 d)).symm;have n1:((A.foldl nM []).map Az).Nodup:=by
  have:(((A.foldl nM []).map Az).map dL.feature).Nodup:=by
   rw[ze6];exact hn
  exact List.Pairwise.of_map dL.feature (λa b h e=>h (by rw[e])) this
 have n2:(jU A d).Nodup:=(A8 d).imp fun {a b} h e=>by subst e;rw[hw.irrefl]at h;cases h
 refine(List.perm_ext_iff_of_nodup n1 n2).2 λe=>?_;constructor
 .intro h;obtain⟨e0,h0,rfl⟩:=zd4.1 h;obtain⟨p,hp,hpf⟩:=((zV A [] e0.feature).1 (ze8 h0)).resolve_left (by simp);have:=hd p hp;refine pI.2 ⟨e0.feature.toNat,by omega,?_,?_⟩
  .unfold rQ;rw[List.any_eq_true];exact⟨p,hp,by simp;omega⟩
  .rw[one e0 h0,show((e0.feature.toNat:Nat):Int)=e0.feature by omega]
 .intro h;obtain⟨f,h1,h2,h3⟩:=pI.1 h;unfold rQ at h2;rw[List.any_eq_true]at h2;obtain⟨p,hp,hpf⟩:=h2;have hpf':p.1.feature=f:=by simpa using hpf
  obtain⟨e0,h4,h5⟩:=zd4.1 ((zV A [] f).2 (.inr ⟨p,hp,hpf'⟩));exact zd4.2 ⟨e0,h4,by rw[one e0 h4,h5,h3]⟩
section
variable{w u x:World}{a:OA}{n c g:Nat}{S:Nat->Prop}{p q:Addr}{B:Nat}{cs:List cZ}{s t:SH}
def ElC(B:Nat)(w:World)(l:List CD):Prop:=∀x∈l,∃gx,Arr enI tI' w x.2.a x.2.n x.2.c x.1.aT gx/\fresh B gx
theorem ElC.mD{l:List CD}(h:ElC B w l)(hm:Mod S w u)(hS:Apart S w [tI']):ElC B u l:=λx hx=>let⟨gx,k1,k2⟩:=h x hx; ⟨gx,Row.mD k1 hm hS (by simp),k2⟩
structure rY(B:Nat)(w:World)(s:SH)(cs:List cZ)(g:Nat):Prop where
 row:∃l,aK 5 nJ tC' w s.a s.n s.c l g/\cs=l.map (·.1)/\ElC B w l
 fr:fresh B g
theorem rY.kept(h:rY B w s cs g)(hk:Kept w u):rY B u s cs g:=by
 obtain⟨⟨l,h1,h2,h3⟩,h4⟩:=h;exact⟨⟨l,aK.kept h1 hk,h2,h3.mD (S:=λ_=>False) (Kept.mod hk) (λ_ _ _ h=>h.elim)⟩,h4⟩
theorem rY.le(h:rY B w s cs g):g<=w.heap.size:=by
 obtain⟨⟨l,h1,_⟩,_⟩:=h;exact Row.le h1
theorem rY.len(h:rY B w s cs g):s.n=cs.length:=by
 obtain⟨⟨l,h1,h2,_⟩,_⟩:=h;rw[h2,za7];exact aK.len (k:=5) (en:=nJ) (λ_=>rfl) (by omega) h1
theorem rY.nil(B:Nat)(w:World):rY B w ⟨none,0,0⟩ [] 0:=⟨⟨[],aK.nil _ _ _ _,rfl,λ_ h=>by cases h⟩,.inl rfl⟩
theorem rY.ap(h:rY B w s cs g)(es:List Nat)(he:tC'∉es):Apart (λk=>k+1=g) w es:=by
 obtain⟨⟨l,h1,_⟩,_⟩:=h;exact Row.apart h1 he
theorem rY.other{g':Nat}(h:rY B w s cs g)(ho:Only g' w u)(hne:g=0\/g≠g')(hap:Apart (λk=>k+1=g') w [tI']):rY B u s cs g:=by
 obtain⟨⟨l,h1,h2,h3⟩,h4⟩:=h;exact⟨⟨l,aK.mod h1 ho (λk hk hk2=>by have hk':k+1=g':=hk2;omega),h2,h3.mD ho hap⟩,h4⟩
theorem rY.box{pb e:Nat}{cur:Array Value}(h:rY B w s cs g)(hb:Blk w pb cur e)(h1:e≠tC')(h2:e≠tI')(ho:Only (pb+1) w u):rY B u s cs g:=by
 obtain⟨⟨l,k1,k2,k3⟩,k4⟩:=h;exact⟨⟨l,Row.mD k1 ho (Blk.yL (es:=[tC']) hb (by simpa using h1)) (by simp),k2,k3.mD ho (Blk.yL (es:=[tI']) hb (by simpa using h2))⟩,k4⟩
theorem rY.mY(h:rY B w s cs g){y:cZ}(hq:AtL w q (nJ (y,t))){gx:Nat}(hy:Arr enI tI' w t.a t.n t.c y.aT gx)(hgx:fresh B gx)(hB:B<=w.heap.size)(hm:s.n<=1073741824){K:Value->zg6}
  (hk:∀a' c' u g',rY B u ⟨a',s.n+1,c'⟩ (cs++[y]) g'->(g'=g\/w.heap.size<g')->g'≠0->Only g w u->K (.slice a' (s.n+1) c') u) :
  dC prog (Builtin.append_ #[72,72] 72 #[.slice s.a s.n s.c,.slice (some q) 1 1]) w K:=by
 have hap:=h.ap;obtain⟨⟨l,h1,h2,h3⟩,h4⟩:=h;refine aK.mY (P:=prog) (k:=5) (en:=nJ) S53 (λ_=>rfl) (by omega) h1 (x:=(y,t)) hq (yI _) (by simp only[maxLen];omega) (by omega) λa5 c5 g5 w5 r5 hg5 h0 ho5=>hk a5 c5 w5 g5 ⟨⟨l++[(y,t)],r5,by rw[h2];simp,λx hx=>?_⟩,by unfold fresh at h4 ⊢;omega⟩ hg5 h0 ho5;have ap:=hap [tI'] (by decide)
 rcases zb2.1 hx with hx | hx
 .exact h3.mD ho5 ap x hx
 .obtain rfl:=zd0.1 hx;exact⟨gx,Row.mD hy ho5 ap (by simp),hgx⟩
structure uJ(B:Nat)(w:World)(po:Nat)(e:dL)(s1 s2 s3:SH)(g1 g2 g3:Nat):Prop where
 box:Blk w po (enL e s1 s2 s3).toArray tL'
 r1:rY B w s1 e.numbers g1
 r2:rY B w s2 e.aT g2
 r3:rY B w s3 e.lost g3
 a12:g1=0\/g1≠g2
 a13:g1=0\/g1≠g3
 a23:g2=0\/g2≠g3
 pB:B<=po
variable{po:Nat}{e:dL}{s1 s2 s3:SH}{g1 g2 g3:Nat}
theorem uJ.kept(h:uJ B w po e s1 s2 s3 g1 g2 g3)(hk:Kept w u):uJ B u po e s1 s2 s3 g1 g2 g3:=⟨h.box.keep hk,h.r1.kept hk,h.r2.kept hk,h.r3.kept hk,h.a12,h.a13,h.a23,h.pB⟩
abbrev St(g po:Nat):Nat->Prop:=λk=>k+1=g\/k=po
theorem St.from(h:uJ B w po e s1 s2 s3 g1 g2 g3)(hg:fresh B g)(hm:Mod (St g po) w u):From B w u:=hm.weak λk _ hk=>by
 have:=h.pB;unfold fresh at hg;show B<=k
 rcases hk with hk | hk <;> omega
theorem uJ.numAt(h:uJ B w po e s1 s2 s3 g1 g2 g3){y:cZ}(hq:AtL w q (nJ (y,t))){gx:Nat}(hy:Arr enI tI' w t.a t.n t.c y.aT gx)(hgx:fresh B gx)(hB:B<=w.heap.size)(hm:s1.n<=1073741824){K:zg6}
  (hk:∀u a' c' g',uJ B u po { e with numbers:=e.numbers++[y] } ⟨a',s1.n+1,c'⟩ s2 s3 g' g2 g3->(g'=g1\/w.heap.size<g')->Mod (St g1 po) w u->K u) :
  dC prog (Builtin.append_ #[72,72] 72 #[.slice s1.a s1.n s1.c,.slice (some q) 1 1]) w λv u=>∃a' n' c',v = .slice a' n' c'/\st u (((⟨po,0,none⟩:Addr).add 1).add 0) (.slice a' n' c') K:=by
 refine h.r1.mY hq hy hgx hB hm λa' c' u g' hr hg h0 ho=>⟨_,_,_,rfl,?_⟩;have ap:=h.r1.ap;have hb:=h.box.mod ho λhk=>ap [tL'] (by decide) _ _ _ hk h.box (by simp);have hle:=h.r2.le;have hle3:=h.r3.le;have r2:=h.r2.other ho (by have:=h.a12;omega) (ap [tI'] (by decide));have r3:=h.r3.other ho (by have:=h.a13;omega) (ap [tI'] (by decide));refine stB hb (by simp) λv hb' ho'=>hk v a' c' g' ⟨hb',hr.box hb (by decide) (by decide) ho',r2.box hb (by decide) (by decide) ho',r3.box hb (by decide) (by decide) ho',?_,?_,h.a23,h.pB⟩ hg (zg2 ho ho' (λ_ _ h => .inl h) (λ_ _ h => .inr (Nat.succ.inj h)))
 .have:=h.a12;omega
 .have:=h.a13;omega
theorem uJ.Zo(h:uJ B w po e s1 s2 s3 g1 g2 g3){y:cZ}(hq:AtL w q (nJ (y,t))){gx:Nat}(hy:Arr enI tI' w t.a t.n t.c y.aT gx)(hgx:fresh B gx)(hB:B<=w.heap.size)(hm:s2.n<=1073741824){K:zg6}
  (hk:∀u a' c' g',uJ B u po { e with aT:=e.aT++[y] } s1 ⟨a',s2.n+1,c'⟩ s3 g1 g' g3->(g'=g2\/w.heap.size<g')->Mod (St g2 po) w u->K u) :
  dC prog (Builtin.append_ #[72,72] 72 #[.slice s2.a s2.n s2.c,.slice (some q) 1 1]) w λv u=>∃a' n' c',v = .slice a' n' c'/\st u (((⟨po,0,none⟩:Addr).add 2).add 0) (.slice a' n' c') K:=by
 refine h.r2.mY hq hy hgx hB hm λa' c' u g' hr hg h0 ho=>⟨_,_,_,rfl,?_⟩;have ap:=h.r2.ap;have hb:=h.box.mod ho λhk=>ap [tL'] (by decide) _ _ _ hk h.box (by simp);have hle:=h.r1.le;have hle3:=h.r3.le;have r1:=h.r1.other ho (by have:=h.a12;omega) (ap [tI'] (by decide));have r3:=h.r3.other ho (by have:=h.a23;omega) (ap [tI'] (by decide));refine stB hb (by simp) λv hb' ho'=>hk v a' c' g' ⟨hb',r1.box hb (by decide) (by decide) ho',hr.box hb (by decide) (by decide) ho',r3.box hb (by decide) (by decide) ho',?_,h.a13,?_,h.pB⟩ hg (zg2 ho ho' (λ_ _ h => .inl h) (λ_ _ h => .inr (Nat.succ.inj h)))
 .have:=h.a12;omega
 .have:=h.a23;omega
theorem uJ.XA(h:uJ B w po e s1 s2 s3 g1 g2 g3){y:cZ}(hq:AtL w q (nJ (y,t))){gx:Nat}(hy:Arr enI tI' w t.a t.n t.c y.aT gx)(hgx:fresh B gx)(hB:B<=w.heap.size)(hm:s3.n<=1073741824){K:zg6}
  (hk:∀u a' c' g',uJ B u po { e with lost:=e.lost++[y] } s1 s2 ⟨a',s3.n+1,c'⟩ g1 g2 g'->(g'=g3\/w.heap.size<g')->Mod (St g3 po) w u->K u) :
  dC prog (Builtin.append_ #[72,72] 72 #[.slice s3.a s3.n s3.c,.slice (some q) 1 1]) w λv u=>∃a' n' c',v = .slice a' n' c'/\st u (((⟨po,0,none⟩:Addr).add 3).add 0) (.slice a' n' c') K:=by
 refine h.r3.mY hq hy hgx hB hm λa' c' u g' hr hg h0 ho=>⟨_,_,_,rfl,?_⟩;have ap:=h.r3.ap;have hb:=h.box.mod ho λhk=>ap [tL'] (by decide) _ _ _ hk h.box (by simp);have hle:=h.r1.le;have hle2:=h.r2.le;have r1:=h.r1.other ho (by have:=h.a13;omega) (ap [tI'] (by decide));have r2:=h.r2.other ho (by have:=h.a23;omega) (ap [tI'] (by decide));refine stB hb (by simp) λv hb' ho'=>hk v a' c' g' ⟨hb',r1.box hb (by decide) (by decide) ho',r2.box hb (by decide) (by decide) ho',hr.box hb (by decide) (by decide) ho',h.a12,?_,?_,h.pB⟩ hg (zg2 ho ho' (λ_ _ h => .inl h) (λ_ _ h => .inr (Nat.succ.inj h)))
 .have:=h.a13;omega
 .have:=h.a23;omega
theorem rY.rd(h:rY B w s cs g){i:Int}{K:Addr->Prop}(h0:0<=i)(hi:i<s.n)(hk:∀p y t gx,cs[i.toNat]?=some y->AtL w (p.add (i.toNat*5)) (nJ (y,t))->Arr enI tI' w t.a t.n t.c y.aT gx->fresh B gx->K p):ix s.a s.n i K:=by
 obtain⟨⟨l,h1,h2,h3⟩,h4⟩:=h;have hl:=aK.len (k:=5) (en:=nJ) (λ_=>rfl) (by omega) h1;have hx:l[i.toNat]?=some (l[i.toNat]'(by omega)):=za2 _;generalize l[i.toNat]'(by omega)=y at hx;obtain⟨gx,k1,k2⟩:=h3 y (za0 hx);exact atF (k:=5) (en:=nJ) (λ_=>rfl) (by omega) h1 h0 hi hx λp _ hA=>hk p y.1 y.2 gx (by rw[h2,zc1,hx];rfl) hA k1 k2
theorem rY.wr(h:rY B w s cs g){i:Int}(h0:0<=i)(hi:i<s.n){y:cZ}{gx:Nat}(hy:Arr enI tI' w t.a t.n t.c y.aT gx)(hgx:fresh B gx){K:zg6}(hk:∀u,rY B u s (cs.set i.toNat y) g->Only g w u->K u) :
  ix s.a s.n i λq=>xZ w (q.add (i.toNat*5)) y.thr t.a t.n t.c y.tree y.frm y.to K:=by
 have hap:=h.ap;obtain⟨⟨l,h1,h2,h3⟩,h4⟩:=h;have hl:=aK.len (k:=5) (en:=nJ) (λ_=>rfl) (by omega) h1;have hk2:∀u,aK 5 nJ tC' u s.a s.n s.c (l.set i.toNat (y,t)) g->Only g w u->K u:=λu hu ho=>hk u ⟨⟨_,hu,by rw[h2,List.map_set],λx hx=>by
  have ap:=hap [tI'] (by decide)
  rcases mem_set hx with rfl | ⟨j,_,hj⟩
  .exact⟨gx,Row.mD hy ho ap (by simp),hgx⟩
  .exact h3.mD ho ap x (za0 hj)⟩,h4⟩ ho
 obtain⟨b,rfl,ha,hw⟩:=aK.put (k:=5) (en:=nJ) (λ_=>rfl) h1 (i:=i.toNat) (by omega) hl (y:=(y,t)) (K:=K) hk2;rw[ha];refine dK ⟨h0,hi⟩ ?_;refine Eq.mpr (congrArg (λq=>xZ w q y.thr t.a t.n t.c y.tree y.frm y.to K) (show((⟨b,0,none⟩:Addr).add (i.toNat*5))=⟨b,i.toNat*5,none⟩ by rw[addr_add,zd1])) hw
end
section
variable{w w0 u:World}{B po pc g1 g2 g3 gx kk:Nat}{R:VP}{L:List cZ}{e:dL}{s1 s2 s3 tc:SH}{cu:cZ}
theorem uJ.set1(h:uJ B w po e s1 s2 s3 g1 g2 g3){cs':List cZ}(hr:rY B u s1 cs' g1)(ho:Only g1 w u):uJ B u po { e with numbers:=cs' } s1 s2 s3 g1 g2 g3:=by
 have ap:=h.r1.ap;exact⟨h.box.mod ho λhk=>ap [tL'] (by decide) _ _ _ hk h.box (by simp),hr,h.r2.other ho (by have:=h.a12;omega) (ap [tI'] (by decide)),h.r3.other ho (by have:=h.a13;omega) (ap [tI'] (by decide)),h.a12,h.a13,h.a23,h.pB⟩
theorem set_mid{α:Type}(L:List α)(t:Nat)(y z:α)(ht:t<=L.length):(L.take t++y::L.drop t).set t z=L.take t++z::L.drop t:=by
 have hl:(L.take t).length=t:=by rw[zb6];omega
 rw[List.set_append_right _ _ (by omega),hl,zf8];rfl
theorem EI{α:Type}(L:List α)(t:Nat)(z:α)(hz:L[t]?=some z):L.take (t+1)++z::L.drop (t+1)=L.take t++z::L.drop t:=by
 have hlt:=(za1.1 hz).1;rw[take_snoc hz,zb0 hlt,(za1.1 hz).2,za5];rfl
theorem xB{L:List cZ}{c:cZ}{k:Nat}(hk:k<=L.length)(h1:∀y∈L.drop k,ltD c y=true)(h2:k=0\/∃y,L[k - 1]?=some y/\ltD c y=false):lX ltD L c=L.take k++c::L.drop k:=by
 have e:L.reverse=(L.drop k).reverse++(L.take k).reverse:=by rw[<- List.reverse_append,List.take_append_drop]
 have h1':∀y∈(L.drop k).reverse,ltD c y=true:=λy hy=>h1 y (List.mem_reverse.1 hy);have hd:(L.take k).reverse.dropWhile (λy=>ltD c y)=(L.take k).reverse/\(L.take k).reverse.takeWhile (λy=>ltD c y)=[]:=by
  rcases h2 with rfl | ⟨y,hy,hf⟩
  .simp
  .by_cases h0:k=0
   .subst h0;simp
   .have ht:L.take k=L.take (k - 1)++[y]:=by
     have:=take_snoc hy
     rwa [Nat.sub_add_cancel (by omega)]at this
    rw[ht,List.reverse_append];simp[hf]
 unfold lX;rw[e,List.dropWhile_append_of_pos h1',List.takeWhile_append_of_pos h1',hd.1,hd.2];simp
variable{b29:aj.T29}{b50:aj.T50}{xd xf xp xx xy:Int}{ab ae ah ak aq au:OA}{nb cb ne ce nh ch nk ck nu cu':Nat}
theorem UF(hkk:kk<=L.length)(hL:L.length<=1073741824)(hpc1:pc+1≠g1)
  (hend:∀u,uJ B u po { e with numbers:=L.take kk++cu::L.drop kk } s1 s2 s3 g1 g2 g3->Only g1 w0 u->aj.j105 R b29 b50 xd ab nb cb ae ne ce ah nh ch ak nk ck xf (some ⟨po,0,none⟩) xp aq au nu cu' xx xy u) :
  ∀(j:Nat) (w:World) (y:cZ),kk+j<=L.length->uJ B w po { e with numbers:=L.take (kk+j)++y::L.drop (kk+j) } s1 s2 s3 g1 g2 g3->AtL w ⟨pc,0,none⟩ (nJ (cu,tc))->Arr enI tI' w tc.a tc.n tc.c cu.aT gx->fresh B gx->Only g1 w0 w ->
   aj.l93 R b29 b50 (j+1) xd ab nb cb ae ne ce ah nh ch ak nk ck xf (some ⟨po,0,none⟩) xp aq (some ⟨pc,0,none⟩) kk ((kk+j:Nat):Int) au nu cu' xx xy w:=by
 intro j
 induction j with
 |zero=>
  intro w y hj h hc hcr hgx ho0;unfold aj.l93 aj.g93;refine aA (by omega) ?_;have hl:s1.n=_:=h.r1.len;simp only[za6,zc5,zb6,zb7]at hl;refine⟨s1.a,s1.n,s1.c,atB h.box 1 _ rfl,hc.ldC ?_⟩;refine h.r1.wr (i:=(kk:Int)) (t:=tc) (by omega) (by omega) hcr hgx λu hr ho=>hend u ?_ (zg2 ho0 ho zg7 zg7);have:=h.set1 hr ho;rw[za3]at this;rw[zd2,set_mid _ _ _ _ hkk]at this;exact this
 |succ j ih=>
  intro w y hj h hc hcr hgx ho0;unfold aj.l93 aj.g93;refine aH (by omega) ?_;have hl:s1.n=_:=h.r1.len;simp only[za6,zc5,zb6,zb7]at hl;refine⟨s1.a,s1.n,s1.c,atB h.box 1 _ rfl,s1.a,s1.n,s1.c,atB h.box 1 _ rfl,?_⟩;refine bM (by omega) (by omega) ?_;refine h.r1.rd (i:=((kk+(j+1):Nat):Int) - 1) (by omega) (by omega) λp y2 t2 gx2 hy2 hA2 hc2 hg2=>hA2.ldC ?_;refine h.r1.wr (i:=((kk+(j+1):Nat):Int)) (t:=t2) (by omega) (by omega) hc2 hg2 λu hr ho=>?_;refine bM (by omega) (by omega) ?_;have e1:(((kk+(j+1):Nat):Int) - 1)=((kk+j:Nat):Int):=by omega
  rw[e1];have ap:=h.r1.ap;have hg1:=h.r1.le;rw[e1,za3,zb9 (by rw[zb6];omega),List.getElem?_take_of_lt (by omega)]at hy2;refine ih u y2 (by omega) ?_ (hc.mod ho λhk=>hpc1 hk) (Row.mD hcr ho (ap [tI'] (by decide)) (by simp)) hgx (zg2 ho0 ho zg7 zg7);have:=h.set1 hr ho;rw[za3,set_mid _ _ _ _ (by omega),show kk+(j+1)=(kk+j)+1 by omega,EI _ _ _ hy2]at this;exact this
end
section
variable{w w0 u x:World}{S:Nat->Prop}{B po pc g1 g2 g3 gx kk:Nat}{R:VP}{L:List cZ}{e:dL}{s1 s2 s3 tc:SH}{cu:cZ}
def Num(z:Nat):Prop:=iC z=false/\z<18446744073709551616
theorem P8{c y:cZ}(hc:Num c.thr)(hy:Num y.thr):(FloatKind.f64.format.order y.thr c.thr==some .gt)=ltD c y:=Qc hy.1 hc.1 hy.2 hc.2
variable{b29:aj.T29}{b50:aj.T50}{xd xf xp xx xy:Int}{ab ae ah ak aq au:OA}{nb cb ne ce nh ch nk ck nu cu':Nat}
theorem UQ(h:uJ B w po e s1 s2 s3 g1 g2 g3)(hB:B<=w.heap.size)(hc:AtL w ⟨pc,0,none⟩ (nJ (cu,tc)))(hcr:Arr enI tI' w tc.a tc.n tc.c cu.aT gx)(hgx:fresh B gx)(hpo:pc≠po)(hpg:pc+1≠g1)(hpw:pc<w.heap.size)(hm:s1.n<=1073741000)
  (hcu:Num cu.thr) (hL:∀y∈e.numbers,Num y.thr)
  (hend:∀u s1' g1',uJ B u po { e with numbers:=lX ltD e.numbers cu } s1' s2 s3 g1' g2 g3->(g1'=g1\/w.heap.size<g1')->From B w u->Mod (λk=>k+1=g1\/k=po\/w.heap.size<=k) w u->aj.j105 R b29 b50 xd ab nb cb ae ne ce ah nh ch ak nk ck xf (some ⟨po,0,none⟩) xp aq au nu cu' xx xy u) :
  ∀k:Nat,k<=e.numbers.length->(∀y∈e.numbers.drop k,ltD cu y=true)->aj.l78 R b29 b50 (k+1) xd ab nb cb ae ne ce ah nh ch ak nk ck xf (some ⟨po,0,none⟩) xp aq (some ⟨pc,0,none⟩) k au nu cu' xx xy w:=by
 have hl:s1.n=_:=h.r1.len;have app:∀k:Nat,k<=e.numbers.length->lX ltD e.numbers cu=e.numbers.take k++cu::e.numbers.drop k ->
   cL w ((⟨po,0,none⟩:Addr).add 1) λx x_1 y=>nw (w.alloc (.cells (oG 0 none 0 0 0 0 0) 76)) λC=>dC prog (Builtin.append_ #[72,72] 72 #[.slice x x_1 y,.slice (some (na w)) 1 1]) C λy z=>∃A B C,y = .slice A B C/\(aV (some (⟨po,0,none⟩:Addr)) λy=>st z ((y.add 1).add 0) (.slice A B C) λy=>aV (some (⟨po,0,none⟩:Addr)) λz=>cL y (z.add 1) λz z A=>nv (IntKind.i64.wrap ((z:Int) - 1)) λz=>aj.e93 R b29 b50 xd ab nb cb ae ne ce ah nh ch ak nk ck xf (some ⟨po,0,none⟩) xp aq (some ⟨pc,0,none⟩) k z au nu cu' xx xy y):=by
  intro k hk hput;refine⟨s1.a,s1.n,s1.c,atB h.box 1 _ rfl,bZ ?_⟩;have hkn:=zg3 w (.cells (oG 0 none 0 0 0 0 0) 76);have hAz:AtL (w.alloc (.cells (oG 0 none 0 0 0 0 0) 76)) (na w) (nJ (⟨0,[],0,0,0⟩,⟨none,0,0⟩)):=AtL.new w (nJ (⟨0,[],0,0,0⟩,⟨none,0,0⟩)) tC';have hzn:=hkn.size;refine(h.kept hkn).numAt (y:=⟨0,[],0,0,0⟩) (t:=⟨none,0,0⟩) (gx:=0) hAz (Arr.nil _ _ _) (.inl rfl) (by omega) (by omega) λu a' c' g' h' hg' hm'=>?_;have hzu:=hm'.size;have hl':s1.n+1=_:=h'.r1.len;have hcu':AtL u ⟨pc,0,none⟩ (nJ (cu,tc)):=(hc.kept hkn).mod hm' λhk=>by rcases hk with hk | hk <;> simp at hk <;> omega
  have hg1:=h.r1.le;refine⟨a',s1.n+1,c',atB h'.box 1 _ rfl,bM (by omega) (by omega) ?_⟩;refine za4 (e.numbers.length - k+1) ?_;have e2:(((s1.n+1:Nat):Int) - 1)=((k+(e.numbers.length - k):Nat):Int):=by omega
  rw[e2];have apC:=(h.kept hkn).r1.ap [tI'] (by decide);have hcr':Arr enI tI' u tc.a tc.n tc.c cu.aT gx:=Row.mD (es:=[tI']) (hcr.kept hkn) hm' (λk cur ee hk hb=>by
   rcases hk with hk | hk
   .exact apC k cur ee hk hb
   .have hk':k=po:=hk;subst hk';have hb2:=h.box.keep hkn;rw[hb.ne hb2]
    decide) (by simp)
  refine UF (kk:=k) (po:=po) (pc:=pc) (gx:=gx) (s2:=s2) (s3:=s3) (g2:=g2) (g3:=g3) (L:=e.numbers) (e:=e) (cu:=cu) (tc:=tc) (w0:=u) (s1:=⟨a',s1.n+1,c'⟩) (g1:=g') hk (by omega) (by omega) (λv hv ho=>?_) (e.numbers.length - k) u ⟨0,[],0,0,0⟩ (by omega) ?_ hcu' hcr' hgx (Mod.refl _)
  .rw[<- hput]at hv;have fr1:From B w u:=From.then (Kept.mod hkn) hm' λj _ hj=>by
    have:=h.pB;have:=h.r1.fr;unfold fresh at this
    rcases hj with hj | hj <;> omega
   have fr2:From B w v:=From.then fr1 ho λj _ hj=>by
    have hj':j+1=g':=hj;have:=h.r1.fr;unfold fresh at this;omega
   have m1:Mod (λk=>k+1=g1\/k=po\/w.heap.size<=k) w u:=zg2 (Kept.mod (S:=λ_=>False) hkn) hm' (λ_ _ h=>h.elim) (λj _ hj=>by rcases hj with hj | hj;exact .inl hj;exact .inr (.inl hj));refine hend v _ g' hv (by omega) fr2 (zg2 m1 ho (λ_ _ h=>h) λj _ hj=>?_);have hj':j+1=g':=hj;show j+1=g1\/j=po\/w.heap.size<=j;omega
  .rw[show k+(e.numbers.length - k)=e.numbers.length by omega,zd3,List.drop_length];exact h'
 intro k
 induction k with
 |zero=>
  intro hk hd;unfold aj.l78 aj.g78;refine aA (by omega) ?_;exact app 0 hk (xB hk hd (.inl rfl))
 |succ k ih=>
  intro hk hd;unfold aj.l78 aj.g78;refine aH (by omega) ?_;refine⟨s1.a,s1.n,s1.c,atB h.box 1 _ rfl,bM (by omega) (by omega) ?_⟩;refine h.r1.rd (i:=((k+1:Nat):Int) - 1) (by omega) (by omega) λp y2 t2 gx2 hy2 hA2 _ _=>?_;have e1:(((k+1:Nat):Int) - 1)=(k:Int):=by omega
  rw[e1,za3]at hy2;refine⟨_,hA2 0 _ rfl,?_⟩;refine⟨_,hc 0 _ rfl,?_⟩;have eo:(FloatKind.f64.format.order y2.thr cu.thr==some .gt)=ltD cu y2:=P8 hcu (hL y2 (za0 hy2));show af (FloatKind.f64.format.order y2.thr cu.thr==some .gt) _ _;rw[eo];refine(aQ _ _ _).2 ⟨λhlt=>?_,λhlt=>?_⟩
  .refine bM (by omega) (by omega) ?_;rw[e1];refine ih (by omega) λy hy=>?_;rw[zb0 (by omega)]at hy
   rcases zb3.1 hy with rfl | hy
   .rw[<- (za1.1 hy2).2]at hlt;exact hlt
   .exact hd y hy
  .exact app (k+1) hk (xB hk hd (.inr ⟨y2,hy2,hlt⟩))
end
section
variable{w u x:World}{F S:Nat->Prop}{B po pn g1 g2 g3 gx n c n1 c1:Nat}{a a1:OA}{R:VP}{e:dL}{s1 s2 s3:SH}{cu:cZ}
theorem rf.one{y:cZ}(h:rf B w a n c [y]):∃p t gx,a=some p/\n=1/\AtL w p (nJ (y,t))/\Arr enI tI' w t.a t.n t.c y.aT gx/\fresh B gx:=by
 have hn:=h.len;obtain⟨g,l,h1,h2,h3,h4⟩:=h;obtain⟨⟨y',t⟩,rfl⟩:∃z,l=[z]:=by
  cases l with
  |nil=>cases h3
  |cons z l=>cases l with
   |nil=>exact⟨z,rfl⟩
   |cons z' l=>simp at h3
 obtain rfl:y=y':=by simpa using h3
 obtain⟨p,hp,hc⟩:=(aK.slk (k:=5) (en:=nJ) (λ_=>rfl) (by omega) h1).get 0 (y,t) rfl;obtain⟨gx,k1,k2⟩:=h4 (y,t) (.head _);exact⟨p,t,gx,hp,hn,λj v hj=>by have:=hc j v hj;simpa using this,k1,k2⟩
theorem vS{xs:List cZ}(hs:Ls tC F w a1 n1 c1 xs)(hF:∀b,F b->b<w.heap.size)(hm:nz xs):E.CallsD prog 37 #[.slice a1 n1 c1] w λv u=>∃a' n' c',v = .slice a' n' c'/\rf w.heap.size u a' n' c' xs/\Kept w u:=by
 refine aI.calls (R:=λv u=>∃a' n' c',v = .slice a' n' c'/\rf w.heap.size u a' n' c' xs/\Kept w u) ?_;unfold aI aI.g0;have hl:=hs.len;have hmx:xs.length<=1073741824:=hm.1;have key:∀(k i:Nat) (u:World) (a:OA) (n c:Nat),i+k=n1->n=i->From w.heap.size w u->rf w.heap.size u a n c (xs.take i) ->
   aI.l8 (λv u=>∃a' n' c',v = .slice a' n' c'/\rf w.heap.size u a' n' c' xs/\Kept w u) (k+1) a n c a1 n1 c1 n1 i u:=by
  intro k
  induction k with
  |zero=>
   intro i u a n c hi hni hk h;obtain rfl:i=n1:=by omega
   rw[aI.u8];unfold aI.g8;refine aA (by omega) ?_;rw[zb1 (by omega)]at h;exact⟨a,n,c,rfl,h,zg4 hk⟩
  |succ k ih=>
   intro i u a n c hi hni hf h;rw[aI.u8];unfold aI.g8;refine aH (by omega) ?_;have hk:=zg4 hf;refine(hs.kept hk).rdC (by omega) (by omega) λx a' n' c' hx hcs=>?_;rw[za3]at hx;have hsm:x.aT.length<=1048576:=hm.2 x (za0 hx);refine boxS (zs:=(oG 0 none 0 0 0 0 0).toList) (vs:=enC x ⟨a',n',c'⟩) rfl λu1 hA hb1 hk1=>?_;have hcl:=hcs.len;have hz:=hk.size;have hz1:=hk1.size;have hb1l:=hb1.lt;refine⟨_,_,_,hA 1 _ rfl,?_⟩;refine Arr.pushes S59 (Arr.nil enI tI' u1) (λ_=>rfl) (hcs.kept hk1).sl (by simp only[maxLen];omega) (by omega) λa2 c2 g2 u2 r2 hg2 ho2=>⟨a2,_,c2,rfl,?_⟩;rw[zc9]at r2;have hk2:Kept u1 u2:=Mod.kept ho2 λk hk h=>by have h':k+1=0:=h;omega
   have hb2:=hb1.keep hk2;refine stB hb2 (by simp) λu3 hb3 ho3=>?_;have hb3':Blk u3 u.heap.size (enC x ⟨a2,0+n',c2⟩).toArray tC':=hb3;have hk12:=zg1 hk1 hk2;have r3:Arr enI tI' u3 a2 (0+n') c2 x.aT g2:=Row.mD r2 ho3 (Blk.yL (es:=[tI']) hb2 (by decide)) (by simp);have h3:rf w.heap.size u3 a n c (xs.take i):=by
    obtain⟨g,l,q1,q2,q3,q4⟩:=h;have hgl:=Row.le q1;exact⟨g,l,aK.mod (aK.kept q1 hk12) ho3 (λk hk hk2=>by have hk':k+1=u.heap.size+1:=hk2;omega),q2,q3,λy hy=>let⟨gx,k1,k2⟩:=q4 y hy; ⟨gx,Row.mD (k1.kept hk12) ho3 (Blk.yL (es:=[tI']) hb2 (by decide)) (by simp),k2⟩⟩
   have hz3:=ho3.size;have hz2:=hk2.size;refine(atB hb3').ldC ?_;have hnl:=h.len;rw[zb6]at hnl;refine rf.push (y:=x) (s:=⟨a2,0+n',c2⟩) h3 r3 (by unfold fresh;omega) (by omega) (by omega) λa5 c5 u5 g5 hO ho5=>⟨a5,n+1,c5,rfl,aC (by omega) ?_⟩;refine ih (i+1) u5 a5 (n+1) c5 (by omega) (by omega) (zg2 (From.then (hf.aG hk12) ho3 λk _ hk=>by have hk':k+1=u.heap.size+1:=hk;omega) ho5.from zg7 zg7) ?_;rw[take_snoc hx];exact hO
 exact za4 (n1+1) (key n1 0 w none 0 0 (by omega) rfl (From.refl _ _) (rf.nil _ _))
variable{b29:aj.T29}{b50:aj.T50}{xd xf xx:Int}{ab ae ah ak au:OA}{nb cb ne ce nh ch nk ck nu cu' i:Nat}{all:List cZ}{nd:ND}{sx:SH}
def FLo(B:Nat)(cu:cZ):Nat->Value->World->Prop:=λi v u=>match i with
 |7=>∃a n c,v = .slice a n c/\rf B u a n c [cu]
 |9=>∃(t:SH) (gx:Nat),v=vC cu t/\Arr enI tI' u t.a t.n t.c cu.aT gx/\fresh B gx
 |_=>∃(p:Addr) (t:SH) (gx:Nat),v = .slice (some p) 1 1/\AtL u p (nJ (cu,t))/\Arr enI tI' u t.a t.n t.c cu.aT gx/\fresh B gx
theorem FLo.keep(i:Nat)(v:Value)(u u':World)(h:FLo B cu i v u)(hk:Below u.heap.size u u'):FLo B cu i v u':=by
 unfold FLo at h ⊢;split at h
 .obtain⟨a,n,c,h1,h2⟩:=h;exact⟨a,n,c,h1,h2.kept hk⟩
 .obtain⟨t,gx,h1,h2,h3⟩:=h;exact⟨t,gx,h1,h2.kept hk,h3⟩
 .obtain⟨p,t,gx,h1,h2,h3,h4⟩:=h;exact⟨p,t,gx,h1,h2.kept hk,h3.kept hk,h4⟩
theorem XI(h:uJ B w po e s1 s2 s3 g1 g2 g3)(hB:B<=w.heap.size)(hn:AtL w ⟨pn,0,none⟩ (enH (nd,sx)))(ha:Ls tC F w ab nb cb all)(hF:∀b,F b->b<w.heap.size)(hcu:all[i]?=some cu)(hsm:cu.sm)(hm:s3.n<=1073741000)(hnb:nb<=1073741000)
  (hend:∀u s3' g3',uJ B u po (if nd.missing=2 then { e with lost:=e.lost++[cu] } else e) s1 s2 s3' g1 g2 g3'->From B w u->b50 xd ab nb cb ae ne ce ah nh ch ak nk ck xf (some ⟨po,0,none⟩) au nu cu' xx ((i+1:Nat):Int) u) :
  aj.j105 R b29 b50 xd ab nb cb ae ne ce ah nh ch ak nk ck xf (some ⟨po,0,none⟩) i (some ⟨pn,0,none⟩) au nu cu' xx i w:=by
 unfold aj.j105 aj.ZJ;have hal:=ha.len;have hil:=(za1.1 hcu).1;refine⟨_,hn 5 _ rfl,nN (λe2=>?_) λe2=>aC (by omega) (hend w s3 g3 (by rw[if_neg e2];exact h) (From.refl _ _))⟩;refine⟨FLo B cu,FLo.keep,_,_,_,atB h.box 3 _ rfl,aC (by omega) ?_⟩;have hcap:=ha.cap;refine dK ⟨by omega,by omega⟩ (dK ⟨by omega,by omega⟩ ⟨λo ho=>?_,λa2 n2 c2 h7=>?_⟩)
 .have hsub:=(ha.kept ho).sub (i:=i) (j:=i+1) (by omega) (by omega);have e1:((all.take (i+1)).drop i)=[cu]:=by
   rw[take_snoc hcu,List.drop_append_of_le_length (by rw[zb6];omega),List.drop_of_length_le (by rw[zb6];omega)];rfl
  rw[e1]at hsub;have hz:=ho.size;refine zg0 (vS hsub (λb hb=>by have:=hF b hb;omega) ⟨by simp,λy hy=>by rw[zd0.1 hy];exact hsm⟩) λv u ⟨a',n',c',hv,hO,hk⟩=>⟨a',n',c',hv,⟨a',n',c',rfl,hO.weak (by omega)⟩,hk⟩
 .obtain⟨o7,ho7,a7,n7,c7,e7,hO7⟩:=h7;obtain⟨rfl,rfl,rfl⟩:a2=a7/\n2=n7/\c2=c7:=by simpa using e7
  obtain⟨p,t,gx,rfl,rfl,_⟩:=hO7.one;refine dK (c:=(0:Int)<=0/\(0:Int)<((1:Nat):Int)) ⟨by omega,by omega⟩ ?_;refine⟨λD hD h7=>?_,λy1 y2 y3 y4 y5 y6 y7 h9=>?_⟩
  .obtain⟨a8,n8,c8,e8,hO8⟩:=h7;obtain⟨rfl,rfl,rfl⟩:some p=a8/\1=n8/\c2=c8:=by simpa using e8
   obtain⟨p',t',gx',hp',_,hA,k1,k2⟩:=hO8.one;obtain rfl:=zc2 hp';have hA':AtL D (p.add 0) (nJ (cu,t')):=λj v hj=>by rw[add_add,zd1];exact hA j v hj
   exact hA'.ldC ⟨t',gx',rfl,k1,k2⟩
  .obtain⟨o9,_,t9,gx9,hv9,_⟩:=h9;have inj9:∀ {t:SH},qZ y1 y2 y3 y4 y5 y6 y7=vC cu t->y1=cu.thr/\y2=t.a/\y3=t.n/\y4=t.c/\y5=cu.tree/\y6=cu.frm/\y7=cu.to:=λh=>by
    simp[vC]at h;obtain⟨h1,⟨h2,h3,h4⟩,h5,h6,h7⟩:=h;exact⟨h1,h2,h3,h4,h5,h6,h7⟩
   obtain⟨rfl,rfl,rfl,rfl,rfl,rfl,rfl⟩:=inj9 hv9;refine⟨λJ hJ h7 h9=>?_,λJ hJ K hK h7 h9 h10=>?_⟩
   .obtain⟨t',gx',hv',k1,k2⟩:=h9;obtain⟨_,e2',e3,e4,_⟩:=inj9 hv';have et:t9=t':=by cases t9;cases t';simp at e2' e3 e4;simp[e2',e3,e4]
    subst et;exact⟨na J,t9,gx',rfl,AtL.new J (nJ (cu,t9)) tC',k1.kept (zg3 _ _),k2⟩
   .obtain⟨p',t',gx',hv',hA,k1,k2⟩:=h10;obtain rfl:J=p':=by simpa using hv'
    have hz:=hK.size;refine(h.kept hK).XA hA k1 k2 (by omega) (by omega) λu a' c' g' h' hg' hm'=>aC (by omega) (hend u _ g' (by rw[if_pos e2];exact h') ?_);exact zg2 (Kept.mod (S:=λk=>B<=k) hK) (St.from (h.kept hK) h.r3.fr hm') zg7 zg7
end
end Go.Mir
