/- Part of a proof; no conditions. -/
import Derived.Test.YtmjlipmapfofmaaGreatTC
import Derived.Test.YtmjlipmapfofmaaGreatTPA
set_option linter.unusedVariables false
set_option linter.unusedSimpArgs false
set_option linter.unusedSectionVars false
set_option maxRecDepth 100000
open Go.Proofs.Tryz (prog)
namespace Go.Mir
open Go Go.E Go.RowKit Go.Tr
section
end
theorem S_N:fV prog 48 56 8 80:=sliceT (by kernel_rfl)
def fresh(B g:Nat):Prop:=g=0\/B<g
def Apart(S:Nat->Prop)(w:World)(es:List Nat):Prop:=∀k cs e,S k->Blk w k cs e->e∉es
section
variable{w u w1:World}{a:Option Addr}{n c g B:Nat}{F S:Nat->Prop}{nodes:List ND}{e:ED}{b:SH}
theorem Row.mD{e size:Nat}{cs:List Value}{es:List Nat}(h:Row w e size a n c cs g)(hm:Mod S w u)(hS:Apart S w es)(he:e∈es):Row u e size a n c cs g:=by
 refine⟨h.1,?_⟩
 rcases h.2 with h0 | ⟨b,cur,rfl,h1,hb,h2⟩
 .exact .inl h0
 .exact .inr ⟨b,cur,rfl,h1,hb.mod hm (λhs=>hS b cur e hs hb he),h2⟩
theorem Row.apart{e' size:Nat}{cs:List Value}{es:List Nat}(h:Row w e' size a n c cs g)(he:e'∉es):Apart (λk=>k+1=g) w es:=by
 intro k cs' e hk hb
 rcases h.2 with ⟨rfl,_⟩ | ⟨b,cur,rfl,_,hb',_⟩
 .cases hk
 .obtain rfl:k=b:=by have hk':k+1=b+1:=hk;omega
  unfold Blk at hb hb';rw[hb]at hb'
  cases hb'
  exact he
theorem Blk.yL{k0 e':Nat}{cs:Array Value}{es:List Nat}(h:Blk w k0 cs e')(he:e'∉es):Apart (λk=>k+1=k0+1) w es:=by
 intro k cs' e hk hb;obtain rfl:k=k0:=by have hk':k+1=k0+1:=hk;omega
 unfold Blk at hb h;rw[hb]at h;cases h;exact he
def Am(B:Nat)(w:World)(a:Option Addr)(n c:Nat)(nodes:List ND):Prop:=∃g l,aK 8 enH 56 w a n c l g/\fresh B g/\nodes=l.map (·.1)/\∀x∈l,∃gx,Arr enI 3 w x.2.a x.2.n x.2.c x.1.aT gx/\fresh B gx
theorem Am.mD(h:Am B w a n c nodes)(hm:Mod S w u)(hS:Apart S w [56,3]):Am B u a n c nodes:=by
 obtain⟨g,l,h1,h2,h3,h4⟩:=h;exact⟨g,l,Row.mD h1 hm hS (by simp),h2,h3,λx hx=>let⟨gx,k1,k2⟩:=h4 x hx; ⟨gx,Row.mD k1 hm hS (by simp),k2⟩⟩
theorem Am.kept(h:Am B w a n c nodes)(hk:Kept w u):Am B u a n c nodes:=h.mD (S:=λ_=>False) (Kept.mod hk) (λ_ _ _ h=>h.elim)
def WT(B:Nat)(w:World)(b:Nat):Prop:=B<=b/\b<w.heap.size
theorem Am.ls(h:Am B w a n c nodes):Ls tN (WT B w) w a n c nodes:=by
 obtain⟨g,l,h1,h2,rfl,h4⟩:=h;have l1:=h1.le;refine h1.lsN (λb hb=>⟨?_,?_⟩) λx hx=>?_
 .unfold fresh at h2;omega
 .omega
 .obtain⟨gx,k1,k2⟩:=h4 x hx;have l2:=k1.le;refine(k1.ls (h1:=λ_=>rfl)).mono λb hb=>⟨?_,?_⟩
  .unfold fresh at k2;omega
  .omega
theorem Am.len(h:Am B w a n c nodes):n=nodes.length:=h.ls.len
theorem Am.nil(B:Nat)(w:World)(a:Option Addr)(c:Nat)(h:a=none/\c=0):Am B w a 0 c []:=by
 obtain⟨rfl,rfl⟩:=h;exact⟨0,[],aK.nil _ _ _ _,.inl rfl,rfl,λx hx=>by cases hx⟩
theorem Sj{ys:List Int}(hs:Sl enI w a n ys)(hm:n<=1048576):E.CallsD prog 43 #[.slice a n c] w λv u=>∃a' c',v = .slice a' n c'/\CO enI 3 w u a' n c' ys:=by
 refine slices_Clone_int.calls ?_;unfold slices_Clone_int slices_Clone_int.g0;refine Uj (R:=λv u=>∃a' c',v = .slice a' n c'/\CO enI 3 w u a' n c' ys) S_I (λ_=>rfl) hs (by simp only[maxLen];omega) (by omega) (λh1 h2=>?_) λa' c' u h=>⟨_,_,_,rfl,_,_,rfl,h⟩;have hl:=hs.len;subst h2;simp only[zc6]at hl;subst hl;exact⟨_,_,rfl,0,Arr.nil _ _ _,.inl rfl,Kept.refl _⟩
theorem NY(x:ND×SH):∀v∈enH x,v.oneCell'=true:=by
 intro v hv;simp only[enH,enN,zb3,zf9,or_false]at hv
 rcases hv with h | h | h | h | h | h | h | h <;> subst h <;> rfl
theorem Ef(x:TD×SH):∀v∈Aj x,v.oneCell'=true:=by
 intro v hv;simp only[Aj,zb3,zf9,or_false]at hv
 rcases hv with h | h <;> subst h <;> rfl
theorem Ec{α:Type}{l:List α}{x y:α}(h:y∈l++[x]):y∈l\/y=x:=by simpa using h
theorem Ea{R:Value->zg6}(hG:Good F w1 a n c nodes)(hend:∀u a' c',From w1.heap.size w1 u->Am w1.heap.size u a' n c' nodes->R (.slice a' n c') u) :
  ∀(k i:Nat) (w:World) (l:List (ND×SH)) (a3:Option Addr) (c3 g3:Nat),i+k=n->From w1.heap.size w1 w->aK 8 enH 56 w a3 i c3 l g3->fresh w1.heap.size g3->l.map (·.1)=nodes.take i->(∀x∈l,∃gx,Arr enI 3 w x.2.a x.2.n x.2.c x.1.aT gx/\fresh w1.heap.size gx)->bC.l8 R (k+1) a3 i c3 a n c n i w:=by
 have hn:=hG.len;have hmx:=hG.max;intro k
 induction k with
 |zero=>
  intro i w l a3 c3 g3 hi hw h3 hg3 hl hx;rw[bC.u8];unfold bC.g8;refine aA (by omega) ?_;rw[zb1 (by omega)]at hl;obtain rfl:i=n:=by omega
  exact hend w a3 c3 hw ⟨g3,l,h3,hg3,hl.symm,hx⟩
 |succ k ih=>
  intro i w l a3 c3 g3 hi hw h3 hg3 hl hx;rw[bC.u8];unfold bC.g8;refine aH (by omega) ?_;refine(hG.from hw).ls.rdN (by omega) (by omega) λx a5 n5 c5 hxi hcs=>?_;rw[za3]at hxi;have hsx:=hG.short x (za0 hxi);have hc5:=hcs.len;refine qm λu2 hb2 hb8 hk2=>⟨_,_,_,hb8.c4,?_⟩;refine Arr.pushes S_I (Arr.nil enI 3 u2) (λ_=>rfl) (hcs.kept hk2).sl (by simp only[maxLen];omega) (by omega) λa6 c6 g6 u3 h6 hg6 ho=>⟨_,_,_,rfl,?_⟩;simp only[zd1,zc9]at h6 ⊢;have hk3:Kept u2 u3:=Mod.kept (S:=λk=>k+1=0) ho (λk _ h=>by omega);have hb3:=hb2.mod (Kept.mod (S:=λ_=>False) hk3) (λh=>h);refine hb3.wr0 (by simp[enN]) λu4 hb4 ho4=>?_;have hb84:At8 u4 (na w) x a6 n5 c6 := .IC hb4;refine hb84.ld ?_;have s2:=hk2.size;have s3:=hk3.size;have l3:=h3.le;have l6:=h6.le;have hw4:From w1.heap.size w1 u4:=((hw.aG hk2).aG hk3).only ho4 (.inr (by have:=hw.size;omega));have hk23:=zg1 hk2 hk3;have h34:aK 8 enH 56 u4 a3 i c3 l g3:=(h3.kept hk23).mod ho4 λk h1 h2=>by omega
  have s1:=hw.size;have ap4:Apart (λk=>k+1=w.heap.size+1) u3 [3]:=Blk.yL hb3 (by decide);refine aK.push (k:=8) (en:=enH) S_N (λ_=>rfl) (by omega) h34 (x:=(x,⟨a6,n5,c6⟩)) rfl (NY _) (by simp only[maxLen];omega) (by omega) λa7 c7 g7 u5 h7 hg7 hg70 ho5=>⟨_,_,_,rfl,?_⟩;refine aC (by omega) ?_;have ap5:Apart (λk=>k+1=g3) u4 [3]:=Row.apart h34 (by decide);have s4:=ho4.size;refine ih (i+1) u5 (l++[(x,⟨a6,n5,c6⟩)]) a7 c7 g7 (by omega) (hw4.only ho5 hg3) h7 (by unfold fresh at hg3 ⊢;omega) (by rw[zb8,hl,take_snoc hxi];rfl) λy hy=>?_
  rcases Ec hy with h | h
  .obtain⟨gx,k1,k2⟩:=hx y h;exact⟨gx,Row.mD (Row.mD (k1.kept hk23) ho4 ap4 (by simp)) ho5 ap5 (by simp),k2⟩
  .subst h;exact⟨g6,Row.mD (Row.mD h6 ho4 ap4 (by simp)) ho5 ap5 (by simp),by unfold fresh;omega⟩
theorem LG(hG:Good F w a n c nodes):E.CallsD prog 22 #[.slice a n c] w λv u=>∃a' c',v = .slice a' n c'/\Am w.heap.size u a' n c' nodes/\Kept w u:=by
 refine bC.calls ?_;unfold bC bC.g0;exact⟨n+1,Ea (w1:=w) hG (λu a' c' hu ho=>⟨_,_,rfl,ho,zg4 hu⟩) n 0 w [] none 0 0 (by omega) (From.refl _ _) (aK.nil _ _ _ _) (.inl rfl) (by simp) (λx hx=>by cases hx)⟩
end
section
end
def F1(j:Nat)(Q:Value->zg6):Nat->Value->World->Prop:=λi v u=>i=j->Q v u
section
end
section
variable{w u w1:World}{p:Addr}{o o1:Int}{a a1:Option Addr}{n c c1 m d:Nat}{F F':Nat->Prop}{nodes nodes':List ND}{xs ys:List Int}{e:ED}{x y:ND}
theorem uY{α:Type}{l r:List α}{i:Nat}{x y:α}(hx:l[i]?=some x)(hy:r[i]?=some y)(h:x≠y):l≠r:=λe=>by subst e;rw[hx]at hy;exact h (by simpa using hy)
theorem Ko{R:Value->zg6}(hn:n=xs.length)(hm:n<=16777216)(he:xs.length=ys.length)(hs:Sl enI w a n xs)(ht:Sl enI w a1 m ys)(hR:R (.bool (jW (xs=ys))) w):∀(k i:Nat),i+k=n->xs.take i=ys.take i->slices_Equal_int.l14 R (k+1) a n c a1 m d n i w
 |0,i,hi,hp=>by
  rw[slices_Equal_int.u14];unfold slices_Equal_int.g14;refine aA (by omega) ?_;rw[zb1 (by omega),zb1 (by omega)]at hp;rw[iG hp]at hR;exact hR
 |k+1,i,hi,hp=>by
  rw[slices_Equal_int.u14];unfold slices_Equal_int.g14;refine aH (by omega) ?_;have hml:=ht.len;refine hs.rdI (k := .i64) (by omega) (by omega) λx hx=>?_;refine ht.rdI (k := .i64) (by omega) (by omega) λy hy=>?_;rw[za3]at hx hy;refine ja (λh=>?_) λh=>?_
  .rw[dG (uY hx hy h)]at hR;exact hR
  .subst h;refine aC (by omega) ?_;exact Ko hn hm he hs ht hR k (i+1) (by omega) (by rw[take_snoc hx,take_snoc hy,hp])
theorem yA(hs:Sl enI w a n xs)(ht:Sl enI w a1 m ys)(hm:n<=16777216):Pure prog 57 #[.slice a n c,.slice a1 m d] w (.bool (jW (xs=ys))):=by
 refine slices_Equal_int.calls (R:=λv' u=>v'=_/\Below w.heap.size w u) ?_;unfold slices_Equal_int slices_Equal_int.g0;have hl:=hs.len;have hl2:=ht.len;refine ja (λh=>⟨by rw[dG];intro e;subst e;omega,Below.refl _ _⟩) λh=>?_;exact⟨n+1,Ko hl hm (by omega) hs ht ⟨rfl,Below.refl _ _⟩ n 0 (by omega) rfl⟩
theorem J9{R:Value->zg6}(hn:n=xs.length)(hm:n<=16777216)(he:xs.length=ys.length)(hs:Sl enI w a n xs)(ht:Sl enI w a1 m ys)(hR:R (.bool (jW (xs=ys))) w):∀(k i:Nat),i+k=n->xs.take i=ys.take i->cO.l14 R (k+1) a n c a1 m d n i w
 |0,i,hi,hp=>by
  rw[cO.u14];unfold cO.g14;refine aA (by omega) ?_;rw[zb1 (by omega),zb1 (by omega)]at hp;rw[iG hp]at hR;exact hR
 |k+1,i,hi,hp=>by
  rw[cO.u14];unfold cO.g14;refine aH (by omega) ?_;have hml:=ht.len;refine hs.rdI (k := .i64) (by omega) (by omega) λx hx=>?_;refine ht.rdI (k := .i64) (by omega) (by omega) λy hy=>?_;rw[za3]at hx hy;refine ja (λh=>?_) λh=>?_
  .rw[dG (uY hx hy h)]at hR;exact hR
  .subst h;refine aC (by omega) ?_;exact J9 hn hm he hs ht hR k (i+1) (by omega) (by rw[take_snoc hx,take_snoc hy,hp])
theorem JD(hs:Sl enI w a n xs)(ht:Sl enI w a1 m ys)(hm:n<=16777216):Pure prog 60 #[.slice a n c,.slice a1 m d] w (.bool (jW (xs=ys))):=by
 refine cO.calls (R:=λv' u=>v'=_/\Below w.heap.size w u) ?_;unfold cO cO.g0;have hl:=hs.len;have hl2:=ht.len;refine ja (λh=>⟨by rw[dG];intro e;subst e;omega,Below.refl _ _⟩) λh=>?_;exact⟨n+1,J9 hl hm (by omega) hs ht ⟨rfl,Below.refl _ _⟩ n 0 (by omega) rfl⟩
theorem Xn(h0:x.kind=y.kind)(h1:x.value=y.value)(h2:x.feature=y.feature)(h3:x.thr=y.thr)(h4:x.aT=y.aT)(h5:x.missing=y.missing)(h6:x.left=y.left)(h7:x.right=y.right):x=y:=by
 cases x;cases y;simp_all
theorem TA(hs:Sl enI w a n x.aT)(ht:Sl enI w a1 m y.aT)(hm:n<=16777216):Pure prog 55 #[vN x a n c,vN y a1 m d] w (.bool (jW (x=y))):=by
 refine gu.calls (R:=λv' u=>v'=_/\Below w.heap.size w u) ?_;unfold gu gu.g0;refine XU λw1 _ hx1 hk1=>XU λw2 _ hy hk2=>?_;have hx:=hx1.kept hk2;have hk:=zg1 hk1 hk2;have no:x≠y->∀u,Below w2.heap.size w2 u->(Value.bool false = .bool (jW (x=y))/\Below w.heap.size w u):=λh u hu=>⟨by rw[dG h],zg1 hk hu⟩;refine⟨_,hx.c0,_,hy.c0,nN (λe0=>?_) λe0=>no λh=>e0 (by rw[h])⟩;refine⟨_,hx.c1,_,hy.c1,nN (λe1=>?_) λe0=>no λh=>e0 (by rw[h])⟩;refine⟨_,hx.c2,_,hy.c2,nN (λe2=>?_) λe0=>no λh=>e0 (by rw[h])⟩;refine⟨_,hx.c3,_,fb _ _,_,hy.c3,_,fb _ _,nN (λe3=>?_) λe0=>no λh=>e0 (by rw[h])⟩;refine⟨_,_,_,hx.c4,_,_,_,hy.c4,jW (x.aT=y.aT),λu hu=>pq (yA (hs.keep (zg1 hk hu)) (ht.keep (zg1 hk hu)) hm) hu,?_⟩;refine(aQ _ _ _).2 ⟨λe4=>?_,λe4=>no λh=>by rw[iG (by rw[h])]at e4;cases e4⟩;refine⟨_,hx.c5,_,hy.c5,nN (λe5=>?_) λe0=>no λh=>e0 (by rw[h])⟩;refine⟨_,hx.c6,_,hy.c6,nN (λe6=>?_) λe0=>no λh=>e0 (by rw[h])⟩;refine⟨_,hx.c7,_,hy.c7,λu hu=>⟨?_,zg1 hk hu⟩⟩;have h4:x.aT=y.aT:=ze4 λh=>by rw[dG h]at e4;cases e4
 by_cases e7:x.right=y.right
 .rw[iG (Xn e0 e1 e2 (by omega) h4 e5 e6 e7),e7];simp
 .rw[dG (λh=>e7 (by rw[h]))];simp[e7]
theorem IA{R:Value->zg6}(hG:Good F w1 a n c nodes)(hG':Good F' w1 a1 m d nodes')(he:n=m)(hR:∀u,From w1.heap.size w1 u->R (.bool (jW (nodes=nodes'))) u):∀(k i:Nat) (w:World),i+k=n->From w1.heap.size w1 w->nodes.take i=nodes'.take i->fP.l14 R (k+1) a1 m d a n c n i w
 |0,i,w,hi,hw,hp=>by
  have hn:=hG.len;have hn':=hG'.len;rw[fP.u14];unfold fP.g14;refine aA (by omega) ?_;rw[zb1 (by omega),zb1 (by omega)]at hp;have:=hR w hw;rw[iG hp]at this;exact this
 |k+1,i,w,hi,hw,hp=>by
  have hn:=hG.len;have hn':=hG'.len;have hmx:=hG.max;rw[fP.u14];unfold fP.g14;refine aH (by omega) ?_;refine(hG.from hw).ls.rdN (by omega) (by omega) λx a5 n5 c5 hx hcs=>?_;rw[za3]at hx;refine qm λu _ hb hk=>?_;have hu:=hw.aG hk;refine(hG'.from hu).ls.rdN (by omega) (by omega) λy a6 n6 c6 hy hcs'=>?_;rw[za3]at hy;refine qm λu2 _ hb2 hk2=>?_;have hb':=hb.kept hk2;refine hb'.ld (hb2.ld ?_);have hs5:=hG.short x (za0 hx);have hl5:=hcs.len;refine zg0 (TA (x:=x) (y:=y) (hcs.kept (zg1 hk hk2)).sl (hcs'.kept hk2).sl (by omega)) λv u3 ⟨hv,hk3⟩=>⟨_,hv,?_⟩;have hu3:=(hu.aG hk2).aG hk3
  by_cases h:x=y
  .rw[iG h];subst h;refine GG ?_;refine aC (by omega) ?_;exact IA hG hG' he hR k (i+1) u3 (by omega) hu3 (by rw[take_snoc hx,take_snoc hy,hp])
  .rw[dG h];refine LW ?_;have:=hR u3 hu3;rw[dG (uY hx hy h)]at this;exact this
theorem QI(hG:Good F w a n c nodes)(hG':Good F' w a1 m d nodes'):Pure prog 54 #[.slice a n c,.slice a1 m d,.func (.func 55) #[] #[]] w (.bool (jW (nodes=nodes'))):=by
 refine fP.calls (R:=λv' u=>v'=_/\Below w.heap.size w u) ?_;unfold fP fP.g0;have hl:=hG.len;have hl2:=hG'.len;refine ja (λh=>⟨by rw[dG];intro e;subst e;omega,Below.refl _ _⟩) λh=>?_;exact⟨n+1,IA hG hG' (by omega) (λu hu=>⟨rfl,zg4 hu⟩) n 0 w (by omega) (From.refl _ _) rfl⟩
theorem UW(hG:Good F w a n c nodes)(hG':Good F' w a1 m d nodes'):Pure prog 32 #[vT o a n c,vT o1 a1 m d] w (.bool (jW (o=o1/\nodes=nodes'))):=by
 refine iP.calls (R:=λv' u=>v'=_/\Below w.heap.size w u) ?_;unfold iP iP.g0;refine qc λw1 _ hT1 hk1=>qc λw2 _ hT2 hk2=>?_;have hT:=hT1.kept hk2;have hk:=zg1 hk1 hk2;refine⟨_,hT.c0,_,hT2.c0,nN (λe0=>?_) λe0=>⟨by rw[dG (λh=>e0 h.1)],hk⟩⟩;refine⟨_,_,_,hT.c1,_,_,_,hT2.c1,?_⟩;refine zg0 (QI (hG.kept hk) (hG'.kept hk)) λv u ⟨hv,hk3⟩=>⟨_,hv,?_,zg1 hk hk3⟩;rw[yX (p:=nodes=nodes') (q:=o=o1/\nodes=nodes') ⟨λh=>⟨e0,h⟩,λh=>h.2⟩]
theorem uH{R:Value->zg6}(hG:Good F w1 a n c nodes)(hG':Good F' w1 a1 m d nodes')(hT:At2 w1 p o1 a1 m d)(he:n=m)(hR:∀u,From w1.heap.size w1 u->R (.bool (jW (nodes=nodes'))) u):∀(k i:Nat) (w:World),i+k=n->From w1.heap.size w1 w->nodes.take i=nodes'.take i->bG.l14 R (k+1) (some p) a n c n i w
 |0,i,w,hi,hw,hp=>by
  have hn:=hG.len;have hn':=hG'.len;rw[bG.u14];unfold bG.g14;refine aA (by omega) ?_;rw[zb1 (by omega),zb1 (by omega)]at hp;have:=hR w hw;rw[iG hp]at this;exact this
 |k+1,i,w,hi,hw,hp=>by
  have hn:=hG.len;have hn':=hG'.len;have hmx:=hG.max;rw[bG.u14];unfold bG.g14;refine aH (by omega) ?_;refine(hG.from hw).ls.rdN (by omega) (by omega) λx a5 n5 c5 hx hcs=>?_;rw[za3]at hx;refine qm λu _ hb hk=>?_;have hu:=hw.aG hk;refine dE ⟨_,_,_,(hT.from hu).c1,?_⟩;refine(hG'.from hu).ls.rdN (by omega) (by omega) λy a6 n6 c6 hy hcs'=>?_;rw[za3]at hy;refine qm λu2 _ hb2 hk2=>?_;have hb':=hb.kept hk2;have hs5:=hG.short x (za0 hx);have hl5:=hcs.len;have hu2:=hu.aG hk2;have no:x≠y->∀u,Below u2.heap.size u2 u->R (.bool false) u:=λh u hu=>by
   have:=hR u (hu2.aG hu);rw[dG (uY hx hy h)]at this;exact this
  refine⟨_,hb'.c0,_,hb2.c0,ja (λe0=>no λh=>e0 (by rw[h])) λe0=>?_⟩;refine⟨_,hb'.c1,_,hb2.c1,ja (λe0=>no λh=>e0 (by rw[h])) λe1=>?_⟩;refine⟨_,hb'.c2,_,hb2.c2,ja (λe0=>no λh=>e0 (by rw[h])) λe2=>?_⟩;refine⟨_,hb'.c3,_,fb _ _,_,hb2.c3,_,fb _ _,ja (λe0=>no λh=>e0 (by rw[h])) λe3=>?_⟩;refine⟨_,_,_,hb'.c4,_,_,_,hb2.c4,decide (x.aT=y.aT),λu hu=>pq (Uc (hcs.kept (zg1 hk (zg1 hk2 hu))).sl (hcs'.kept (zg1 hk2 hu)).sl (by omega)) hu,?_⟩
  by_cases e4:x.aT=y.aT
  .rw[decide_eq_true e4];refine GG ?_;refine⟨_,hb'.c5,_,hb2.c5,ja (λe0=>no λh=>e0 (by rw[h])) λe5=>?_⟩;refine⟨_,hb'.c6,_,hb2.c6,ja (λe0=>no λh=>e0 (by rw[h])) λe6=>?_⟩;refine⟨_,hb'.c7,_,hb2.c7,λu3 hu3=>ja (λe0=>no (λh=>e0 (by rw[h])) u3 hu3) λe7=>?_⟩;have h:=Xn e0 e1 e2 (by omega) e4 e5 e6 e7;subst h;refine aC (by omega) ?_;exact uH hG hG' hT he hR k (i+1) u3 (by omega) (hu2.aG hu3) (by rw[take_snoc hx,take_snoc hy,hp])
  .rw[decide_eq_false e4];exact LW (no λh=>e4 (by rw[h]))
theorem La(hG:Good F w a n c nodes)(hG':Good F' w a1 m d nodes'):Pure prog 36 #[vT o a n c,vT o1 a1 m d] w (.bool (jW (o=o1/\nodes=nodes'))):=by
 refine bG.calls (R:=λv' u=>v'=_/\Below w.heap.size w u) ?_;unfold bG bG.g0;refine qc λw1 _ hT1 hk1=>qc λw2 _ hT2 hk2=>?_;have hT:=hT1.kept hk2;have hk:=zg1 hk1 hk2;have hl:=hG.len;have hl2:=hG'.len;refine⟨_,hT.c0,_,hT2.c0,ja (λe0=>⟨by rw[dG (λh=>e0 h.1)],hk⟩) λe0=>?_⟩;refine⟨_,_,_,hT.c1,_,_,_,hT2.c1,ja (λe1=>⟨by rw[dG (λh=>e1 (by rw[hl,hl2,h.2]))],hk⟩) λe1=>⟨_,_,_,hT.c1,?_⟩⟩;exact⟨n+1,uH (w1:=w2) (hG.kept hk) (hG'.kept hk) hT2 (by omega) (λu hu=>⟨by rw[yX (p:=nodes=nodes') (q:=o=o1/\nodes=nodes') ⟨λh=>⟨e0,h⟩,λh=>h.2⟩],zg1 hk (zg4 hu)⟩) n 0 w2 (by omega) (From.refl _ _) rfl⟩
end
section
end
noncomputable def lY(nodes:List ND):List ND:=if(dY iC nodes).1=0 then pO (gW nodes).pre nodes else[]
section
variable{nodes:List ND}
theorem nP(h:(dY iC nodes).1=0):lY nodes=pO (gW nodes).pre nodes:=by unfold lY;rw[if_pos h]
end
section
end
end Go.Mir
