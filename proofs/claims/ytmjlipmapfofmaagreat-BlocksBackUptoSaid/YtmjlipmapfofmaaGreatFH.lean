/- Part of a proof; no conditions. -/
import Derived.Test.YtmjlipmapfofmaaGreatFG
import Derived.Test.YtmjlipmapfofmaaGreatFF
set_option linter.unusedVariables false
set_option linter.unusedSimpArgs false
set_option linter.unusedSectionVars false
set_option maxRecDepth 100000
open Go.Proofs.Tryz (prog)
namespace Go.Mir
open Go Go.E Go.RowKit Go.Tr Go.Ss Go.ChangeShapes
section
variable{w w0 u x:World}{F:Nat->Prop}{B po pc g1 g2 g3 gx n c:Nat}{R:VP}{L:List cZ}{e:dL}{s1 s2 s3 tc:SH}{cu:cZ}{A:List (ND×cZ)}
structure TE(e:dL)(i:Nat):Prop where
 n:e.numbers.length<=i
 c:e.aT.length<=i
 l:e.lost.length<=i
 num:∀y∈e.numbers,Num y.thr
theorem TF(L:List cZ)(c:cZ):(lX ltD L c).length=L.length+1:=by
 have:(lX ltD L c).Perm (c::L):=by
  unfold lX;refine zf7.trans (List.Perm.cons _ ?_);rw[<- List.reverse_append,List.takeWhile_append_dropWhile,List.reverse_reverse]
 simpa using this.length_eq
theorem Rq{L:List cZ}{c y:cZ}(h:y∈lX ltD L c):y=c\/y∈L:=by
 have:(lX ltD L c).Perm (c::L):=by
  unfold lX;refine zf7.trans (List.Perm.cons _ ?_);rw[<- List.reverse_append,List.takeWhile_append_dropWhile,List.reverse_reverse]
 exact zb3.1 (this.mem_iff.1 h)
theorem TE.upd{nd:ND}{i:Nat}(h:TE e i)(hc:Num cu.thr):TE (Nc nd cu e) (i+1):=by
 have h1:=h.n;have h2:=h.c;have h3:=h.l;have hp:=TF e.numbers cu;have hm:∀y∈lX ltD e.numbers cu,Num y.thr:=λy hy=>(Rq hy).elim (λe=>e ▸ hc) (h.num y);unfold Nc;have l1:∀l:List cZ,(l++[cu]).length=l.length+1:=λl=>by simp
 by_cases k1:nd.kind=3
 .by_cases k2:nd.missing=2
  .rw[if_pos k1,if_pos k2];exact⟨by show e.numbers.length<=_;omega,by show(e.aT++[cu]).length<=_;rw[l1];omega,by show(e.lost++[cu]).length<=_;rw[l1];omega,h.num⟩
  .rw[if_pos k1,if_neg k2];exact⟨by show e.numbers.length<=_;omega,by show(e.aT++[cu]).length<=_;rw[l1];omega,by show e.lost.length<=_;omega,h.num⟩
 .by_cases k2:nd.missing=2
  .rw[if_neg k1,if_pos k2];exact⟨by show(lX ltD e.numbers cu).length<=_;omega,by show e.aT.length<=_;omega,by show(e.lost++[cu]).length<=_;rw[l1];omega,hm⟩
  .rw[if_neg k1,if_neg k2];exact⟨by show(lX ltD e.numbers cu).length<=_;omega,by show e.aT.length<=_;omega,by show e.lost.length<=_;omega,hm⟩
theorem TE.mono{i j:Nat}(h:TE e i)(hij:i<=j):TE e j:=⟨zb5 h.n hij,zb5 h.c hij,zb5 h.l hij,h.num⟩
variable{b29:aj.T29}{xd:Int}{f:Nat}{ab ae ah ak:OA}{nb cb ne ce nh ch nk ck:Nat}
set_option maxHeartbeats 1000000 in
theorem Qq(ha:Ls tC F w0 ab nb cb (A.map (·.2)))(hn:Ls tN F w0 ae ne ce (A.map (·.1)))(hF:∀b,F b->b<B)(hB:B<=w0.heap.size)(hA:A.length<=268435456)(hsm:∀p∈A,p.2.sm/\Num p.2.thr)
  (hend:∀u s1 s2 s3 g1 g2 g3,uJ B u po (xY f A ⟨f,[],[],[]⟩) s1 s2 s3 g1 g2 g3->From B w0 u->TE (xY f A ⟨f,[],[],[]⟩) A.length ->
   aV (some (⟨po,0,none⟩:Addr)) λo=>rU u o λo p q r s t v w x y=>nw (u.alloc (.cells (uf o p q r s t v w x y) 74)) λo=>dC prog (Builtin.append_ #[64,64] 64 #[.slice ak nk ck,.slice (some (na u)) 1 1]) o λk l=>∃m o p,k = .slice m o p/\(inc (f:Int) λk=>b29 xd ab nb cb ae ne ce ah nh ch m o p k l)) :
  ∀(k i:Nat) (w:World) (s1 s2 s3:SH) (g1 g2 g3:Nat),i+k=ne->uJ B w po (xY f (A.take i) ⟨f,[],[],[]⟩) s1 s2 s3 g1 g2 g3->From B w0 w->TE (xY f (A.take i) ⟨f,[],[],[]⟩) i ->
   aj.l50 R b29 (k+1) xd ab nb cb ae ne ce ah nh ch ak nk ck f (some ⟨po,0,none⟩) ae ne ce ne i w:=by
 intro k;have hnl:=hn.len;have hal:=ha.len;rw[za7]at hnl hal
 induction k with
 |zero=>
  intro i w s1 s2 s3 g1 g2 g3 hi h hf hb;obtain rfl:i=A.length:=by omega
  rw[zd3]at h hb;unfold aj.l50 aj.g50;refine aA (by omega) ?_;exact hend w s1 s2 s3 g1 g2 g3 h hf hb
 |succ k ih=>
  intro i w s1 s2 s3 g1 g2 g3 hi h hf hb;unfold aj.l50 aj.g50;refine aH (by omega) ?_;have hz:=hf.size;have hnw:Ls tN F w ae ne ce (A.map (·.1)):=From.ls hn hf hF;have haw:Ls tC F w ab nb cb (A.map (·.2)):=From.ls ha hf hF;refine hnw.rdN (by omega) (by omega) λnd a' n' c' hnd hcats=>?_;rw[za3]at hnd;have hpi:A[i]?=some (A[i]'(by omega)):=za2 _;generalize A[i]'(by omega)=p at hpi;obtain rfl:p.1=nd:=by rw[zc1,hpi]at hnd;exact zc2 hnd
  have hcu:(A.map (·.2))[i]?=some p.2:=by rw[zc1,hpi];rfl
  obtain⟨hps,hpn⟩:=hsm p (za0 hpi);refine boxS (zs:=[.int .u8 0,.int .i64 0,.int .i64 0,.float .f64 0,.slice none 0 0,.int .u8 0,.int .i64 0,.int .i64 0]) (vs:=enH (p.1,⟨a',n',c'⟩)) (e:=tN') rfl λz1 hA1 b1 hk1=>?_;have hz1:=hk1.size;have b1l:=b1.lt;refine⟨_,hA1 2 _ rfl,?_⟩;have hstep:xY f (A.take (i+1)) ⟨f,[],[],[]⟩=if p.1.feature=f then Nc p.1 p.2 (xY f (A.take i) ⟨f,[],[],[]⟩) else xY f (A.take i) ⟨f,[],[],[]⟩:=by rw[take_snoc hpi,Fg]
  have hf1:=hf.aG hk1;refine ja (λhne=>aC (by omega) (ih (i+1) z1 s1 s2 s3 g1 g2 g3 (by omega) ?_ hf1 ?_)) λheq=>aC (by omega) ?_
  .rw[hstep,if_neg hne];exact h.kept hk1
  .rw[hstep,if_neg hne];exact hb.mono (by omega)
  rw[if_pos heq]at hstep;have hcap:=haw.cap;refine dK ⟨by omega,by omega⟩ (dK ⟨by omega,by omega⟩ ?_);have hsub:=(haw.kept hk1).sub (i:=i) (j:=i+1) (by omega) (by omega);have e1:(((A.map (·.2)).take (i+1)).drop i)=[p.2]:=by
   rw[take_snoc hcu,List.drop_append_of_le_length (by rw[zb6,za7];omega),List.drop_of_length_le (by rw[zb6,za7];omega)];rfl
  rw[e1]at hsub;refine zg0 (vS hsub (λb hb=>by have:=hF b hb;omega) ⟨by simp,λy hy=>by rw[zd0.1 hy];exact hps⟩) λv z2 ⟨a2,n2,c2,hv,hO,hk2⟩=>⟨a2,n2,c2,hv,?_⟩;obtain⟨p5,t,gx,rfl,rfl,hA5,hcr5,hgx5⟩:=hO.one;refine dK (c:=(0:Int)<=0/\(0:Int)<((1:Nat):Int)) ⟨by omega,by omega⟩ ?_;have hA5':AtL z2 (p5.add 0) (nJ (p.2,t)):=λj v hj=>by rw[add_add,zd1];exact hA5 j v hj
  refine hA5'.ldC ?_;refine boxS (zs:=(oG 0 none 0 0 0 0 0).toList) (vs:=enC p.2 t) (e:=tC') rfl λz3 hA6 b6 hk3=>?_;have hz2:=hk2.size;have hz3:=hk3.size;have b6l:=b6.lt;have hk23:=zg1 hk2 hk3;have hk123:=zg1 hk1 hk23;have h3:=h.kept hk123;have hA13:=hA1.kept hk23;have b13:=b1.keep hk23;have hf3:=hf.aG hk123;have hgx:fresh B gx:=by unfold fresh at hgx5 ⊢;omega
  have hcr:=hcr5.kept hk3;have hbn:=hb.n;have hbc:=hb.c;have hbl:=hb.l;have hl1:=h.r1.len;have hl2:=h.r2.len;have hl3:=h.r3.len;have hpo:=h.box.lt;have hg1:=h.r1.le;have hg2:=h.r2.le;have nat3:∀ {y:World},From B w0 y->Ls tC F y ab nb cb (A.map (·.2)):=λhy=>From.ls ha hy hF;have fin:∀(u:World) (e':dL) (s1' s2' s3':SH) (g1' g2' g3':Nat),uJ B u po e' s1' s2' s3' g1' g2' g3'->B<=u.heap.size->From B w0 u->AtL u ⟨w.heap.size,0,none⟩ (enH (p.1,⟨a',n',c'⟩))->s3'.n<=1073741000 ->
    (if p.1.missing=2 then { e' with lost:=e'.lost++[p.2] } else e')=Nc p.1 p.2 (xY f (A.take i) ⟨f,[],[],[]⟩) ->
    aj.j105 R b29 (aj.l50 R b29 (k+1)) xd ab nb cb ae ne ce ah nh ch ak nk ck f (some ⟨po,0,none⟩) i (some (na w)) ae ne ce ne i u:=by
   intro u e' s1' s2' s3' g1' g2' g3' h' hB' hfu hnu hm' he';refine XI h' hB' hnu (nat3 hfu) (λb hb=>by have:=hF b hb;omega) hcu hps hm' (by omega) λv s3'' g3'' hv hfv=>?_;rw[he',<- hstep]at hv;refine ih (i+1) v s1' s2' s3'' g1' g2' g3'' (by omega) hv (zg2 hfu hfv zg7 zg7) ?_;rw[hstep];exact hb.upd hpn
  refine⟨_,hA13 0 _ rfl,nN (λe3=>?_) λe3=>?_⟩
  .refine⟨_,_,_,atB h3.box 2 _ rfl,hA6.ldC (bZ ?_)⟩;have hkn:=zg3 z3 (.cells (nJ (p.2,t)).toArray tC');have hzn:=hkn.size;have h4:=h3.kept hkn;refine h4.Zo (y:=p.2) (t:=t) (AtL.new z3 (nJ (p.2,t)) tC') (hcr.kept hkn) hgx (by omega) (by omega) λu a9 c9 g9 hu hg9 hmu=>?_;have hzu:=hmu.size;refine fin u _ _ _ _ _ _ _ hu (by omega) (zg2 (hf3.aG hkn) (St.from h4 h4.r2.fr hmu) zg7 zg7) ((hA13.kept hkn).mod hmu λhk=>by
    have hk':w.heap.size+1=g2\/w.heap.size=po:=hk
    omega) (by omega) ?_
   unfold Nc;rw[if_pos e3]
  .refine⟨_,_,_,atB h3.box 1 _ rfl,za4 (s1.n+1) ?_⟩;refine UQ (po:=po) (pc:=z2.heap.size) (gx:=gx) (s2:=s2) (s3:=s3) (g2:=g2) (g3:=g3) (tc:=t) (cu:=p.2) (e:=xY f (A.take i) ⟨f,[],[],[]⟩) h3 (by omega) hA6 hcr hgx (by omega) (by omega) b6l (by omega) hpn hb.num (λu s1' g1' hu hg hfu hmu=>?_) s1.n (by omega) (λy hy=>by rw[List.drop_of_length_le (by omega)]at hy;cases hy);have hzu:=hmu.size;refine fin u _ _ _ _ _ _ _ hu (by omega) (zg2 hf3 hfu zg7 zg7) (hA13.mod hmu λhk=>by
    have hk':w.heap.size+1=g1\/w.heap.size=po\/z3.heap.size<=w.heap.size:=hk
    omega) (by omega) ?_
   unfold Nc;rw[if_neg e3]
end
section
variable{w w0 u w1 wB x:World}{F S:Nat->Prop}{B po g1 g2 g3 n c g:Nat}{a:OA}{L:List cZ}{e:dL}{s1 s2 s3:SH}{A:List (ND×cZ)}
abbrev ZY(b:Bool):Value := .bool b
abbrev tBo:Nat:=4
theorem uJ.lst(h:uJ B w po e s1 s2 s3 g1 g2 g3):rX (λb=>B<=b/\b<w.heap.size) w (e,s1,s2,s3):=by
 have one:∀ {s:SH} {cs:List cZ} {g:Nat},rY B w s cs g->Ls tC (λb=>B<=b/\b<w.heap.size) w s.a s.n s.c cs:=λh=>by
  obtain⟨⟨l,h1,h2,h3⟩,h4⟩:=h;exact rf.ls ⟨_,l,h1,h4,h2,h3⟩
 exact⟨one h.r1,one h.r2,one h.r3⟩
theorem KQ(A:List (ND×cZ))(p:ND×cZ)(f:Int):rQ (A++[p]) f=(rQ A f||p.1.feature==f):=by
 unfold rQ;rw[List.any_append];simp
theorem RP(A:List (ND×cZ))(p:ND×cZ)(d:Nat)(h0:0<=p.1.feature):((List.range d).map λf=>rQ A (f:Nat)).set p.1.feature.toNat true=(List.range d).map λf=>rQ (A++[p]) (f:Nat):=by
 apply List.ext_getElem?;intro j;rw[zf4,zc1,zc1,za7,List.length_range]
 by_cases hj:j<d
 .rw[List.getElem?_range hj];simp only[Option.map_some,KQ]
  by_cases hf:p.1.feature.toNat=j
  .rw[if_pos hf,if_pos (by omega)];have:(p.1.feature==(j:Int))=true:=by simp;omega
   rw[this,Bool.or_true]
  .rw[if_neg hf];have:(p.1.feature==(j:Int))=false:=by simp;omega
   rw[this,Bool.or_false]
 .have e:(List.range d)[j]?=none:=zc3 (by rw[List.length_range];omega);rw[e]
  by_cases hf:p.1.feature.toNat=j
  .rw[if_pos hf,if_neg (by omega)];rfl
  .rw[if_neg hf];rfl
abbrev LsA(w:World)(L:List dL):VP:=λv u=>∃a n c,v = .slice a n c/\Ls tL (nwB w u) u a n c L/\Kept w u
variable{ab ae ah:OA}{nb cb ne ce nh ch d:Nat}
set_option maxHeartbeats 1000000 in
theorem OG(ha:Ls tC F w0 ab nb cb (A.map (·.2)))(hn:Ls tN F w0 ae ne ce (A.map (·.1)))(hF:∀b,F b->b<w0.heap.size)(hB:wB.heap.size<=w0.heap.size)(hkB:From wB.heap.size wB w0)(hA:A.length<=268435456)(hsm:∀p∈A,p.2.sm/\Num p.2.thr)(hd:d<=65536)
  (hu:Arr ZY tBo w0 ah nh ch ((List.range d).map λf=>rQ A (f:Nat)) g) :
  ∀(k f:Nat) (w:World) (sO:SH) (gO:Nat) (ll:List LD),f+k=d->Kept w0 w->aK 4 Na tL' w sO.a sO.n sO.c ll gO->(gO=0\/w0.heap.size<gO)->ll.map (·.1)=jU A f->(∀y∈ll,rX (λb=>w0.heap.size<=b/\b<w.heap.size/\b+1≠gO) w y) ->
   aj.l29 (LsA wB (jU A d)) (k+1) d ab nb cb ae ne ce ah nh ch sO.a sO.n sO.c f w:=by
 intro k;have hnl:=hn.len;have hnu:=hu.len;rw[za7,List.length_range]at hnu
 induction k with
 |zero=>
  intro f w sO gO ll hf hk hl hg hm hx;obtain rfl:f=d:=by omega
  rw[aj.u29];unfold aj.g29;refine aA (by omega) ?_;have hz:=hk.size;have hle:=Row.le hl;refine⟨_,_,_,rfl,?_,zg4 (hkB.aG hk)⟩;rw[<- hm];exact lsL hl (λb hb=>⟨by omega,by omega⟩) λy hy=>(hx y hy).mono λb hb=>⟨by have:=hb.1;omega,hb.2.1⟩
 |succ k ih=>
  intro f w sO gO ll hf hk hl hg hm hx;rw[aj.u29];unfold aj.g29;refine aH (by omega) ?_;have hz:=hk.size;have hle:=Row.le hl;have hln:=aK.len (k:=4) (en:=Na) (λ_=>rfl) (by omega) hl;have hll:ll.length<=f:=by
   have:=congrArg List.length hm;rw[za7]at this;have h2:∀f:Nat,(jU A f).length<=f:=λf=>by
    induction f with
    |zero=>exact zb4 _
    |succ f ih=>unfold jU;rw[za6];split <;> simp <;> omega
   have:=h2 f;omega
  have huw:=hu.kept hk;refine(huw.sl).rd (sel:=λx=>x) (λ_=>rfl) (i:=(f:Int)) (by omega) (by omega) λb hb=>?_;rw[za3,zc1,List.getElem?_range (by omega)]at hb;obtain rfl:rQ A (f:Nat)=b:=zc2 hb
  cases hus:rQ A (f:Nat) with
  |false=>
   refine LW (aC (by omega) (ih (f+1) w sO gO ll (by omega) hk hl hg ?_ hx));rw[hm];show _=jU A f++if rQ A (f:Nat)=true then _ else[];rw[hus,if_neg (by decide),zc8]
  |true=>
   refine GG ?_;refine boxS (zs:=(uf 0 none 0 0 none 0 0 none 0 0).toList) (vs:=enL ⟨(f:Int),[],[],[]⟩ ⟨none,0,0⟩ ⟨none,0,0⟩ ⟨none,0,0⟩) (e:=tL') rfl λw1 hA1 b1 hk1=>?_;have hz1:=hk1.size;have hk01:=zg1 hk hk1;have h0:uJ w.heap.size w1 w.heap.size ⟨(f:Int),[],[],[]⟩ ⟨none,0,0⟩ ⟨none,0,0⟩ ⟨none,0,0⟩ 0 0 0:=⟨b1,rY.nil _ _,rY.nil _ _,rY.nil _ _,.inl rfl,.inl rfl,.inl rfl,zb4 _⟩;have hend:∀u s1 s2 s3 g1 g2 g3,uJ w.heap.size u w.heap.size (xY f A ⟨f,[],[],[]⟩) s1 s2 s3 g1 g2 g3->From w.heap.size w1 u->TE (xY f A ⟨f,[],[],[]⟩) A.length ->
     aV (some (⟨w.heap.size,0,none⟩:Addr)) λo=>rU u o λo p q r s t v w x y=>nw (u.alloc (.cells (uf o p q r s t v w x y) 74)) λo=>dC prog (Builtin.append_ #[64,64] 64 #[.slice sO.a sO.n sO.c,.slice (some (na u)) 1 1]) o λk' l=>∃m o p,k' = .slice m o p/\(inc (f:Int) λk'=>aj.l29 (LsA wB (jU A d)) (k+1) d ab nb cb ae ne ce ah nh ch m o p k' l):=by
    intro u s1 s2 s3 g1 g2 g3 h hfu _;have hku:Kept w u:=zg4 (zg2 (Kept.mod (S:=λk=>w.heap.size<=k) hk1) hfu zg7 zg7);have hzu:=hku.size;refine(atB h.box).ldL ?_;refine aK.pY (P:=prog) (k:=4) (en:=Na) (ys:=[(xY f A ⟨f,[],[],[]⟩,s1,s2,s3)]) (m:=1) S54 (λ_=>rfl) (by omega) (aK.kept hl hku) JJ rfl rfl (by omega) (by simp only[maxLen];omega) (by omega) λa5 c5 g5 w5 r5 hg5 _ ho5=>⟨a5,sO.n+1,c5,rfl,aC (by omega) ?_⟩;have hz5:=ho5.size;have hk5:Kept w0 w5:=zg4 (From.then (Kept.mod (zg1 hk hku)) ho5 λk _ hk=>by have hk':k+1=gO:=hk;omega);refine ih (f+1) w5 ⟨a5,sO.n+1,c5⟩ g5 (ll++[(xY f A ⟨f,[],[],[]⟩,s1,s2,s3)]) (by omega) hk5 r5 (by omega) ?_ λy hy=>?_
    .rw[zb8,hm];show _=jU A f++if rQ A (f:Nat)=true then _ else[];rw[hus,if_pos rfl];rfl
    .rcases zb2.1 hy with hy | hy
     .have key:∀b,(w0.heap.size<=b/\b<w.heap.size/\b+1≠gO)->(w0.heap.size<=b/\b<w5.heap.size/\b+1≠g5):=λb ⟨k1,k2,k3⟩=>⟨k1,by omega,by rcases hg5 with e | e <;> omega⟩;exact(((hx y hy).kept hku).mod ho5 λb hb hk=>hb.2.2 hk).mono key
     .obtain rfl:=zd0.1 hy;exact((h.lst).mod ho5 λb hb hk=>by have hk':b+1=gO:=hk;have:=hb.1;omega).mono λb hb=>⟨by have:=hb.1;omega,by have:=hb.2;omega,by have h1:=hb.1;have h2:=hb.2;rcases hg5 with e | e <;> omega⟩
   exact za4 (ne+1) (Qq (B:=w.heap.size) (w0:=w1) (F:=F) (po:=w.heap.size) (ha.kept hk01) (hn.kept hk01) (λb hb=>by have:=hF b hb;omega) (by omega) hA hsm hend ne 0 w1 ⟨none,0,0⟩ ⟨none,0,0⟩ ⟨none,0,0⟩ 0 0 0 (by omega) h0 (From.refl _ _) ⟨Nat.zero_le _,Nat.zero_le _,Nat.zero_le _,λy hy=>by cases hy⟩)
end
section
variable{w w0 u w1 wB x:World}{F:Nat->Prop}{n c:Nat}{a:OA}{R:VP}{ts:List TD}
def UT(ts:List TD):Prop:=∀t∈ts,∀x∈t.nodes,x.thr<18446744073709551616
theorem Vk{d:Int}(hok:∀t∈ts,lvE t.nodes=0/\pF t.nodes d=true){p:ND×cZ}(hp:p∈dH ts 0):∃t∈ts,p.1∈t.nodes/\p.2.aT=p.1.aT/\p.2.thr=p.1.thr/\iC p.1.thr=false/\0<=p.1.feature/\p.1.feature<d:=by
 obtain⟨j,t,ht,hp⟩:=ny (λt ht=>(hok t ht).1) hp;have htm:=za0 ht;obtain⟨h1,h2⟩:=hok t htm;obtain⟨m,hm,hc⟩:=List.mem_filterMap.1 (show p∈(iq t.nodes).filterMap (sU (0+j) t.nodes) from hp);obtain⟨i,x,e1,e2,e3,e4,e5⟩:=Ed h1 h2 m hm;unfold sU at hc;rw[e1,za3,e2]at hc;obtain rfl:=zc2 hc;refine⟨t,htm,za0 e2,rfl,rfl,?_,e4,e5⟩;have ok:=(bW (gz h1).1).right.ok i x e2;unfold fD at ok;split at ok
 .rename_i hk;unfold ND.inner at e3;rw[hk]at e3;cases e3
 .split at ok
  .simp only[ze5,Bool.not_eq_true']at ok;exact ok.1.1
  .split at ok
   .simp only[ze5,beq_iff_eq]at ok;show iC x.thr=false;rw[ok.1.1];decide
   .cases ok
theorem pM.cuts{d:Int}(hG:pM F w a n c ts d)(hT:UT ts){p:ND×cZ}(hp:p∈dH ts 0):p.2.sm/\Num p.2.thr/\0<=p.1.feature/\p.1.feature<d:=by
 obtain⟨t,ht,h1,h2,h3,h4,h5,h6⟩:=Vk (λt ht=>⟨(hG.ok t ht).2.2.1,(hG.ok t ht).2.2.2⟩) hp;refine⟨?_,?_,h5,h6⟩
 .have:=(hG.ok t ht).2.1 p.1 h1;unfold cZ.sm;rw[h2];exact this
 .rw[h3];exact⟨h4,hT t ht p.1 h1⟩
theorem VS{d:Nat}(hd:∀p∈dH ts 0,0<=p.1.feature/\p.1.feature<d):jU (dH ts 0) d=dN ts:=NP hd
variable{d:Nat}
set_option maxHeartbeats 1000000 in
theorem Lu(hG:pM F w a n c ts d)(hT:UT ts):E.CallsD prog 53 #[.slice a n c,.int .i64 d] w (LsA w (dN ts)):=by
 have hR:jU (dH ts 0) d=dN ts:=VS λp hp=>(hG.cuts hT hp).2.2;rw[<- hR];refine aj.calls (R:=LsA w (jU (dH ts 0) d)) ?_;unfold aj aj.g0;have hd1:=hG.d1;have hAl:(dH ts 0).length<=268435456:=by have:=En ts 0;have:=hG.ls.len;have:=hG.max;omega
 refine zg0 (Nq hG) λv wc ⟨sC,sN,hv,hC,hN,hk⟩=>⟨_,_,_,_,_,_,hv,?_⟩;have hz:=hk.size;refine Arr.make (en:=ZY) (e:=tBo) (x:=false) (by_:=1) rfl (by omega) (by omega) (by omega) λw1 hr hk1=>?_;rw[za3]at hr ⊢;have hz1:=hk1.size;have hnl:=hN.len;rw[za7]at hnl;have hinit:(List.replicate d false)=(List.range d).map λf=>rQ [] (f:Nat):=by
  apply List.ext_getElem?;intro j;rw[List.getElem?_replicate,zc1]
  by_cases hj:j<d
  .rw[if_pos hj,List.getElem?_range hj];rfl
  .rw[if_neg hj,zc3 (by rw[List.length_range];omega)];rfl
 rw[hinit]at hr;have key:∀(k i:Nat) (y:World),i+k=sN.n->From wc.heap.size wc y->Arr ZY tBo y (some (na wc)) d d ((List.range d).map λf=>rQ ((dH ts 0).take i) (f:Nat)) (wc.heap.size+1) ->
   aj.l10 (LsA w (jU (dH ts 0) d)) (k+1) d sC.a sC.n sC.c sN.a sN.n sN.c (some (na wc)) d d sN.a sN.n sN.c sN.n i y:=by
  intro k
  induction k with
  |zero=>
   intro i y hi hf hr;obtain rfl:i=(dH ts 0).length:=by omega
   rw[zd3]at hr;rw[aj.u10];unfold aj.g10;refine aA (by omega) ?_;have hky:=zg4 hf;have hzy:=hky.size;refine za4 (d+1) (OG (w0:=y) (wB:=w) (F:=WT w.heap.size wc) (hC.ls.kept hky) (hN.ls.kept hky) (λb hb=>by unfold WT at hb;omega) (by omega) (Kept.mod (zg1 hk hky)) hAl (λp hp=>⟨(hG.cuts hT hp).1,(hG.cuts hT hp).2.1⟩) (by omega) hr d 0 y ⟨none,0,0⟩ 0 [] (by omega) (Kept.refl _) (aK.nil _ _ _ _) (.inl rfl) rfl λy hy=>by cases hy)
  |succ k ih=>
   intro i y hi hf hr;rw[aj.u10];unfold aj.g10;refine aH (by omega) ?_;have hky:=zg4 hf;have hzy:=hky.size;refine(hN.ls.kept hky).rdN (by omega) (by omega) λnd a' n' c' hnd hcats=>?_;rw[za3]at hnd;have hpi:(dH ts 0)[i]?=some ((dH ts 0)[i]'(by omega)):=za2 _;generalize (dH ts 0)[i]'(by omega)=p at hpi;obtain rfl:p.1=nd:=by rw[zc1,hpi]at hnd;exact zc2 hnd
   obtain⟨_,_,p3,p4⟩:=hG.cuts hT (za0 hpi);refine boxS (zs:=[.int .u8 0,.int .i64 0,.int .i64 0,.float .f64 0,.slice none 0 0,.int .u8 0,.int .i64 0,.int .i64 0]) (vs:=enH (p.1,⟨a',n',c'⟩)) (e:=tN') rfl λz1 hA1 b1 hk1'=>?_;refine⟨_,hA1 2 _ rfl,?_⟩;refine(hr.kept hk1').wr (i:=p.1.feature) (by omega) (by omega) (x:=true) rfl λu hu ho=>aC (by omega) ?_;rw[RP _ _ _ p3,<- take_snoc hpi]at hu;exact ih (i+1) u (by omega) (From.then (hf.aG hk1') ho λj _ hj=>by have hj':j+1=wc.heap.size+1:=hj;omega) hu
 exact za4 (sN.n+1) (key sN.n 0 w1 (by omega) (Kept.mod hk1) hr)
end
section
variable{w u w1:World}{a:OA}{n c c1:Nat}{F S:Nat->Prop}{p q:Addr}{first:Int}{ls:List Int}{vd:List VD}{s1 s2 s3:SH}{g1 gv g3:Nat}{ts:List TD}{d:Int}
set_option maxHeartbeats 1000000 in
theorem LJ(hG:pM F w a n c ts d)(hT0:UT ts):E.CallsD prog 28 #[.slice a n c,.int .i64 first,.int .i64 d] w λv u=>∃s1 s2 s3 s4:SH,v=vB (dm ts first) s1 s2 s3 s4/\jw (λb=>w.heap.size<=b/\b<u.heap.size) u (dm ts first) s1 s2 s3 s4/\Kept w u:=by
 obtain⟨d,rfl⟩:∃k:Nat,d=k:=⟨d.toNat,by have:=hG.d0;omega⟩;refine aJ.calls (R:=λv u=>∃s1 s2 s3 s4:SH,v=vB (dm ts first) s1 s2 s3 s4/\jw (λb=>w.heap.size<=b/\b<u.heap.size) u (dm ts first) s1 s2 s3 s4/\Kept w u) ?_;unfold aJ aJ.g0;have hmx:=hG.max;have hn:=hG.ls.len;refine bZ (bZ ?_);have b6:Blk (w.alloc (.cells (nD 0 none 0 0 none 0 0 none 0 0 none 0 0) 66)) w.heap.size #[.int .i64 0,.slice none 0 0,.slice none 0 0,.slice none 0 0,.slice none 0 0] tB':=Blk.new w _ _;have k1:=zg3 w (.cells (nD 0 none 0 0 none 0 0 none 0 0 none 0 0) 66);have hz1:(w.alloc (.cells (nD 0 none 0 0 none 0 0 none 0 0 none 0 0) 66)).heap.size=w.heap.size+1:=by simp
 generalize w.alloc (.cells (nD 0 none 0 0 none 0 0 none 0 0 none 0 0) 66)=w1 at b6 k1 hz1;have b7:Blk (w1.alloc (.cells (nD 0 none 0 0 none 0 0 none 0 0 none 0 0) 66)) w1.heap.size #[.int .i64 0,.slice none 0 0,.slice none 0 0,.slice none 0 0,.slice none 0 0] tB':=Blk.new w1 _ _;have k2:=zg3 w1 (.cells (nD 0 none 0 0 none 0 0 none 0 0 none 0 0) 66);generalize w1.alloc (.cells (nD 0 none 0 0 none 0 0 none 0 0 none 0 0) 66)=w2 at b7 k2;refine wrA (e:=tB') (vs:=[.int .i64 first,.slice none 0 0,.slice none 0 0,.slice none 0 0,.slice none 0 0]) b7 rfl λw3 b7' ho3=>?_;have b6':Blk w3 w.heap.size #[.int .i64 0,.slice none 0 0,.slice none 0 0,.slice none 0 0,.slice none 0 0] tB':=(b6.keep k2).mod ho3 λhk=>by have hk':w.heap.size+1=w1.heap.size+1:=hk;omega
 have hf3:From w.heap.size w w3:=(Kept.mod (S:=λk=>w.heap.size<=k) (zg1 k1 k2)).trans ho3 (λ_ _ h=>h) (λk _ hk=>by have hk':k+1=w1.heap.size+1:=hk;show w.heap.size<=k;omega);have hB0:BK w.heap.size w3 w1.heap.size first [] [] [] ⟨none,0,0⟩ ⟨none,0,0⟩ ⟨none,0,0⟩ 0 0 0:=⟨b7',Arr.nil _ _ _,aK.nil _ _ _ _,(λx hx=>by cases hx),Arr.nil _ _ _,by omega,.inl rfl,.inl rfl,.inl rfl,.inl rfl⟩;refine⟨n+1,?_⟩;have key:∀(k i:Nat) (v:World) (vd:List VD) (s1 s2 s3:SH) (g1 gv g3:Nat),i+k=n->BK w.heap.size v w1.heap.size first ((ts.take i).map λt=>((dA t.nodes false).length:Int)) vd ((ts.take i).map TD.output) s1 s2 s3 g1 gv g3->vd.map (·.1)=(ts.take i).map eF ->
   Blk v w.heap.size #[.int .i64 0,.slice none 0 0,.slice none 0 0,.slice none 0 0,.slice none 0 0] tB'->From w.heap.size w v ->
   aJ.l8 (λv u=>∃s1 s2 s3 s4:SH,v=vB (dm ts first) s1 s2 s3 s4/\jw (λb=>w.heap.size<=b/\b<u.heap.size) u (dm ts first) s1 s2 s3 s4/\Kept w u) (k+1) a n c d (some (na w)) (some (na w1)) a n c n i v:=by
  intro k
  induction k with
  |zero=>
   intro i v vd s1 s2 s3 g1 gv g3 hi hbk hvd hb6 hf;rw[aJ.u8];unfold aJ.g8;refine aA (by omega) ?_;obtain rfl:i=ts.length:=by omega
   rw[zd3]at hbk hvd;refine zg0 (Lu (hG.kept (zg4 hf)) hT0) λr u1 ⟨a',n',c',hr,hls,hku⟩=>⟨_,_,_,hr,?_⟩;have hb:=(hbk.kept hku);have hset:=hb.box.set 4 (.slice a' n' c');have hon:=zg5 u1 w1.heap.size 4 (.slice a' n' c');have hlt:=hb.box.lt;have e4:(((na w1:Addr).add 4).add 0)=⟨w1.heap.size,4,none⟩:=by rw[gK,addr_add,zd2]
   refine dE ?_;rw[e4];refine⟨hb.box.ok (by simp),bZ ?_⟩;have hb6u:=(hb6.keep hku).mod hon (λhk=>by have hk':w.heap.size+1=w1.heap.size+1:=hk;omega);have hl1:=hb.l.mod hon (eY hb.box hb.l (by decide));have hv1:=hb.v.mod hon (eY hb.box hb.v (by decide));have ho1:=hb.o.mod hon (eY hb.box hb.o (by decide));have hvo1:∀y∈vd,VOK w.heap.size (u1.setCell ⟨w1.heap.size,4,none⟩ (.slice a' n' c')) y:=λy hy=>(hb.vo y hy).mod hon λk cur hbk' hk=>by
    have hk':k+1=w1.heap.size+1:=hk;obtain rfl:k=w1.heap.size:=by omega
    exact absurd (hbk'.ne hb.box) (by decide)
   have hls1:Ls tL (λb=>v.heap.size<=b/\b<u1.heap.size) (u1.setCell ⟨w1.heap.size,4,none⟩ (.slice a' n' c')) a' n' c' (dN ts):=hls.mod hon λb hb' hk=>by
    have hk':b+1=w1.heap.size+1:=hk;have:=hbk.box.lt;have hb'':v.heap.size<=b:=hb'.1;omega
   have hsv:w.heap.size<=v.heap.size:=hf.size;have hfu:From w.heap.size w (u1.setCell ⟨w1.heap.size,4,none⟩ (.slice a' n' c')):=(hf.aG hku).trans hon (λ_ _ h=>h) (λk _ hk=>by have hk':k+1=w1.heap.size+1:=hk;show w.heap.size<=k;omega);have hsz2:(u1.setCell ⟨w1.heap.size,4,none⟩ (.slice a' n' c')).heap.size=u1.heap.size:=gV _ _ _;generalize u1.setCell ⟨w1.heap.size,4,none⟩ (.slice a' n' c')=u2 at hset hb6u hl1 hv1 ho1 hvo1 hls1 hfu hsz2 hon;have hA:AtL u2 (na w1) [.int .i64 first,s1.v,s2.v,s3.v,.slice a' n' c']:=by simpa using AtL.blk (b:=w1) hset
   refine dE ⟨_,hA 0 _ rfl,_,_,_,hA 1 _ rfl,_,_,_,hA 2 _ rfl,_,_,_,hA 3 _ rfl,_,_,_,hA 4 _ rfl,dE ?_⟩;refine wrA (e:=tB') (b:=w.heap.size) (vs:=[.int .i64 first,s1.v,s2.v,s3.v,.slice a' n' c']) hb6u rfl λu3 hb3 ho3=>?_;have hA3:AtL u3 (na w) [.int .i64 first,s1.v,s2.v,s3.v,.slice a' n' c']:=by simpa using AtL.blk (b:=w) hb3
   refine⟨_,hA3 0 _ rfl,_,_,_,hA3 1 _ rfl,_,_,_,hA3 2 _ rfl,_,_,_,hA3 3 _ rfl,_,_,_,hA3 4 _ rfl,?_⟩;refine⟨s1,s2,s3,⟨a',n',c'⟩,rfl,⟨?_,?_,?_,?_⟩,zg4 (hfu.trans ho3 (λ_ _ h=>h) (λk _ hk=>by have hk':k+1=w.heap.size+1:=hk;show w.heap.size<=k;omega))⟩
   .have hx:=hl1.mod ho3 (eY hb6u hl1 (by decide));exact(Arr.ls (h1:=λ_=>rfl) hx).mono λb hbb=>⟨by have:=hb.lB;omega,by have:=Row.le hx;omega⟩
   .have h3:=hv1.mod ho3 (eY hb6u hv1 (by decide));have:=Yk (F:=λb=>w.heap.size<=b/\b<u3.heap.size) h3 (λy hy=>(hvo1 y hy).mod ho3 λk cur hbk' hk=>by
     have hk':k+1=w.heap.size+1:=hk;obtain rfl:k=w.heap.size:=by omega
     exact absurd (hbk'.ne hb6u) (by decide)) hb.vB (λb h h2=>⟨h,h2⟩)
    rw[hvd]at this;exact this
   .have hx:=ho1.mod ho3 (eY hb6u ho1 (by decide));exact(Arr.ls (h1:=λ_=>rfl) hx).mono λb hbb=>⟨by have:=hb.oB;omega,by have:=Row.le hx;omega⟩
   .exact(hls1.mod ho3 λb hb' hk=>by
     have hk':b+1=w.heap.size+1:=hk;have:=hb6.lt;have hb'':v.heap.size<=b:=hb'.1
     omega).mono λb hb'=>⟨by have hb'':v.heap.size<=b:=hb'.1;omega,by have h2:=hb'.2;have h3:=hon.size;have h4:=ho3.size;have h5:u2.heap.size=u1.heap.size:=hsz2;omega⟩
  |succ k ih=>
   intro i v vd s1 s2 s3 g1 gv g3 hi hbk hvd hb6 hf;rw[aJ.u8];unfold aJ.g8;refine aH (by omega) ?_;have hGv:=hG.kept (zg4 hf);refine hGv.ls.rdT (by omega) (by omega) λt a' n' c' ht hnodes=>?_;rw[za3]at ht;obtain⟨o1,o2,o3,o4⟩:=hG.ok t (za0 ht);obtain⟨hsh,hlv⟩:=gz o3;have hnl:=hnodes.len;have hGt:Good F v a' n' c' t.nodes:=⟨hnodes,hGv.old,by omega,o2⟩;have hTr:=bW hsh;refine BR λv1 hbt hT hk1=>⟨_,hT.c0,_,_,_,hT.c1,?_⟩;refine zg0 (zo (o:=t.output) (hGt.kept hk1)) λr u1 ⟨a2,n2,c2,hr,hnew⟩=>⟨_,_,_,_,hr,?_⟩;have hkl:=hnew.kept;have hn2:n2=(dA t.nodes false).length:=by have:=hnew.len;simpa[qg] using this
   have hk12:=zg1 hk1 hkl;obtain⟨gl,hal,_,_⟩:=hnew;refine⟨n2+1,?_⟩;have inner:∀(k2 j:Nat) (z:World) (ax:OA) (nx cx gx:Nat),j+k2=n2->From u1.heap.size u1 z->Arr eI t64 z ax nx cx ((eF t).take j) gx->(gx=0\/u1.heap.size<gx) ->
     aJ.l27 (λv u=>∃s1 s2 s3 s4:SH,v=vB (dm ts first) s1 s2 s3 s4/\jw (λb=>w.heap.size<=b/\b<u.heap.size) u (dm ts first) s1 s2 s3 s4/\Kept w u) (aJ.l8 (λv u=>∃s1 s2 s3 s4:SH,v=vB (dm ts first) s1 s2 s3 s4/\jw (λb=>w.heap.size<=b/\b<u.heap.size) u (dm ts first) s1 s2 s3 s4/\Kept w u) (k+1)) (k2+1) a n c d (some (na w)) (some (na w1)) (some (na v)) a2 n2 c2 ax nx cx a n c n i a2 n2 c2 n2 j z:=by
    intro k2
    induction k2 with
    |zero=>
     intro j z ax nx cx gx hj hz hx hgx;have hkz:=zg4 hz;have hkk:=zg1 hk12 hkz;unfold aJ.l27 aJ.g27;refine aA (by omega) ?_;rw[zb1 (by simp[eF];omega)]at hx;have hbz:=hbk.kept hkk;have hsz:w.heap.size<=z.heap.size:=zb5 hf.size hkk.size;have hsv:=hf.size;have hlen1:((ts.take i).map λt=>((dA t.nodes false).length:Int)).length<=65536:=by simp;omega
     have hlen3:((ts.take i).map TD.output).length<=65536:=by simp;omega
     have hlen2:vd.length<=65536:=by have:=congrArg List.length hvd;simp at this;omega
     have hb6z:=hb6.keep hkk;have hpb:w1.heap.size<v.heap.size:=hbk.box.lt;have hbtz:=hbt.keep (zg1 hkl hkz);have hvz:VOK w.heap.size z (eF t,⟨ax,nx,cx⟩):=⟨gx,hx,by have:=hk12.size;omega⟩;refine hbz.leaf hsz hlen1 (x:=(n2:Int)) λz1 s1' g1' hb1 hf1 ht1=>?_;have hb6z1:=ht1 _ _ _ hb6z (by decide) (by omega);have hbt1:=ht1 _ _ _ hbtz (by decide) (by omega);have hvz1:VOK w.heap.size z1 (eF t,⟨ax,nx,cx⟩):=by
      obtain⟨g,h1,h2⟩:=hvz;refine⟨g,⟨h1.1,?_⟩,h2⟩
      rcases h1.2 with h0 | ⟨b,cur,e0,ha,hb,h3⟩
      .exact .inl h0
      .exact .inr ⟨b,cur,e0,ha,ht1 _ _ _ hb (by decide) (λe=>by subst e;exact absurd (hb.ne hbz.box) (by decide)),h3⟩
     refine hb1.val (zb5 hsz hf1.size) hlen2 hvz1 λz2 s2' gv' hb2 hf2 ht2=>?_;have hb6z2:=ht2 _ _ _ hb6z1 (by decide) (by omega);have hbt2:=ht2 _ _ _ hbt1 (by decide) (by omega);refine⟨_,_,_,by rw[gK,hb2.box.cell];rfl,?_⟩;refine⟨_,by rw[gK,hbt2.cell];rfl,?_⟩;refine hb2.out (zb5 (zb5 hsz hf1.size) hf2.size) hlen3 (x:=t.output) λz3 s3' g3' hb3 hf3' ht3=>?_;have hb6z3:=ht3 _ _ _ hb6z2 (by decide) (by omega);refine aC (by omega) (ih (i+1) z3 (vd++[(eF t,⟨ax,nx,cx⟩)]) s1' s2' s3' g1' gv' g3' (by omega) ?_ ?_ hb6z3 ?_)
     .rw[take_snoc ht,zb8,zb8,ze0,ze0,List.map_nil,List.map_nil,<- hn2];exact hb3
     .rw[take_snoc ht,zb8,zb8,hvd];rfl
     .exact(((hf.aG hkk).trans hf1 zg7 zg7).trans hf2 zg7 zg7).trans hf3' zg7 zg7
    |succ k2 ih2=>
     intro j z ax nx cx gx hj hz hx hgx;have hkz:=zg4 hz;unfold aJ.l27 aJ.g27;refine aH (by omega) ?_;have hjl:j<(dA t.nodes false).length:=by omega
     refine((hal.kept hkz).sl).rdI (k := .i64) (by omega) (by omega) λy hy=>?_;rw[za3]at hy;have hyq:y=(((dA t.nodes false)[j]'hjl:Nat):Int):=by
      have:(qg (dA t.nodes false))[j]?=some (((dA t.nodes false)[j]'hjl:Nat):Int):=by simp[qg,hjl]
      rw[this]at hy
      cases hy;rfl
     obtain⟨q,hq⟩:∃q,q=(dA t.nodes false)[j]'hjl:=⟨_,rfl⟩;rw[<- hq]at hyq;subst hyq;have hqlt:q<t.nodes.length:=Jr hsh (by rw[hq];exact List.getElem_mem _);have hT1:=hT.kept (zg1 hkl hkz);refine dE ⟨_,_,_,hT1.c1,?_⟩;refine(hnodes.kept (zg1 hk12 hkz)).rdF (by omega) (by omega) λp x a5 n5 c5 hxq hcs h8=>⟨_,h8.c1,?_⟩;rw[za3]at hxq;have hxl:=hx.len;have hll:(eF t).length=n2:=by simp[eF];omega
     rw[zb6]at hxl;refine Arr.push (P:=prog) Y2 hx (x:=x.value) rfl rfl (by simp only[maxLen];omega) (by omega) λa7 c7 g7 z2 hx2 hg7 _ ho7=>⟨_,_,_,rfl,aC (by omega) (ih2 (j+1) z2 a7 (nx+1) c7 g7 (by omega) (hz.trans ho7 (λ_ _ h=>h) (λk _ hk=>by have hk':k+1=gx:=hk;show u1.heap.size<=k;omega)) ?_ (by have:=hz.size;omega))⟩;have:(eF t)[j]?=some x.value:=by
      unfold eF;rw[zc1,za2 hjl,<- hq];simp[hxq]
     rw[take_snoc this];exact hx2
   exact inner n2 0 u1 none 0 0 0 (by omega) (From.refl _ _) (Arr.nil _ _ _) (.inl rfl)
 exact key n 0 w3 [] _ _ _ 0 0 0 (by omega) hB0 rfl b6' hf3
end
section
variable{w u w1:World}{a a1:OA}{n c n1 c1:Nat}{F F' S:Nat->Prop}{q:Addr}{B:Nat}{e:ED}{f b t:SH}{rs:List (Int×Int)}{s1 s2 s3 s4:SH}{x:kJ}
def FBr(w:World)(X:kJ):Nat->Value->World->Prop:=λi v u=>match i with
 |14=>FBk w X 13 v u
 |15=>FBk w X 14 v u
 |_=>True
theorem FBr.keep{X:kJ}(i:Nat)(v:Value)(u u':World)(h:FBr w X i v u)(hk:Below u.heap.size u u'):FBr w X i v u':=by
 unfold FBr at h ⊢;split at h
 .exact FBk.keep _ v u u' h hk
 .exact FBk.keep _ v u u' h hk
 .trivial
def xU(n:Int):List (Int×Int)->Int->Bool
 | [],at_=>decide (at_=n)
 |r::rs,at_=>decide (r.1=at_)&&decide (r.1<r.2)&&xU n rs r.2
theorem JQ{n:Int}:∀ {rs:List (Int×Int)} {at_:Int},xU n rs at_=true->at_<=n
 | [],at_,h=>by unfold xU at h;simp at h;omega
 |x::rs,at_,h=>by
  unfold xU at h;simp only[ze5,decide_eq_true_eq]at h;have:=JQ h.2;omega
theorem DZ{n:Int}:∀(rs:List (Int×Int)) (at_:Int),xU n rs at_=jc n rs at_
 | [],at_=>rfl
 |x::rs,at_=>by
  unfold xU jc;rw[<- DZ rs]
  cases h:xU n rs x.2 with
  |false=>simp
  |true=>have:=JQ h;simp[this]
theorem LY{n:Int}{rs:List (Int×Int)}{i:Nat}{x:Int×Int}{at_:Int}(hx:rs[i]?=some x):xU n (rs.drop i) at_=(decide (x.1=at_)&&decide (x.1<x.2)&&xU n (rs.drop (i+1)) x.2):=by
 have hd:rs.drop i=x::rs.drop (i+1):=by
  obtain⟨hlt,rfl⟩:=za1.1 hx;exact zb0 hlt
 rw[hd];rfl
theorem Ht{nn:Int}(hrs:Ls tR F' w a1 n1 c1 rs)(hn:n1<=16777216):Pure prog 27 #[.slice a1 n1 c1,.int .i64 nn] w (.bool (jc nn rs 0)):=by
 refine aX.calls (R:=λv' u=>v' = .bool (jc nn rs 0)/\Below w.heap.size w u) ?_;unfold aX aX.g0;have hl:=hrs.len;have key:∀(k i:Nat) (at_:Int) (v:World),i+k=n1->Kept w v->xU nn rs 0=xU nn (rs.drop i) at_ ->
   aX.l8 (λv' u=>v' = .bool (jc nn rs 0)/\Below w.heap.size w u) (k+1) nn at_ a1 n1 c1 n1 i v:=by
  intro k
  induction k with
  |zero=>
   intro i at_ v hi hk hr;rw[aX.u8];unfold aX.g8;refine aA (by omega) ?_;rw[List.drop_eq_nil_of_le (by omega)]at hr;refine⟨?_,hk⟩;rw[<- DZ,hr];rfl
  |succ k ih=>
   intro i at_ v hi hk hr;rw[aX.u8];unfold aX.g8;refine aH (by omega) ?_;refine((hrs.kept hk).X0).rd2 (by omega) (by omega) λr hrr=>?_;rw[za3]at hrr;rw[LY hrr]at hr;refine boxS (zs:=[.int .i64 0,.int .i64 0]) (vs:=enR r) (e:=nS) rfl λv1 hAr _ hk1=>?_;have no:xU nn rs 0=false->(Value.bool false = .bool (jc nn rs 0)/\Below w.heap.size w v1):=λh=>⟨by rw[<- DZ,h],zg1 hk hk1⟩;refine⟨_,hAr 0 _ rfl,ja (λh1=>no (by rw[hr];simp[h1])) λh1=>?_⟩;refine⟨_,hAr 1 _ rfl,_,hAr 0 _ rfl,fJ (λh2=>no (by rw[hr];have hx:¬ r.1<r.2:=(by omega);simp[hx])) λh2=>?_⟩;refine⟨_,hAr 1 _ rfl,aC (by omega) (ih (i+1) r.2 v1 (by omega) (zg1 hk hk1) ?_)⟩;have e1:r.1<r.2:=by omega
   rw[hr,decide_eq_true h1,decide_eq_true e1];rfl
 exact za4 (n1+1) (key n1 0 0 w (by omega) (Kept.refl _) rfl)
theorem UB{R:VP}{pe p4 pf:Nat}{outs:Int}{base:List Int}{g1:Nat}{sb:SH}{w0:World}(hG:rZ F w0 e f b t)(h0:rO e=0)(hrs:Ls tR F' w0 a1 n1 c1 rs)(hF':∀b,F' b->b<w0.heap.size)(hok:jc e.trees.length rs 0=true)(hT0:UT e.trees)(hpe:w0.heap.size<=pe)(hp4:p4≠pf)(hp4B:p4<B)(hwB:w0.heap.size<=B)
  (hR:∀u (bd:List BD) (sk:SH) (gb:Nat),bd.map (·.1)=rs.map (λr=>dm ((e.trees.take r.2.toNat).drop r.1.toNat) r.1)->Arr eI t64 u sb.a sb.n sb.c base g1->aK 5 Fb tB' u sk.a sk.n sk.c bd gb->(∀x∈bd,BOK B u gb x)->(gb=0\/B<gb)->Kept w0 u->R (.tuple #[vFr f.n outs sb sk,.int .i64 0]) u)
  (hpf:w0.heap.size<=pf) (hp40:w0.heap.size<=p4) :
  ∀(k i:Nat) (w:World) (bd:List BD) (sk:SH) (gb:Nat),i+k=n1->From w0.heap.size w0 w->B<=w.heap.size->FK B w pf f.n outs base bd sb sk g1 gb->bd.map (·.1)=(rs.take i).map (λr=>dm ((e.trees.take r.2.toNat).drop r.1.toNat) r.1) ->
   Blk w pe (enE e f b t).toArray Hw->Blk w p4 #[.int .i64 0,.int .i64 0,.slice none 0 0,.slice none 0 0] jb->dw.l28 R (k+1) (some ⟨pe,0,none⟩) (some ⟨p4,0,none⟩) (some ⟨pf,0,none⟩) a1 n1 c1 n1 i w:=by
 have hn1:=hrs.len;have hT5:=(qw h0).2.2.2.2.1;have hlen:=vk hok;have lt:=hG.ts.len;intro k
 induction k with
 |zero=>
  intro i w bd sk gb hi hf hB hfk hbd hbe hb4;rw[dw.u28];unfold dw.g28;refine aA (by omega) ?_;obtain rfl:i=rs.length:=by omega
  rw[zd3]at hbd;have hA:AtL w ⟨pf,0,none⟩ [.int .i64 (f.n:Int),.int .i64 outs,sb.v,sk.v]:=λj v hj=>by rw[addr_add,zd1,hfk.box.cell];simpa using hj
  refine dE ⟨_,hA 0 _ rfl,_,hA 1 _ rfl,_,_,_,hA 2 _ rfl,_,_,_,hA 3 _ rfl,dE ?_⟩;refine wrA (e:=jb) (b:=p4) (vs:=[.int .i64 (f.n:Int),.int .i64 outs,sb.v,sk.v]) hb4 rfl λu hb4' ho=>?_;have hA4:AtL u ⟨p4,0,none⟩ [.int .i64 (f.n:Int),.int .i64 outs,sb.v,sk.v]:=λj v hj=>by rw[addr_add,zd1,hb4'.cell];simpa using hj
  refine⟨_,hA4 0 _ rfl,_,hA4 1 _ rfl,_,_,_,hA4 2 _ rfl,_,_,_,hA4 3 _ rfl,?_⟩;refine hR u bd sk gb hbd (hfk.b.mod ho (eY hb4 hfk.b (by decide))) (hfk.k.mod ho (eY hb4 hfk.k (by decide))) (λy hy=>?_) hfk.kB (zg4 (hf.trans ho (λ_ _ h=>h) (λk _ hk=>by have hk':k+1=p4+1:=hk;show w0.heap.size<=k;omega)));obtain⟨lo,hi,e1,e2,e3,e4⟩:=hfk.ok y hy;exact⟨lo,hi,e1,zb5 e2 ho.size,e3.mod ho (λb hb hk=>by have hk':b+1=p4+1:=hk;omega),e4⟩
 |succ k ih=>
  intro i w bd sk gb hi hf hB hfk hbd hbe hb4;rw[dw.u28];unfold dw.g28;refine aH (by omega) ?_;have hrsw:=hrs.kept (zg4 hf);refine(hrsw.X0).rd2 (by omega) (by omega) λr hr=>?_;rw[za3]at hr;obtain⟨hr1,hr2,hr3⟩:=zB (by omega) hok r (za0 hr);refine boxS (zs:=[.int .i64 0,.int .i64 0]) (vs:=enR r) (e:=nS) rfl λw1 hAr _ hk1=>?_;have hfk1:=hfk.kept hk1;have hbe1:=hbe.keep hk1;have hsz1:=hk1.size;have hG1:=hG.kept (zg1 (zg4 hf) hk1);obtain⟨X,hX⟩:∃X,X=dm ((e.trees.take r.2.toNat).drop r.1.toNat) r.1:=⟨_,rfl⟩;refine⟨FBr w1 X,FBr.keep,?_⟩;have hAf:AtL w1 ⟨pf,0,none⟩ [.int .i64 (f.n:Int),.int .i64 outs,sb.v,sk.v]:=λj v hj=>by rw[addr_add,zd1,hfk1.box.cell];simpa using hj
  have hAe:AtL w1 ⟨pe,0,none⟩ (enE e f b t):=λj v hj=>by rw[addr_add,zd1,hbe1.cell];simpa using hj
  have hcap:=hG.ts.cap;refine⟨_,_,_,hAf 3 _ rfl,⟨_,_,_,hAe 4 _ rfl,⟨_,hAr 0 _ rfl,⟨_,hAr 1 _ rfl,dK (by omega) (dK (by omega) ⟨_,hAr 0 _ rfl,⟨_,_,_,hAe 1 _ rfl,?_,?_⟩⟩)⟩⟩⟩⟩
  .intro u hu;refine zg0 (LJ (first:=r.1) (J4 (lo:=r.1.toNat) (hi:=r.2.toNat) (hG1.kept hu) h0 (by omega) (by omega)) λt ht=>hT0 t (zf3 (List.mem_of_mem_drop ht))) λv u2 ⟨s1,s2,s3,s4,hv,hin,hk2⟩=>?_;rw[<- hX]at hv hin;exact⟨_,_,_,_,_,_,_,_,_,_,_,_,_,hv,⟨s1,s2,s3,s4,u.heap.size,u2.heap.size,rfl,hin,hu.size,zb4 _⟩,hk2⟩
  .intro z0 z1 z2 z3 z4 z5 z6 z7 z8 z9 z10 z11 z12 _;refine⟨λu hu hF13=>?_,λq _ u hu _ hF14=>?_⟩
   .obtain⟨s1,s2,s3,s4,lo,hi,hv,h2,h3,h4⟩:=hF13;have hc:nD z0 z1 z2 z3 z4 z5 z6 z7 z8 z9 z10 z11 z12=(mG X s1 s2 s3 s4).toArray:=Value.agg.inj hv;have hk:=zg3 u (.cells (nD z0 z1 z2 z3 z4 z5 z6 z7 z8 z9 z10 z11 z12) 66);refine⟨na u,s1,s2,s3,s4,lo,hi,rfl,?_,h2.kept hk,h3,zb5 h4 hk.size⟩;rw[hc];exact AtL.new _ _ _
   .obtain⟨q',s1,s2,s3,s4,lo,hi,hv,hAq,h2,h3,h4⟩:=hF14;simp only[Value.slice.injEq,Option.some.injEq]at hv;obtain⟨rfl,_⟩:=hv;have hfu:=hfk1.kept hu;have hnk:=aK.len (k:=5) (en:=Fb) (λ_=>rfl) (by omega) hfu.k;have hbl:bd.length=i:=by have:=congrArg List.length hbd;simp at this;omega
    have huz:=hu.size;refine jJ ZN (by omega) hfu.k (news:=mG X s1 s2 s3 s4) (m:=1) rfl (λj v hj=>⟨_,rfl,hAq j v hj⟩) (λh=>by cases h) (λv hv=>Eo (X,s1,s2,s3,s4) v hv) (by simp only[maxLen];omega) (by omega) λa' c' g' u2 hrow hg' ho=>⟨_,_,_,rfl,?_⟩;have hbx:=hfu.box.mod ho (λhk=>dW hfu.k hfu.box (by decide) hk);have hset:=hbx.set 3 (.slice a' (sk.n+1) c');have hon:=zg5 u2 pf 3 (.slice a' (sk.n+1) c');refine dE ?_;rw[addr_add,addr_add,zd1,zd2];refine⟨hbx.ok (by simp),bZ (aC (by omega) ?_)⟩;have hrow':aK 5 Fb tB' u2 a' (sk.n+1) c' (bd++[(X,s1,s2,s3,s4)]) g':=by
     unfold aK;simpa using hrow
    have hgbs:gb<=w.heap.size:=Row.le hfk.k;have hgle:gb=0\/B<gb:=hfk.kB;have ho2:w0.heap.size<=w.heap.size:=hf.size;have apart:∀b,lo<=b/\b<hi->¬ (b+1=gb):=λb hb h=>by omega
    have hpB:=hfk.pB;have hkw:Kept w u:=zg1 hk1 hu;have ht1:From w0.heap.size w u2:=(Kept.mod (S:=λk=>w0.heap.size<=k) hkw).trans ho (λ_ _ h=>h) (λk _ hk=>by have hk':k+1=gb:=hk;show w0.heap.size<=k;omega);have hfin:From w0.heap.size w (u2.setCell ⟨pf,3,none⟩ (.slice a' (sk.n+1) c')):=ht1.trans hon (λ_ _ h=>h) (λk _ hk=>by have hk':k+1=pf+1:=hk;show w0.heap.size<=k;omega);have hpe_ne:pe≠pf:=λh=>by subst h;exact absurd (hbe.ne hfk.box) (by decide)
    refine ih (i+1) _ (bd++[(X,s1,s2,s3,s4)]) ⟨a',sk.n+1,c'⟩ g' (by omega) (hf.trans hfin zg7 zg7) (by have:=hfin.size;omega) ⟨hset,(hfu.b.mod ho (og hfu.k hfu.b (by decide))).mod hon (eY hbx (hfu.b.mod ho (og hfu.k hfu.b (by decide))) (by decide)),hrow'.mod hon (eY hbx hrow' (by decide)),λy hy=>?_,hfk.pB,hfk.bB,by omega⟩ ?_ ?_ ?_
    .have hh:=ho.size;have hh2:=hon.size
     rcases zb2.1 hy with hy | hy
     .obtain⟨lo',hi',e1,e2,e3,e4⟩:=hfu.ok y hy;exact⟨lo',hi',e1,by omega,(e3.mod ho (λb hb h=>by have h':b+1=gb:=h;omega)).mod hon (λb hb h=>by have h':b+1=pf+1:=h;omega),by omega⟩
     .obtain rfl:y=(X,s1,s2,s3,s4):=by simpa using hy
      exact⟨lo,hi,by omega,by omega,(h2.mod ho (λb hb h=>by have h':b+1=gb:=h;omega)).mod hon (λb hb h=>by have h':b+1=pf+1:=h;omega),by omega⟩
    .rw[take_snoc hr,zb8,zb8,hbd,hX];rfl
    .exact((hbe1.keep hu).mod ho (λhk=>dW hfu.k (hbe1.keep hu) (by decide) hk)).mod hon (λhk=>hpe_ne (by have hk':pe+1=pf+1:=hk;omega))
    .exact(((hb4.keep hk1).keep hu).mod ho (λhk=>dW hfu.k ((hb4.keep hk1).keep hu) (by decide) hk)).mod hon (λhk=>hp4 (by have hk':p4+1=pf+1:=hk;omega))
end
section
variable{w u w1:World}{a a1:OA}{n c n1 c1:Nat}{F F' S:Nat->Prop}{B:Nat}{e:ED}{f b t:SH}{rs:List (Int×Int)}{x:kJ}
set_option maxHeartbeats 1000000 in
theorem UR(hT0:UT e.trees)(hG:rZ F w e f b t)(hrs:Ls tR F' w a1 n1 c1 rs)(hF':∀b,F' b->b<w.heap.size)(hn:n1<=16777216):E.CallsD prog 8 #[vE e f b t,.slice a1 n1 c1] w λv u=>∃s k:SH,v = .tuple #[vF (ofP e rs) s k,.int .i64 (ofE e rs)]/\pR (λb=>w.heap.size<=b/\b<u.heap.size) u (ofP e rs) s k/\Kept w u:=by
 refine dw.calls (R:=λv u=>∃s k:SH,v = .tuple #[vF (ofP e rs) s k,.int .i64 (ofE e rs)]/\pR (λb=>w.heap.size<=b/\b<u.heap.size) u (ofP e rs) s k/\Kept w u) ?_;unfold dw dw.g0;refine bZ (bZ ?_);have be:Blk (w.alloc (.cells (wO e.name f.a f.n f.c e.outputs b.a b.n b.c t.a t.n t.c) 26)) w.heap.size (enE e f b t).toArray Hw:=Blk.new w _ _;have k1:=zg3 w (.cells (wO e.name f.a f.n f.c e.outputs b.a b.n b.c t.a t.n t.c) 26);have hz1:(w.alloc (.cells (wO e.name f.a f.n f.c e.outputs b.a b.n b.c t.a t.n t.c) 26)).heap.size=w.heap.size+1:=by simp
 generalize w.alloc (.cells (wO e.name f.a f.n f.c e.outputs b.a b.n b.c t.a t.n t.c) 26)=w1 at be k1 hz1;have b4:Blk (w1.alloc (.cells (mr 0 0 none 0 0 none 0 0) 31)) w1.heap.size #[.int .i64 0,.int .i64 0,.slice none 0 0,.slice none 0 0] jb:=Blk.new w1 _ _;have k2:=zg3 w1 (.cells (mr 0 0 none 0 0 none 0 0) 31);generalize w1.alloc (.cells (mr 0 0 none 0 0 none 0 0) 31)=w2 at b4 k2;have be2:=be.keep k2;have k12:=zg1 k1 k2;have hA:AtL w2 (na w) (enE e f b t):=by simpa using AtL.blk (b:=w) be2
 -- the answer where something is wrong
 have bad:∀(v:World) (z:Int),z≠0->ofE e rs=z->Blk v w1.heap.size #[.int .i64 0,.int .i64 0,.slice none 0 0,.slice none 0 0] jb->Kept w v ->
   xQ v ⟨w1.heap.size,0,none⟩ 0 0 none 0 0 none 0 0 λw85=>mV w85 ⟨w1.heap.size,0,none⟩ λx0 x1 a2 n2 c2 a3 n3 c3=>∃s k:SH,Value.tuple #[kE x0 x1 a2 n2 c2 a3 n3 c3,.int .i64 z] = .tuple #[vF (ofP e rs) s k,.int .i64 (ofE e rs)]/\pR (λb=>w.heap.size<=b/\b<w85.heap.size) w85 (ofP e rs) s k/\Kept w w85:=by
  intro v z hz hof hb hkv;refine wrA (e:=jb) (b:=w1.heap.size) (vs:=[.int .i64 0,.int .i64 0,.slice none 0 0,.slice none 0 0]) hb rfl λu hb' ho=>?_;have hA4:AtL u ⟨w1.heap.size,0,none⟩ [.int .i64 0,.int .i64 0,.slice none 0 0,.slice none 0 0]:=λj v hj=>by rw[addr_add,zd1,hb'.cell];simpa using hj
  have hP:ofP e rs=⟨0,0,[],[]⟩:=by unfold ofP;rw[if_neg (by rw[hof];exact hz)]
  refine⟨_,hA4 0 _ rfl,_,hA4 1 _ rfl,_,_,_,hA4 2 _ rfl,_,_,_,hA4 3 _ rfl,⟨none,0,0⟩,⟨none,0,0⟩,?_,?_,?_⟩
  .rw[hP,hof]
  .rw[hP];exact⟨Ls.nil _ _ _ _ _,Ls.nil _ _ _ _ _⟩
  .exact zg4 ((Kept.mod (S:=λk=>w.heap.size<=k) hkv).trans ho (λ_ _ h=>h) (λk _ hk=>by have hk':k+1=w1.heap.size+1:=hk;show w.heap.size<=k;omega))
 refine⟨_,hA 0 _ rfl,_,_,_,hA 1 _ rfl,_,hA 2 _ rfl,_,_,_,hA 3 _ rfl,_,_,_,hA 4 _ rfl,?_⟩;refine zg0 (KI (hG.kept k12)) λv u3 ⟨hv,hk3⟩=>⟨_,hv,ja (λhne=>bad u3 _ hne (by unfold ofE;rw[if_pos hne]) (b4.keep hk3) (zg1 k12 hk3)) λh0=>?_⟩;have hn1:=hrs.len;have lt:=hG.ts.len;obtain⟨_,_,_,_,hT5,_⟩:=qw h0;have hbad6:jc e.trees.length rs 0=false->ofE e rs=6:=λh=>by unfold ofE;rw[if_neg (by omega),h];rfl
 have hA3:=hA.kept hk3;refine⟨_,_,_,hA3 4 _ rfl,?_⟩;refine zg0 (Ht (nn:=(t.n:Int)) (hrs.kept (zg1 k12 hk3)) hn) λv u4 ⟨hv,hk4⟩=>⟨_,hv,?_⟩;have hkv:=zg1 hk3 hk4;have hkw:=zg1 k12 hkv;have hAv:=hA.kept hkv
 cases hok:jc (t.n:Int) rs 0 with
 |false=>
  refine LW ?_;exact bad u4 6 (by decide) (hbad6 (by rw[<- lt];exact hok)) (b4.keep hkv) hkw
 |true=>
  rw[lt]at hok;refine GG ?_;have hof:ofE e rs=0:=by unfold ofE;rw[if_neg (by omega),hok];rfl
  have hP:ofP e rs=rW e rs:=by unfold ofP;rw[if_pos hof]
  refine⟨_,_,_,hAv 1 _ rfl,_,hAv 2 _ rfl,?_⟩;refine boxS (zs:=(mr 0 0 none 0 0 none 0 0).toList) (vs:=[.int .i64 (f.n:Int),.int .i64 e.outputs,.slice none 0 0,.slice none 0 0]) (e:=jb) rfl λu5 hA5 hbf hk5=>?_;have hkv5:=zg1 hkv hk5;have hkw5:=zg1 k12 hkv5;refine⟨_,_,_,hA5 2 _ rfl,b.a,b.n,b.c,(hA.kept hkv5) 3 _ rfl,?_⟩;have hbn:=hG.bm;have hbl:=hG.bs.len;refine Arr.pushes Y2 (Arr.nil eI t64 u5) (λ_=>rfl) ((hG.kept hkw5).bs.sl) (by simp only[maxLen];omega) (by omega) λa' c' g u6 hg1 hg2 ho6=>⟨a',_,c',rfl,?_⟩;rw[zc9]at hg1;have hk6:Kept u5 u6:=Mod.kept ho6 λk hk h=>by have h':k+1=0:=h;omega
  have hb6:=hbf.keep hk6;have hz4:=hkv.size;have hz5:=hk5.size;have hz6:=hk6.size;have hbfl:=hbf.lt;have hw1l:=b4.lt;refine stB hb6 (by simp) λu7 hb7 ho7=>?_;have hbf2:Blk u7 u4.heap.size #[.int .i64 (f.n:Int),.int .i64 e.outputs,.slice a' (0+b.n) c',.slice none 0 0] jb:=hb7;have hg1':=hg1.mod ho7 (eY hb6 hg1 (by decide));have hk2v:From w.heap.size w u7:=(Kept.mod (S:=λk=>w.heap.size<=k) (zg1 hkw5 hk6)).trans ho7 (λ_ _ h=>h) (λk _ hk=>by have hk':k+1=u4.heap.size+1:=hk;have:=hkw.size;show w.heap.size<=k;omega);have hgs:=Row.le hg1';have hb4u:=((b4.keep hkv5).keep hk6).mod ho7 (λhk=>by have hk':w1.heap.size+1=u4.heap.size+1:=hk;omega);have hbeu:=((be2.keep hkv5).keep hk6).mod ho7 (λhk=>by have hk':w.heap.size+1=u4.heap.size+1:=hk;omega);have hpflt:=hbf2.lt;have hk0:=hkw.size;refine za4 (n1+1) ?_;refine UB (B:=u7.heap.size) (w0:=w) (sb:=⟨a',0+b.n,c'⟩) (g1:=g) (base:=e.base) (outs:=e.outputs) (F':=F') hG h0 hrs hF' hok hT0 (zb4 _) (by omega) (by omega) (by omega) (λu3 bd sk gb hbd hb3 hk3' hok3 hgb hkk=>?_) (by omega) (by omega) n1 0 u7 [] ⟨none,0,0⟩ 0 (by omega) hk2v (zb4 _) ⟨hbf2,hg1',aK.nil _ _ _ _,(λx hx=>by cases hx),hpflt,.inr hgs,.inl rfl⟩ rfl hbeu hb4u;refine⟨⟨a',0+b.n,c'⟩,sk,?_,⟨?_,?_⟩,hkk⟩
  .rw[hP,hof];have:=hG.fs.len;unfold rW;simp only[this]
  .rw[hP];exact(Arr.ls (h1:=λ_=>rfl) hb3).mono λb hb=>⟨by omega,by have:=Row.le hb3;omega⟩
  .rw[hP];show Ls tB _ u3 sk.a sk.n sk.c (rs.map λr=>dm ((e.trees.take r.2.toNat).drop r.1.toNat) r.1);rw[<- hbd];exact XO hk3' hok3 hgb λb h1 h2=>⟨by have:=hk2v.size;omega,h2⟩
end
section
end
def xR(x y:AD):Bool:=decide (x.frm<y.frm)||(decide (x.frm=y.frm)&&decide (y.to<x.to))
theorem a1v:Wk xR where
 irrefl x:=by unfold xR;simp
 trans x y z:=by unfold xR;simp;omega
 ntrans x y z:=by unfold xR;simp;omega
def uu(k:Int)(lost:List cZ)(c:cZ):Int:=if lost.any (λo=>decide (o.tree=k)&&decide (o.frm=c.frm)&&decide (o.to=c.to)) then 2 else 1
def zq(k:Int)(l:dL)(c:cZ):AD:=⟨⟨2,0,l.feature,c.thr,[],uu k l.lost c,0,0⟩,c.frm,c.to⟩
def Du(k:Int)(l:dL)(c:cZ):AD:=⟨⟨3,0,l.feature,0,c.aT,uu k l.lost c,0,0⟩,c.frm,c.to⟩
def jI(ask:cZ->AD)(k:Int):List cZ->List AD->List AD
 | [],out=>out
 |c::cs,out=>jI ask k cs (if c.tree=k then lX xR out (ask c) else out)
def oz(k:Int):List dL->List AD->List AD
 | [],out=>out
 |l::ls,out=>oz k ls (jI (Du k l) k l.aT (jI (zq k l) k l.numbers out))
def L8(k:Int)(l:dL):List AD:=((l.numbers.filter λc=>c.tree==k).map (zq k l))++((l.aT.filter λc=>c.tree==k).map (Du k l))
theorem DX(ask:cZ->AD)(k:Int):∀(cs:List cZ) (out:List AD),jI ask k cs out=((cs.filter λc=>c.tree==k).map ask).foldl (lX xR) out
 | [],out=>rfl
 |c::cs,out=>by
  unfold jI;rw[DX ask k cs,List.filter_cons]
  by_cases h:c.tree=k
  .rw[if_pos h,if_pos (by simpa using h)];rfl
  .rw[if_neg h,if_neg (by simpa using h)]
theorem JS(k:Int):∀(ls:List dL) (out:List AD),oz k ls out=(ls.flatMap (L8 k)).foldl (lX xR) out
 | [],out=>rfl
 |l::ls,out=>by
  unfold oz;rw[JS k ls,DX,DX,zd9,List.foldl_append];congr 1;unfold L8;rw[List.foldl_append]
theorem GU(k:Int)(ls:List dL):oz k ls []=sorted xR (ls.flatMap (L8 k)):=JS k ls []
theorem VZ{k f:Int}{lost:List cZ}{c:cZ}(hc:c.tree=k):uu k lost c=if 0<lost.countP (λx=>decide (uO f x=uO f c)) then 2 else 1:=by
 unfold uu;have e:(lost.any λo=>decide (o.tree=k)&&decide (o.frm=c.frm)&&decide (o.to=c.to))=true↔0<lost.countP (λx=>decide (uO f x=uO f c)):=by
  rw[List.countP_pos_iff,List.any_eq_true];constructor
  .rintro⟨o,h1,h2⟩;refine⟨o,h1,?_⟩;simp only[ze5,decide_eq_true_eq]at h2 ⊢;unfold uO;rw[h2.1.1,h2.1.2,h2.2,hc]
  .rintro⟨o,h1,h2⟩;refine⟨o,h1,?_⟩;simp only[ze5,decide_eq_true_eq]at h2 ⊢;unfold uO at h2;injection h2 with h3 h4 h5 h6
   exact⟨⟨by rw[h3,hc],h4⟩,h5⟩
 by_cases h:0<lost.countP (λx=>decide (uO f x=uO f c))
 .rw[if_pos h,if_pos (e.2 h)]
 .rw[if_neg h,if_neg (λh'=>h (e.1 h'))]
theorem LK{ts:List TD}(hl:∀t∈ts,lvE t.nodes=0){e:dL}(he:e∈dN ts):(∀c∈e.numbers,c.aT=[])/\(∀c∈e.aT,c.thr=0):=by
 have hp:=oq (mis:=λ_ _=>0) ts;have bare:∀p∈dH ts 0,(p.1.kind=2->p.2.aT=[])/\(p.1.kind=3->p.2.thr=0):=λp hp=>by
  obtain⟨j,t,ht,hp'⟩:=ny hl hp;obtain⟨m,hm,rfl⟩:=kM (hl t (za0 ht)) hp';have hT:=bW (gz (hl t (za0 ht))).1;obtain⟨i,x,h1,h2,h3⟩:=lG hT.is m hm;have ok:=hT.right.ok i x h2;have ex:t.nodes.getD m.node.toNat default=x:=by rw[h1,za3,za8,h2];rfl
  unfold fD at ok;unfold MG;simp only[ex];constructor
  .intro hk;rw[if_neg (by omega),if_pos hk]at ok;simp only[ze5,List.isEmpty_iff]at ok;exact ok.1.2
  .intro hk;rw[if_neg (by omega),if_neg (by omega),if_pos hk]at ok;simp only[ze5,beq_iff_eq]at ok;exact ok.1.1
 have key:∀(kd:Int) (c:cZ),Au (λ_ _=>0) e.feature kd c∈jB (λ_ _=>0) (dN ts)->∃p∈dH ts 0,(if p.1.kind=3 then(3:Int) else 2)=kd/\p.2.aT=c.aT/\p.2.thr=c.thr:=λkd c hc=>by
  obtain⟨p,h1,h2⟩:=zd4.1 (hp.mem_iff.1 hc);unfold EK Au at h2;injection h2 with h3 h4
  injection h4 with h5 h6 h7
  injection h5 with a1 a2 a3 a4 a5
  exact⟨p,h1,a1,a5,a4⟩
 have mem:∀x∈zN (λ_ _=>0) e,x∈jB (λ_ _=>0) (dN ts):=λx hx=>List.mem_flatMap.2 ⟨e,he,hx⟩;constructor
 .intro c hc;obtain⟨p,h1,h2,h3,_⟩:=key 2 c (mem _ (List.mem_append_left _ (ze8 hc)));rw[<- h3];refine(bare p h1).1 ?_
  rcases(wC hl h1).2.1 with h | h
  .exact h
  .rw[if_pos h]at h2;cases h2
 .intro c hc;obtain⟨p,h1,h2,_,h4⟩:=key 3 c (mem _ (List.mem_append_right _ (ze8 hc)));rw[<- h4];refine(bare p h1).2 ?_
  by_cases h:p.1.kind=3
  .exact h
  .rw[if_neg h]at h2;cases h2
theorem WS{ts:List TD}{first:Int}(hl:∀t∈ts,lvE t.nodes=0){k:Nat}{t:TD}(ht:ts[k]?=some t):oz (k:Int) (dm ts first).lists []=oH (GN t.nodes) (gW t.nodes) 0:=by
 rw[GU];have e:(dm ts first).lists.flatMap (L8 (k:Int))=rowsOf (jB (yg (dN ts)) (dN ts)) k:=by
  have gen:∀L:List dL,(∀l∈L,l∈dN ts)->L.flatMap (L8 (k:Int))=rowsOf (jB (yg (dN ts)) L) k:=by
   intro L
   induction L with
   |nil=>intro _;rfl
   |cons l L ih=>
    intro hL;have hm:=hL l (.head _);obtain⟨b1,b2⟩:=LK hl hm;rw[zd9,ih λx hx=>hL x (.tail _ hx)];have e1:jB (yg (dN ts)) (l::L)=zN (yg (dN ts)) l++jB (yg (dN ts)) L:=zd9;rw[e1,jQ];congr 1;have row:∀(kd:Int) (cs:List cZ) (ask:cZ->AD),(∀c∈cs,c.tree=(k:Int)->(Au (yg (dN ts)) l.feature kd c).2=ask c)->((cs.filter λc=>c.tree==(k:Int)).map ask)=rowsOf (cs.map (Au (yg (dN ts)) l.feature kd)) k:=by
     intro kd cs ask
     induction cs with
     |nil=>intro _;rfl
     |cons c cs ih2=>
      intro h;rw[ze0,zU,List.filter_cons,<- ih2 λx hx=>h x (.tail _ hx)];have ec:(Au (yg (dN ts)) l.feature kd c).1=c.tree:=rfl;rw[ec]
      by_cases hk:c.tree=(k:Int)
      .rw[if_pos hk,if_pos (by simpa using hk),ze0,h c (.head _) hk];rfl
      .rw[if_neg hk,if_neg (by simpa using hk)];rfl
    unfold L8 zN;rw[jQ];have ms:∀c:cZ,c.tree=(k:Int)->yg (dN ts) l.feature c=uu k l.lost c:=λc hc=>by rw[DN (sZ ts) hm,VZ hc]
    refine congr (congrArg _ (row 2 _ _ λc hc hk=>?_)) (row 3 _ _ λc hc hk=>?_)
    .unfold Au zq;rw[ms c hk,b1 c hc]
    .unfold Au Du;rw[ms c hk,b2 c hc]
  exact gen _ λ_ h=>h
 rw[e];refine wK a1v ((zK (oq ts) k).trans ?_) ?_
 .have:=yT hl (us:=ts) (k0:=0) (k:=k) (t:=t) hl (λ_ h=>h) ht;rw[zd1]at this;rw[this]
 .refine(zS (att:=GN t.nodes) (gW t.nodes) 0).imp fun {a b} h=>?_;unfold ltK at h;unfold xR;simp;omega
def iW(N:List ND)(ab:Int):List ND:=if 0<=ab then
  match N[ab.toNat]? with
  |some x=>N.set ab.toNat (if x.left=0 then { x with left:=(N.length:Int) } else { x with right:=(N.length:Int) })
  |none=>N
 else N
theorem zG(N:List ND)(ab:Int):(iW N ab).length=N.length:=by
 unfold iW
 split
 .split
  .rw[zf6]
  .rfl
 .rfl
def qH(l:List AD)(vals:List Int):Nat->List ND->List (Int×Int×Int)->Nat->Bool×List ND
 |0,N,_,_=>(false,N)
 |_+1,N,[],_=>(true,N)
 |m+1,N,s::st,k=>
  if s.2.1=s.1+1 then qH l vals m (iW N s.2.2++[uk (vals.getD s.1.toNat 0)]) st k
  else match l[k]? with
   |none=>(false,iW N s.2.2)
   |some x=>if x.frm=s.1/\s.1<x.to/\x.to<s.2.1 then qH l vals m (iW N s.2.2++[x.nd]) ((s.1,x.to,(N.length:Int))::(x.to,s.2.1,(N.length:Int))::st) (k+1) else(false,iW N s.2.2)
theorem qU(l:List AD)(vals:List Int)(m:Nat)(N:List ND)(s:Int×Int×Int)(st:List (Int×Int×Int))(k:Nat):qH l vals (m+1) N (s::st) k =
  if s.2.1=s.1+1 then qH l vals m (iW N s.2.2++[uk (vals.getD s.1.toNat 0)]) st k
  else match l[k]? with
   |none=>(false,iW N s.2.2)
   |some x=>if x.frm=s.1/\s.1<x.to/\x.to<s.2.1 then qH l vals m (iW N s.2.2++[x.nd]) ((s.1,x.to,(N.length:Int))::(x.to,s.2.1,(N.length:Int))::st) (k+1) else(false,iW N s.2.2):=rfl
theorem BT.Hy:∀T:BT,T.size+1=2*T.nl
 | .leaf _=>rfl
 | .node _ l r=>by
  have h1:=BT.Hy l;have h2:=BT.Hy r;rw[BT.jR];simp only[BT.size];omega
def uy(l:List AD)(vals:List Int):Bool×List ND:=if l.length+1=vals.length then qH l vals (2*vals.length) [] [(0,(vals.length:Int),-1)] 0 else(false,[])
section
variable{att:Nat->ND}{vals:List Int}{l:List AD}
theorem Fv{N L:List ND}{x:ND}:iW (N++[x]++L) (N.length:Nat)=N++[if x.left=0 then { x with left:=((N++[x]++L).length:Int) } else { x with right:=((N++[x]++L).length:Int) }]++L:=by
 unfold iW;rw[if_pos (by omega),za3];have h:(N++[x]++L)[N.length]?=some x:=by simp
 rw[h];simp only;rw[za5,List.set_append_right _ _ (zb4 _),zf8,za5];rfl
theorem Hz(h0:∀i,(att i).left=0):∀(T:BT) (k0:Nat) (N:List ND) (ab:Int) (st:List (Int×Int×Int)) (q m:Nat),(∀(j:Nat) (x:AD),(oH att T k0)[j]?=some x->l[q+j]?=some x) ->
  qH l vals (T.size+m) N (((k0:Nat),((k0+T.nl:Nat):Int),ab)::st) q=qH l vals m (iW N ab++outT att vals T N.length k0) st (q+(oH att T k0).length)
 | .leaf i,k0,N,ab,st,q,m,h=>by
  rw[show(BT.leaf i).size+m=m+1 by simp only[BT.size];omega];rw[qU,if_pos (by rw[BT.tK];simp only;omega)];simp only[za3];rfl
 | .node i L Rr,k0,N,ab,st,q,m,h=>by
  have p1:=L.mg;have p2:=Rr.mg;rw[show(BT.node i L Rr).size+m=(L.size+(Rr.size+m))+1 by simp only[BT.size];omega];have hx:l[q]?=some ⟨att i,(k0:Nat),(k0+L.nl:Nat)⟩:=h 0 _ rfl;rw[qU,if_neg (by rw[BT.jR];simp only;omega),hx];have nn:(((k0+(BT.node i L Rr).nl:Nat)):Int)=((k0+(L.nl+Rr.nl):Nat):Int):=by rw[BT.jR]
  refine(if_pos (show((k0:Nat):Int)=((k0:Nat):Int)/\((k0:Nat):Int)<((k0+L.nl:Nat):Int)/\((k0+L.nl:Nat):Int)<((k0+(BT.node i L Rr).nl:Nat):Int) from ⟨rfl,by omega,by rw[nn];omega⟩)).trans ?_;have hl:=zG N ab;have ask:oH att (.node i L Rr) k0=⟨att i,(k0:Nat),(k0+L.nl:Nat)⟩::(oH att L k0++oH att Rr (k0+L.nl)):=rfl;have i1:=Hz h0 L k0 (iW N ab++[att i]) (N.length:Nat) ((((k0+L.nl:Nat):Int),((k0+(BT.node i L Rr).nl:Nat):Int),((N.length:Nat):Int))::st) (q+1) (Rr.size+m) λj x hj=>by
   have:=h (j+1) x (by rw[ask,List.getElem?_cons_succ,zb9 (za1.1 hj).1];exact hj);rw[<- this];congr 1;omega
  rw[i1];have e1:iW (iW N ab++[att i]) (N.length:Nat)=iW N ab++[{ att i with left:=((N.length+1:Nat):Int) }]:=by
   have:=Fv (N:=iW N ab) (L:=[]) (x:=att i);rw[zc8,hl,if_pos (h0 i),zc8]at this;rw[this];congr 3;rw[za6,hl];rfl
  rw[e1];have hlen1:(iW N ab++[att i]).length=N.length+1:=by rw[za6,hl];rfl
  rw[hlen1];have i2:=Hz h0 Rr (k0+L.nl) (iW N ab++[{ att i with left:=((N.length+1:Nat):Int) }]++outT att vals L (N.length+1) k0) (N.length:Nat) st (q+1+(oH att L k0).length) m λj x hj=>by
   have:=h ((oH att L k0).length+j+1) x (by rw[ask,List.getElem?_cons_succ,zc0 (by omega),show(oH att L k0).length+j - (oH att L k0).length=j by omega];exact hj);rw[<- this];congr 1;omega
  rw[show k0+(BT.node i L Rr).nl=k0+L.nl+Rr.nl by rw[BT.jR];omega,i2];have e2:iW (iW N ab++[{ att i with left:=((N.length+1:Nat):Int) }]++outT att vals L (N.length+1) k0) (N.length:Nat)=iW N ab++[{ att i with left:=((N.length+1:Nat):Int),right:=((N.length+1+L.size:Nat):Int) }]++outT att vals L (N.length+1) k0:=by
   have:=Fv (N:=iW N ab) (L:=outT att vals L (N.length+1) k0) (x:={ att i with left:=((N.length+1:Nat):Int) });rw[hl,if_neg (by simp only;omega)]at this;rw[this];congr 4;rw[za6,za6,hl,uN];rfl
  rw[e2];have hlen2:(iW N ab++[{ att i with left:=((N.length+1:Nat):Int) }]++outT att vals L (N.length+1) k0).length=N.length+1+L.size:=by
   rw[za6,za6,hl,uN];rfl
  rw[hlen2];congr 1
  .show _=iW N ab++(_::(outT att vals L (N.length+1) k0++outT att vals Rr (N.length+1+L.size) (k0+L.nl)));simp
  .rw[ask,zc5,za6];omega
theorem Wp(h0:∀i,(att i).left=0){T:BT}(hv:vals.length=T.nl):uy (oH att T 0) vals=(true,outT att vals T 0 0):=by
 have hs:=BT.Hy T;have hp:=T.mg;unfold uy;rw[if_pos (by rw[yf,hv])];have:=Hz (att:=att) (vals:=vals) (l:=oH att T 0) h0 T 0 [] (-1) [] 0 1 λj x hj=>by rw[zd1];exact hj
 rw[show 2*vals.length=T.size+1 by omega];have e:((0+T.nl:Nat):Int)=(vals.length:Int):=by omega
 rw[e]at this;have e0:((0:Nat):Int)=0:=rfl;rw[e0]at this;rw[this];unfold qH;simp[iW]
end
section
variable{w u x:World}{a:OA}{n c g:Nat}{S:Nat->Prop}{p q:Addr}{B:Nat}{cs:List AD}{s t:SH}
abbrev tKn:Nat:=127
theorem S79:fV prog 86 tKn 10 96:=sliceT (by kernel_rfl)
theorem OO(x:AE):∀v∈jG x,v.oneCell'=true:=by
 intro v hv;simp only[jG,zb3,zf9,or_false]at hv
 rcases hv with h | h | h | h | h | h | h | h | h | h <;> subst h <;> rfl
def ElK(B:Nat)(w:World)(l:List AE):Prop:=∀x∈l,∃gx,Arr enI tI' w x.2.a x.2.n x.2.c x.1.nd.aT gx/\fresh B gx
theorem ElK.mD{l:List AE}(h:ElK B w l)(hm:Mod S w u)(hS:Apart S w [tI']):ElK B u l:=λx hx=>let⟨gx,k1,k2⟩:=h x hx; ⟨gx,Row.mD k1 hm hS (by simp),k2⟩
structure mi(B:Nat)(w:World)(s:SH)(cs:List AD)(g:Nat):Prop where
 row:∃l,aK 10 jG tKn w s.a s.n s.c l g/\cs=l.map (·.1)/\ElK B w l
 fr:fresh B g
theorem mi.kept(h:mi B w s cs g)(hk:Kept w u):mi B u s cs g:=by
 obtain⟨⟨l,h1,h2,h3⟩,h4⟩:=h;exact⟨⟨l,aK.kept h1 hk,h2,h3.mD (S:=λ_=>False) (Kept.mod hk) (λ_ _ _ h=>h.elim)⟩,h4⟩
theorem mi.le(h:mi B w s cs g):g<=w.heap.size:=by
 obtain⟨⟨l,h1,_⟩,_⟩:=h;exact Row.le h1
theorem mi.len(h:mi B w s cs g):s.n=cs.length:=by
 obtain⟨⟨l,h1,h2,_⟩,_⟩:=h;rw[h2,za7];exact aK.len (k:=10) (en:=jG) (λ_=>rfl) (by omega) h1
theorem mi.nil(B:Nat)(w:World):mi B w ⟨none,0,0⟩ [] 0:=⟨⟨[],aK.nil _ _ _ _,rfl,λ_ h=>by cases h⟩,.inl rfl⟩
theorem mi.ap(h:mi B w s cs g)(es:List Nat)(he:tKn∉es):Apart (λk=>k+1=g) w es:=by
 obtain⟨⟨l,h1,_⟩,_⟩:=h;exact Row.apart h1 he
theorem mi.mY(h:mi B w s cs g){y:AD}(hq:AtL w q (jG (y,t))){gx:Nat}(hy:Arr enI tI' w t.a t.n t.c y.nd.aT gx)(hgx:fresh B gx)(hB:B<=w.heap.size)(hm:s.n<=549755813888){K:Value->zg6}
  (hk:∀a' c' u g',mi B u ⟨a',s.n+1,c'⟩ (cs++[y]) g'->(g'=g\/w.heap.size<g')->g'≠0->Only g w u->K (.slice a' (s.n+1) c') u) :
  dC prog (Builtin.append_ #[86,86] 86 #[.slice s.a s.n s.c,.slice (some q) 1 1]) w K:=by
 have hap:=h.ap;obtain⟨⟨l,h1,h2,h3⟩,h4⟩:=h;refine aK.mY (P:=prog) (k:=10) (en:=jG) S79 (λ_=>rfl) (by omega) h1 (x:=(y,t)) hq (OO _) (by simp only[maxLen];omega) (by omega) λa5 c5 g5 w5 r5 hg5 h0 ho5=>hk a5 c5 w5 g5 ⟨⟨l++[(y,t)],r5,by rw[h2];simp,λx hx=>?_⟩,by unfold fresh at h4 ⊢;omega⟩ hg5 h0 ho5;have ap:=hap [tI'] (by decide)
 rcases zb2.1 hx with hx | hx
 .exact h3.mD ho5 ap x hx
 .obtain rfl:=zd0.1 hx;exact⟨gx,Row.mD hy ho5 ap (by simp),hgx⟩
theorem mi.rd(h:mi B w s cs g){i:Int}{K:Addr->Prop}(h0:0<=i)(hi:i<s.n)(hk:∀p y t gx,cs[i.toNat]?=some y->AtL w (p.add (i.toNat*10)) (jG (y,t))->Arr enI tI' w t.a t.n t.c y.nd.aT gx->fresh B gx->K p):ix s.a s.n i K:=by
 obtain⟨⟨l,h1,h2,h3⟩,h4⟩:=h;have hl:=aK.len (k:=10) (en:=jG) (λ_=>rfl) (by omega) h1;have hx:l[i.toNat]?=some (l[i.toNat]'(by omega)):=za2 _;generalize l[i.toNat]'(by omega)=y at hx;obtain⟨gx,k1,k2⟩:=h3 y (za0 hx);exact atF (k:=10) (en:=jG) (λ_=>rfl) (by omega) h1 h0 hi hx λp _ hA=>hk p y.1 y.2 gx (by rw[h2,zc1,hx];rfl) hA k1 k2
theorem mi.wr(h:mi B w s cs g){i:Int}(h0:0<=i)(hi:i<s.n){y:AD}{gx:Nat}(hy:Arr enI tI' w t.a t.n t.c y.nd.aT gx)(hgx:fresh B gx){K:zg6}(hk:∀u,mi B u s (cs.set i.toNat y) g->Only g w u->K u) :
  ix s.a s.n i λq=>ug w (q.add (i.toNat*10)) y.nd.kind y.nd.value y.nd.feature y.nd.thr t.a t.n t.c y.nd.missing y.nd.left y.nd.right y.frm y.to K:=by
 have hap:=h.ap;obtain⟨⟨l,h1,h2,h3⟩,h4⟩:=h;have hl:=aK.len (k:=10) (en:=jG) (λ_=>rfl) (by omega) h1;have hk2:∀u,aK 10 jG tKn u s.a s.n s.c (l.set i.toNat (y,t)) g->Only g w u->K u:=λu hu ho=>hk u ⟨⟨_,hu,by rw[h2,List.map_set],λx hx=>by
  have ap:=hap [tI'] (by decide)
  rcases mem_set hx with rfl | ⟨j,_,hj⟩
  .exact⟨gx,Row.mD hy ho ap (by simp),hgx⟩
  .exact h3.mD ho ap x (za0 hj)⟩,h4⟩ ho
 obtain⟨b,rfl,ha,hw⟩:=aK.put (k:=10) (en:=jG) (λ_=>rfl) h1 (i:=i.toNat) (by omega) hl (y:=(y,t)) (K:=K) hk2;rw[ha];refine dK ⟨h0,hi⟩ ?_;refine Eq.mpr (congrArg (λq=>ug w q y.nd.kind y.nd.value y.nd.feature y.nd.thr t.a t.n t.c y.nd.missing y.nd.left y.nd.right y.frm y.to K) (show((⟨b,0,none⟩:Addr).add (i.toNat*10))=⟨b,i.toNat*10,none⟩ by rw[addr_add,zd1])) hw
end
end Go.Mir
