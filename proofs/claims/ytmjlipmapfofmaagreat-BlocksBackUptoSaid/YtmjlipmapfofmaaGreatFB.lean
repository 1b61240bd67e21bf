/- Part of a proof; no conditions. -/
import Derived.Test.YtmjlipmapfofmaaGreatFA
set_option linter.unusedVariables false
set_option linter.unusedSimpArgs false
set_option linter.unusedSectionVars false
set_option maxRecDepth 100000
open Go.Proofs.Tryz (prog)
namespace Go.Mir
open Go Go.E Go.RowKit Go.Tr Go.Ss Go.ChangeShapes
structure pM(F:Nat->Prop)(w:World)(a:OA)(n c:Nat)(ts:List TD)(d:Int):Prop where
 ls:Ls tT F w a n c ts
 old:∀b,F b->b<w.heap.size
 max:n<=65536
 d0:0<=d
 d1:d<=65536
 ok:∀t∈ts,t.nodes.length<=1048576/\Short 1048576 t.nodes/\lvE t.nodes=0/\pF t.nodes d=true
section
variable{w u:World}{a:OA}{n c c1:Nat}{F:Nat->Prop}{i j:Nat}{ts:List TD}{d:Int}
theorem pM.kept(h:pM F w a n c ts d)(hk:Kept w u):pM F u a n c ts d:=⟨h.ls.kept hk,λb hb=>zf5 (h.old b hb) hk.size,h.max,h.d0,h.d1,h.ok⟩
theorem VQ(hG:pM F w a n c ts d):Pure prog 69 #[.slice a n c,.int .i64 d] w (.int .i64 0):=by
 refine dB.calls (R:=λv' u=>v'=_/\Below w.heap.size w u) ?_;unfold dB dB.g0;have h0:=hG.d0;have h1:=hG.d1;have hmx:=hG.max;have hn:=hG.ls.len;refine aA (by omega) ?_;refine aA (by omega) ?_;refine aA (by omega) ?_;refine⟨n+1,?_⟩;have key:∀(k i:Nat) (u:World),i+k=n->Kept w u->dB.l22 (λv' u=>v' = .int .i64 0/\Below w.heap.size w u) (k+1) d a n c n i u:=by
  intro k
  induction k with
  |zero=>
   intro i u hi hu;rw[dB.u22];unfold dB.g22;refine aA (by omega) ?_;exact⟨rfl,hu⟩
  |succ k ih=>
   intro i u hi hu;rw[dB.u22];unfold dB.g22;refine aH (by omega) ?_;refine(hG.kept hu).ls.rdT (by omega) (by omega) λt a' n' c' ht hnodes=>?_;rw[za3]at ht;obtain⟨o1,o2,o3,o4⟩:=hG.ok t (za0 ht);have hnl:=hnodes.len;have hGt:Good F u a' n' c' t.nodes:=⟨hnodes,(hG.kept hu).old,by omega,o2⟩;refine BR λw1 hb hA hk1=>⟨_,hA.c0,_,_,_,hA.c1,?_⟩;obtain⟨hsh,hlv⟩:=gz o3;refine zg0 (yB (o:=t.output) (hGt.kept hk1)) λv u1 ⟨a2,n2,c2,hv,hnew⟩=>⟨_,_,_,_,hv,sH hsh ?_⟩;have hl2:=hnew.len;rw[show(qg (dA t.nodes false)).length=(dA t.nodes false).length by simp[qg]]at hl2;refine aA (by omega) ?_;have hk2:=zg1 hk1 hnew.kept;refine⟨_,_,_,(hA.kept hnew.kept).c1,n'+1,?_⟩;have hT:=(bW hsh);have inner:∀(k2 j:Nat) (v:World),j+k2=n'->Kept u v->dB.l54 (λv' u=>v' = .int .i64 0/\Below w.heap.size w u) (dB.l22 (λv' u=>v' = .int .i64 0/\Below w.heap.size w u) (k+1)) (k2+1) d a n c n i a' n' c' n' j v:=by
    intro k2
    induction k2 with
    |zero=>
     intro j v hj hv;unfold dB.l54 dB.g54;refine aA (by omega) ?_;exact aC (by omega) (ih (i+1) v (by omega) (zg1 hu hv))
    |succ k2 ih2=>
     intro j v hj hv;unfold dB.l54 dB.g54;refine aH (by omega) ?_;refine(hnodes.kept hv).rdN (by omega) (by omega) λx a5 n5 c5 hx hcs=>?_;rw[za3]at hx;refine qm λv1 _ h8 hk3=>⟨_,h8.c0,?_⟩;refine ja (λhne=>?_) λhe=>aC (by omega) (ih2 (j+1) v1 (by omega) (zg1 hv hk3));have hin:=(zi hT hx).1 hne;have hft:=fits_all o4 hx hin;refine⟨_,h8.c2,aA (by omega) (aC (by omega) (ih2 (j+1) v1 (by omega) (zg1 hv hk3)))⟩
   exact inner n' 0 u1 (by omega) hk2
 exact key n 0 w (by omega) (Kept.refl w)
end
theorem Ba:∀(l:List TD) (t:TD) (k:Nat),dH (l++[t]) k=dH l k++kP (k+l.length) t.nodes
 | [],t,k=>by simp[dH]
 |x::l,t,k=>by
  rw[ze1,dH,dH,Ba l t (k+1),za5,zc5,show k+1+l.length=k+(l.length+1) by omega]
theorem Ro(L:List dL)(p:ND×cZ):(nM L p).length<=L.length+1:=by
 unfold nM xX;rw[za7]
 split <;> simp
theorem F9:∀(l:List (ND×cZ)) (L:List dL),(l.foldl nM L).length<=L.length+l.length
 | [],L=>by simp
 |p::l,L=>by
  rw[ze9,zc5];have h1:=F9 l (nM L p);have h2:=Ro L p;omega
theorem nZ(nodes:List ND):(iq nodes).length<=4096:=by
 unfold iq
 split
 .rename_i h0;have:=(Vs h0).2;have:=(gW nodes).kT 0;omega
 .simp
theorem FU:∀(l:List TD) (k:Nat),(dH l k).length<=4096*l.length
 | [],k=>by simp[dH]
 |t::l,k=>by
  rw[dH,za6,zc5];have h1:=FU l (k+1);have h2:(kP k t.nodes).length<=4096:=zb5 (List.length_filterMap_le _ _) (nZ _);omega
section
variable{w u:World}{a:OA}{n c c1:Nat}{F S:Nat->Prop}{q:Addr}{B mb i:Nat}{H:List HE}{ts:List TD}{d:Int}
theorem Om{r:RC}(hr:Ye B w r)(hF:∀b,B<=b->b<w.heap.size->F b):Ls tC F w r.1.a r.1.n r.1.c (r.2.1.map (·.1)):=by
 refine aK.lsK (T:=tC) (f:=λx:CD=>x.1) (en:=nJ) (k:=5) yu (by omega) rfl hr.1 (λb hb=>hF b (by have:=hr.2.1;omega) (by have:=Row.le hr.1;omega)) λx hx=>?_;obtain⟨g,h1,h2⟩:=hr.2.2 x hx;exact⟨x.2,rfl,(Arr.ls (h1:=λ_=>rfl) h1).mono λb hb=>hF b (by omega) (by have:=Row.le h1;omega)⟩
theorem TK{g:Nat}{O:List HE}(hH:wP B w mb H)(hO:∀x∈O,x∈H)(h:aK 4 gZ tL' w a n c (O.map Eu) g)(hg:g=0\/B<g)(hF:∀b,B<=b->b<w.heap.size->F b):Ls tL F w a n c (O.map dHE):=by
 have h':aK 4 (λx:HE=>gZ (Eu x)) tL' w a n c O g:=by
  unfold aK at h ⊢;have e:(O.map Eu).flatMap gZ=O.flatMap λx=>gZ (Eu x):=by rw[List.flatMap_map]
  rw[<- e];exact h
 refine aK.lsK (T:=tL) (f:=dHE) (en:=λx:HE=>gZ (Eu x)) (k:=4) (λ_=>rfl) (by omega) rfl h' (λb hb=>hF b (by omega) (by have:=Row.le h';omega)) λx hx=>?_;have hxm:=hO x hx;have h3:=(hH.box x hxm).2.2;obtain⟨r0,e0,m0,d0⟩:=sF (x:=x) h3 (k:=0) (by omega);obtain⟨r1,e1,m1,d1⟩:=sF (x:=x) h3 (k:=1) (by omega);obtain⟨r2,e2,m2,d2⟩:=sF (x:=x) h3 (k:=2) (by omega);refine⟨r0.1,r1.1,r2.1,?_,?_,?_,?_⟩
 .show gZ (Eu x)=enL (dHE x) r0.1 r1.1 r2.1;simp[Eu,e0,e1,e2,dHE,enL,gZ]
 .show Ls tC F w r0.1.a r0.1.n r0.1.c (MS x 0);rw[d0];exact Om (hH.row x hxm r0 m0) hF
 .show Ls tC F w r1.1.a r1.1.n r1.1.c (MS x 1);rw[d1];exact Om (hH.row x hxm r1 m1) hF
 .show Ls tC F w r2.1.a r2.1.n r2.1.c (MS x 2);rw[d2];exact Om (hH.row x hxm r2 m2) hF
theorem KZ(hG:pM F w a n c ts d):E.CallsD prog 49 #[.slice a n c,.int .i64 d] w λv u=>∃a' n' c',v = .tuple #[.slice a' n' c',.int .i64 0]/\Ls tL (λb=>w.heap.size<=b/\b<u.heap.size) u a' n' c' (dN ts)/\Kept w u:=by
 refine bY.calls (R:=λv u=>∃a' n' c',v = .tuple #[.slice a' n' c',.int .i64 0]/\Ls tL (λb=>w.heap.size<=b/\b<u.heap.size) u a' n' c' (dN ts)/\Kept w u) ?_;unfold bY bY.g0;refine zg0 (VQ hG) λv u0 ⟨hv,hk0⟩=>⟨_,hv,sH (by decide) (bZ ?_)⟩;have hmx:=hG.max;have hn:=hG.ls.len;have hB:w.heap.size<=u0.heap.size:=hk0.size;have hH0:=HOK.nil (B:=w.heap.size) tI' tC' tL' u0 hB;have hk1:=zg1 hk0 (zg3 u0 (.map #[] 0));refine⟨n+1,?_⟩;have key:∀(k i:Nat) (u:World) (H:List HE),i+k=n->wP w.heap.size u u0.heap.size H->From w.heap.size w u->H.map dHE=(dH (ts.take i) 0).foldl nM []->Lens (8192*i) H ->
   bY.l18 (λv u=>∃a' n' c',v = .tuple #[.slice a' n' c',.int .i64 0]/\Ls tL (λb=>w.heap.size<=b/\b<u.heap.size) u a' n' c' (dN ts)/\Kept w u) (k+1) (some u0.heap.size) a n c n i u:=by
  intro k
  induction k with
  |zero=>
   intro i u H hi hH hf hd hl;rw[bY.u18];unfold bY.g18;refine aA (by omega) ?_;obtain rfl:i=ts.length:=by omega
   rw[zd3]at hd;have hnd:=qh hH;rw[<- um,hd]at hnd;refine ji.range t130 hH.map λu1 hrng hku=>⟨_,rfl,?_⟩;have hlen:=F9 (dH ts 0) [];have hlen2:=FU ts 0;have hHl:H.length=((dH ts 0).foldl nM []).length:=by rw[<- hd,za7]
   refine⟨H.length+1,Tq (N:=8192*ts.length) (w0:=w) (L0:=(dH ts 0).foldl nM []) (by omega) (by simp at hlen;omega) hnd (λH' u2 a2 n2 c2 g hH' hp hf2 hout hg=>?_) H.length u1 H (H.map HE.kv) [] none 0 0 0 (by simp) (hH.kept hku) (zb5 (zb5 (zb4 _) hf.size) hku.size) hrng hf.size (aK.nil _ _ _ _) (.inl rfl) (λy _ h=>by omega) (λz hz=>by cases hz) (by simp) ?_ hl (hf.aG hku)⟩
   .refine⟨_,_,_,rfl,?_,zg4 hf2⟩;have hls:=TK (F:=λb=>w.heap.size<=b/\b<u2.heap.size) hH' (λx hx=>(sorted_perm _ H').mem_iff.1 hx) hout hg (λb h h2=>⟨h,h2⟩);have e1:(sorted (λa b=>decide (a.f<b.f)) H').map dHE=sorted ltF (H'.map dHE):=(lH (lt:=ltF) dHE H').symm;have e2:H'.map dHE=((dH ts 0).foldl nM []).map Az:=by
     unfold Part at hp;rw[hp];refine List.map_congr_left λe he=>?_;rw[if_pos (ze8 he)]
    rw[e1,e2]at hls;exact hls
   .unfold Part;rw[hd];simp
  |succ k ih=>
   intro i u H hi hH hf hd hl;rw[bY.u18];unfold bY.g18;refine aH (by omega) ?_;have hold:∀b,F b->b<w.heap.size:=hG.old;have hGu:=hG.kept (zg4 hf);refine hGu.ls.rdT (by omega) (by omega) λt a' n' c' ht hnodes=>?_;rw[za3]at ht;obtain⟨o1,o2,o3,o4⟩:=hG.ok t (za0 ht);have hnl:=hnodes.len;have hGt:Good F u a' n' c' t.nodes:=⟨hnodes,hGu.old,by omega,o2⟩;refine BR λw1 hb hA hk1=>⟨_,hA.c0,_,_,_,hA.c1,?_⟩;refine zg0 (WI (o:=t.output) (hGt.kept hk1)) λv u1 ⟨a2,n2,c2,hv,hnew⟩=>⟨_,_,_,_,hv,n2+1,?_⟩;have hkk:=zg1 hk1 hnew.kept;have hn2:=hnew.len;obtain⟨g0,hmk,_,_⟩:=hnew;have hm4:=nZ t.nodes;refine Ik (N:=8192*i) (w0:=u1) (L0:=(dH (ts.take i) 0).foldl nM []) (F:=F) (B:=w.heap.size) (nodes:=t.nodes) (ms:=iq t.nodes) (by omega) hm4 hn2 (hb.keep (by assumption)) (hnodes.kept hkk) hold (λm hm=>?_) o2 hmk (λH' u2 hH' hd' ht' hf' hl'=>?_) n2 0 u1 H (by omega) (hH.kept hkk) (zb5 hf.size hkk.size) (by rw[hd];simp) (Tch.refl _) (From.refl _ _) (by simpa using hl)
   .obtain⟨q,x,h1,h2,_⟩:=Ed o3 o4 m hm;exact⟨q,x,h1,h2⟩
   .refine aC (by omega) (ih (i+1) u2 H' (by omega) hH' ((hf.aG hkk).trans hf' zg7 zg7) ?_ (hl'.mono (by omega)));rw[hd',take_snoc ht,Ba,List.foldl_append,zb6,zd1,Nat.min_eq_left (by omega)];rfl
 exact key n 0 _ [] (by omega) hH0 (Kept.mod (S:=λk=>w.heap.size<=k) hk1) (by simp[dH]) (λx hx=>by cases hx)
end
noncomputable def mF(t:TD)(d out:Int):Int:=if lvE t.nodes≠0 then lvE t.nodes else if t.output<0\/out<=t.output then 6 else if pF t.nodes d then 0 else 72
noncomputable def iI(d out:Int):List TD->Int
 | []=>0
 |t::ts=>if mF t d out≠0 then mF t d out else iI d out ts
noncomputable def rO(e:ED):Int:=if e.outputs<1 then 6 else if e.outputs>64 then 6 else if(e.base.length:Int)≠e.outputs then 6 else if e.features.length>65536 then 6 else if e.trees.length>65536 then 3 else iI e.features.length e.outputs e.trees
theorem Ib{t:TD}{d out:Int}(h:lvE t.nodes≠0):mF t d out=lvE t.nodes:=by unfold mF;rw[if_pos h]
theorem Dl{t:TD}{d out:Int}(h:lvE t.nodes=0)(ho:t.output<0\/out<=t.output):mF t d out=6:=by unfold mF;rw[if_neg (by omega),if_pos ho]
theorem Nl{t:TD}{d out:Int}(h:lvE t.nodes=0)(ho:¬ (t.output<0\/out<=t.output))(hf:pF t.nodes d=false):mF t d out=72:=by unfold mF;rw[if_neg (by omega),if_neg ho,hf];rfl
theorem zD{t:TD}{d out:Int}(h:lvE t.nodes=0)(ho:¬ (t.output<0\/out<=t.output))(hf:pF t.nodes d=true):mF t d out=0:=by unfold mF;rw[if_neg (by omega),if_neg ho,hf];rfl
theorem rG{d out:Int}:∀ {ts:List TD},iI d out ts=0->∀t∈ts,mF t d out=0
 | [],_,t,ht=>by cases ht
 |x::ts,h,t,ht=>by
  unfold iI at h;split at h
  .rename_i h';exact absurd h h'
  .rename_i h'
   rcases zb3.1 ht with rfl | ht
   .exact ze4 λhn=>h' hn
   .exact rG h t ht
theorem Dh{t:TD}{d out:Int}(h:mF t d out=0):lvE t.nodes=0/\0<=t.output/\t.output<out/\pF t.nodes d=true:=by
 unfold mF at h;split at h
 .rename_i h';exact absurd h h'
 rename_i h1;split at h
 .cases h
 rename_i h2;split at h
 .rename_i h3;exact⟨by omega,by omega,by omega,h3⟩
 .cases h
theorem qw{e:ED}(h:rO e=0):1<=e.outputs/\e.outputs<=64/\(e.base.length:Int)=e.outputs/\e.features.length<=65536/\e.trees.length<=65536/\iI e.features.length e.outputs e.trees=0:=by
 unfold rO at h
 repeat (split at h; · cases h)
 exact⟨by omega,by omega,by omega,by omega,by omega,h⟩
section
variable{w u w1:World}{a:OA}{n c c1:Nat}{F:Nat->Prop}{e:ED}{f b t:SH}{nodes:List ND}
theorem OX{d:Int}{j:Nat}{x:ND}(he:pF nodes d=(nodes.drop j).all (uF d))(hx:nodes[j]?=some x)(h:uF d x=false):pF nodes d=false:=by
 have hd:nodes.drop j=x::nodes.drop (j+1):=by
  obtain⟨hlt,rfl⟩:=za1.1 hx;exact zb0 hlt
 rw[he,hd,List.all_cons,h];rfl
theorem Oa{d:Int}{j:Nat}{x:ND}(he:pF nodes d=(nodes.drop j).all (uF d))(hx:nodes[j]?=some x)(h:uF d x=true):pF nodes d=(nodes.drop (j+1)).all (uF d):=by
 have hd:nodes.drop j=x::nodes.drop (j+1):=by
  obtain⟨hlt,rfl⟩:=za1.1 hx;exact zb0 hlt
 rw[he,hd,List.all_cons,h];rfl
theorem BF{d out:Int}{ts:List TD}{i:Nat}{x:TD}(hx:ts[i]?=some x):iI d out (ts.drop i)=if mF x d out≠0 then mF x d out else iI d out (ts.drop (i+1)):=by
 have hd:ts.drop i=x::ts.drop (i+1):=by
  obtain⟨hlt,rfl⟩:=za1.1 hx;exact zb0 hlt
 rw[hd];rfl
theorem PN(hG:rZ F w e f b t):Pure prog 23 #[vE e f b t] w (.int .i64 (rO e)):=by
 refine di.calls (R:=λv' u=>v'=_/\Below w.heap.size w u) ?_;unfold di di.g0;refine yE (cs:=(enE e f b t).toArray) λw1 hA hk1=>?_;have lf:=hG.fs.len;have lb:=hG.bs.len;have lt:=hG.ts.len;refine⟨_,hA 2 _ rfl,fJ (λh1=>⟨by unfold rO;rw[if_pos h1],hk1⟩) λh1=>?_⟩;refine⟨_,hA 2 _ rfl,fJ (λh2=>⟨by unfold rO;rw[if_neg h1,if_pos h2],hk1⟩) λh2=>?_⟩;refine⟨_,_,_,hA 3 _ rfl,_,hA 2 _ rfl,ja (λh3=>⟨by unfold rO;rw[if_neg h1,if_neg h2,if_pos (by omega)],hk1⟩) λh3=>?_⟩;refine⟨_,_,_,hA 1 _ rfl,fJ (λh4=>⟨by unfold rO;rw[if_neg h1,if_neg h2,if_neg (by omega),if_pos (by omega)],hk1⟩) λh4=>?_⟩;refine⟨_,_,_,hA 4 _ rfl,fJ (λh5=>⟨by unfold rO;rw[if_neg h1,if_neg h2,if_neg (by omega),if_neg (by omega),if_pos (by omega)],hk1⟩) λh5=>?_⟩;have heE:rO e=iI f.n e.outputs e.trees:=by unfold rO;rw[if_neg h1,if_neg h2,if_neg (by omega),if_neg (by omega),if_neg (by omega),lf]
 rw[heE];refine⟨_,_,_,hA 4 _ rfl,t.n+1,?_⟩;have key:∀(k i:Nat) (u:World),i+k=t.n->Kept w1 u->iI f.n e.outputs e.trees=iI f.n e.outputs (e.trees.drop i)->di.l22 (λv' u=>v' = .int .i64 (iI f.n e.outputs e.trees)/\Below w.heap.size w u) (k+1) (some (na w)) t.a t.n t.c t.n i u:=by
  intro k
  induction k with
  |zero=>
   intro i u hi hu he;rw[di.u22];unfold di.g22;refine aA (by omega) ?_;rw[he,List.drop_eq_nil_of_le (by omega)];exact⟨rfl,zg1 hk1 hu⟩
  |succ k ih=>
   intro i u hi hu he;rw[di.u22];unfold di.g22;refine aH (by omega) ?_;have hGu:=hG.kept (zg1 hk1 hu);refine hGu.ts.rdT (by omega) (by omega) λx a' n' c' hx hnodes=>?_;rw[za3]at hx;obtain⟨o1,o2⟩:=hG.good x (za0 hx);have hnl:=hnodes.len;have hGt:Good F u a' n' c' x.nodes:=⟨hnodes,hGu.old,by omega,o2⟩;rw[BF hx]at he;have bad:∀z:Int,mF x f.n e.outputs=z->z≠0->Value.int .i64 z = .int .i64 (iI f.n e.outputs e.trees):=λz h1 h2=>by rw[he,if_pos (by rw[h1];exact h2),h1]
   refine BR λw2 hb hT hk2=>⟨_,hT.c0,_,_,_,hT.c1,?_⟩;refine zg0 (yB (o:=x.output) (hGt.kept hk2)) λv u1 ⟨a2,n2,c2,hv,hnew⟩=>⟨_,_,_,_,hv,?_⟩;have hk3:=hnew.kept;have hk:=zg1 (zg1 (zg1 hk1 hu) hk2) hk3;have hl2:n2=(dA x.nodes false).length:=by have:=hnew.len;simpa[qg] using this
   refine ja (λhs=>⟨bad _ (by rw[Ib (by rw[(ER hs).1];exact hs),(ER hs).1]) hs,hk⟩) λhs=>?_;refine fJ (λhm=>⟨bad 3 (by rw[Ib (by rw[(zW hs (by omega)).1];decide),(zW hs (by omega)).1]) (by decide),hk⟩) λhm=>?_;have h0:lvE x.nodes=0:=by unfold lvE;rw[if_pos hs,if_neg (by omega)]
   have hT1:=hT.kept hk3;refine⟨_,hT1.c0,fJ (λhneg=>⟨bad 6 (Dl h0 (.inl hneg)) (by decide),hk⟩) λhneg=>?_⟩;refine⟨_,hT1.c0,dE ⟨_,(hA.kept (zg1 (zg1 hu hk2) hk3)) 2 _ rfl,fJ (λhge=>⟨bad 6 (Dl h0 (.inr hge)) (by decide),hk⟩) λhge=>?_⟩⟩;refine⟨_,_,_,hT1.c1,n'+1,?_⟩;have hTr:=bW hs;have inner:∀(k2 j:Nat) (v:World),j+k2=n'->Kept u v->pF x.nodes f.n=(x.nodes.drop j).all (uF f.n)->di.l59 (λv' u=>v' = .int .i64 (iI f.n e.outputs e.trees)/\Below w.heap.size w u) (di.l22 (λv' u=>v' = .int .i64 (iI f.n e.outputs e.trees)/\Below w.heap.size w u) (k+1)) (k2+1) (some (na w)) t.a t.n t.c t.n i a' n' c' n' j v:=by
    intro k2
    induction k2 with
    |zero=>
     intro j v hj hv hf;unfold di.l59 di.g59;refine aA (by omega) ?_;rw[List.drop_eq_nil_of_le (by omega)]at hf;refine aC (by omega) (ih (i+1) v (by omega) (zg1 hu hv) ?_);have e0:mF x f.n e.outputs=0:=zD h0 (by omega) hf;rw[he,if_neg (by omega)]
    |succ k2 ih2=>
     intro j v hj hv hf;unfold di.l59 di.g59;refine aH (by omega) ?_;refine(hnodes.kept hv).rdN (by omega) (by omega) λy a5 n5 c5 hy hcs=>?_;rw[za3]at hy;refine qm λv1 _ h8 hk5=>⟨_,h8.c0,?_⟩;have hkk:=zg1 hv hk5;refine ja (λhne=>?_) λhee=>aC (by omega) (ih2 (j+1) v1 (by omega) hkk (Oa hf hy ?_))
     .have hin:=(zi hTr hy).1 hne;refine⟨_,h8.c2,dE ⟨_,_,_,(hA.kept (zg1 hu hkk)) 1 _ rfl,fJ (λhge2=>⟨?_,zg1 (zg1 hk1 hu) hkk⟩) λhge2=>aC (by omega) (ih2 (j+1) v1 (by omega) hkk (Oa hf hy ?_))⟩⟩
      .have hff:=OX hf hy (by unfold uF;rw[hin];simp;omega);exact bad 72 (Nl h0 (by omega) hff) (by decide)
      .unfold uF;rw[hin];simp;omega
     .have:¬ (y.inner=true):=λhin=>(zi hTr hy).2 hin hee;unfold uF;simp[this]
   exact inner n' 0 u1 (by omega) (zg1 hk2 hk3) rfl
 exact key t.n 0 w1 (by omega) (Kept.refl w1) rfl
end
section
variable{w u w1:World}{a:OA}{n c c1:Nat}{F S:Nat->Prop}{e:ED}{f b t:SH}{nodes:List ND}
theorem KI(hG:rZ F w e f b t):Pure prog 26 #[vE e f b t] w (.int .i64 (rO e)):=by
 refine bH.calls (R:=λv' u=>v'=_/\Below w.heap.size w u) ?_;unfold bH bH.g0;refine yE (cs:=(enE e f b t).toArray) λw1 hA hk1=>?_;have lf:=hG.fs.len;have lb:=hG.bs.len;have lt:=hG.ts.len;refine⟨_,hA 2 _ rfl,fJ (λh1=>⟨by unfold rO;rw[if_pos h1],hk1⟩) λh1=>?_⟩;refine⟨_,hA 2 _ rfl,fJ (λh2=>⟨by unfold rO;rw[if_neg h1,if_pos h2],hk1⟩) λh2=>?_⟩;refine⟨_,_,_,hA 3 _ rfl,_,hA 2 _ rfl,ja (λh3=>⟨by unfold rO;rw[if_neg h1,if_neg h2,if_pos (by omega)],hk1⟩) λh3=>?_⟩;refine⟨_,_,_,hA 1 _ rfl,fJ (λh4=>⟨by unfold rO;rw[if_neg h1,if_neg h2,if_neg (by omega),if_pos (by omega)],hk1⟩) λh4=>?_⟩;refine⟨_,_,_,hA 4 _ rfl,fJ (λh5=>⟨by unfold rO;rw[if_neg h1,if_neg h2,if_neg (by omega),if_neg (by omega),if_pos (by omega)],hk1⟩) λh5=>?_⟩;have heE:rO e=iI f.n e.outputs e.trees:=by unfold rO;rw[if_neg h1,if_neg h2,if_neg (by omega),if_neg (by omega),if_neg (by omega),lf]
 rw[heE];refine⟨_,_,_,hA 4 _ rfl,t.n+1,?_⟩;have key:∀(k i:Nat) (u:World),i+k=t.n->Kept w1 u->iI f.n e.outputs e.trees=iI f.n e.outputs (e.trees.drop i)->bH.l22 (λv' u=>v' = .int .i64 (iI f.n e.outputs e.trees)/\Below w.heap.size w u) (k+1) (some (na w)) t.a t.n t.c t.n i u:=by
  intro k
  induction k with
  |zero=>
   intro i u hi hu he;rw[bH.u22];unfold bH.g22;refine aA (by omega) ?_;rw[he,List.drop_eq_nil_of_le (by omega)];exact⟨rfl,zg1 hk1 hu⟩
  |succ k ih=>
   intro i u hi hu he;rw[bH.u22];unfold bH.g22;refine aH (by omega) ?_;have hGu:=hG.kept (zg1 hk1 hu);refine hGu.ts.rdT (by omega) (by omega) λx a' n' c' hx hnodes=>?_;rw[za3]at hx;obtain⟨o1,o2⟩:=hG.good x (za0 hx);have hnl:=hnodes.len;have hGt:Good F u a' n' c' x.nodes:=⟨hnodes,hGu.old,by omega,o2⟩;rw[BF hx]at he;have bad:∀z:Int,mF x f.n e.outputs=z->z≠0->Value.int .i64 z = .int .i64 (iI f.n e.outputs e.trees):=λz h1 h2=>by rw[he,if_pos (by rw[h1];exact h2),h1]
   refine BR λw2 hb hT hk2=>⟨_,hT.c0,_,_,_,hT.c1,?_⟩;refine zg0 (AZ (o:=x.output) (hGt.kept hk2)) λv u1 ⟨hv,hk3⟩=>⟨_,_,hv,?_⟩;have hk:=zg1 (zg1 (zg1 hk1 hu) hk2) hk3;refine ja (λhs=>⟨bad _ (Ib hs) hs,hk⟩) λh0=>?_;have hs:=(gz h0).1;have hT1:=hT.kept hk3;refine⟨_,hT1.c0,fJ (λhneg=>⟨bad 6 (Dl h0 (.inl hneg)) (by decide),hk⟩) λhneg=>?_⟩;refine⟨_,hT1.c0,dE ⟨_,(hA.kept (zg1 (zg1 hu hk2) hk3)) 2 _ rfl,fJ (λhge=>⟨bad 6 (Dl h0 (.inr hge)) (by decide),hk⟩) λhge=>?_⟩⟩;have hTr:=bW hs;refine⟨_,hT1.c0,_,_,_,hT1.c1,dE ⟨_,_,_,(hA.kept (zg1 (zg1 hu hk2) hk3)) 1 _ rfl,?_⟩⟩;refine zg0 (Ph (o:=x.output) (d:=f.n) (hGt.kept (zg1 hk2 hk3)) λi y hy=>zi hTr hy) λv u2 ⟨hv,hk4⟩=>⟨_,hv,?_⟩;refine(aQ _ _ _).2 ⟨λhf=>⟨bad 72 (Nl h0 (by omega) (by simpa using hf)) (by decide),zg1 hk hk4⟩,λhf=>aC (by omega) (ih (i+1) u2 (by omega) (zg1 (zg1 (zg1 hu hk2) hk3) hk4) ?_)⟩;rw[he,if_neg (by rw[zD h0 (by omega) (by simpa using hf)];simp)]
 exact key t.n 0 w1 (by omega) (Kept.refl w1) rfl
def pV(n b:Int):Nat->Int->List (Int×Int)
 |0,_=>[]
 |k+1,at_=>if at_<n then(at_,if n<at_+b then n else at_+b)::pV n b k (at_+b) else[]
def kN(n b:Int):Int:=if n<0 then 2 else if n>65536 then 2 else if b<1 then 2 else if b>65536 then 2 else 0
def mO(n b:Int):List (Int×Int):=if kN n b=0 then pV n b (n.toNat+1) 0 else[]
abbrev nS:Nat:=61
def FZ(w u:World)(a:OA)(n c:Nat)(xs:List (Int×Int)):Prop:=∃g,aK 2 enR nS u a n c xs g/\(g=0\/w.heap.size<g)/\Kept w u
theorem FZ.ls{xs:List (Int×Int)}(h:FZ w u a n c xs):Ls tR (λb=>w.heap.size<=b) u a n c xs:=by
 obtain⟨g,h1,h2,h3⟩:=h;have:=aK.lsK (T:=tR) (f:=id) (en:=enR) (k:=2) (F:=λb=>w.heap.size<=b) (λ_=>rfl) (by omega) rfl h1 (λb hb=>by omega) (λx _=>rfl);simpa using this
theorem a0O:fV prog 27 nS 2 16:=sliceT (by kernel_rfl)
theorem I5(x:Int×Int):∀v∈enR x,v.oneCell'=true:=by
 intro v hv;simp only[enR,zb3,zf9,or_false]at hv
 rcases hv with h | h <;> subst h <;> rfl
theorem Nr{n b:Int}(h:kN n b=0):0<=n/\n<=65536/\1<=b/\b<=65536:=by
 unfold kN at h
 repeat (split at h; · cases h)
 omega
theorem VR(x0 x1:Int):E.CallsD prog 29 #[.int .i64 x0,.int .i64 x1] w λv u=>∃a n c,v = .tuple #[.slice a n c,.int .i64 (kN x0 x1)]/\FZ w u a n c (mO x0 x1):=by
 refine dU.calls (R:=λv u=>∃a n c,v = .tuple #[.slice a n c,.int .i64 (kN x0 x1)]/\FZ w u a n c (mO x0 x1)) ?_;unfold dU dU.g0;have bad:kN x0 x1=2->∃a n c,Value.tuple #[.slice none 0 0,.int .i64 2] = .tuple #[.slice a n c,.int .i64 (kN x0 x1)]/\FZ w w a n c (mO x0 x1):=λh=>by
  rw[h];refine⟨none,0,0,rfl,0,?_,.inl rfl,Kept.refl w⟩;unfold mO;rw[if_neg (by omega)];exact aK.nil _ _ _ _
 refine fJ (λh1=>bad (by unfold kN;rw[if_pos h1])) λh1=>fJ (λh2=>bad (by unfold kN;rw[if_neg h1,if_pos h2])) λh2=>fJ (λh3=>bad (by unfold kN;rw[if_neg h1,if_neg h2,if_pos h3])) λh3=>fJ (λh4=>bad (by unfold kN;rw[if_neg h1,if_neg h2,if_neg h3,if_pos h4])) λh4=>?_;have h0:kN x0 x1=0:=by unfold kN;rw[if_neg h1,if_neg h2,if_neg h3,if_neg h4]
 rw[h0];have hP:mO x0 x1=pV x0 x1 (x0.toNat+1) 0:=by unfold mO;rw[if_pos h0]
 rw[hP];refine⟨x0.toNat+1,?_⟩;have key:∀(k:Nat) (at_:Int) (u:World) (a:OA) (n c g:Nat) (xs:List (Int×Int)),0<=at_->x0 - at_<=(k:Int)->(n:Int)<=at_->at_<=131072->aK 2 enR nS u a n c xs g->(g=0\/w.heap.size<g)->Kept w u->pV x0 x1 (x0.toNat+1) 0=xs++pV x0 x1 (k+1) at_ ->
   dU.l16 (λv u=>∃a n c,v = .tuple #[.slice a n c,.int .i64 0]/\FZ w u a n c (pV x0 x1 (x0.toNat+1) 0)) (k+1) x0 x1 a n c at_ u:=by
  intro k
  induction k with
  |zero=>
   intro at_ u a n c g xs h0 hk hn hm hxs hg hkw he;rw[dU.u16];unfold dU.g16;have hge:¬ at_<x0:=by omega
   refine aA hge ⟨_,_,_,rfl,g,?_,hg,hkw⟩;rw[he,pV,if_neg hge,zc8];exact hxs
  |succ k ih=>
   intro at_ u a n c g xs h0 hk hn hm hxs hg hkw he;rw[dU.u16];unfold dU.g16;refine fJ (λhlt=>?_) λhge=>?_
   .refine bM (by omega) (by omega) (nH rfl ?_);refine aK.pY (P:=prog) (en:=enR) (ys:=[(at_,if x0<at_+x1 then x0 else at_+x1)]) (m:=1) a0O (λ_=>rfl) (by omega) hxs I5 rfl rfl (by omega) (by simp only[maxLen];omega) (by omega) λa' c' g' u2 hx2 hg' _ ho=>⟨_,_,_,rfl,bM (by omega) (by omega) ?_⟩;have hsz:=hkw.size;refine ih (at_+x1) u2 a' (n+1) c' g' _ (by omega) (by omega) (by omega) (by omega) hx2 (by omega) ?_ ?_
    .exact((Kept.mod (S:=λk=>w.heap.size<=k) hkw).trans ho (U:=λk=>w.heap.size<=k) (λ_ _ h=>h) (λk _ h=>by have h':k+1=g:=h;show w.heap.size<=k;omega)).kept λk h1 h2=>by have h2':w.heap.size<=k:=h2;omega
    .rw[he,pV,if_pos hlt];simp
   .refine⟨_,_,_,rfl,g,?_,hg,hkw⟩;rw[he,pV,if_neg hge,zc8];exact hxs
 exact key x0.toNat 0 w none 0 0 0 [] (by omega) (by omega) (by omega) (by omega) (aK.nil _ _ _ _) (.inl rfl) (Kept.refl w) (by simp)
end
noncomputable def eF(t:TD):List Int:=(dA t.nodes false).map λi=>((t.nodes[i]?).map ND.value).getD 0
noncomputable def dm(ts:List TD)(first:Int):kJ:=⟨first,ts.map λt=>((dA t.nodes false).length:Int),ts.map eF,ts.map TD.output,dN ts⟩
abbrev tB':Nat:=66
abbrev tV':Nat:=23
abbrev t64:Nat:=2
abbrev VD:=List Int×SH
abbrev H7(x:VD):List Value:=[x.2.v]
def VOK(B:Nat)(w:World)(x:VD):Prop:=∃g,Arr eI t64 w x.2.a x.2.n x.2.c x.1 g/\(g=0\/B<g)
structure BK(B:Nat)(w:World)(pb:Nat)(first:Int)(ls:List Int)(vd:List VD)(os:List Int)(s1 s2 s3:SH)(g1 gv g3:Nat):Prop where
 box:Blk w pb #[.int .i64 first,s1.v,s2.v,s3.v,.slice none 0 0] tB'
 l:Arr eI tI' w s1.a s1.n s1.c ls g1
 v:aK 1 H7 tV' w s2.a s2.n s2.c vd gv
 vo:∀x∈vd,VOK B w x
 o:Arr eI tI' w s3.a s3.n s3.c os g3
 pB:B<=pb
 lB:g1=0\/B<g1
 vB:gv=0\/B<gv
 oB:g3=0\/B<g3
 ap:g1=0\/g1≠g3
section
variable{w u w1:World}{a:OA}{n c:Nat}{S:Nat->Prop}{B pb:Nat}{first:Int}{ls os:List Int}{vd:List VD}{s1 s2 s3:SH}{g1 gv g3:Nat}
theorem VOK.mod{x:VD}(h:VOK B w x)(hm:Mod S w u)(hI:∀k cur,Blk w k cur t64->¬ S k):VOK B u x:=by
 obtain⟨g,h1,h2⟩:=h;exact⟨g,h1.mod hm λk hk=>by obtain⟨cur,hb⟩:=Row.blk h1 hk;exact hI k cur hb,h2⟩
theorem BK.kept(h:BK B w pb first ls vd os s1 s2 s3 g1 gv g3)(hk:Kept w u):BK B u pb first ls vd os s1 s2 s3 g1 gv g3 :=
 ⟨h.box.keep hk,h.l.kept hk,h.v.kept hk,λx hx=>(h.vo x hx).mod (S:=λ_=>False) (Kept.mod hk) (λ_ _ _ h=>h),h.o.kept hk,h.pB,h.lB,h.vB,h.oB,h.ap⟩
theorem IY(x:VD):∀v∈H7 x,v.oneCell'=true:=by
 intro v hv;simp only[H7,zb3,zf9,or_false]at hv;subst hv;rfl
theorem Y2:fV prog 23 t64 1 8:=sliceT (by kernel_rfl)
theorem a0A:fV prog 63 tV' 1 24:=sliceT (by kernel_rfl)
theorem dW{e e' g k size:Nat}{cs:List Value}{cur:Array Value}(hr:Row w e size a n c cs g)(hb:Blk w k cur e')(hne:e≠e'):¬ (k+1=g):=λhk=>by
 obtain⟨cur',hb'⟩:=Row.blk hr hk;exact hne (hb'.ne hb)
theorem og{e e' g g' size size' n' c':Nat}{a':OA}{cs cs':List Value}(hr:Row w e size a n c cs g)(hr':Row w e' size' a' n' c' cs' g')(hne:e≠e'):∀k,k+1=g'->¬ (k+1=g):=λk hk=>by
 obtain⟨cur',hb'⟩:=Row.blk hr' hk;exact dW hr hb' hne
theorem eY{e g size:Nat}{cs:List Value}{cur:Array Value}{e':Nat}(hb:Blk w pb cur e')(hr:Row w e size a n c cs g)(hne:e≠e'):∀k,k+1=g->¬ (k+1=pb+1):=λk hk hkp=>by
 obtain⟨cur',hb'⟩:=Row.blk hr hk;obtain rfl:k=pb:=by omega
 exact hne (hb'.ne hb)
theorem BK.leaf(h:BK B w pb first ls vd os s1 s2 s3 g1 gv g3)(hB:B<=w.heap.size)(hn:ls.length<=65536){x:Int}{K:zg6}
  (hk:∀u s1' g1',BK B u pb first (ls++[x]) vd os s1' s2 s3 g1' gv g3->From B w u->(∀k cur e,Blk w k cur e->e≠tI'->k≠pb->Blk u k cur e)->K u) :
  cL w ((⟨pb,0,none⟩:Addr).add 1) λa n c=>nw (w.alloc (.cells #[.int .i64 x] 3)) λw1=>dC prog (Builtin.append_ #[53,53] 53 #[.slice a n c,.slice (some (na w)) 1 1]) w1 λv u=>∃a2 n2 c2,v = .slice a2 n2 c2/\(st u (((⟨pb,0,none⟩:Addr).add 1).add 0) (.slice a2 n2 c2) K):=by
 refine⟨_,_,_,by rw[addr_add,zd1,h.box.cell];rfl,?_⟩;have hl:=h.l.len;refine Arr.pY (P:=prog) (ys:=[x]) (m:=1) Yw h.l (λ_=>rfl) rfl rfl (by omega) (by simp only[maxLen];omega) (by omega) λa' c' g' u hl' hg' _ ho=>⟨_,_,_,rfl,?_⟩;have hbu:=h.box.mod ho (λhk=>dW h.l h.box (by decide) hk);have hset:=hbu.set 1 (.slice a' (s1.n+1) c');have hon:=zg5 u pb 1 (.slice a' (s1.n+1) c');rw[addr_add,addr_add,zd1,zd2];refine⟨hbu.ok (by simp),bZ (hk _ ⟨a',s1.n+1,c'⟩ g' ?_ ?_ ?_)⟩
 .have hv:=h.v.mod ho (og h.l h.v (by decide));have ho3:=h.o.mod ho (λk hk hS=>by have hS':k+1=g1:=hS;have:=h.ap;have:=Row.le h.o;omega);have hgl:=Row.le h.o;have hgw:=Row.le h.l;refine⟨hset,hl'.mod hon (eY hbu hl' (by decide)),hv.mod hon (eY hbu hv (by decide)),λy hy=>?_,ho3.mod hon (eY hbu ho3 (by decide)),h.pB,by have:=h.lB;omega,h.vB,h.oB,by have:=h.ap;omega⟩;refine((h.vo y hy).mod ho λk cur hb hk=>dW h.l hb (by decide) hk).mod hon λk cur hb hk=>?_;have hk':k+1=pb+1:=hk;obtain rfl:k=pb:=by omega
  exact absurd (hb.ne hbu) (by decide)
 .exact zg2 (U:=λk=>B<=k) ho hon (λk _ hk=>by have hk':k+1=g1:=hk;have:=h.lB;show B<=k;omega) (λk _ hk=>by have hk':k+1=pb+1:=hk;have:=h.pB;show B<=k;omega)
 .intro k cur e hb h1 h2;refine(hb.mod ho λhk=>dW h.l hb (Ne.symm h1) hk).mod hon λhk=>?_;have hk':k+1=pb+1:=hk;exact h2 (by omega)
theorem BK.out(h:BK B w pb first ls vd os s1 s2 s3 g1 gv g3)(hB:B<=w.heap.size)(hn:os.length<=65536){x:Int}{K:zg6}
  (hk:∀u s3' g3',BK B u pb first ls vd (os++[x]) s1 s2 s3' g1 gv g3'->From B w u->(∀k cur e,Blk w k cur e->e≠tI'->k≠pb->Blk u k cur e)->K u) :
  nw (w.alloc (.cells #[.int .i64 x] 3)) λw1=>dC prog (Builtin.append_ #[53,53] 53 #[.slice s3.a s3.n s3.c,.slice (some (na w)) 1 1]) w1 λv u=>∃a2 n2 c2,v = .slice a2 n2 c2/\(st u (((⟨pb,0,none⟩:Addr).add 3).add 0) (.slice a2 n2 c2) K):=by
 have hl:=h.o.len;refine Arr.pY (P:=prog) (ys:=[x]) (m:=1) Yw h.o (λ_=>rfl) rfl rfl (by omega) (by simp only[maxLen];omega) (by omega) λa' c' g' u hl' hg' _ ho=>⟨_,_,_,rfl,?_⟩;have hbu:=h.box.mod ho (λhk=>dW h.o h.box (by decide) hk);have hset:=hbu.set 3 (.slice a' (s3.n+1) c');have hon:=zg5 u pb 3 (.slice a' (s3.n+1) c');rw[addr_add,addr_add,zd1,zd2];refine⟨hbu.ok (by simp),bZ (hk _ ⟨a',s3.n+1,c'⟩ g' ?_ ?_ ?_)⟩
 .have hv:=h.v.mod ho (og h.o h.v (by decide));have ho3:=h.l.mod ho (λk hk hS=>by have hS':k+1=g3:=hS;have:=h.ap;omega);have hgl:=Row.le h.o;have hgw:=Row.le h.l;refine⟨hset,ho3.mod hon (eY hbu ho3 (by decide)),hv.mod hon (eY hbu hv (by decide)),λy hy=>?_,hl'.mod hon (eY hbu hl' (by decide)),h.pB,h.lB,h.vB,by have:=h.oB;omega,by have:=h.ap;omega⟩;refine((h.vo y hy).mod ho λk cur hb hk=>dW h.o hb (by decide) hk).mod hon λk cur hb hk=>?_;have hk':k+1=pb+1:=hk;obtain rfl:k=pb:=by omega
  exact absurd (hb.ne hbu) (by decide)
 .exact zg2 (U:=λk=>B<=k) ho hon (λk _ hk=>by have hk':k+1=g3:=hk;have:=h.oB;show B<=k;omega) (λk _ hk=>by have hk':k+1=pb+1:=hk;have:=h.pB;show B<=k;omega)
 .intro k cur e hb h1 h2;refine(hb.mod ho λhk=>dW h.o hb (Ne.symm h1) hk).mod hon λhk=>?_;have hk':k+1=pb+1:=hk;exact h2 (by omega)
theorem BK.val(h:BK B w pb first ls vd os s1 s2 s3 g1 gv g3)(hB:B<=w.heap.size)(hn:vd.length<=65536){x:VD}(hx:VOK B w x){K:zg6}
  (hk:∀u s2' gv',BK B u pb first ls (vd++[x]) os s1 s2' s3 g1 gv' g3->From B w u->(∀k cur e,Blk w k cur e->e≠tV'->k≠pb->Blk u k cur e)->K u) :
  cL w ((⟨pb,0,none⟩:Addr).add 2) λa n c=>nw (w.alloc (.cells #[.slice x.2.a x.2.n x.2.c] 23)) λw1=>dC prog (Builtin.append_ #[63,63] 63 #[.slice a n c,.slice (some (na w)) 1 1]) w1 λv u=>∃a2 n2 c2,v = .slice a2 n2 c2/\(st u (((⟨pb,0,none⟩:Addr).add 2).add 0) (.slice a2 n2 c2) K):=by
 refine⟨_,_,_,by rw[addr_add,zd1,h.box.cell];rfl,?_⟩;have hl:=aK.len (k:=1) (en:=H7) (λ_=>rfl) (by omega) h.v;refine aK.pY (P:=prog) (en:=H7) (ys:=[x]) (m:=1) a0A (λ_=>rfl) (by omega) h.v IY rfl rfl (by omega) (by simp only[maxLen];omega) (by omega) λa' c' g' u hl' hg' _ ho=>⟨_,_,_,rfl,?_⟩;have hbu:=h.box.mod ho (λhk=>dW h.v h.box (by decide) hk);have hset:=hbu.set 2 (.slice a' (s2.n+1) c');have hon:=zg5 u pb 2 (.slice a' (s2.n+1) c');rw[addr_add,addr_add,zd1,zd2];refine⟨hbu.ok (by simp),bZ (hk _ ⟨a',s2.n+1,c'⟩ g' ?_ ?_ ?_)⟩
 .have h1:=h.l.mod ho (og h.v h.l (by decide));have h3:=h.o.mod ho (og h.v h.o (by decide));refine⟨hset,h1.mod hon (eY hbu h1 (by decide)),hl'.mod hon (eY hbu hl' (by decide)),λy hy=>?_,h3.mod hon (eY hbu h3 (by decide)),h.pB,h.lB,by have:=h.vB;omega,h.oB,h.ap⟩;have hy':VOK B w y:=by
   rcases zb2.1 hy with hy | hy
   .exact h.vo y hy
   .obtain rfl:y=x:=by simpa using hy
    exact hx
  refine(hy'.mod ho λk cur hb hk=>dW h.v hb (by decide) hk).mod hon λk cur hb hk=>?_;have hk':k+1=pb+1:=hk;obtain rfl:k=pb:=by omega
  exact absurd (hb.ne hbu) (by decide)
 .exact zg2 (U:=λk=>B<=k) ho hon (λk _ hk=>by have hk':k+1=gv:=hk;have:=h.vB;show B<=k;omega) (λk _ hk=>by have hk':k+1=pb+1:=hk;have:=h.pB;show B<=k;omega)
 .intro k cur e hb h1 h2;refine(hb.mod ho λhk=>dW h.v hb (Ne.symm h1) hk).mod hon λhk=>?_;have hk':k+1=pb+1:=hk;exact h2 (by omega)
end
section
variable{w u w1:World}{a:OA}{n c c1:Nat}{F S:Nat->Prop}{p q:Addr}{B:Nat}{first:Int}{ls:List Int}{vd:List VD}{s1 s2 s3:SH}{g1 gv g3:Nat}{ts:List TD}{d:Int}
theorem Yk{g:Nat}(h:aK 1 H7 tV' w a n c vd g)(hv:∀x∈vd,VOK B w x)(hg:g=0\/B<g)(hF:∀b,B<=b->b<w.heap.size->F b):Ls (vJ .i64).sl F w a n c (vd.map (·.1)):=by
 refine aK.lsK (T:=(vJ .i64).sl) (f:=λx:VD=>x.1) (en:=H7) (k:=1) (λ_=>rfl) (by omega) rfl h (λb hb=>hF b (by omega) (by have:=Row.le h;omega)) λx hx=>?_;obtain⟨g',h1,h2⟩:=hv x hx;exact⟨_,_,_,rfl,(Arr.ls (h1:=λ_=>rfl) h1).mono λb hb=>hF b (by omega) (by have:=Row.le h1;omega)⟩
theorem Jr{nodes:List ND}{b:Bool}(h:(dY iC nodes).1=0){q:Nat}(hq:q∈dA nodes b):q<nodes.length:=by
 unfold dA at hq;rw[if_pos h]at hq;unfold pick at hq;have h1:=(ze3.1 hq).1;have hT:=bW h;exact(hT.mem q).1 h1
structure jw(F:Nat->Prop)(w:World)(x:kJ)(s1 s2 s3 s4:SH):Prop where
 l:LsI F w s1.a s1.n s1.c x.leaves
 v:Ls (vJ .i64).sl F w s2.a s2.n s2.c x.values
 o:LsI F w s3.a s3.n s3.c x.outputs
 t:Ls tL F w s4.a s4.n s4.c x.lists
theorem jw.kept{x:kJ}{s4:SH}(h:jw F w x s1 s2 s3 s4)(hk:Kept w u):jw F u x s1 s2 s3 s4:=⟨h.l.kept hk,h.v.kept hk,h.o.kept hk,h.t.kept hk⟩
theorem Zi(hG:pM F w a n c ts d):E.CallsD prog 25 #[.slice a n c,.int .i64 first,.int .i64 d] w λv u=>∃s1 s2 s3 s4:SH,v=vB (dm ts first) s1 s2 s3 s4/\jw (λb=>w.heap.size<=b/\b<u.heap.size) u (dm ts first) s1 s2 s3 s4/\Kept w u:=by
 refine dM.calls (R:=λv u=>∃s1 s2 s3 s4:SH,v=vB (dm ts first) s1 s2 s3 s4/\jw (λb=>w.heap.size<=b/\b<u.heap.size) u (dm ts first) s1 s2 s3 s4/\Kept w u) ?_;unfold dM dM.g0;have hmx:=hG.max;have hn:=hG.ls.len;refine bZ (bZ ?_);have b6:Blk (w.alloc (.cells (nD 0 none 0 0 none 0 0 none 0 0 none 0 0) 66)) w.heap.size #[.int .i64 0,.slice none 0 0,.slice none 0 0,.slice none 0 0,.slice none 0 0] tB':=Blk.new w _ _;have k1:=zg3 w (.cells (nD 0 none 0 0 none 0 0 none 0 0 none 0 0) 66);have hz1:(w.alloc (.cells (nD 0 none 0 0 none 0 0 none 0 0 none 0 0) 66)).heap.size=w.heap.size+1:=by simp
 generalize w.alloc (.cells (nD 0 none 0 0 none 0 0 none 0 0 none 0 0) 66)=w1 at b6 k1 hz1;have b7:Blk (w1.alloc (.cells (nD 0 none 0 0 none 0 0 none 0 0 none 0 0) 66)) w1.heap.size #[.int .i64 0,.slice none 0 0,.slice none 0 0,.slice none 0 0,.slice none 0 0] tB':=Blk.new w1 _ _;have k2:=zg3 w1 (.cells (nD 0 none 0 0 none 0 0 none 0 0 none 0 0) 66);generalize w1.alloc (.cells (nD 0 none 0 0 none 0 0 none 0 0 none 0 0) 66)=w2 at b7 k2;refine wrA (e:=tB') (vs:=[.int .i64 first,.slice none 0 0,.slice none 0 0,.slice none 0 0,.slice none 0 0]) b7 rfl λw3 b7' ho3=>?_;have b6':Blk w3 w.heap.size #[.int .i64 0,.slice none 0 0,.slice none 0 0,.slice none 0 0,.slice none 0 0] tB':=(b6.keep k2).mod ho3 λhk=>by have hk':w.heap.size+1=w1.heap.size+1:=hk;omega
 have hf3:From w.heap.size w w3:=(Kept.mod (S:=λk=>w.heap.size<=k) (zg1 k1 k2)).trans ho3 (λ_ _ h=>h) (λk _ hk=>by have hk':k+1=w1.heap.size+1:=hk;show w.heap.size<=k;omega);have hB0:BK w.heap.size w3 w1.heap.size first [] [] [] ⟨none,0,0⟩ ⟨none,0,0⟩ ⟨none,0,0⟩ 0 0 0:=⟨b7',Arr.nil _ _ _,aK.nil _ _ _ _,(λx hx=>by cases hx),Arr.nil _ _ _,by omega,.inl rfl,.inl rfl,.inl rfl,.inl rfl⟩;refine⟨n+1,?_⟩;have key:∀(k i:Nat) (v:World) (vd:List VD) (s1 s2 s3:SH) (g1 gv g3:Nat),i+k=n->BK w.heap.size v w1.heap.size first ((ts.take i).map λt=>((dA t.nodes false).length:Int)) vd ((ts.take i).map TD.output) s1 s2 s3 g1 gv g3->vd.map (·.1)=(ts.take i).map eF ->
   Blk v w.heap.size #[.int .i64 0,.slice none 0 0,.slice none 0 0,.slice none 0 0,.slice none 0 0] tB'->From w.heap.size w v ->
   dM.l8 (λv u=>∃s1 s2 s3 s4:SH,v=vB (dm ts first) s1 s2 s3 s4/\jw (λb=>w.heap.size<=b/\b<u.heap.size) u (dm ts first) s1 s2 s3 s4/\Kept w u) (k+1) a n c d (some (na w)) (some (na w1)) a n c n i v:=by
  intro k
  induction k with
  |zero=>
   intro i v vd s1 s2 s3 g1 gv g3 hi hbk hvd hb6 hf;rw[dM.u8];unfold dM.g8;refine aA (by omega) ?_;obtain rfl:i=ts.length:=by omega
   rw[zd3]at hbk hvd;refine zg0 (KZ (hG.kept (zg4 hf))) λr u1 ⟨a',n',c',hr,hls,hku⟩=>⟨_,_,_,_,hr,?_⟩;have hb:=(hbk.kept hku);have hset:=hb.box.set 4 (.slice a' n' c');have hon:=zg5 u1 w1.heap.size 4 (.slice a' n' c');have hlt:=hb.box.lt;have e4:(((na w1:Addr).add 4).add 0)=⟨w1.heap.size,4,none⟩:=by rw[gK,addr_add,zd2]
   refine dE ?_;rw[e4];refine⟨hb.box.ok (by simp),bZ ?_⟩;have hb6u:=(hb6.keep hku).mod hon (λhk=>by have hk':w.heap.size+1=w1.heap.size+1:=hk;omega);have hl1:=hb.l.mod hon (eY hb.box hb.l (by decide));have hv1:=hb.v.mod hon (eY hb.box hb.v (by decide));have ho1:=hb.o.mod hon (eY hb.box hb.o (by decide));have hvo1:∀y∈vd,VOK w.heap.size (u1.setCell ⟨w1.heap.size,4,none⟩ (.slice a' n' c')) y:=λy hy=>(hb.vo y hy).mod hon λk cur hbk' hk=>by
    have hk':k+1=w1.heap.size+1:=hk;obtain rfl:k=w1.heap.size:=by omega
    exact absurd (hbk'.ne hb.box) (by decide)
   have hls1:Ls tL (λb=>v.heap.size<=b/\b<u1.heap.size) (u1.setCell ⟨w1.heap.size,4,none⟩ (.slice a' n' c')) a' n' c' (dN ts):=hls.mod hon λb hb' hk=>by
    have hk':b+1=w1.heap.size+1:=hk;have:=hbk.box.lt;have hb'':v.heap.size<=b:=hb'.1;omega
   have hsv:w.heap.size<=v.heap.size:=hf.size;have hfu:From w.heap.size w (u1.setCell ⟨w1.heap.size,4,none⟩ (.slice a' n' c')):=(hf.aG hku).trans hon (λ_ _ h=>h) (λk _ hk=>by have hk':k+1=w1.heap.size+1:=hk;show w.heap.size<=k;omega);have hsz2:(u1.setCell ⟨w1.heap.size,4,none⟩ (.slice a' n' c')).heap.size=u1.heap.size:=gV _ _ _;generalize u1.setCell ⟨w1.heap.size,4,none⟩ (.slice a' n' c')=u2 at hset hb6u hl1 hv1 ho1 hvo1 hls1 hfu hsz2 hon;have hA:AtL u2 (na w1) [.int .i64 first,s1.v,s2.v,s3.v,.slice a' n' c']:=by simpa using AtL.blk (b:=w1) hset
   refine dE ⟨_,hA 0 _ rfl,_,_,_,hA 1 _ rfl,_,_,_,hA 2 _ rfl,_,_,_,hA 3 _ rfl,_,_,_,hA 4 _ rfl,dE ?_⟩;refine wrA (e:=tB') (b:=w.heap.size) (vs:=[.int .i64 first,s1.v,s2.v,s3.v,.slice a' n' c']) hb6u rfl λu3 hb3 ho3=>?_;have hA3:AtL u3 (na w) [.int .i64 first,s1.v,s2.v,s3.v,.slice a' n' c']:=by simpa using AtL.blk (b:=w) hb3
   refine⟨_,hA3 0 _ rfl,_,_,_,hA3 1 _ rfl,_,_,_,hA3 2 _ rfl,_,_,_,hA3 3 _ rfl,_,_,_,hA3 4 _ rfl,?_⟩;refine⟨s1,s2,s3,⟨a',n',c'⟩,rfl,⟨?_,?_,?_,?_⟩,zg4 (hfu.trans ho3 (λ_ _ h=>h) (λk _ hk=>by have hk':k+1=w.heap.size+1:=hk;show w.heap.size<=k;omega))⟩
   .have hx:=hl1.mod ho3 (eY hb6u hl1 (by decide));exact(Arr.ls (h1:=λ_=>rfl) hx).mono λb hbb=>⟨by have:=hb.lB;omega,by have:=Row.le hx;omega⟩
   .have h3:=hv1.mod ho3 (eY hb6u hv1 (by decide));have:=Yk (F:=λb=>w.heap.size<=b/\b<u3.heap.size) h3 (λy hy=>(hvo1 y hy).mod ho3 λk cur hbk' hk=>by
     have hk':k+1=w.heap.size+1:=hk;obtain rfl:k=w.heap.size:=by omega
     exact absurd (hbk'.ne hb6u) (by decide)) hb.vB (λb h h2=>⟨h,h2⟩)
    rw[hvd]at this;exact this
   .have hx:=ho1.mod ho3 (eY hb6u ho1 (by decide));exact(Arr.ls (h1:=λ_=>rfl) hx).mono λb hbb=>⟨by have:=hb.oB;omega,by have:=Row.le hx;omega⟩
   .exact(hls1.mod ho3 λb hb' hk=>by
     have hk':b+1=w.heap.size+1:=hk;have:=hb6.lt;have hb'':v.heap.size<=b:=hb'.1
     omega).mono λb hb'=>⟨by have hb'':v.heap.size<=b:=hb'.1;omega,by have h2:=hb'.2;have h3:=hon.size;have h4:=ho3.size;have h5:u2.heap.size=u1.heap.size:=hsz2;omega⟩
  |succ k ih=>
   intro i v vd s1 s2 s3 g1 gv g3 hi hbk hvd hb6 hf;rw[dM.u8];unfold dM.g8;refine aH (by omega) ?_;have hGv:=hG.kept (zg4 hf);refine hGv.ls.rdT (by omega) (by omega) λt a' n' c' ht hnodes=>?_;rw[za3]at ht;obtain⟨o1,o2,o3,o4⟩:=hG.ok t (za0 ht);obtain⟨hsh,hlv⟩:=gz o3;have hnl:=hnodes.len;have hGt:Good F v a' n' c' t.nodes:=⟨hnodes,hGv.old,by omega,o2⟩;have hTr:=bW hsh;refine BR λv1 hbt hT hk1=>⟨_,hT.c0,_,_,_,hT.c1,?_⟩;refine zg0 (yB (o:=t.output) (hGt.kept hk1)) λr u1 ⟨a2,n2,c2,hr,hnew⟩=>⟨_,_,_,_,hr,?_⟩;have hkl:=hnew.kept;have hn2:n2=(dA t.nodes false).length:=by have:=hnew.len;simpa[qg] using this
   have hk12:=zg1 hk1 hkl;obtain⟨gl,hal,_,_⟩:=hnew;refine dK (by omega) ?_;have hmk0:=Blk.new u1 (madeCells #[.int .i64 0] (((n2:Int)).toNat*1)) t64;have hkm:=zg3 u1 (.cells (madeCells #[.int .i64 0] (((n2:Int)).toNat*1)) t64);have hrow0:Arr eI t64 (u1.alloc (.cells (madeCells #[.int .i64 0] (((n2:Int)).toNat*1)) t64)) (some (na u1)) 0 n2 [] (u1.heap.size+1):=by
    refine⟨by simp,.inr ⟨u1.heap.size,_,rfl,rfl,hmk0,Nat.zero_le _,by simp only[maxLen];omega,?_,by simp⟩⟩;simp[madeCells]
   refine bZ ?_;rw[za3]at hrow0 hkm;rw[za3];have hkmf:From u1.heap.size u1 (u1.alloc (.cells (madeCells #[.int .i64 0] (n2*1)) t64)):=Kept.mod hkm;refine⟨n2+1,?_⟩;have inner:∀(k2 j:Nat) (z:World) (ax:OA) (nx cx gx:Nat),j+k2=n2->From u1.heap.size u1 z->Arr eI t64 z ax nx cx ((eF t).take j) gx->u1.heap.size<gx ->
     dM.l27 (λv u=>∃s1 s2 s3 s4:SH,v=vB (dm ts first) s1 s2 s3 s4/\jw (λb=>w.heap.size<=b/\b<u.heap.size) u (dm ts first) s1 s2 s3 s4/\Kept w u) (dM.l8 (λv u=>∃s1 s2 s3 s4:SH,v=vB (dm ts first) s1 s2 s3 s4/\jw (λb=>w.heap.size<=b/\b<u.heap.size) u (dm ts first) s1 s2 s3 s4/\Kept w u) (k+1)) (k2+1) a n c d (some (na w)) (some (na w1)) (some (na v)) a2 n2 c2 ax nx cx a n c n i a2 n2 c2 n2 j z:=by
    intro k2
    induction k2 with
    |zero=>
     intro j z ax nx cx gx hj hz hx hgx;have hkz:=zg4 hz;have hkk:=zg1 hk12 hkz;unfold dM.l27 dM.g27;refine aA (by omega) ?_;rw[zb1 (by simp[eF];omega)]at hx;have hbz:=hbk.kept hkk;have hsz:w.heap.size<=z.heap.size:=zb5 hf.size hkk.size;have hsv:=hf.size;have hlen1:((ts.take i).map λt=>((dA t.nodes false).length:Int)).length<=65536:=by simp;omega
     have hlen3:((ts.take i).map TD.output).length<=65536:=by simp;omega
     have hlen2:vd.length<=65536:=by have:=congrArg List.length hvd;simp at this;omega
     have hb6z:=hb6.keep hkk;have hpb:w1.heap.size<v.heap.size:=hbk.box.lt;have hbtz:=hbt.keep (zg1 hkl hkz);have hvz:VOK w.heap.size z (eF t,⟨ax,nx,cx⟩):=⟨gx,hx,.inr (by have:=hk12.size;omega)⟩;refine hbz.leaf hsz hlen1 (x:=(n2:Int)) λz1 s1' g1' hb1 hf1 ht1=>?_;have hb6z1:=ht1 _ _ _ hb6z (by decide) (by omega);have hbt1:=ht1 _ _ _ hbtz (by decide) (by omega);have hvz1:VOK w.heap.size z1 (eF t,⟨ax,nx,cx⟩):=by
      obtain⟨g,h1,h2⟩:=hvz;refine⟨g,⟨h1.1,?_⟩,h2⟩
      rcases h1.2 with h0 | ⟨b,cur,e0,ha,hb,h3⟩
      .exact .inl h0
      .exact .inr ⟨b,cur,e0,ha,ht1 _ _ _ hb (by decide) (λe=>by subst e;exact absurd (hb.ne hbz.box) (by decide)),h3⟩
     refine hb1.val (zb5 hsz hf1.size) hlen2 hvz1 λz2 s2' gv' hb2 hf2 ht2=>?_;have hb6z2:=ht2 _ _ _ hb6z1 (by decide) (by omega);have hbt2:=ht2 _ _ _ hbt1 (by decide) (by omega);refine⟨_,_,_,by rw[gK,hb2.box.cell];rfl,?_⟩;refine⟨_,by rw[gK,hbt2.cell];rfl,?_⟩;refine hb2.out (zb5 (zb5 hsz hf1.size) hf2.size) hlen3 (x:=t.output) λz3 s3' g3' hb3 hf3' ht3=>?_;have hb6z3:=ht3 _ _ _ hb6z2 (by decide) (by omega);refine aC (by omega) (ih (i+1) z3 (vd++[(eF t,⟨ax,nx,cx⟩)]) s1' s2' s3' g1' gv' g3' (by omega) ?_ ?_ hb6z3 ?_)
     .rw[take_snoc ht,zb8,zb8,ze0,ze0,List.map_nil,List.map_nil,<- hn2];exact hb3
     .rw[take_snoc ht,zb8,zb8,hvd];rfl
     .exact(((hf.aG hkk).trans hf1 zg7 zg7).trans hf2 zg7 zg7).trans hf3' zg7 zg7
    |succ k2 ih2=>
     intro j z ax nx cx gx hj hz hx hgx;have hkz:=zg4 hz;unfold dM.l27 dM.g27;refine aH (by omega) ?_;have hjl:j<(dA t.nodes false).length:=by omega
     refine((hal.kept hkz).sl).rdI (k := .i64) (by omega) (by omega) λy hy=>?_;rw[za3]at hy;have hyq:y=(((dA t.nodes false)[j]'hjl:Nat):Int):=by
      have:(qg (dA t.nodes false))[j]?=some (((dA t.nodes false)[j]'hjl:Nat):Int):=by simp[qg,hjl]
      rw[this]at hy
      cases hy;rfl
     obtain⟨q,hq⟩:∃q,q=(dA t.nodes false)[j]'hjl:=⟨_,rfl⟩;rw[<- hq]at hyq;subst hyq;have hqlt:q<t.nodes.length:=Jr hsh (by rw[hq];exact List.getElem_mem _);have hT1:=hT.kept (zg1 hkl hkz);refine dE ⟨_,_,_,hT1.c1,?_⟩;refine(hnodes.kept (zg1 hk12 hkz)).rdF (by omega) (by omega) λp x a5 n5 c5 hxq hcs h8=>⟨_,h8.c1,?_⟩;rw[za3]at hxq;have hxl:=hx.len;have hll:(eF t).length=n2:=by simp[eF];omega
     rw[zb6]at hxl;refine Arr.push (P:=prog) Y2 hx (x:=x.value) rfl rfl (by simp only[maxLen];omega) (by omega) λa7 c7 g7 z2 hx2 hg7 _ ho7=>⟨_,_,_,rfl,aC (by omega) (ih2 (j+1) z2 a7 (nx+1) c7 g7 (by omega) (hz.trans ho7 (λ_ _ h=>h) (λk _ hk=>by have hk':k+1=gx:=hk;show u1.heap.size<=k;omega)) ?_ (by have:=hz.size;omega))⟩;have:(eF t)[j]?=some x.value:=by
      unfold eF;rw[zc1,za2 hjl,<- hq];simp[hxq]
     rw[take_snoc this];exact hx2
   exact inner n2 0 _ (some (na u1)) 0 n2 (u1.heap.size+1) (by omega) hkmf (by simpa using hrow0) (by omega)
 exact key n 0 w3 [] _ _ _ 0 0 0 (by omega) hB0 rfl b6' hf3
end
def jc(n:Int):List (Int×Int)->Int->Bool
 | [],at_=>decide (at_=n)
 |r::rs,at_=>decide (r.1=at_)&&decide (r.1<r.2)&&decide (r.2<=n)&&jc n rs r.2
noncomputable def ofE(e:ED)(rs:List (Int×Int)):Int:=if rO e≠0 then rO e else if jc e.trees.length rs 0 then 0 else 6
noncomputable def rW(e:ED)(rs:List (Int×Int)):fC:=⟨e.features.length,e.outputs,e.base,rs.map λr=>dm ((e.trees.take r.2.toNat).drop r.1.toNat) r.1⟩
noncomputable def ofP(e:ED)(rs:List (Int×Int)):fC:=if ofE e rs=0 then rW e rs else⟨0,0,[],[]⟩
theorem zB{n:Int}:∀ {rs:List (Int×Int)} {at_:Int},0<=at_->jc n rs at_=true->∀r∈rs,0<=r.1/\r.1<r.2/\r.2<=n
 | [],_,_,_,r,hr=>by cases hr
 |x::rs,at_,h0,h,r,hr=>by
  unfold jc at h;simp only[ze5,decide_eq_true_eq]at h
  rcases zb3.1 hr with rfl | hr
  .omega
  .exact zB (by omega) h.2 r hr
theorem vk{n:Int}:∀ {rs:List (Int×Int)} {at_:Int},jc n rs at_=true->(rs.length:Int)+at_<=n
 | [],at_,h=>by unfold jc at h;simp at h;simp;omega
 |x::rs,at_,h=>by
  unfold jc at h;simp only[ze5,decide_eq_true_eq]at h;have:=vk h.2;simp only[zc5];omega
theorem KT{n:Int}{rs:List (Int×Int)}{i:Nat}{x:Int×Int}{at_:Int}(hx:rs[i]?=some x):jc n (rs.drop i) at_=(decide (x.1=at_)&&decide (x.1<x.2)&&decide (x.2<=n)&&jc n (rs.drop (i+1)) x.2):=by
 have hd:rs.drop i=x::rs.drop (i+1):=by
  obtain⟨hlt,rfl⟩:=za1.1 hx;exact zb0 hlt
 rw[hd];rfl
abbrev jb:Nat:=31
abbrev Hw:Nat:=26
abbrev BD:=kJ×(SH×SH×SH×SH)
abbrev Fb(x:BD):List Value:=mG x.1 x.2.1 x.2.2.1 x.2.2.2.1 x.2.2.2.2
def BOK(B:Nat)(w:World)(gb:Nat)(x:BD):Prop:=∃lo hi,B<=lo/\hi<=w.heap.size/\jw (λb=>lo<=b/\b<hi) w x.1 x.2.1 x.2.2.1 x.2.2.2.1 x.2.2.2.2/\(gb<=lo\/hi<gb)
section
variable{w u:World}{a:OA}{n c:Nat}{F F' S:Nat->Prop}{q:Addr}{B:Nat}{f b t s1 s2 s3 s4:SH}{x:kJ}
theorem jw.mod(h:jw F w x s1 s2 s3 s4)(hm:Mod S w u)(hn:∀b,F b->¬ S b):jw F u x s1 s2 s3 s4:=⟨h.l.mod hm hn,h.v.mod hm hn,h.o.mod hm hn,h.t.mod hm hn⟩
theorem jw.mono(h:jw F w x s1 s2 s3 s4)(hF:∀b,F b->F' b):jw F' w x s1 s2 s3 s4:=⟨h.l.mono hF,h.v.mono hF,h.o.mono hF,h.t.mono hF⟩
theorem ZN:fV prog 29 tB' 5 104:=sliceT (by kernel_rfl)
theorem Eo(x:BD):∀v∈Fb x,v.oneCell'=true:=by
 intro v hv;simp only[Fb,mG,zb3,zf9,or_false]at hv
 rcases hv with h | h | h | h | h <;> subst h <;> rfl
theorem XO{g:Nat}{l:List BD}(h:aK 5 Fb tB' w a n c l g)(hl:∀x∈l,BOK B w g x)(hg:g=0\/B<g)(hF:∀b,B<=b->b<w.heap.size->F b):Ls tB F w a n c (l.map (·.1)):=by
 refine aK.lsK (T:=tB) (f:=λx:BD=>x.1) (en:=Fb) (k:=5) (λ_=>rfl) (by omega) rfl h (λb hb=>hF b (by omega) (by have:=Row.le h;omega)) λy hy=>?_;obtain⟨lo,hi,h1,h2,h3,_⟩:=hl y hy;have h4:=h3.mono (F':=F) λb hb=>hF b (by omega) (by omega);exact⟨_,_,_,_,rfl,h4.l,h4.v,h4.o,h4.t⟩
def FOf(w:World)(base:List Int):Nat->Value->World->Prop:=λi v u=>match i with
 |7=>∃a n c g,v = .slice a n c/\Arr eI t64 u a n c base g/\(g=0\/w.heap.size<g)
 |9=>∃b,v = .pointer (some ⟨b,0,none⟩)/\Blk u b #[.int .i64 0,.int .i64 0,.slice none 0 0,.slice none 0 0] jb/\w.heap.size<=b
 |_=>True
theorem FOf.keep{base:List Int}(i:Nat)(v:Value)(u u':World)(h:FOf w base i v u)(hk:Below u.heap.size u u'):FOf w base i v u':=by
 unfold FOf at h ⊢;split at h
 .obtain⟨a,n,c,g,h1,h2,h3⟩:=h;exact⟨a,n,c,g,h1,h2.kept hk,h3⟩
 .obtain⟨b,h1,h2,h3⟩:=h;exact⟨b,h1,h2.keep hk,h3⟩
 .trivial
def FBk(w:World)(X:kJ):Nat->Value->World->Prop:=λi v u=>match i with
 |13=>∃(s1 s2 s3 s4:SH) (lo hi:Nat),v=vB X s1 s2 s3 s4/\jw (λb=>lo<=b/\b<hi) u X s1 s2 s3 s4/\w.heap.size<=lo/\hi<=u.heap.size
 |14=>∃(q:Addr) (s1 s2 s3 s4:SH) (lo hi:Nat),v = .slice (some q) 1 1/\AtL u q (mG X s1 s2 s3 s4)/\jw (λb=>lo<=b/\b<hi) u X s1 s2 s3 s4/\w.heap.size<=lo/\hi<=u.heap.size
 |_=>True
theorem FBk.keep{X:kJ}(i:Nat)(v:Value)(u u':World)(h:FBk w X i v u)(hk:Below u.heap.size u u'):FBk w X i v u':=by
 have hz:=hk.size;unfold FBk at h ⊢;split at h
 .obtain⟨s1,s2,s3,s4,lo,hi,h1,h2,h3,h4⟩:=h;exact⟨s1,s2,s3,s4,lo,hi,h1,h2.kept hk,h3,by omega⟩
 .obtain⟨q,s1,s2,s3,s4,lo,hi,h1,h0,h2,h3,h4⟩:=h;exact⟨q,s1,s2,s3,s4,lo,hi,h1,h0.kept hk,h2.kept hk,h3,by omega⟩
 .trivial
structure FK(B:Nat)(w:World)(pf:Nat)(feat outs:Int)(base:List Int)(bd:List BD)(sb sk:SH)(g1 gb:Nat):Prop where
 box:Blk w pf #[.int .i64 feat,.int .i64 outs,sb.v,sk.v] jb
 b:Arr eI t64 w sb.a sb.n sb.c base g1
 k:aK 5 Fb tB' w sk.a sk.n sk.c bd gb
 ok:∀x∈bd,BOK B w gb x
 pB:pf<B
 bB:g1=0\/g1<=B
 kB:gb=0\/B<gb
end
section
variable{w u w1:World}{a a1:OA}{n c n1 c1:Nat}{F F' S:Nat->Prop}{q:Addr}{B:Nat}{e:ED}{f b t:SH}{rs:List (Int×Int)}{s1 s2 s3 s4:SH}{x:kJ}
theorem FK.kept{pf:Nat}{feat outs:Int}{base:List Int}{bd:List BD}{sb sk:SH}{g1 gb:Nat}(h:FK B w pf feat outs base bd sb sk g1 gb)(hk:Kept w u):FK B u pf feat outs base bd sb sk g1 gb :=
 ⟨h.box.keep hk,h.b.kept hk,h.k.kept hk,λx hx=>by obtain⟨lo,hi,h1,h2,h3,h4⟩:=h.ok x hx;exact⟨lo,hi,h1,zb5 h2 hk.size,h3.kept hk,h4⟩,h.pB,h.bB,h.kB⟩
theorem J4{lo hi:Nat}(hG:rZ F w e f b t)(h0:rO e=0)(hl:lo<=hi)(hh:hi<=t.n):pM F w (slA t.a t.c lo 2) (hi - lo) (t.c - lo) ((e.trees.take hi).drop lo) (f.n:Int):=by
 obtain⟨h1,h2,h3,h4,h5,h6⟩:=qw h0;have lf:=hG.fs.len;have lt:=hG.ts.len;refine⟨hG.ts.sub hl hh,hG.old,by omega,by omega,by omega,λt ht=>?_⟩;have htm:t∈e.trees:=zf3 (List.mem_of_mem_drop ht);obtain⟨o1,o2⟩:=hG.good t htm;obtain⟨q1,q2,q3,q4⟩:=Dh (rG h6 t htm);exact⟨o1,o2,q1,by rw[lf];exact q4⟩
theorem RI{R:VP}{pe p4 pf:Nat}{outs:Int}{base:List Int}{g1:Nat}{sb:SH}{w0:World}(hG:rZ F w0 e f b t)(h0:rO e=0)(hrs:Ls tR F' w0 a1 n1 c1 rs)(hF':∀b,F' b->b<w0.heap.size)(hok:jc e.trees.length rs 0=true)(hpe:w0.heap.size<=pe)(hp4:p4≠pf)(hp4B:p4<B)(hwB:w0.heap.size<=B)
  (hR:∀u (bd:List BD) (sk:SH) (gb:Nat),bd.map (·.1)=rs.map (λr=>dm ((e.trees.take r.2.toNat).drop r.1.toNat) r.1)->Arr eI t64 u sb.a sb.n sb.c base g1->aK 5 Fb tB' u sk.a sk.n sk.c bd gb->(∀x∈bd,BOK B u gb x)->(gb=0\/B<gb)->Kept w0 u->R (.tuple #[vFr f.n outs sb sk,.int .i64 0]) u)
  (hpf:w0.heap.size<=pf) (hp40:w0.heap.size<=p4) :
  ∀(k i:Nat) (w:World) (bd:List BD) (sk:SH) (gb:Nat),i+k=n1->From w0.heap.size w0 w->B<=w.heap.size->FK B w pf f.n outs base bd sb sk g1 gb->bd.map (·.1)=(rs.take i).map (λr=>dm ((e.trees.take r.2.toNat).drop r.1.toNat) r.1) ->
   Blk w pe (enE e f b t).toArray Hw->Blk w p4 #[.int .i64 0,.int .i64 0,.slice none 0 0,.slice none 0 0] jb->fA.l53 R (k+1) (some ⟨pe,0,none⟩) (some ⟨p4,0,none⟩) (some ⟨pf,0,none⟩) a1 n1 c1 n1 i w:=by
 have hn1:=hrs.len;have hT5:=(qw h0).2.2.2.2.1;have hlen:=vk hok;have lt:=hG.ts.len;intro k
 induction k with
 |zero=>
  intro i w bd sk gb hi hf hB hfk hbd hbe hb4;rw[fA.u53];unfold fA.g53;refine aA (by omega) ?_;obtain rfl:i=rs.length:=by omega
  rw[zd3]at hbd;have hA:AtL w ⟨pf,0,none⟩ [.int .i64 (f.n:Int),.int .i64 outs,sb.v,sk.v]:=λj v hj=>by rw[addr_add,zd1,hfk.box.cell];simpa using hj
  refine dE ⟨_,hA 0 _ rfl,_,hA 1 _ rfl,_,_,_,hA 2 _ rfl,_,_,_,hA 3 _ rfl,dE ?_⟩;refine wrA (e:=jb) (b:=p4) (vs:=[.int .i64 (f.n:Int),.int .i64 outs,sb.v,sk.v]) hb4 rfl λu hb4' ho=>?_;have hA4:AtL u ⟨p4,0,none⟩ [.int .i64 (f.n:Int),.int .i64 outs,sb.v,sk.v]:=λj v hj=>by rw[addr_add,zd1,hb4'.cell];simpa using hj
  refine⟨_,hA4 0 _ rfl,_,hA4 1 _ rfl,_,_,_,hA4 2 _ rfl,_,_,_,hA4 3 _ rfl,?_⟩;refine hR u bd sk gb hbd (hfk.b.mod ho (eY hb4 hfk.b (by decide))) (hfk.k.mod ho (eY hb4 hfk.k (by decide))) (λy hy=>?_) hfk.kB (zg4 (hf.trans ho (λ_ _ h=>h) (λk _ hk=>by have hk':k+1=p4+1:=hk;show w0.heap.size<=k;omega)));obtain⟨lo,hi,e1,e2,e3,e4⟩:=hfk.ok y hy;exact⟨lo,hi,e1,zb5 e2 ho.size,e3.mod ho (λb hb hk=>by have hk':b+1=p4+1:=hk;omega),e4⟩
 |succ k ih=>
  intro i w bd sk gb hi hf hB hfk hbd hbe hb4;rw[fA.u53];unfold fA.g53;refine aH (by omega) ?_;have hrsw:=hrs.kept (zg4 hf);refine(hrsw.X0).rd2 (by omega) (by omega) λr hr=>?_;rw[za3]at hr;obtain⟨hr1,hr2,hr3⟩:=zB (by omega) hok r (za0 hr);refine boxS (zs:=[.int .i64 0,.int .i64 0]) (vs:=enR r) (e:=nS) rfl λw1 hAr _ hk1=>?_;have hfk1:=hfk.kept hk1;have hbe1:=hbe.keep hk1;have hsz1:=hk1.size;have hG1:=hG.kept (zg1 (zg4 hf) hk1);obtain⟨X,hX⟩:∃X,X=dm ((e.trees.take r.2.toNat).drop r.1.toNat) r.1:=⟨_,rfl⟩;refine⟨FBk w1 X,FBk.keep,?_⟩;have hAf:AtL w1 ⟨pf,0,none⟩ [.int .i64 (f.n:Int),.int .i64 outs,sb.v,sk.v]:=λj v hj=>by rw[addr_add,zd1,hfk1.box.cell];simpa using hj
  have hAe:AtL w1 ⟨pe,0,none⟩ (enE e f b t):=λj v hj=>by rw[addr_add,zd1,hbe1.cell];simpa using hj
  have hcap:=hG.ts.cap;refine⟨_,_,_,hAf 3 _ rfl,⟨_,_,_,hAe 4 _ rfl,⟨_,hAr 0 _ rfl,⟨_,hAr 1 _ rfl,dK (by omega) (dK (by omega) ⟨_,hAr 0 _ rfl,⟨_,hAf 0 _ rfl,?_,?_⟩⟩)⟩⟩⟩⟩
  .intro u hu;refine zg0 (Zi (first:=r.1) (J4 (lo:=r.1.toNat) (hi:=r.2.toNat) (hG1.kept hu) h0 (by omega) (by omega))) λv u2 ⟨s1,s2,s3,s4,hv,hin,hk2⟩=>?_;rw[<- hX]at hv hin;exact⟨_,_,_,_,_,_,_,_,_,_,_,_,_,hv,⟨s1,s2,s3,s4,u.heap.size,u2.heap.size,rfl,hin,hu.size,zb4 _⟩,hk2⟩
  .intro z0 z1 z2 z3 z4 z5 z6 z7 z8 z9 z10 z11 z12 _;refine⟨λu hu hF13=>?_,λq _ u hu _ hF14=>?_⟩
   .obtain⟨s1,s2,s3,s4,lo,hi,hv,h2,h3,h4⟩:=hF13;have hc:nD z0 z1 z2 z3 z4 z5 z6 z7 z8 z9 z10 z11 z12=(mG X s1 s2 s3 s4).toArray:=Value.agg.inj hv;have hk:=zg3 u (.cells (nD z0 z1 z2 z3 z4 z5 z6 z7 z8 z9 z10 z11 z12) 66);refine⟨na u,s1,s2,s3,s4,lo,hi,rfl,?_,h2.kept hk,h3,zb5 h4 hk.size⟩;rw[hc];exact AtL.new _ _ _
   .obtain⟨q',s1,s2,s3,s4,lo,hi,hv,hAq,h2,h3,h4⟩:=hF14;simp only[Value.slice.injEq,Option.some.injEq]at hv;obtain⟨rfl,_⟩:=hv;have hfu:=hfk1.kept hu;have hnk:=aK.len (k:=5) (en:=Fb) (λ_=>rfl) (by omega) hfu.k;have hbl:bd.length=i:=by have:=congrArg List.length hbd;simp at this;omega
    have huz:=hu.size;refine jJ ZN (by omega) hfu.k (news:=mG X s1 s2 s3 s4) (m:=1) rfl (λj v hj=>⟨_,rfl,hAq j v hj⟩) (λh=>by cases h) (λv hv=>Eo (X,s1,s2,s3,s4) v hv) (by simp only[maxLen];omega) (by omega) λa' c' g' u2 hrow hg' ho=>⟨_,_,_,rfl,?_⟩;have hbx:=hfu.box.mod ho (λhk=>dW hfu.k hfu.box (by decide) hk);have hset:=hbx.set 3 (.slice a' (sk.n+1) c');have hon:=zg5 u2 pf 3 (.slice a' (sk.n+1) c');refine dE ?_;rw[addr_add,addr_add,zd1,zd2];refine⟨hbx.ok (by simp),bZ (aC (by omega) ?_)⟩;have hrow':aK 5 Fb tB' u2 a' (sk.n+1) c' (bd++[(X,s1,s2,s3,s4)]) g':=by
     unfold aK;simpa using hrow
    have hgbs:gb<=w.heap.size:=Row.le hfk.k;have hgle:gb=0\/B<gb:=hfk.kB;have ho2:w0.heap.size<=w.heap.size:=hf.size;have apart:∀b,lo<=b/\b<hi->¬ (b+1=gb):=λb hb h=>by omega
    have hpB:=hfk.pB;have hkw:Kept w u:=zg1 hk1 hu;have ht1:From w0.heap.size w u2:=(Kept.mod (S:=λk=>w0.heap.size<=k) hkw).trans ho (λ_ _ h=>h) (λk _ hk=>by have hk':k+1=gb:=hk;show w0.heap.size<=k;omega);have hfin:From w0.heap.size w (u2.setCell ⟨pf,3,none⟩ (.slice a' (sk.n+1) c')):=ht1.trans hon (λ_ _ h=>h) (λk _ hk=>by have hk':k+1=pf+1:=hk;show w0.heap.size<=k;omega);have hpe_ne:pe≠pf:=λh=>by subst h;exact absurd (hbe.ne hfk.box) (by decide)
    refine ih (i+1) _ (bd++[(X,s1,s2,s3,s4)]) ⟨a',sk.n+1,c'⟩ g' (by omega) (hf.trans hfin zg7 zg7) (by have:=hfin.size;omega) ⟨hset,(hfu.b.mod ho (og hfu.k hfu.b (by decide))).mod hon (eY hbx (hfu.b.mod ho (og hfu.k hfu.b (by decide))) (by decide)),hrow'.mod hon (eY hbx hrow' (by decide)),λy hy=>?_,hfk.pB,hfk.bB,by omega⟩ ?_ ?_ ?_
    .have hh:=ho.size;have hh2:=hon.size
     rcases zb2.1 hy with hy | hy
     .obtain⟨lo',hi',e1,e2,e3,e4⟩:=hfu.ok y hy;exact⟨lo',hi',e1,by omega,(e3.mod ho (λb hb h=>by have h':b+1=gb:=h;omega)).mod hon (λb hb h=>by have h':b+1=pf+1:=h;omega),by omega⟩
     .obtain rfl:y=(X,s1,s2,s3,s4):=by simpa using hy
      exact⟨lo,hi,by omega,by omega,(h2.mod ho (λb hb h=>by have h':b+1=gb:=h;omega)).mod hon (λb hb h=>by have h':b+1=pf+1:=h;omega),by omega⟩
    .rw[take_snoc hr,zb8,zb8,hbd,hX];rfl
    .exact((hbe1.keep hu).mod ho (λhk=>dW hfu.k (hbe1.keep hu) (by decide) hk)).mod hon (λhk=>hpe_ne (by have hk':pe+1=pf+1:=hk;omega))
    .exact(((hb4.keep hk1).keep hu).mod ho (λhk=>dW hfu.k ((hb4.keep hk1).keep hu) (by decide) hk)).mod hon (λhk=>hp4 (by have hk':p4+1=pf+1:=hk;omega))
end
section
variable{w u w1:World}{a a1:OA}{n c n1 c1:Nat}{F F' S:Nat->Prop}{q:Addr}{B:Nat}{e:ED}{f b t:SH}{rs:List (Int×Int)}{x:kJ}
structure pR(F:Nat->Prop)(w:World)(x:fC)(s t:SH):Prop where
 b:LsI F w s.a s.n s.c x.base
 k:Ls tB F w t.a t.n t.c x.blocks
theorem a0d(hG:rZ F w e f b t)(hrs:Ls tR F' w a1 n1 c1 rs)(hF':∀b,F' b->b<w.heap.size)(hn:n1<=16777216):E.CallsD prog 7 #[vE e f b t,.slice a1 n1 c1] w λv u=>∃s k:SH,v = .tuple #[vF (ofP e rs) s k,.int .i64 (ofE e rs)]/\pR (λb=>w.heap.size<=b/\b<u.heap.size) u (ofP e rs) s k/\Kept w u:=by
 refine fA.calls (R:=λv u=>∃s k:SH,v = .tuple #[vF (ofP e rs) s k,.int .i64 (ofE e rs)]/\pR (λb=>w.heap.size<=b/\b<u.heap.size) u (ofP e rs) s k/\Kept w u) ?_;unfold fA fA.g0;refine bZ (bZ ?_);have be:Blk (w.alloc (.cells (wO e.name f.a f.n f.c e.outputs b.a b.n b.c t.a t.n t.c) 26)) w.heap.size (enE e f b t).toArray Hw:=Blk.new w _ _;have k1:=zg3 w (.cells (wO e.name f.a f.n f.c e.outputs b.a b.n b.c t.a t.n t.c) 26);have hz1:(w.alloc (.cells (wO e.name f.a f.n f.c e.outputs b.a b.n b.c t.a t.n t.c) 26)).heap.size=w.heap.size+1:=by simp
 generalize w.alloc (.cells (wO e.name f.a f.n f.c e.outputs b.a b.n b.c t.a t.n t.c) 26)=w1 at be k1 hz1;have b4:Blk (w1.alloc (.cells (mr 0 0 none 0 0 none 0 0) 31)) w1.heap.size #[.int .i64 0,.int .i64 0,.slice none 0 0,.slice none 0 0] jb:=Blk.new w1 _ _;have k2:=zg3 w1 (.cells (mr 0 0 none 0 0 none 0 0) 31);generalize w1.alloc (.cells (mr 0 0 none 0 0 none 0 0) 31)=w2 at b4 k2;have be2:=be.keep k2;have k12:=zg1 k1 k2;have hA:AtL w2 (na w) (enE e f b t):=by simpa using AtL.blk (b:=w) be2
 -- the answer where something is wrong
 have bad:∀(v:World) (z:Int),z≠0->ofE e rs=z->Blk v w1.heap.size #[.int .i64 0,.int .i64 0,.slice none 0 0,.slice none 0 0] jb->Kept w v ->
   xQ v ⟨w1.heap.size,0,none⟩ 0 0 none 0 0 none 0 0 λw85=>mV w85 ⟨w1.heap.size,0,none⟩ λx0 x1 a2 n2 c2 a3 n3 c3=>∃s k:SH,Value.tuple #[kE x0 x1 a2 n2 c2 a3 n3 c3,.int .i64 z] = .tuple #[vF (ofP e rs) s k,.int .i64 (ofE e rs)]/\pR (λb=>w.heap.size<=b/\b<w85.heap.size) w85 (ofP e rs) s k/\Kept w w85:=by
  intro v z hz hof hb hkv;refine wrA (e:=jb) (b:=w1.heap.size) (vs:=[.int .i64 0,.int .i64 0,.slice none 0 0,.slice none 0 0]) hb rfl λu hb' ho=>?_;have hA4:AtL u ⟨w1.heap.size,0,none⟩ [.int .i64 0,.int .i64 0,.slice none 0 0,.slice none 0 0]:=λj v hj=>by rw[addr_add,zd1,hb'.cell];simpa using hj
  have hP:ofP e rs=⟨0,0,[],[]⟩:=by unfold ofP;rw[if_neg (by rw[hof];exact hz)]
  refine⟨_,hA4 0 _ rfl,_,hA4 1 _ rfl,_,_,_,hA4 2 _ rfl,_,_,_,hA4 3 _ rfl,⟨none,0,0⟩,⟨none,0,0⟩,?_,?_,?_⟩
  .rw[hP,hof]
  .rw[hP];exact⟨Ls.nil _ _ _ _ _,Ls.nil _ _ _ _ _⟩
  .exact zg4 ((Kept.mod (S:=λk=>w.heap.size<=k) hkv).trans ho (λ_ _ h=>h) (λk _ hk=>by have hk':k+1=w1.heap.size+1:=hk;show w.heap.size<=k;omega))
 refine⟨_,hA 0 _ rfl,_,_,_,hA 1 _ rfl,_,hA 2 _ rfl,_,_,_,hA 3 _ rfl,_,_,_,hA 4 _ rfl,?_⟩;refine zg0 (PN (hG.kept k12)) λv u3 ⟨hv,hk3⟩=>⟨_,hv,ja (λhne=>bad u3 _ hne (by unfold ofE;rw[if_pos hne]) (b4.keep hk3) (zg1 k12 hk3)) λh0=>?_⟩;have hn1:=hrs.len;have lt:=hG.ts.len;obtain⟨_,_,_,_,hT5,_⟩:=qw h0;have hbad6:jc e.trees.length rs 0=false->ofE e rs=6:=λh=>by unfold ofE;rw[if_neg (by omega),h];rfl
 refine⟨n1+1,?_⟩;have key:∀(k i:Nat) (at_:Int) (v:World),i+k=n1->Kept w2 v->jc e.trees.length rs 0=jc e.trees.length (rs.drop i) at_ ->
   fA.l18 (λv u=>∃s k:SH,v = .tuple #[vF (ofP e rs) s k,.int .i64 (ofE e rs)]/\pR (λb=>w.heap.size<=b/\b<u.heap.size) u (ofP e rs) s k/\Kept w u) (k+1) a1 n1 c1 (some (na w)) (some (na w1)) at_ a1 n1 c1 n1 i v:=by
  intro k
  induction k with
  |zero=>
   intro i at_ v hi hkv hr;rw[fA.u18];unfold fA.g18;refine aA (by omega) ?_;rw[List.drop_eq_nil_of_le (by omega)]at hr;have hAv:=hA.kept hkv;have hkw:=zg1 k12 hkv;refine dE ⟨_,_,_,hAv 4 _ rfl,ja (λhne=>?_) λheq=>?_⟩
   .have hf:jc e.trees.length rs 0=false:=by rw[hr];unfold jc;simp;omega
    exact bad v 6 (by decide) (hbad6 hf) (b4.keep hkv) hkw
   .have hok:jc e.trees.length rs 0=true:=by rw[hr];unfold jc;simp;omega
    have hof:ofE e rs=0:=by unfold ofE;rw[if_neg (by omega),hok];rfl
    have hP:ofP e rs=rW e rs:=by unfold ofP;rw[if_pos hof]
    refine⟨FOf v e.base,FOf.keep,⟨_,_,_,hAv 1 _ rfl,⟨_,hAv 2 _ rfl,⟨_,_,_,hAv 3 _ rfl,?_,?_⟩⟩⟩⟩
    .intro u hu;refine zg0 (Ll ((hG.kept (zg1 hkw hu)).bs.sl) hG.bm) λr u2 ⟨a',n',c',hr,⟨g,hg1,hg2,hg3⟩,_⟩=>⟨a',n',c',hr,⟨a',n',c',g,rfl,hg1,by have:=hu.size;omega⟩,hg3⟩
    .intro a' n' c' _;refine⟨λu hu=>⟨u.heap.size,rfl,Blk.new u _ _,hu.size⟩,λq _ u hu hF7 hF9=>?_⟩;obtain⟨a2,n2,c2,g,hv7,hg1,hg2⟩:=hF7;obtain⟨pf,hv9,hbf,hpf⟩:=hF9;cases hv7;cases hv9;have hvs:w1.heap.size<v.heap.size:=(b4.keep hkv).lt;refine wrA (e:=jb) (b:=pf) (vs:=[.int .i64 (f.n:Int),.int .i64 e.outputs,.slice a' n' c',.slice none 0 0]) hbf rfl λu2 hbf2 ho2=>?_;have hg1':=hg1.mod ho2 (eY hbf hg1 (by decide));have hk2v:From w.heap.size w u2:=(Kept.mod (S:=λk=>w.heap.size<=k) (zg1 hkw hu)).trans ho2 (λ_ _ h=>h) (λk _ hk=>by have hk':k+1=pf+1:=hk;have:=hkw.size;show w.heap.size<=k;omega);have hgs:=Row.le hg1';have hb4u:=((b4.keep hkv).keep hu).mod ho2 (λhk=>by have hk':w1.heap.size+1=pf+1:=hk;omega);have hbeu:=((be2.keep hkv).keep hu).mod ho2 (λhk=>by have hk':w.heap.size+1=pf+1:=hk;omega);have hpflt:=hbf2.lt;have hk0:=hkw.size;refine⟨n1+1,?_⟩;refine RI (B:=u2.heap.size) (w0:=w) (sb:=⟨a',n',c'⟩) (g1:=g) (base:=e.base) (outs:=e.outputs) (F':=F') hG h0 hrs hF' hok (zb4 _) (by omega) (by omega) (by omega) (λu3 bd sk gb hbd hb3 hk3' hok3 hgb hkk=>?_) (by omega) (by omega) n1 0 u2 [] ⟨none,0,0⟩ 0 (by omega) hk2v (zb4 _) ⟨hbf2,hg1',aK.nil _ _ _ _,(λx hx=>by cases hx),hpflt,.inr hgs,.inl rfl⟩ rfl hbeu hb4u;refine⟨⟨a',n',c'⟩,sk,?_,⟨?_,?_⟩,hkk⟩
     .rw[hP,hof];have:=hG.fs.len;unfold rW;simp only[this]
     .rw[hP];exact(Arr.ls (h1:=λ_=>rfl) hb3).mono λb hb=>⟨by omega,by have:=Row.le hb3;omega⟩
     .rw[hP];show Ls tB _ u3 sk.a sk.n sk.c (rs.map λr=>dm ((e.trees.take r.2.toNat).drop r.1.toNat) r.1);rw[<- hbd];exact XO hk3' hok3 hgb λb h1 h2=>⟨by have:=hk2v.size;omega,h2⟩
  |succ k ih=>
   intro i at_ v hi hkv hr;rw[fA.u18];unfold fA.g18;refine aH (by omega) ?_;have hAv:=hA.kept hkv;have hkw:=zg1 k12 hkv;refine((hrs.kept hkw).X0).rd2 (by omega) (by omega) λr hrr=>?_;rw[za3]at hrr;rw[KT hrr]at hr;refine boxS (zs:=[.int .i64 0,.int .i64 0]) (vs:=enR r) (e:=nS) rfl λv1 hAr _ hk1=>?_;have b4v:=(b4.keep hkv).keep hk1;have hkv1:=zg1 hkw hk1;refine⟨_,hAr 0 _ rfl,ja (λh1=>bad v1 6 (by decide) (hbad6 (by rw[hr];simp[h1])) b4v hkv1) λh1=>?_⟩;refine⟨_,hAr 1 _ rfl,_,hAr 0 _ rfl,fJ (λh2=>bad v1 6 (by decide) (hbad6 (by rw[hr];have hx:¬ r.1<r.2:=(by omega);simp[hx])) b4v hkv1) λh2=>?_⟩;refine⟨_,hAr 1 _ rfl,dE ⟨_,_,_,(hAv.kept hk1) 4 _ rfl,fJ (λh3=>bad v1 6 (by decide) (hbad6 (by rw[hr];have hx:¬ r.2<=(e.trees.length:Int):=(by omega);simp[hx])) b4v hkv1) λh3=>?_⟩⟩;refine⟨_,hAr 1 _ rfl,aC (by omega) (ih (i+1) r.2 v1 (by omega) (zg1 hkv hk1) ?_)⟩;rw[hr];have e1:r.1<r.2:=by omega
   have e2:r.2<=(e.trees.length:Int):=by omega
   rw[decide_eq_true h1,decide_eq_true e1,decide_eq_true e2];rfl
 exact key n1 0 0 u3 (by omega) hk3 rfl
end
noncomputable def AU(e:ED)(k:Int):Int:=if rO e≠0 then rO e else if kN e.trees.length k≠0 then kN e.trees.length k else ofE e (mO e.trees.length k)
noncomputable def vX(e:ED)(k:Int):fC:=if rO e≠0 then⟨0,0,[],[]⟩ else if kN e.trees.length k≠0 then⟨0,0,[],[]⟩ else ofP e (mO e.trees.length k)
theorem Cc{n b:Int}(hb:1<=b):∀(k:Nat) (at_:Int),(pV n b k at_).length<=k
 |0,_=>by simp[pV]
 |k+1,at_=>by
  unfold pV
  split
  .have:=Cc (n:=n) hb k (at_+b);simp only[zc5];omega
  .simp
section
variable{w u w1:World}{a:OA}{n c:Nat}{F S:Nat->Prop}{e:ED}{f b t:SH}{rs:List (Int×Int)}{s1 s2:SH}{x:kJ}
theorem FZ.len{xs:List (Int×Int)}(h:FZ w u a n c xs):n=xs.length:=h.ls.len
theorem OV{k:Int}(hG:rZ F w e f b t):E.CallsD prog 9 #[vE e f b t,.int .i64 k] w λv u=>∃s z:SH,v = .tuple #[vF (vX e k) s z,.int .i64 (AU e k)]/\pR (λb=>w.heap.size<=b/\b<u.heap.size) u (vX e k) s z/\Kept w u:=by
 refine fQ.calls (R:=λv u=>∃s z:SH,v = .tuple #[vF (vX e k) s z,.int .i64 (AU e k)]/\pR (λb=>w.heap.size<=b/\b<u.heap.size) u (vX e k) s z/\Kept w u) ?_;unfold fQ fQ.g0;refine bZ (bZ ?_);have be:Blk (w.alloc (.cells (wO e.name f.a f.n f.c e.outputs b.a b.n b.c t.a t.n t.c) 26)) w.heap.size (enE e f b t).toArray Hw:=Blk.new w _ _;have k1:=zg3 w (.cells (wO e.name f.a f.n f.c e.outputs b.a b.n b.c t.a t.n t.c) 26);have hz1:(w.alloc (.cells (wO e.name f.a f.n f.c e.outputs b.a b.n b.c t.a t.n t.c) 26)).heap.size=w.heap.size+1:=by simp
 generalize w.alloc (.cells (wO e.name f.a f.n f.c e.outputs b.a b.n b.c t.a t.n t.c) 26)=w1 at be k1 hz1;have b4:Blk (w1.alloc (.cells (mr 0 0 none 0 0 none 0 0) 31)) w1.heap.size #[.int .i64 0,.int .i64 0,.slice none 0 0,.slice none 0 0] jb:=Blk.new w1 _ _;have k2:=zg3 w1 (.cells (mr 0 0 none 0 0 none 0 0) 31);generalize w1.alloc (.cells (mr 0 0 none 0 0 none 0 0) 31)=w2 at b4 k2;have be2:=be.keep k2;have k12:=zg1 k1 k2;have hA:AtL w2 (na w) (enE e f b t):=by simpa using AtL.blk (b:=w) be2
 have lt:=hG.ts.len;have fin:∀(v:World) (z:Int) (X:fC) (s1 s2:SH),AU e k=z->vX e k=X->Blk v w1.heap.size #[.int .i64 0,.int .i64 0,.slice none 0 0,.slice none 0 0] jb->Kept w v->pR (λb=>w2.heap.size<=b/\b<v.heap.size) v X s1 s2 ->
   xQ v ⟨w1.heap.size,0,none⟩ X.features X.outputs s1.a s1.n s1.c s2.a s2.n s2.c λw85=>mV w85 ⟨w1.heap.size,0,none⟩ λx0 x1 a2 n2 c2 a3 n3 c3=>∃s z':SH,Value.tuple #[kE x0 x1 a2 n2 c2 a3 n3 c3,.int .i64 z] = .tuple #[vF (vX e k) s z',.int .i64 (AU e k)]/\pR (λb=>w.heap.size<=b/\b<w85.heap.size) w85 (vX e k) s z'/\Kept w w85:=by
  intro v z X s1 s2 hz hX hb hkv hin;refine wrA (e:=jb) (b:=w1.heap.size) (vs:=[.int .i64 X.features,.int .i64 X.outputs,s1.v,s2.v]) hb rfl λu hb' ho=>?_;have hA4:AtL u ⟨w1.heap.size,0,none⟩ [.int .i64 X.features,.int .i64 X.outputs,s1.v,s2.v]:=λj v hj=>by rw[addr_add,zd1,hb'.cell];simpa using hj
  have hw2:w1.heap.size<w2.heap.size:=b4.lt;refine⟨_,hA4 0 _ rfl,_,hA4 1 _ rfl,_,_,_,hA4 2 _ rfl,_,_,_,hA4 3 _ rfl,s1,s2,?_,?_,?_⟩
  .rw[hX,hz]
  .rw[hX];have no:∀b,(w2.heap.size<=b/\b<v.heap.size)->¬ (b+1=w1.heap.size+1):=λb hb h=>by omega
   exact⟨(hin.b.mod ho no).mono λb hb=>⟨by omega,by have:=ho.size;omega⟩,(hin.k.mod ho no).mono λb hb=>⟨by omega,by have:=ho.size;omega⟩⟩
  .exact zg4 ((Kept.mod (S:=λk=>w.heap.size<=k) hkv).trans ho (λ_ _ h=>h) (λk _ hk=>by have hk':k+1=w1.heap.size+1:=hk;show w.heap.size<=k;omega))
 have zero:∀(v:World) (z:Int),AU e k=z->vX e k=⟨0,0,[],[]⟩->Blk v w1.heap.size #[.int .i64 0,.int .i64 0,.slice none 0 0,.slice none 0 0] jb->Kept w v->_:=λv z hz hX hb hkv=>fin v z ⟨0,0,[],[]⟩ ⟨none,0,0⟩ ⟨none,0,0⟩ hz hX hb hkv ⟨Ls.nil _ _ _ _ _,Ls.nil _ _ _ _ _⟩;refine⟨_,hA 0 _ rfl,_,_,_,hA 1 _ rfl,_,hA 2 _ rfl,_,_,_,hA 3 _ rfl,_,_,_,hA 4 _ rfl,?_⟩;refine zg0 (PN (hG.kept k12)) λv u3 ⟨hv,hk3⟩=>⟨_,hv,ja (λhne=>zero u3 _ (by unfold AU;rw[if_pos hne]) (by unfold vX;rw[if_pos hne]) (b4.keep hk3) (zg1 k12 hk3)) λh0=>?_⟩;have hA3:=hA.kept hk3;refine⟨_,_,_,hA3 4 _ rfl,?_⟩;rw[lt];refine zg0 (VR (e.trees.length:Int) k) λv u4 ⟨a',n',c',hv,hnew⟩=>⟨_,_,_,_,hv,?_⟩;have hnl:=hnew.len;obtain⟨g,g1,g2,hk4⟩:=hnew;have hk34:=zg1 hk3 hk4;have hkw:=zg1 k12 hk34;refine ja (λhne=>zero u4 _ (by unfold AU;rw[if_neg (by omega),if_pos hne]) (by unfold vX;rw[if_neg (by omega),if_pos hne]) (b4.keep hk34) hkw) λh1=>?_;have hA4:=hA.kept hk34;refine⟨_,hA4 0 _ rfl,_,_,_,hA4 1 _ rfl,_,hA4 2 _ rfl,_,_,_,hA4 3 _ rfl,_,_,_,hA4 4 _ rfl,?_⟩;obtain⟨q1,q2,q3,q4⟩:=Nr h1;have hsl:(mO e.trees.length k).length<=65537:=by
  unfold mO;rw[if_pos h1];have:=Cc (n:=(e.trees.length:Int)) (b:=k) (by omega) ((e.trees.length:Int).toNat+1) 0;omega
 have hlt:∀b,(u3.heap.size<=b/\b<u4.heap.size)->b<u4.heap.size:=λb h=>h.2;have hls2:Ls tR (λb=>u3.heap.size<=b/\b<u4.heap.size) u4 a' n' c' (mO e.trees.length k):=by
  have:=aK.lsK (T:=tR) (f:=id) (en:=enR) (k:=2) (F:=λb=>u3.heap.size<=b/\b<u4.heap.size) (λ_=>rfl) (by omega) rfl g1 (λb hb=>⟨by omega,by have:=Row.le g1;omega⟩) (λx _=>rfl);simpa using this
 refine zg0 (a0d (rs:=mO e.trees.length k) (hG.kept hkw) hls2 hlt (by omega)) λv u5 ⟨s,z,hv,hin,hk5⟩=>⟨_,_,_,_,_,_,_,_,_,hv,?_⟩;refine fin u5 _ (ofP e (mO e.trees.length k)) s z (by unfold AU;rw[if_neg (by omega),if_neg (by omega)]) (by unfold vX;rw[if_neg (by omega),if_neg (by omega)]) (b4.keep (zg1 hk34 hk5)) (zg1 hkw hk5) ⟨hin.b.mono λb hb=>⟨zb5 (zg1 hk34 (Kept.refl _)).size hb.1,hb.2⟩,hin.k.mono λb hb=>⟨zb5 (zg1 hk34 (Kept.refl _)).size hb.1,hb.2⟩⟩
end
end Go.Mir
