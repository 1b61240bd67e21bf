/- Part of a proof; no conditions. -/
import GoSem.Core.Value
set_option linter.unusedVariables false
set_option linter.unusedSimpArgs false
set_option linter.unusedSectionVars false
namespace Go.Tr
open Go
structure ND where
 kind:Int
 value:Int
 feature:Int
 thr:Nat
 aT:List Int
 missing:Int
 left:Int
 right:Int
deriving DecidableEq,Inhabited
structure TD where
 output:Int
 nodes:List ND
deriving DecidableEq,Inhabited
structure ED where
 name:ByteArray
 features:List ByteArray
 outputs:Int
 base:List Int
 trees:List TD
def ND.inner(x:ND):Bool:=x.kind==2||x.kind==3
def fM(last:Int):List Int->Bool
 | []=>true
 |c::l=>decide (last<c)&&decide (c<1024)&&fM c l
def qP(l:List Int):Bool := !l.isEmpty&&fM (-1) l
def jq(x:ND)(n:Int):Bool :=
 x.value==0&&decide (0<=x.feature)&&decide (x.feature<65536)&&(x.missing==1||x.missing==2)&&decide (1<=x.left)&&decide (x.left<n)&&decide (1<=x.right)&&decide (x.right<n)
def fD(nan:Nat->Bool)(x:ND)(n:Int):Bool :=
 if x.kind=1 then x.feature==0&&x.thr==0&&x.aT.isEmpty&&x.missing==0&&x.left==0&&x.right==0
 else if x.kind=2 then !nan x.thr&&x.aT.isEmpty&&jq x n
 else if x.kind=3 then x.thr==0&&qP x.aT&&jq x n
 else false
def cnt(l:List ND)(j:Nat):Nat:=(l.filter λx=>x.inner&&x.left==(j:Int)).length+(l.filter λx=>x.inner&&x.right==(j:Int)).length
def dfs(nodes:List ND):Nat->List Bool->List Nat->List Bool
 |0,r,_=>r
 |_+1,r,[]=>r
 |f+1,r,i::st=>if r.getD i true then dfs nodes f r st else
   match nodes[i]? with
   |none=>r
   |some x=>dfs nodes f (r.set i true) (if x.inner then x.right.toNat::x.left.toNat::st else st)
def reached(nodes:List ND):List Bool:=dfs nodes (3*nodes.length+2) (List.replicate nodes.length false) [0]
def dS{α:Type}(p:Nat->α->Bool):Nat->List α->Option Nat
 |_,[]=>none
 |i,x::l=>if p i x then dS p (i+1) l else some i
def dY(nan:Nat->Bool)(nodes:List ND):Int×Int :=
 if nodes=[] then(70,0) else
 match dS (λ_ x=>fD nan x nodes.length) 0 nodes with
 |some i=>(71,i)
 |none=>match dS (λi _=>cnt nodes i==min i 1&&(reached nodes).getD i false) 0 nodes with
  |some i=>(70,i)
  |none=>(0,0)
inductive BT where
 |leaf (i:Nat)
 |node (i:Nat) (l r:BT)
def BT.root:BT->Nat
 | .leaf i=>i
 | .node i _ _=>i
def BT.pre:BT->List Nat
 | .leaf i=>[i]
 | .node i l r=>i::(l.pre++r.pre)
def BT.size:BT->Nat
 | .leaf _=>1
 | .node _ l r=>1+l.size+r.size
theorem BT.gU:∀T:BT,T.pre.length=T.size
 | .leaf _=>rfl
 | .node _ l r=>by simp[BT.pre,BT.size,l.gU,r.gU];omega
theorem BT.size_pos:∀T:BT,0<T.size
 | .leaf _=>by simp[BT.size]
 | .node _ _ _=>by simp[BT.size];omega
def Is(nodes:List ND):BT->Prop
 | .leaf i=>∃x,nodes[i]?=some x/\x.inner=false
 | .node i l r=>∃x,nodes[i]?=some x/\x.inner=true/\x.left=(l.root:Int)/\x.right=(r.root:Int)/\Is nodes l/\Is nodes r
theorem lq{α:Type}{p:Nat->α->Bool}:∀ {l:List α} {k:Nat},dS p k l=none->∀i x,l[i]?=some x->p (k+i) x=true
 | [],_,_,i,x,h=>by simp at h
 |y::l,k,h,i,x,hx=>by
  unfold dS at h;split at h
  .rename_i hp
   cases i with
   |zero=>simp at hx;subst hx;simpa using hp
   |succ i=>have:=lq h i x (by simpa using hx);rwa [show k+(i+1)=k+1+i by omega]
  .cases h
inductive Path(nodes:List ND):Nat->Nat->Prop
 |root:Path nodes 0 0
 |left {i k x}:Path nodes i k->nodes[i]?=some x->x.inner=true->Path nodes x.left.toNat (k+1)
 |right {i k x}:Path nodes i k->nodes[i]?=some x->x.inner=true->Path nodes x.right.toNat (k+1)
theorem DW{nodes:List ND}:∀(f:Nat) (r:List Bool) (st:List Nat),(∀i,r.getD i false=true->∃k,Path nodes i k)->(∀i∈st,∃k,Path nodes i k) ->
  ∀i,(dfs nodes f r st).getD i false=true->∃k,Path nodes i k
 |0,r,st,hr,_=>hr
 |f+1,r,[],hr,_=>hr
 |f+1,r,j::st,hr,hs=>by
  unfold dfs
  split
  .exact DW f r st hr λi hi=>hs i (by simp[hi])
  .split
   .exact hr
   .rename_i x hx;obtain⟨k,hk⟩:=hs j (by simp);refine DW f _ _ (λi hi=>?_) (λi hi=>?_)
    .by_cases hij:i=j
     .subst hij;exact⟨k,hk⟩
     .apply hr;rw[List.getD_eq_getElem?_getD,List.getElem?_set_ne (λe=>hij e.symm)]at hi
      rwa [List.getD_eq_getElem?_getD]
    .split at hi
     .rename_i hin;simp only[List.mem_cons]at hi
      rcases hi with h | h | h
      .subst h;exact⟨_,.right hk hx hin⟩
      .subst h;exact⟨_,.left hk hx hin⟩
      .exact hs i (by simp[h])
     .exact hs i (by simp[hi])
structure Right(nan:Nat->Bool)(nodes:List ND):Prop where
 pos:0<nodes.length
 ok:∀(i:Nat) x,nodes[i]?=some x->fD nan x nodes.length=true
 one:∀i,i<nodes.length->cnt nodes i=min i 1
 path:∀i,i<nodes.length->∃k,Path nodes i k
theorem TI{nan:Nat->Bool}{nodes:List ND}(h:(dY nan nodes).1=0):Right nan nodes:=by
 unfold dY at h;split at h
 .cases h
 rename_i hne;split at h
 .cases h
 rename_i h1;split at h
 .cases h
 rename_i h2;have h2':∀i,i<nodes.length->cnt nodes i=min i 1/\(reached nodes).getD i false=true:=λi hi=>by
  have:=lq h2 i _ (List.getElem?_eq_getElem hi);simpa using this
 refine⟨by cases nodes with | nil=>exact absurd rfl hne | cons x l=>simp,λi x hx=>?_,λi hi=>(h2' i hi).1,λi hi=>?_⟩
 .simpa using lq h1 i x hx
 .refine DW _ _ _ (λi hi=>?_) (λi hi=>?_) i (h2' i hi).2
  .exfalso;rw[List.getD_eq_getElem?_getD,List.getElem?_replicate]at hi
   split at hi <;> cases hi
  .simp at hi;subst hi;exact⟨0,.root⟩
theorem fH{nan:Nat->Bool}{x:ND}{n:Int}(h:fD nan x n=true)(hi:x.inner=true):1<=x.left/\x.left<n/\1<=x.right/\x.right<n/\0<=x.feature/\x.feature<65536/\(x.missing=1\/x.missing=2)/\x.value=0:=by
 have h2:jq x n=true:=by
  unfold fD at h;unfold ND.inner at hi;split at h
  .rename_i hk;rw[hk]at hi;cases hi
  .split at h
   .simp at h;exact h.2
   .split at h
    .simp at h;exact h.2
    .cases h
 unfold jq at h2;simp at h2;omega
section
variable{nan:Nat->Bool}{nodes:List ND}
theorem PO{l:List ND}{i j:Nat}{x y:ND}(hij:i≠j)(hx:l[i]?=some x)(hy:l[j]?=some y)(p:ND->Bool)(hp:p x=true)(hq:p y=true):2<=(l.filter p).length:=by
 induction l generalizing i j with
 |nil=>simp at hx
 |cons z l ih=>
  have one:∀ {k:Nat} {w:ND},l[k]?=some w->p w=true->1<=(l.filter p).length:=fun {k w} hk hw=>by
   have:w∈l.filter p:=List.mem_filter.2 ⟨List.mem_of_getElem? hk,hw⟩;exact List.length_pos_of_mem this
  cases i with
  |zero=>
   simp at hx;subst hx
   cases j with
   |zero=>exact absurd rfl hij
   |succ j=>have:=one (by simpa using hy) hq;rw[List.filter_cons_of_pos hp];simp;omega
  |succ i=>cases j with
   |zero=>
    simp at hy;subst hy;have:=one (by simpa using hx) hp;rw[List.filter_cons_of_pos hq];simp;omega
   |succ j=>
    have:=ih (i:=i) (j:=j) (by omega) (by simpa using hx) (by simpa using hy);have h2:(l.filter p).length<=((z::l).filter p).length:=by
     by_cases hz:p z=true
     .rw[List.filter_cons_of_pos hz];simp
     .rw[List.filter_cons_of_neg hz];exact Nat.le_refl _
    omega
theorem DL{l:List ND}{i:Nat}{x:ND}(hx:l[i]?=some x)(p:ND->Bool)(hp:p x=true):1<=(l.filter p).length :=
 List.length_pos_of_mem (List.mem_filter.2 ⟨List.mem_of_getElem? hx,hp⟩)
def child(x:ND)(s:Bool):Int:=if s then x.left else x.right
theorem Right.slot(h:Right nan nodes){i j:Nat}{x y:ND}{s t:Bool}(hx:nodes[i]?=some x)(hy:nodes[j]?=some y)(hxi:x.inner=true)(hyi:y.inner=true)(he:child x s=child y t):i=j/\s=t:=by
 have bx:=fH (h.ok i x hx) hxi;obtain⟨c,hc⟩:∃c:Nat,child x s=(c:Int):=⟨(child x s).toNat,by unfold child;split <;> omega⟩;have hcl:c<nodes.length:=by
  unfold child at hc;split at hc <;> omega
 have h1:=h.one c hcl;have hm:min c 1<=1:=Nat.min_le_right _ _;unfold cnt at h1;have pl:∀z:ND,z.inner=true->child z true=(c:Int)->(z.inner&&z.left==(c:Int))=true:=λz hz hc'=>by simp[hz];simpa[child] using hc'
 have pr:∀z:ND,z.inner=true->child z false=(c:Int)->(z.inner&&z.right==(c:Int))=true:=λz hz hc'=>by simp[hz];simpa[child] using hc'
 have hcy:child y t=(c:Int):=he ▸ hc
 cases s <;> cases t
 .refine⟨?_,rfl⟩
  by_cases hij:i=j
  .exact hij
  .have:=PO hij hx hy (λx=>x.inner&&x.right==(c:Int)) (pr x hxi hc) (pr y hyi hcy);omega
 .have a1:=DL hx (λx=>x.inner&&x.right==(c:Int)) (pr x hxi hc);have a2:=DL hy (λx=>x.inner&&x.left==(c:Int)) (pl y hyi hcy);omega
 .have a1:=DL hx (λx=>x.inner&&x.left==(c:Int)) (pl x hxi hc);have a2:=DL hy (λx=>x.inner&&x.right==(c:Int)) (pr y hyi hcy);omega
 .refine⟨?_,rfl⟩
  by_cases hij:i=j
  .exact hij
  .have:=PO hij hx hy (λx=>x.inner&&x.left==(c:Int)) (pl x hxi hc) (pl y hyi hcy);omega
theorem Path.inv{i k:Nat}(h:Path nodes i k):(i=0/\k=0)\/∃j k' x s,k=k'+1/\Path nodes j k'/\nodes[j]?=some x/\x.inner=true/\i=(child x s).toNat:=by
 cases h with
 |root=>exact .inl ⟨rfl,rfl⟩
 |left h1 h2 h3=>exact .inr ⟨_,_,_,true,rfl,h1,h2,h3,rfl⟩
 |right h1 h2 h3=>exact .inr ⟨_,_,_,false,rfl,h1,h2,h3,rfl⟩
theorem Path.step{j k:Nat}{x:ND}(s:Bool)(h:Path nodes j k)(hx:nodes[j]?=some x)(hi:x.inner=true):Path nodes (child x s).toNat (k+1):=by
 cases s
 .exact .right h hx hi
 .exact .left h hx hi
theorem Right.level(h:Right nan nodes):∀(k:Nat) {i k':Nat},Path nodes i k->Path nodes i k'->k=k':=by
 intro k;have pos:∀ {j:Nat} {x:ND} (s:Bool),nodes[j]?=some x->x.inner=true->1<=child x s:=λs hx hi=>by
  have:=fH (h.ok _ _ hx) hi;unfold child;split <;> omega
 induction k with
 |zero=>
  intro i k' h1 h2
  rcases h1.inv with ⟨rfl,_⟩ | ⟨_,_,_,_,e,_⟩
  .rcases h2.inv with ⟨_,e⟩ | ⟨j,k2,x,s,rfl,_,hx,hi,e⟩
   .exact e.symm
   .have:=pos s hx hi;omega
  .omega
 |succ k ih=>
  intro i k' h1 h2
  rcases h1.inv with ⟨_,e⟩ | ⟨j,k1,x,s,e,hp,hx,hi,he⟩
  .omega
  .rcases h2.inv with ⟨e2,_⟩ | ⟨j',k2,y,t,rfl,hp',hy,hi',he'⟩
   .have:=pos s hx hi;omega
   .have:=pos s hx hi;have:=pos t hy hi';obtain⟨rfl,_⟩:=h.slot hx hy hi hi' (s:=s) (t:=t) (by omega);have:=ih (show Path nodes j k by rw[show k=k1 by omega];exact hp) hp';omega
theorem Path.upto{i k:Nat}(h:Path nodes i k):∃f:Nat->Nat,f k=i/\∀m,m<=k->Path nodes (f m) m:=by
 induction h with
 |root=>exact⟨λ_=>0,rfl,λm hm=>(by omega:0=m) ▸ .root⟩
 | @left i k x h1 h2 h3 ih=>
  obtain⟨f,hf,hall⟩:=ih;refine⟨λm=>if m=k+1 then x.left.toNat else f m,by simp,λm hm=>?_⟩;simp only
  split
  .rename_i e;subst e;exact .left h1 h2 h3
  .exact hall m (by omega)
 | @right i k x h1 h2 h3 ih=>
  obtain⟨f,hf,hall⟩:=ih;refine⟨λm=>if m=k+1 then x.right.toNat else f m,by simp,λm hm=>?_⟩;simp only
  split
  .rename_i e;subst e;exact .right h1 h2 h3
  .exact hall m (by omega)
theorem Right.inside(h:Right nan nodes){i k:Nat}(hp:Path nodes i k):i<nodes.length:=by
 rcases hp.inv with ⟨rfl,_⟩ | ⟨j,k',x,s,_,_,hx,hi,rfl⟩
 .exact h.pos
 .have:=fH (h.ok _ _ hx) hi;unfold child;split <;> omega
theorem Xa{n:Nat}:∀(k:Nat) (f:Nat->Nat),(∀m,m<k->f m<n)->(∀a b,a<k->b<k->f a=f b->a=b)->k<=n:=by
 intro k f h1 h2;have hnd:((List.range k).map f).Nodup:=by
  rw[List.nodup_iff_pairwise_ne,List.pairwise_map];refine List.Pairwise.imp_of_mem ?_ List.nodup_range;intro a b ha hb hne he;exact hne (h2 a b (by simpa using ha) (by simpa using hb) he)
 have hsub:(List.range k).map f ⊆ List.range n:=by
  intro x hx;obtain⟨m,hm,rfl⟩:=List.mem_map.1 hx;simpa using h1 m (by simpa using hm)
 have:=List.Nodup.length_le_of_subset hnd hsub;simpa using this
theorem Right.deep(h:Right nan nodes){i k:Nat}(hp:Path nodes i k):k<nodes.length:=by
 obtain⟨f,_,hall⟩:=hp.upto;have:=Xa (n:=nodes.length) (k+1) f (λm hm=>h.inside (hall m (by omega))) (λa b ha hb he=>by
  have h1:=hall a (by omega);have h2:=hall b (by omega);rw[he]at h1;exact h.level a h1 h2)
 omega
theorem Right.below(h:Right nan nodes):∀(m:Nat) {i k:Nat},Path nodes i k->nodes.length - k<=m->∃T,T.root=i/\Is nodes T/\∀j∈T.pre,∃k',k<=k'/\Path nodes j k':=by
 intro m
 induction m with
 |zero=>intro i k hp hm;have:=h.deep hp;omega
 |succ m ih=>
  intro i k hp hm;have hi:=h.inside hp;have hx:nodes[i]?=some nodes[i]:=List.getElem?_eq_getElem hi
  by_cases hin:(nodes[i]).inner=true
  .obtain⟨l,hl,hIl,hpl⟩:=ih (.left hp hx hin) (by omega);obtain⟨r,hr,hIr,hpr⟩:=ih (.right hp hx hin) (by omega);have b:=fH (h.ok _ _ hx) hin;refine⟨.node i l r,rfl,⟨_,hx,hin,by rw[hl];omega,by rw[hr];omega,hIl,hIr⟩,λj hj=>?_⟩;simp only[BT.pre,List.mem_cons,List.mem_append]at hj
   rcases hj with e | hj | hj
   .subst e;exact⟨k,Nat.le_refl _,hp⟩
   .obtain⟨k',h1,h2⟩:=hpl j hj;exact⟨k',by omega,h2⟩
   .obtain⟨k',h1,h2⟩:=hpr j hj;exact⟨k',by omega,h2⟩
  .exact⟨.leaf i,rfl,⟨_,hx,by simpa using hin⟩,λj hj=>by simp[BT.pre]at hj;subst hj;exact⟨k,Nat.le_refl _,hp⟩⟩
end
section
variable{nan:Nat->Bool}{nodes:List ND}
theorem BT.jP:∀T:BT,T.root∈T.pre
 | .leaf i=>by simp[BT.root,BT.pre]
 | .node i _ _=>by simp[BT.root,BT.pre]
inductive Down(nodes:List ND)(i:Nat):Nat->Nat->Prop
 |refl:Down nodes i i 0
 |step {j d x} (s:Bool):Down nodes i j d->nodes[j]?=some x->x.inner=true->Down nodes i (child x s).toNat (d+1)
theorem Down.first{i j d:Nat}{x:ND}(s:Bool)(hx:nodes[i]?=some x)(hi:x.inner=true)(h:Down nodes (child x s).toNat j d):Down nodes i j (d+1):=by
 induction h with
 |refl=>exact .step s .refl hx hi
 |step t _ h1 h2 ih=>exact .step t ih h1 h2
theorem Down.path{i j d k:Nat}(h:Down nodes i j d)(hp:Path nodes i k):Path nodes j (k+d):=by
 induction h with
 |refl=>exact hp
 |step t _ h1 h2 ih=>exact ih.step t h1 h2
theorem Is.down:∀ {T:BT},Is nodes T->∀j∈T.pre,∃d,Down nodes T.root j d
 | .leaf i,_,j,hj=>by simp[BT.pre]at hj;subst hj;exact⟨0,.refl⟩
 | .node i l r,⟨x,hx,hi,hl,hr,hIl,hIr⟩,j,hj=>by
  simp only[BT.pre,List.mem_cons,List.mem_append]at hj
  rcases hj with e | hj | hj
  .subst e;exact⟨0,.refl⟩
  .obtain⟨d,hd⟩:=Is.down hIl j hj;exact⟨d+1,Down.first true hx hi (by simpa[child,hl] using hd)⟩
  .obtain⟨d,hd⟩:=Is.down hIr j hj;exact⟨d+1,Down.first false hx hi (by simpa[child,hr] using hd)⟩
theorem Right.Fe(h:Right nan nodes){j:Nat}{x:ND}(s:Bool)(hx:nodes[j]?=some x)(hi:x.inner=true):1<=child x s/\child x s<nodes.length:=by
 have:=fH (h.ok _ _ hx) hi;unfold child;split <;> omega
theorem Right.anc(h:Right nan nodes){k:Nat}:∀(d:Nat) {i i' j:Nat},Path nodes i k->Path nodes i' k->Down nodes i j d->Down nodes i' j d->i=i':=by
 intro d
 induction d with
 |zero=>intro i i' j _ _ h1 h2;cases h1;cases h2;rfl
 |succ d ih=>
  intro i i' j hp hp' h1 h2
  cases h1 with
  | @step a _ x s g1 gx gi=>
   obtain⟨b,y,t,g2,gy,gi',e⟩:∃b y t,Down nodes i' b d/\nodes[b]?=some y/\y.inner=true/\(child x s).toNat=(child y t).toNat:=by
    generalize hj:(child x s).toNat=j at h2
    cases h2 with
    | @step b _ y t g2 gy gi'=>exact⟨b,y,t,g2,gy,gi',rfl⟩
   have:=h.Fe s gx gi;have:=h.Fe t gy gi';obtain⟨rfl,_⟩:=h.slot gx gy gi gi' (s:=s) (t:=t) (by omega);exact ih hp hp' g1 g2
theorem Right.nodup(h:Right nan nodes):∀ {T:BT} {k:Nat},Is nodes T->Path nodes T.root k->T.pre.Nodup
 | .leaf i,_,_,_=>by simp[BT.pre]
 | .node i l r,k,⟨x,hx,hi,hl,hr,hIl,hIr⟩,hp=>by
  have pl:Path nodes l.root (k+1):=by have:=Path.step true hp hx hi;simpa[child,hl] using this
  have pr:Path nodes r.root (k+1):=by have:=Path.step false hp hx hi;simpa[child,hr] using this
  simp only[BT.pre,List.nodup_cons,List.mem_append,not_or,List.nodup_append];refine⟨⟨λhm=>?_,λhm=>?_⟩,h.nodup hIl pl,h.nodup hIr pr,λa ha b hb e=>?_⟩
  .obtain⟨d,hd⟩:=hIl.down _ hm;have:=h.level _ (hd.path pl) hp;omega
  .obtain⟨d,hd⟩:=hIr.down _ hm;have:=h.level _ (hd.path pr) hp;omega
  .subst e;obtain⟨d,hd⟩:=hIl.down _ ha;obtain⟨d',hd'⟩:=hIr.down _ hb;have e1:=h.level _ (hd.path pl) (hd'.path pr);obtain rfl:d=d':=by omega
   have e2:=h.anc d pl pr hd hd';have:=(h.slot hx hx hi hi (s:=true) (t:=false) (by simp only[child,if_true,Bool.false_eq_true,if_false];omega)).2;cases this
theorem Is.child:∀ {T:BT},Is nodes T->∀ {i:Nat} {x:ND},i∈T.pre->nodes[i]?=some x->x.inner=true->x.left.toNat∈T.pre/\x.right.toNat∈T.pre
 | .leaf i,⟨y,hy,hn⟩,j,x,hj,hx,hi=>by
  simp[BT.pre]at hj;subst hj;rw[hy]at hx;cases hx;rw[hn]at hi;cases hi
 | .node i l r,⟨y,hy,hn,hl,hr,hIl,hIr⟩,j,x,hj,hx,hi=>by
  simp only[BT.pre,List.mem_cons,List.mem_append]at hj ⊢
  rcases hj with e | hj | hj
  .subst e;rw[hy]at hx;cases hx;rw[hl,hr];exact⟨.inr (.inl (by simpa using l.jP)),.inr (.inr (by simpa using r.jP))⟩
  .have:=Is.child hIl hj hx hi;exact⟨.inr (.inl this.1),.inr (.inl this.2)⟩
  .have:=Is.child hIr hj hx hi;exact⟨.inr (.inr this.1),.inr (.inr this.2)⟩
structure Tree(nan:Nat->Bool)(nodes:List ND)(T:BT):Prop where
 right:Right nan nodes
 root:T.root=0
 is:Is nodes T
 nodup:T.pre.Nodup
 mem:∀j,j∈T.pre↔j<nodes.length
theorem Right.tree(h:Right nan nodes):∃T,Tree nan nodes T:=by
 obtain⟨T,h0,hI,hp⟩:=h.below nodes.length (.root (nodes:=nodes)) (by omega);refine⟨T,h,h0,hI,h.nodup (k:=0) hI (by rw[h0];exact .root),λj=>⟨λhj=>?_,λhj=>?_⟩⟩
 .obtain⟨k,_,hk⟩:=hp j hj;exact h.inside hk
 .obtain⟨k,hk⟩:=h.path j hj;clear hj
  induction hk with
  |root=>rw[<- h0];exact T.jP
  |left _ hx hi ih=>exact(hI.child ih hx hi).1
  |right _ hx hi ih=>exact(hI.child ih hx hi).2
theorem Tree.length{T:BT}(h:Tree nan nodes T):T.pre.length=nodes.length:=by
 apply Nat.le_antisymm
 .have:=List.Nodup.length_le_of_subset h.nodup (l₂:=List.range nodes.length) (λj hj=>by simpa using(h.mem j).1 hj);simpa using this
 .have:=List.Nodup.length_le_of_subset (List.nodup_range (n:=nodes.length)) (l₂:=T.pre) (λj hj=>(h.mem j).2 (by simpa using hj));simpa using this
theorem NK(h:(dY nan nodes).1=0):∃T,Tree nan nodes T:=(TI h).tree
end
def BT.leaves:BT->List Nat
 | .leaf i=>[i]
 | .node _ l r=>l.leaves++r.leaves
def BT.depth:BT->Nat
 | .leaf _=>0
 | .node _ l r=>1+max l.depth r.depth
def BT.Nb:BT->Nat->List (Nat×Nat)
 | .leaf i,d=>[(i,d)]
 | .node i l r,d=>(i,d)::(l.Nb (d+1)++r.Nb (d+1))
theorem BT.yz:∀(T:BT) (d:Nat),(T.Nb d).map (·.1)=T.pre
 | .leaf _,_=>rfl
 | .node _ l r,d=>by simp[BT.Nb,BT.pre,l.yz,r.yz]
theorem BT.uh(T:BT)(d:Nat):(T.Nb d).length=T.size:=by rw[<- BT.gU,<- T.yz d,List.length_map]
theorem Is.leaves{nodes:List ND}:∀ {T:BT},Is nodes T->T.leaves=T.pre.filter λi => !((nodes[i]?.map ND.inner).getD false)
 | .leaf i,⟨x,hx,hn⟩=>by simp[BT.leaves,BT.pre,hx,hn]
 | .node i l r,⟨x,hx,hi,_,_,hl,hr⟩=>by
  simp[BT.leaves,BT.pre,List.filter_cons,hx,hi,List.filter_append,Is.leaves hl,Is.leaves hr]
theorem Dy(l:List ND)(x:ND)(j:Nat):cnt (l++[x]) j=cnt l j+(if x.inner&&x.left==(j:Int) then 1 else 0)+(if x.inner&&x.right==(j:Int) then 1 else 0):=by
 unfold cnt;simp only[List.filter_append,List.length_append];have h:∀p:ND->Bool,(List.filter p [x]).length=if p x then 1 else 0:=λp=>by
  by_cases hp:p x=true
  .simp[hp]
  .simp[hp]
 rw[h,h];omega
theorem cnt_le(l:List ND)(j:Nat):cnt l j<=2*l.length:=by
 unfold cnt;have h1:=List.length_filter_le (λx:ND=>x.inner&&x.left==(j:Int)) l;have h2:=List.length_filter_le (λx:ND=>x.inner&&x.right==(j:Int)) l;omega
def AP(l:List ND)(n:Nat):List Int:=(List.range n).map λj=>(cnt l j:Int)
theorem kD(l:List ND)(n:Nat):(AP l n).length=n:=by simp[AP]
theorem ni(l:List ND){n j:Nat}(hj:j<n):(AP l n)[j]?=some (cnt l j:Int):=by simp[AP,hj]
theorem Iy(n:Nat):AP [] n=List.replicate n 0:=by
 apply List.ext_getElem?;intro i
 by_cases hi:i<n
 .rw[ni _ hi,List.getElem?_replicate,if_pos hi];rfl
 .rw[List.getElem?_eq_none (by rw[kD];omega),List.getElem?_eq_none (by simp;omega)]
theorem Ew{l:List ND}{x:ND}(h:x.inner=false)(n:Nat):AP (l++[x]) n=AP l n:=by
 unfold AP;apply List.map_congr_left;intro j _;rw[Dy,h];simp
theorem BI{l:List ND}{x:ND}(h:x.inner=true){n lf rg:Nat}(hl:x.left=(lf:Int))(hr:x.right=(rg:Int))(hln:lf<n)(hrn:rg<n) :
  ∃y,((AP l n).set lf ((cnt l lf:Int)+1))[rg]?=some y/\0<=y/\y<=2*l.length+1/\((AP l n).set lf ((cnt l lf:Int)+1)).set rg (y+1)=AP (l++[x]) n:=by
 have e:∀j:Nat,(cnt (l++[x]) j:Int)=cnt l j+(if lf=j then 1 else 0)+(if rg=j then 1 else 0):=λj=>by
  rw[Dy,h,hl,hr];simp only[Bool.true_and,beq_iff_eq,Int.ofNat_inj]
  split <;> split <;> simp_all
 have c1:=cnt_le l rg;have c2:=cnt_le l lf;refine⟨(cnt l rg:Int)+(if lf=rg then 1 else 0),?_,by split <;> omega,by split <;> omega,?_⟩
 .by_cases hx:lf=rg
  .subst hx;rw[List.getElem?_set_self (by rw[kD];exact hln),if_pos rfl]
  .rw[List.getElem?_set_ne hx,ni _ hrn,if_neg hx];simp
 .apply List.ext_getElem?;intro i
  by_cases hi:i<n
  .rw[ni _ hi,e i]
   by_cases h1:rg=i
   .subst h1;rw[List.getElem?_set_self (by rw[List.length_set,kD];exact hrn),if_pos rfl]
   .rw[List.getElem?_set_ne h1,if_neg h1]
    by_cases h2:lf=i
    .subst h2;rw[List.getElem?_set_self (by rw[kD];exact hln),if_pos rfl];simp
    .rw[List.getElem?_set_ne h2,if_neg h2,ni _ hi];simp
  .rw[List.getElem?_eq_none (by rw[List.length_set,List.length_set,kD];omega),List.getElem?_eq_none (by rw[kD];omega)]
def cf(r:List Bool):Nat:=(r.filter λb => !b).length
theorem Pv:∀ {r:List Bool} {i:Nat},r[i]?=some false->cf (r.set i true)+1=cf r
 | [],_,h=>by simp at h
 |b::r,0,h=>by simp at h;subst h;simp[cf]
 |b::r,i+1,h=>by
  have:=Pv (r:=r) (i:=i) (by simpa using h)
  cases b <;> simp[cf]at this ⊢ <;> omega
theorem xH(n:Nat):cf (List.replicate n false)=n:=by simp[cf]
section
variable{nodes:List ND}{r:List Bool}{st:List Nat}{f i:Nat}{x:ND}
theorem yS:dfs nodes f r []=r:=by cases f <;> rfl
theorem J3(h:r[i]?=some true):dfs nodes (f+1) r (i::st)=dfs nodes f r st:=by
 rw[dfs,if_pos (by rw[List.getD_eq_getElem?_getD,h];rfl)]
theorem J8(h:r[i]?=some false)(hx:nodes[i]?=some x):dfs nodes (f+1) r (i::st)=dfs nodes f (r.set i true) (if x.inner then x.right.toNat::x.left.toNat::st else st):=by
 rw[dfs,if_neg (by rw[List.getD_eq_getElem?_getD,h];simp),hx]
end
theorem wu{nodes:List ND}:∀(f:Nat) (r:List Bool) (st:List Nat),(dfs nodes f r st).length=r.length
 |0,_,_=>rfl
 |f+1,r,[]=>rfl
 |f+1,r,i::st=>by
  unfold dfs
  split
  .exact wu f r st
  .split
   .rfl
   .rw[wu f];simp
theorem kK(nodes:List ND):(reached nodes).length=nodes.length:=by unfold reached;rw[wu];simp
def stk(st:List Nat):List Int:=st.reverse.map λ(i:Nat)=>(i:Int)
theorem yF(i:Nat)(st:List Nat):(stk (i::st))[st.length]?=some (i:Int):=by simp[stk]
theorem CQ(i:Nat)(st:List Nat):(stk (i::st)).take st.length=stk st:=by simp[stk]
theorem yK(st:List Nat)(a b:Nat):stk st++[(a:Int),(b:Int)]=stk (b::a::st):=by simp[stk]
theorem jL{α:Type}{p:Nat->α->Bool}{i:Nat}{x:α}{l:List α}:dS p i (x::l)=if p i x then dS p (i+1) l else some i:=rfl
end Go.Tr
namespace Go.Tr
def qg(l:List Nat):List Int:=l.map λ(i:Nat)=>(i:Int)
def FM(Ts:List BT):Nat:=(Ts.map BT.size).sum
def sQ(Ts:List BT):List Nat:=Ts.flatMap BT.pre
theorem Hu(Ts:List BT):(sQ Ts).length=FM Ts:=by
 induction Ts with
 |nil=>rfl
 |cons T Ts ih=>
  simp only[sQ,FM,List.flatMap_cons,List.length_append,List.map_cons,List.sum_cons,BT.gU]at ih ⊢;omega
theorem oQ(Ts:List BT):Ts.length<=FM Ts:=by
 induction Ts with
 |nil=>simp
 |cons T Ts ih=>have:=T.size_pos;simp only[FM,List.map_cons,List.sum_cons,List.length_cons]at ih ⊢;omega
theorem fZ(T:BT)(Ts:List BT):FM (T::Ts)=T.size+FM Ts:=by simp[FM]
theorem Is.root_lt{nodes:List ND}:∀ {T:BT},Is nodes T->T.root<nodes.length
 | .leaf i,⟨x,hx,_⟩=>(List.getElem?_eq_some_iff.1 hx).1
 | .node i _ _,⟨x,hx,_⟩=>(List.getElem?_eq_some_iff.1 hx).1
theorem pJ(l:List Nat):(qg l).length=l.length:=by simp[qg]
theorem zx(l r:List Nat):qg (l++r)=qg l++qg r:=by simp[qg]
end Go.Tr
namespace Go.Tr
abbrev BD:=BT×Nat
def Rl(Ts:List BD):Nat:=(Ts.map λx=>x.1.size).sum
def Dw(Ts:List BD):List (Nat×Nat):=Ts.flatMap λx=>x.1.Nb x.2
def EJ(l:List (Nat×Nat)):List (Int×Int):=l.map λx=>((x.1:Int),(x.2:Int))
def Q8(Ts:List BD):List (Int×Int):=EJ (Ts.reverse.map λx=>(x.1.root,x.2))
theorem qi(T:BD)(Ts:List BD):Rl (T::Ts)=T.1.size+Rl Ts:=by simp[Rl]
theorem zJ(Ts:List BD):Ts.length<=Rl Ts:=by
 induction Ts with
 |nil=>simp
 |cons T Ts ih=>have:=T.1.size_pos;simp only[Rl,List.map_cons,List.sum_cons,List.length_cons]at ih ⊢;omega
theorem EC(Ts:List BD):(Dw Ts).length=Rl Ts:=by
 induction Ts with
 |nil=>rfl
 |cons T Ts ih=>
  simp only[Dw,Rl,List.flatMap_cons,List.length_append,List.map_cons,List.sum_cons,BT.uh]at ih ⊢;omega
theorem Qp(T:BD)(Ts:List BD):(Q8 (T::Ts))[Ts.length]?=some ((T.1.root:Int),(T.2:Int)):=by simp[Q8,EJ]
theorem TU(T:BD)(Ts:List BD):(Q8 (T::Ts)).take Ts.length=Q8 Ts:=by simp[Q8,EJ]
theorem Qy(Ts:List BD)(A B:BD):Q8 Ts++[((A.1.root:Int),(A.2:Int)),((B.1.root:Int),(B.2:Int))]=Q8 (B::A::Ts):=by simp[Q8,EJ]
theorem sK(l:List (Nat×Nat)):(EJ l).length=l.length:=by simp[EJ]
end Go.Tr
namespace Go.Tr
open Go
section
variable{nan:Nat->Bool}{nodes:List ND}
def kids:BT->List Nat
 | .leaf _=>[]
 | .node _ l r=>l.root::r.root::(kids l++kids r)
theorem wX(j:Nat):∀T:BT,(kids T).count j+(if T.root=j then 1 else 0)=T.pre.count j
 | .leaf i=>by
  rw[show(BT.leaf i).root=i from rfl];simp only[kids,BT.pre,List.count_cons,List.count_nil,beq_iff_eq]
 | .node i l r=>by
  have hl:=wX j l;have hr:=wX j r;rw[show(BT.node i l r).root=i from rfl];simp only[kids,BT.pre,List.count_cons,List.count_append,beq_iff_eq];omega
def names(nodes:List ND)(j i:Nat):Nat:=match nodes[i]? with
 |some x=>(if x.inner&&x.left==(j:Int) then 1 else 0)+(if x.inner&&x.right==(j:Int) then 1 else 0)
 |none=>0
theorem wQ(j:Nat):∀ {T:BT},Is nodes T->(T.pre.map (names nodes j)).sum=(kids T).count j
 | .leaf i,⟨x,hx,hn⟩=>by simp[BT.pre,names,hx,hn,kids]
 | .node i l r,⟨x,hx,hn,hl,hr,hIl,hIr⟩=>by
  have h1:=wQ j hIl;have h2:=wQ j hIr;have e:names nodes j i=(if l.root=j then 1 else 0)+(if r.root=j then 1 else 0):=by
   unfold names;rw[hx]
   by_cases c1:l.root=j <;> by_cases c2:r.root=j <;> simp[hn,hl,hr,c1,c2] <;> omega
  simp only[BT.pre,kids,List.map_cons,List.map_append,List.sum_cons,List.sum_append,List.count_cons,List.count_append,h1,h2,e,beq_iff_eq];omega
theorem WB(l:List ND)(j:Nat):cnt l j=((List.range l.length).map (names l j)).sum:=by
 have key:∀(m:Nat),m<=l.length->cnt (l.take m) j=((List.range m).map (names l j)).sum:=by
  intro m
  induction m with
  |zero=>intro _;simp[cnt]
  |succ m ih=>
   intro hm;have hx:l[m]?=some (l[m]'(by omega)):=List.getElem?_eq_getElem _;rw[List.take_succ_eq_append_getElem (by omega),Dy,ih (by omega),List.range_succ,List.map_append,List.sum_append];simp only[List.map_cons,List.map_nil,List.sum_cons,List.sum_nil,names,hx];omega
 have:=key l.length (Nat.le_refl _)
 rwa [List.take_length]at this
theorem BG{l:List Nat}{n:Nat}(hnd:l.Nodup)(hm:∀j,j∈l↔j<n):l.Perm (List.range n):=by
 refine(List.perm_ext_iff_of_nodup hnd List.nodup_range).2 λa=>?_;rw[hm,List.mem_range]
theorem Tz{T:BT}(hI:Is nodes T)(h0:T.root=0)(hnd:T.pre.Nodup)(hm:∀j,j∈T.pre↔j<nodes.length){j:Nat}(hj:j<nodes.length):cnt nodes j=min j 1:=by
 rw[WB,<- ((BG hnd hm).map (names nodes j)).sum_nat,wQ j hI];have h1:=wX j T;have h2:T.pre.count j=1:=by rw[hnd.count,if_pos ((hm j).2 hj)]
 rw[h2,h0]at h1
 split at h1 <;> omega
theorem yO:∀(m:Nat) (Ts:List BT) (f:Nat) (r:List Bool),FM Ts<=m->FM Ts<=f->(∀U∈Ts,Is nodes U)->(sQ Ts).Nodup->(∀i∈sQ Ts,r[i]?=some false)->∀j,(dfs nodes f r (Ts.map BT.root))[j]?=if j∈sQ Ts then some true else r[j]?
 |_,[],f,r,_,_,_,_,_,j=>by simp[yS,sQ]
 |0,T::Ts,f,r,hm,_,_,_,_,j=>by rw[fZ]at hm;have:=T.size_pos;omega
 |m+1,T::Ts,f,r,hm,hf,hI,hnd,hr,j=>by
  rw[fZ]at hm hf;have hp:=T.size_pos;obtain⟨f,rfl⟩:∃f',f=f'+1:=⟨f - 1,by omega⟩;have hIT:=hI T (by simp);have hrt:r[T.root]?=some false:=hr _ (by simp[sQ,T.jP]);have hlt:=(List.getElem?_eq_some_iff.1 hrt).1;rw[List.map_cons]
  cases T with
  |leaf i=>
   obtain⟨x,hx,hn⟩:=hIT;simp only[BT.size]at hm hf;have hps:sQ (.leaf i::Ts)=i::sQ Ts:=by simp[sQ,BT.pre]
   rw[hps]at hnd hr ⊢;have hrt':r[i]?=some false:=hrt;have hlt':i<r.length:=hlt;rw[show BT.root (.leaf i)=i from rfl,J8 hrt' hx,hn];simp only[Bool.false_eq_true,if_false];rw[List.nodup_cons]at hnd;rw[yO m Ts f (r.set i true) (by omega) (by omega) (λU hU=>hI U (by simp[hU])) hnd.2 (λk hk=>by
    rw[List.getElem?_set_ne (λe=>hnd.1 (by rw[e];exact hk))];exact hr k (by simp[hk])) j]
   by_cases hj:j=i
   .subst hj;rw[if_neg hnd.1,if_pos (by simp),List.getElem?_set_self hlt']
   .simp only[List.mem_cons,hj,false_or];rw[List.getElem?_set_ne (λe=>hj e.symm)]
  |node i l r' =>
   obtain⟨x,hx,hn,hl,hr',hIl,hIr⟩:=hIT;simp only[BT.size]at hm hf;have hps:sQ (.node i l r'::Ts)=i::(l.pre++r'.pre++sQ Ts):=by simp[sQ,BT.pre]
   have hps2:sQ (r'::l::Ts)=r'.pre++(l.pre++sQ Ts):=by simp[sQ]
   rw[hps]at hnd hr ⊢;have hrt':r[i]?=some false:=hrt;have hlt':i<r.length:=hlt;rw[show BT.root (.node i l r')=i from rfl,J8 hrt' hx,hn];simp only[if_true];rw[hl,hr',Int.toNat_natCast,Int.toNat_natCast];rw[List.nodup_cons]at hnd;have hpm:(sQ (r'::l::Ts)).Perm (l.pre++r'.pre++sQ Ts):=by
    rw[hps2,<- List.append_assoc];exact List.Perm.append_right _ List.perm_append_comm
   have ih:=yO m (r'::l::Ts) f (r.set i true) (by rw[fZ,fZ];omega) (by rw[fZ,fZ];omega) (λU hU=>by
    simp only[List.mem_cons]at hU
    rcases hU with h | h | h
    .subst h;exact hIr
    .subst h;exact hIl
    .exact hI U (by simp[h])) (hpm.nodup_iff.2 hnd.2) (λk hk=>by
    have hk':=hpm.mem_iff.1 hk;rw[List.getElem?_set_ne (λe=>hnd.1 (by rw[e];exact hk'))];exact hr k (by simp only[List.mem_cons];exact .inr hk')) j
   rw[List.map_cons,List.map_cons]at ih;rw[ih];have hmem:j∈sQ (r'::l::Ts)↔j∈l.pre++r'.pre++sQ Ts:=hpm.mem_iff
   by_cases hj:j=i
   .subst hj;rw[if_neg (λh=>hnd.1 (hmem.1 h)),if_pos (by simp),List.getElem?_set_self hlt']
   .by_cases hjm:j∈l.pre++r'.pre++sQ Ts
    .rw[if_pos (hmem.2 hjm),if_pos (List.mem_cons_of_mem _ hjm)]
    .have hnj:¬ j∈i::(l.pre++r'.pre++sQ Ts):=λh=>(List.mem_cons.1 h).elim hj hjm;rw[if_neg (λh=>hjm (hmem.1 h)),if_neg hnj,List.getElem?_set_ne (λe=>hj e.symm)]
theorem qj{α:Type}{p:Nat->α->Bool}:∀ {l:List α} {k:Nat},(∀i x,l[i]?=some x->p (k+i) x=true)->dS p k l=none
 | [],_,_=>rfl
 |y::l,k,h=>by
  rw[jL,if_pos (by simpa using h 0 y rfl)];exact qj λi x hx=>by have:=h (i+1) x (by simpa using hx);rwa [show k+1+i=k+(i+1) by omega]
theorem AQ{T:BT}(hI:Is nodes T)(h0:T.root=0)(hnd:T.pre.Nodup)(hm:∀j,j∈T.pre↔j<nodes.length)(hok:∀(i:Nat) x,nodes[i]?=some x->fD nan x nodes.length=true):dY nan nodes=(0,0):=by
 have hlen:T.pre.length=nodes.length:=by rw[(BG hnd hm).length_eq,List.length_range]
 have hsz:T.size=nodes.length:=by rw[<- BT.gU,hlen]
 have hre:∀j,j<nodes.length->(reached nodes).getD j false=true:=by
  intro j hj;have:=yO (nodes:=nodes) (FM [T]) [T] (3*nodes.length+2) (List.replicate nodes.length false) (Nat.le_refl _) (by simp[FM];omega) (λU hU=>by simp at hU;subst hU;exact hI) (by simpa[sQ] using hnd) (λi hi=>by
   rw[List.getElem?_replicate,if_pos ((hm i).1 (by simpa[sQ] using hi))]) j
  rw[if_pos (by simpa[sQ] using(hm j).2 hj)]at this;unfold reached;rw[List.getD_eq_getElem?_getD];simp only[List.map_cons,List.map_nil,h0]at this;rw[this];rfl
 unfold dY;rw[if_neg (by rintro rfl;have:=T.size_pos;simp at hsz;omega)];rw[qj (λi x hx=>hok i x hx)];simp only;rw[qj (λi x hx=>?_)];have hlt:=(List.getElem?_eq_some_iff.1 hx).1;rw[Nat.zero_add,Tz hI h0 hnd hm hlt,hre i hlt];simp
end
def BT.KO(f:Nat->Nat):BT->BT
 | .leaf i => .leaf (f i)
 | .node i l r => .node (f i) (l.KO f) (r.KO f)
section
variable{f:Nat->Nat}
theorem BT.uZ:∀T:BT,(T.KO f).root=f T.root
 | .leaf _=>rfl
 | .node _ _ _=>rfl
theorem BT.DY:∀T:BT,(T.KO f).pre=T.pre.map f
 | .leaf _=>rfl
 | .node _ l r=>by simp[BT.KO,BT.pre,l.DY,r.DY]
theorem BT.jZ:∀T:BT,(T.KO f).leaves=T.leaves.map f
 | .leaf _=>rfl
 | .node _ l r=>by simp[BT.KO,BT.leaves,l.jZ,r.jZ]
end
def lS(pre:List Nat)(x:ND):ND:=if x.inner then { x with left:=(pre.idxOf x.left.toNat:Int),right:=(pre.idxOf x.right.toNat:Int) } else x
def pO(pre:List Nat)(nodes:List ND):List ND:=pre.map λi=>lS pre (nodes.getD i default)
theorem tq(pre:List Nat)(x:ND):(lS pre x).inner=x.inner:=by
 unfold lS
 split
 .rfl
 .rfl
theorem MH(pre:List Nat)(x:ND):(lS pre x).aT=x.aT:=by unfold lS;split <;> rfl
theorem H6(pre:List Nat)(x:ND):(lS pre x).value=x.value:=by unfold lS;split <;> rfl
theorem D9(pre:List Nat)(x:ND):(lS pre x).feature=x.feature:=by unfold lS;split <;> rfl
theorem OY(pre:List Nat)(x:ND):(lS pre x).thr=x.thr:=by unfold lS;split <;> rfl
theorem DC(pre:List Nat)(nodes:List ND):(pO pre nodes).length=pre.length:=by simp[pO]
section
variable{nan:Nat->Bool}{nodes:List ND}{T:BT}
theorem Gq{pre:List Nat}{i:Nat}(h:i∈pre):pre[pre.idxOf i]?=some i:=by
 rw[List.getElem?_eq_getElem (List.idxOf_lt_length_iff.2 h),List.getElem_idxOf]
theorem Tree.uS(h:Tree nan nodes T){i:Nat}{x:ND}(hx:nodes[i]?=some x):(pO T.pre nodes)[T.pre.idxOf i]?=some (lS T.pre x):=by
 have hi:i∈T.pre:=(h.mem i).2 (List.getElem?_eq_some_iff.1 hx).1;unfold pO;rw[List.getElem?_map,Gq hi];simp only[Option.map_some];rw[List.getD_eq_getElem?_getD,hx];rfl
theorem Tree.yC(h:Tree nan nodes T):∀ {U:BT},Is nodes U->Is (pO T.pre nodes) (U.KO T.pre.idxOf)
 | .leaf i,⟨x,hx,hn⟩=>⟨_,h.uS hx,by rw[tq];exact hn⟩
 | .node i l r,⟨x,hx,hn,hl,hr,hIl,hIr⟩=>by
  refine⟨_,h.uS hx,by rw[tq];exact hn,?_,?_,h.yC hIl,h.yC hIr⟩
  .rw[BT.uZ];unfold lS;rw[if_pos hn];simp only[hl,Int.toNat_natCast]
  .rw[BT.uZ];unfold lS;rw[if_pos hn];simp only[hr,Int.toNat_natCast]
theorem idx_range{l:List Nat}(hnd:l.Nodup):l.map l.idxOf=List.range l.length:=by
 apply List.ext_getElem
 .simp
 .intro i h1 h2;simp only[List.getElem_map,List.getElem_range];exact hnd.idxOf_getElem i (by simpa using h1)
theorem Tree.FB(h:Tree nan nodes T):(T.KO T.pre.idxOf).pre=List.range nodes.length:=by
 rw[BT.DY,idx_range h.nodup,h.length]
theorem Tree.DT(h:Tree nan nodes T):T.pre.idxOf 0=0:=by
 have hr:=h.root
 cases T with
 |leaf i=>simp only[BT.root]at hr;subst hr;simp[BT.pre]
 |node i l r=>simp only[BT.root]at hr;subst hr;simp[BT.pre]
theorem Tree.Qb(h:Tree nan nodes T){i:Nat}(hi:i∈T.pre)(h1:1<=i):1<=T.pre.idxOf i/\T.pre.idxOf i<nodes.length:=by
 refine⟨?_,by rw[<- h.length];exact List.idxOf_lt_length_iff.2 hi⟩
 rcases Nat.eq_zero_or_pos (T.pre.idxOf i) with h0 | h0
 .exfalso;have e1:=Gq hi;have e2:=Gq (pre:=T.pre) (i:=0) ((h.mem 0).2 h.right.pos);rw[h.DT]at e2;rw[h0,e2]at e1;have:(0:Nat)=i:=by simpa using e1
  omega
 .exact h0
theorem H8{x:ND}{n a b:Int}(h:fD nan x n=true)(hi:x.inner=true)(h1:1<=a)(h2:a<n)(h3:1<=b)(h4:b<n):fD nan { x with left:=a,right:=b } n=true:=by
 have inn:jq x n=true->jq { x with left:=a,right:=b } n=true:=by
  unfold jq;simp only[Bool.and_eq_true,decide_eq_true_eq];rintro⟨⟨⟨⟨⟨⟨⟨a1,a2⟩,a3⟩,a4⟩,a5⟩,a6⟩,a7⟩,a8⟩;exact⟨⟨⟨⟨⟨⟨⟨a1,a2⟩,a3⟩,a4⟩,h1⟩,h2⟩,h3⟩,h4⟩
 unfold fD at h ⊢
 by_cases k1:x.kind=1
 .unfold ND.inner at hi;rw[k1]at hi;cases hi
 rw[if_neg k1]at h ⊢
 by_cases k2:x.kind=2
 .rw[if_pos k2]at h ⊢;simp only[Bool.and_eq_true]at h ⊢;exact⟨h.1,inn h.2⟩
 rw[if_neg k2]at h ⊢
 by_cases k3:x.kind=3
 .rw[if_pos k3]at h ⊢;simp only[Bool.and_eq_true]at h ⊢;exact⟨h.1,inn h.2⟩
 .rw[if_neg k3]at h;cases h
theorem Tree.QS(h:Tree nan nodes T){k:Nat}{y:ND}(hy:(pO T.pre nodes)[k]?=some y):fD nan y nodes.length=true:=by
 unfold pO at hy;rw[List.getElem?_map]at hy;obtain⟨i,hi,rfl⟩:=Option.map_eq_some_iff.1 hy;have him:=List.mem_of_getElem? hi;have hlt:=(h.mem i).1 him;have hx:nodes[i]?=some nodes[i]:=List.getElem?_eq_getElem hlt;rw[List.getD_eq_getElem?_getD,hx];simp only[Option.getD_some];have hok:=h.right.ok i _ hx
 by_cases hin:(nodes[i]).inner=true
 .have hb:=fH hok hin;have hc:=h.is.child him hx hin;have p1:=h.Qb hc.1 (by omega);have p2:=h.Qb hc.2 (by omega);unfold lS;rw[if_pos hin];exact H8 hok hin (by omega) (by omega) (by omega) (by omega)
 .unfold lS;rw[if_neg hin];exact hok
theorem Tree.Hr(h:Tree nan nodes T):dY nan (pO T.pre nodes)=(0,0):=by
 have hl:(pO T.pre nodes).length=nodes.length:=by rw[DC,h.length]
 refine AQ (h.yC h.is) ?_ ?_ ?_ ?_
 .rw[BT.uZ,h.root,h.DT]
 .rw[h.FB];exact List.nodup_range
 .intro j;rw[h.FB,List.mem_range,hl]
 .intro k y hy;rw[hl];exact h.QS hy
end
end Go.Tr
