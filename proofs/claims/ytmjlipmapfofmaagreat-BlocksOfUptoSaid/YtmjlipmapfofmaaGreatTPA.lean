/- Plain theory of trees of nodes; no conditions. -/
import GoSem.Core.Value
set_option linter.unusedVariables false
set_option linter.unusedSimpArgs false
set_option linter.unusedSectionVars false
namespace Go.Tr
open Go
structure ND where
 kind:Int
 value:Int
 feature:Int
 thr:Nat
 bH:List Int
 missing:Int
 left:Int
 right:Int
deriving DecidableEq,Inhabited
structure TD where
 output:Int
 nodes:List ND
deriving DecidableEq,Inhabited
structure ED where
 name:ByteArray
 features:List ByteArray
 outputs:Int
 base:List Int
 trees:List TD
def ND.inner (x:ND):Bool:=x.kind==2||x.kind==3
def eQ (last:Int):List Int→Bool
 | []=>true
 | c::l=>decide (last<c)&&decide (c<1024)&&eQ c l
def nZ (l:List Int):Bool := !l.isEmpty&&eQ (-1) l
def jB (x:ND) (n:Int):Bool :=
 x.value==0&&decide (0≤x.feature)&&decide (x.feature<65536)&&(x.missing==1||x.missing==2)&&decide (1≤x.left)&&decide (x.left<n)&&decide (1≤x.right)&&decide (x.right<n)
def fC (nan:Nat→Bool) (x:ND) (n:Int):Bool :=
 if x.kind=1 then x.feature==0&&x.thr==0&&x.bH.isEmpty&&x.missing==0&&x.left==0&&x.right==0
 else if x.kind=2 then !nan x.thr&&x.bH.isEmpty&&jB x n
 else if x.kind=3 then x.thr==0&&nZ x.bH&&jB x n
 else false
def cnt (l:List ND) (j:Nat):Nat:=(l.filter fun x=>x.inner&&x.left==(j:Int)).length+(l.filter fun x=>x.inner&&x.right==(j:Int)).length
def dfs (nodes:List ND):Nat→List Bool→List Nat→List Bool
 | 0,r,_=>r
 | _+1,r,[]=>r
 | f+1,r,i::st=>if r.getD i true then dfs nodes f r st else
   match nodes[i]? with
   | none=>r
   | some x=>dfs nodes f (r.set i true) (if x.inner then x.right.toNat::x.left.toNat::st else st)
def reached (nodes:List ND):List Bool:=dfs nodes (3*nodes.length+2) (List.replicate nodes.length false) [0]
def dH {α:Type} (p:Nat→α→Bool):Nat→List α→Option Nat
 | _,[]=>none
 | i,x::l=>if p i x then dH p (i+1) l else some i
def fM (nan:Nat→Bool) (nodes:List ND):Int×Int :=
 if nodes=[] then (70,0) else
 match dH (fun _ x=>fC nan x nodes.length) 0 nodes with
 | some i=>(71,i)
 | none=>match dH (fun i _=>cnt nodes i==min i 1&&(reached nodes).getD i false) 0 nodes with
  | some i=>(70,i)
  | none=>(0,0)
inductive BT where
 | leaf (i:Nat)
 | node (i:Nat) (l r:BT)
def BT.root:BT→Nat
 | .leaf i=>i
 | .node i _ _=>i
def BT.pre:BT→List Nat
 | .leaf i=>[i]
 | .node i l r=>i::(l.pre++r.pre)
def BT.size:BT→Nat
 | .leaf _=>1
 | .node _ l r=>1+l.size+r.size
theorem BT.gW:∀ T:BT,T.pre.length=T.size
 | .leaf _=>rfl
 | .node _ l r=>by simp [BT.pre,BT.size,l.gW,r.gW]; omega
theorem BT.size_pos:∀ T:BT,0<T.size
 | .leaf _=>by simp [BT.size]
 | .node _ _ _=>by simp [BT.size]; omega
def Is (nodes:List ND):BT→Prop
 | .leaf i=>∃ x,nodes[i]?=some x∧x.inner=false
 | .node i l r=>∃ x,nodes[i]?=some x∧x.inner=true∧x.left=(l.root:Int)∧x.right=(r.root:Int)∧Is nodes l∧Is nodes r
theorem jX {α:Type} {p:Nat→α→Bool}:∀ {l:List α} {k:Nat},dH p k l=none→∀ i x,l[i]?=some x→p (k+i) x=true
 | [],_,_,i,x,h=>by simp at h
 | y::l,k,h,i,x,hx=>by
  unfold dH at h
  split at h
  ·rename_i hp
   cases i with
   | zero=>simp at hx; subst hx; simpa using hp
   | succ i=>have:=jX h i x (by simpa using hx); rwa [show k+(i+1)=k+1+i by omega]
  ·cases h
inductive Path (nodes:List ND):Nat→Nat→Prop
 | root:Path nodes 0 0
 | left {i k x}:Path nodes i k→nodes[i]?=some x→x.inner=true→Path nodes x.left.toNat (k+1)
 | right {i k x}:Path nodes i k→nodes[i]?=some x→x.inner=true→Path nodes x.right.toNat (k+1)
theorem yZ {nodes:List ND}:∀ (f:Nat) (r:List Bool) (st:List Nat),(∀ i,r.getD i false=true→∃ k,Path nodes i k)→(∀ i∈st,∃ k,Path nodes i k) →
  ∀ i,(dfs nodes f r st).getD i false=true→∃ k,Path nodes i k
 | 0,r,st,hr,_=>hr
 | f+1,r,[],hr,_=>hr
 | f+1,r,j::st,hr,hs=>by
  unfold dfs
  split
  ·exact yZ f r st hr fun i hi=>hs i (by simp [hi])
  ·split
   ·exact hr
   ·rename_i x hx
    obtain ⟨k,hk⟩:=hs j (by simp)
    refine yZ f _ _ (fun i hi=>?_) (fun i hi=>?_)
    ·by_cases hij:i=j
     ·subst hij; exact ⟨k,hk⟩
     ·apply hr
      rw [List.getD_eq_getElem?_getD,List.getElem?_set_ne (fun e=>hij e.symm)] at hi
      rwa [List.getD_eq_getElem?_getD]
    ·split at hi
     ·rename_i hin
      simp only [List.mem_cons] at hi
      rcases hi with h | h | h
      ·subst h; exact ⟨_,.right hk hx hin⟩
      ·subst h; exact ⟨_,.left hk hx hin⟩
      ·exact hs i (by simp [h])
     ·exact hs i (by simp [hi])
structure Right (nan:Nat→Bool) (nodes:List ND):Prop where
 pos:0<nodes.length
 ok:∀ (i:Nat) x,nodes[i]?=some x→fC nan x nodes.length=true
 one:∀ i,i<nodes.length→cnt nodes i=min i 1
 path:∀ i,i<nodes.length→∃ k,Path nodes i k
theorem MV {nan:Nat→Bool} {nodes:List ND} (h:(fM nan nodes).1=0):Right nan nodes:=by
 unfold fM at h
 split at h
 ·cases h
 rename_i hne
 split at h
 ·cases h
 rename_i h1
 split at h
 ·cases h
 rename_i h2
 have h2':∀ i,i<nodes.length→cnt nodes i=min i 1∧(reached nodes).getD i false=true:=fun i hi=>by
  have:=jX h2 i _ (List.getElem?_eq_getElem hi)
  simpa using this
 refine ⟨by cases nodes with | nil=>exact absurd rfl hne | cons x l=>simp,fun i x hx=>?_,fun i hi=>(h2' i hi).1,fun i hi=>?_⟩
 ·simpa using jX h1 i x hx
 ·refine yZ _ _ _ (fun i hi=>?_) (fun i hi=>?_) i (h2' i hi).2
  ·exfalso
   rw [List.getD_eq_getElem?_getD,List.getElem?_replicate] at hi
   split at hi <;> cases hi
  ·simp at hi; subst hi; exact ⟨0,.root⟩
theorem fO {nan:Nat→Bool} {x:ND} {n:Int} (h:fC nan x n=true) (hi:x.inner=true):1≤x.left∧x.left<n∧1≤x.right∧x.right<n∧0≤x.feature∧x.feature<65536∧(x.missing=1∨x.missing=2)∧x.value=0:=by
 have h2:jB x n=true:=by
  unfold fC at h
  unfold ND.inner at hi
  split at h
  ·rename_i hk; rw [hk] at hi; cases hi
  ·split at h
   ·simp at h; exact h.2
   ·split at h
    ·simp at h; exact h.2
    ·cases h
 unfold jB at h2
 simp at h2
 omega
section
variable {nan:Nat→Bool} {nodes:List ND}
theorem KQ {l:List ND} {i j:Nat} {x y:ND} (hij:i≠j) (hx:l[i]?=some x) (hy:l[j]?=some y) (p:ND→Bool) (hp:p x=true) (hq:p y=true):2≤(l.filter p).length:=by
 induction l generalizing i j with
 | nil=>simp at hx
 | cons z l ih =>
  have one:∀ {k:Nat} {w:ND},l[k]?=some w→p w=true→1≤(l.filter p).length:=fun {k w} hk hw=>by
   have:w∈l.filter p:=List.mem_filter.2 ⟨List.mem_of_getElem? hk,hw⟩
   exact List.length_pos_of_mem this
  cases i with
  | zero =>
   simp at hx; subst hx
   cases j with
   | zero=>exact absurd rfl hij
   | succ j=>have:=one (by simpa using hy) hq; rw [List.filter_cons_of_pos hp]; simp; omega
  | succ i=>cases j with
   | zero =>
    simp at hy; subst hy
    have:=one (by simpa using hx) hp; rw [List.filter_cons_of_pos hq]; simp; omega
   | succ j =>
    have:=ih (i:=i) (j:=j) (by omega) (by simpa using hx) (by simpa using hy)
    have h2:(l.filter p).length≤((z::l).filter p).length:=by
     by_cases hz:p z=true
     ·rw [List.filter_cons_of_pos hz]; simp
     ·rw [List.filter_cons_of_neg hz]; exact Nat.le_refl _
    omega
theorem yQ {l:List ND} {i:Nat} {x:ND} (hx:l[i]?=some x) (p:ND→Bool) (hp:p x=true):1≤(l.filter p).length :=
 List.length_pos_of_mem (List.mem_filter.2 ⟨List.mem_of_getElem? hx,hp⟩)
def child (x:ND) (s:Bool):Int:=if s then x.left else x.right
theorem Right.slot (h:Right nan nodes) {i j:Nat} {x y:ND} {s t:Bool} (hx:nodes[i]?=some x) (hy:nodes[j]?=some y) (hxi:x.inner=true) (hyi:y.inner=true) (he:child x s=child y t):i=j∧s=t:=by
 have bx:=fO (h.ok i x hx) hxi
 obtain ⟨c,hc⟩:∃ c:Nat,child x s=(c:Int):=⟨(child x s).toNat,by unfold child; split <;> omega⟩
 have hcl:c<nodes.length:=by
  unfold child at hc; split at hc <;> omega
 have h1:=h.one c hcl
 have hm:min c 1≤1:=Nat.min_le_right _ _
 unfold cnt at h1
 have pl:∀ z:ND,z.inner=true→child z true=(c:Int)→(z.inner&&z.left==(c:Int))=true:=fun z hz hc'=>by simp [hz]; simpa [child] using hc'
 have pr:∀ z:ND,z.inner=true→child z false=(c:Int)→(z.inner&&z.right==(c:Int))=true:=fun z hz hc'=>by simp [hz]; simpa [child] using hc'
 have hcy:child y t=(c:Int):=he ▸ hc
 cases s <;> cases t
 ·refine ⟨?_,rfl⟩
  by_cases hij:i=j
  ·exact hij
  ·have:=KQ hij hx hy (fun x=>x.inner&&x.right==(c:Int)) (pr x hxi hc) (pr y hyi hcy); omega
 ·have a1:=yQ hx (fun x=>x.inner&&x.right==(c:Int)) (pr x hxi hc)
  have a2:=yQ hy (fun x=>x.inner&&x.left==(c:Int)) (pl y hyi hcy)
  omega
 ·have a1:=yQ hx (fun x=>x.inner&&x.left==(c:Int)) (pl x hxi hc)
  have a2:=yQ hy (fun x=>x.inner&&x.right==(c:Int)) (pr y hyi hcy)
  omega
 ·refine ⟨?_,rfl⟩
  by_cases hij:i=j
  ·exact hij
  ·have:=KQ hij hx hy (fun x=>x.inner&&x.left==(c:Int)) (pl x hxi hc) (pl y hyi hcy); omega
theorem Path.inv {i k:Nat} (h:Path nodes i k):(i=0∧k=0)∨∃ j k' x s,k=k'+1∧Path nodes j k'∧nodes[j]?=some x∧x.inner=true∧i=(child x s).toNat:=by
 cases h with
 | root=>exact .inl ⟨rfl,rfl⟩
 | left h1 h2 h3=>exact .inr ⟨_,_,_,true,rfl,h1,h2,h3,rfl⟩
 | right h1 h2 h3=>exact .inr ⟨_,_,_,false,rfl,h1,h2,h3,rfl⟩
theorem Path.step {j k:Nat} {x:ND} (s:Bool) (h:Path nodes j k) (hx:nodes[j]?=some x) (hi:x.inner=true):Path nodes (child x s).toNat (k+1):=by
 cases s
 ·exact .right h hx hi
 ·exact .left h hx hi
theorem Right.level (h:Right nan nodes):∀ (k:Nat) {i k':Nat},Path nodes i k→Path nodes i k'→k=k':=by
 intro k
 have pos:∀ {j:Nat} {x:ND} (s:Bool),nodes[j]?=some x→x.inner=true→1≤child x s:=fun s hx hi=>by
  have:=fO (h.ok _ _ hx) hi
  unfold child; split <;> omega
 induction k with
 | zero =>
  intro i k' h1 h2
  rcases h1.inv with ⟨rfl,_⟩ | ⟨_,_,_,_,e,_⟩
  ·rcases h2.inv with ⟨_,e⟩ | ⟨j,k2,x,s,rfl,_,hx,hi,e⟩
   ·exact e.symm
   ·have:=pos s hx hi; omega
  ·omega
 | succ k ih =>
  intro i k' h1 h2
  rcases h1.inv with ⟨_,e⟩ | ⟨j,k1,x,s,e,hp,hx,hi,he⟩
  ·omega
  ·rcases h2.inv with ⟨e2,_⟩ | ⟨j',k2,y,t,rfl,hp',hy,hi',he'⟩
   ·have:=pos s hx hi; omega
   ·have:=pos s hx hi
    have:=pos t hy hi'
    obtain ⟨rfl,_⟩:=h.slot hx hy hi hi' (s:=s) (t:=t) (by omega)
    have:=ih (show Path nodes j k by rw [show k=k1 by omega]; exact hp) hp'
    omega
theorem Path.upto {i k:Nat} (h:Path nodes i k):∃ f:Nat→Nat,f k=i∧∀ m,m≤k→Path nodes (f m) m:=by
 induction h with
 | root=>exact ⟨fun _=>0,rfl,fun m hm=>(by omega:0=m) ▸ .root⟩
 | @left i k x h1 h2 h3 ih =>
  obtain ⟨f,hf,hall⟩:=ih
  refine ⟨fun m=>if m=k+1 then x.left.toNat else f m,by simp,fun m hm=>?_⟩
  simp only
  split
  ·rename_i e; subst e; exact .left h1 h2 h3
  ·exact hall m (by omega)
 | @right i k x h1 h2 h3 ih =>
  obtain ⟨f,hf,hall⟩:=ih
  refine ⟨fun m=>if m=k+1 then x.right.toNat else f m,by simp,fun m hm=>?_⟩
  simp only
  split
  ·rename_i e; subst e; exact .right h1 h2 h3
  ·exact hall m (by omega)
theorem Right.inside (h:Right nan nodes) {i k:Nat} (hp:Path nodes i k):i<nodes.length:=by
 rcases hp.inv with ⟨rfl,_⟩ | ⟨j,k',x,s,_,_,hx,hi,rfl⟩
 ·exact h.pos
 ·have:=fO (h.ok _ _ hx) hi
  unfold child; split <;> omega
theorem U0 {n:Nat}:∀ (k:Nat) (f:Nat→Nat),(∀ m,m<k→f m<n)→(∀ a b,a<k→b<k→f a=f b→a=b)→k≤n:=by
 intro k f h1 h2
 have hnd:((List.range k).map f).Nodup:=by
  rw [List.nodup_iff_pairwise_ne,List.pairwise_map]
  refine List.Pairwise.imp_of_mem ?_ List.nodup_range
  intro a b ha hb hne he
  exact hne (h2 a b (by simpa using ha) (by simpa using hb) he)
 have hsub:(List.range k).map f ⊆ List.range n:=by
  intro x hx
  obtain ⟨m,hm,rfl⟩:=List.mem_map.1 hx
  simpa using h1 m (by simpa using hm)
 have:=List.Nodup.length_le_of_subset hnd hsub
 simpa using this
theorem Right.deep (h:Right nan nodes) {i k:Nat} (hp:Path nodes i k):k<nodes.length:=by
 obtain ⟨f,_,hall⟩:=hp.upto
 have:=U0 (n:=nodes.length) (k+1) f (fun m hm=>h.inside (hall m (by omega))) (fun a b ha hb he=>by
  have h1:=hall a (by omega)
  have h2:=hall b (by omega)
  rw [he] at h1
  exact h.level a h1 h2)
 omega
theorem Right.below (h:Right nan nodes):∀ (m:Nat) {i k:Nat},Path nodes i k→nodes.length - k≤m→∃ T,T.root=i∧Is nodes T∧∀ j∈T.pre,∃ k',k≤k'∧Path nodes j k':=by
 intro m
 induction m with
 | zero=>intro i k hp hm; have:=h.deep hp; omega
 | succ m ih =>
  intro i k hp hm
  have hi:=h.inside hp
  have hx:nodes[i]?=some nodes[i]:=List.getElem?_eq_getElem hi
  by_cases hin:(nodes[i]).inner=true
  ·obtain ⟨l,hl,hIl,hpl⟩:=ih (.left hp hx hin) (by omega)
   obtain ⟨r,hr,hIr,hpr⟩:=ih (.right hp hx hin) (by omega)
   have b:=fO (h.ok _ _ hx) hin
   refine ⟨.node i l r,rfl,⟨_,hx,hin,by rw [hl]; omega,by rw [hr]; omega,hIl,hIr⟩,fun j hj=>?_⟩
   simp only [BT.pre,List.mem_cons,List.mem_append] at hj
   rcases hj with e | hj | hj
   ·subst e; exact ⟨k,Nat.le_refl _,hp⟩
   ·obtain ⟨k',h1,h2⟩:=hpl j hj; exact ⟨k',by omega,h2⟩
   ·obtain ⟨k',h1,h2⟩:=hpr j hj; exact ⟨k',by omega,h2⟩
  ·exact ⟨.leaf i,rfl,⟨_,hx,by simpa using hin⟩,fun j hj=>by simp [BT.pre] at hj; subst hj; exact ⟨k,Nat.le_refl _,hp⟩⟩
end
end Go.Tr
namespace Go.Tr
open Go
section
variable {nan:Nat→Bool} {nodes:List ND}
theorem BT.jE:∀ T:BT,T.root∈T.pre
 | .leaf i=>by simp [BT.root,BT.pre]
 | .node i _ _=>by simp [BT.root,BT.pre]
inductive Down (nodes:List ND) (i:Nat):Nat→Nat→Prop
 | refl:Down nodes i i 0
 | step {j d x} (s:Bool):Down nodes i j d→nodes[j]?=some x→x.inner=true→Down nodes i (child x s).toNat (d+1)
theorem Down.first {i j d:Nat} {x:ND} (s:Bool) (hx:nodes[i]?=some x) (hi:x.inner=true) (h:Down nodes (child x s).toNat j d):Down nodes i j (d+1):=by
 induction h with
 | refl=>exact .step s .refl hx hi
 | step t _ h1 h2 ih=>exact .step t ih h1 h2
theorem Down.path {i j d k:Nat} (h:Down nodes i j d) (hp:Path nodes i k):Path nodes j (k+d):=by
 induction h with
 | refl=>exact hp
 | step t _ h1 h2 ih=>exact ih.step t h1 h2
theorem Is.down:∀ {T:BT},Is nodes T→∀ j∈T.pre,∃ d,Down nodes T.root j d
 | .leaf i,_,j,hj=>by simp [BT.pre] at hj; subst hj; exact ⟨0,.refl⟩
 | .node i l r,⟨x,hx,hi,hl,hr,hIl,hIr⟩,j,hj=>by
  simp only [BT.pre,List.mem_cons,List.mem_append] at hj
  rcases hj with e | hj | hj
  ·subst e; exact ⟨0,.refl⟩
  ·obtain ⟨d,hd⟩:=Is.down hIl j hj
   exact ⟨d+1,Down.first true hx hi (by simpa [child,hl] using hd)⟩
  ·obtain ⟨d,hd⟩:=Is.down hIr j hj
   exact ⟨d+1,Down.first false hx hi (by simpa [child,hr] using hd)⟩
theorem Right.BI (h:Right nan nodes) {j:Nat} {x:ND} (s:Bool) (hx:nodes[j]?=some x) (hi:x.inner=true):1≤child x s∧child x s<nodes.length:=by
 have:=fO (h.ok _ _ hx) hi
 unfold child; split <;> omega
theorem Right.anc (h:Right nan nodes) {k:Nat}:∀ (d:Nat) {i i' j:Nat},Path nodes i k→Path nodes i' k→Down nodes i j d→Down nodes i' j d→i=i':=by
 intro d
 induction d with
 | zero=>intro i i' j _ _ h1 h2; cases h1; cases h2; rfl
 | succ d ih =>
  intro i i' j hp hp' h1 h2
  cases h1 with
  | @step a _ x s g1 gx gi =>
   obtain ⟨b,y,t,g2,gy,gi',e⟩:∃ b y t,Down nodes i' b d∧nodes[b]?=some y∧y.inner=true∧(child x s).toNat=(child y t).toNat:=by
    generalize hj:(child x s).toNat=j at h2
    cases h2 with
    | @step b _ y t g2 gy gi'=>exact ⟨b,y,t,g2,gy,gi',rfl⟩
   have:=h.BI s gx gi
   have:=h.BI t gy gi'
   obtain ⟨rfl,_⟩:=h.slot gx gy gi gi' (s:=s) (t:=t) (by omega)
   exact ih hp hp' g1 g2
theorem Right.nodup (h:Right nan nodes):∀ {T:BT} {k:Nat},Is nodes T→Path nodes T.root k→T.pre.Nodup
 | .leaf i,_,_,_=>by simp [BT.pre]
 | .node i l r,k,⟨x,hx,hi,hl,hr,hIl,hIr⟩,hp=>by
  have pl:Path nodes l.root (k+1):=by have:=Path.step true hp hx hi; simpa [child,hl] using this
  have pr:Path nodes r.root (k+1):=by have:=Path.step false hp hx hi; simpa [child,hr] using this
  simp only [BT.pre,List.nodup_cons,List.mem_append,not_or,List.nodup_append]
  refine ⟨⟨fun hm=>?_,fun hm=>?_⟩,h.nodup hIl pl,h.nodup hIr pr,fun a ha b hb e=>?_⟩
  ·obtain ⟨d,hd⟩:=hIl.down _ hm
   have:=h.level _ (hd.path pl) hp; omega
  ·obtain ⟨d,hd⟩:=hIr.down _ hm
   have:=h.level _ (hd.path pr) hp; omega
  ·subst e
   obtain ⟨d,hd⟩:=hIl.down _ ha
   obtain ⟨d',hd'⟩:=hIr.down _ hb
   have e1:=h.level _ (hd.path pl) (hd'.path pr)
   obtain rfl:d=d':=by omega
   have e2:=h.anc d pl pr hd hd'
   have:=(h.slot hx hx hi hi (s:=true) (t:=false) (by simp only [child,if_true,Bool.false_eq_true,if_false]; omega)).2
   cases this
theorem Is.child:∀ {T:BT},Is nodes T→∀ {i:Nat} {x:ND},i∈T.pre→nodes[i]?=some x→x.inner=true→x.left.toNat∈T.pre∧x.right.toNat∈T.pre
 | .leaf i,⟨y,hy,hn⟩,j,x,hj,hx,hi=>by
  simp [BT.pre] at hj; subst hj; rw [hy] at hx; cases hx; rw [hn] at hi; cases hi
 | .node i l r,⟨y,hy,hn,hl,hr,hIl,hIr⟩,j,x,hj,hx,hi=>by
  simp only [BT.pre,List.mem_cons,List.mem_append] at hj ⊢
  rcases hj with e | hj | hj
  ·subst e; rw [hy] at hx; cases hx
   rw [hl,hr]
   exact ⟨.inr (.inl (by simpa using l.jE)),.inr (.inr (by simpa using r.jE))⟩
  ·have:=Is.child hIl hj hx hi; exact ⟨.inr (.inl this.1),.inr (.inl this.2)⟩
  ·have:=Is.child hIr hj hx hi; exact ⟨.inr (.inr this.1),.inr (.inr this.2)⟩
structure Tree (nan:Nat→Bool) (nodes:List ND) (T:BT):Prop where
 right:Right nan nodes
 root:T.root=0
 is:Is nodes T
 nodup:T.pre.Nodup
 mem:∀ j,j∈T.pre↔j<nodes.length
theorem Right.tree (h:Right nan nodes):∃ T,Tree nan nodes T:=by
 obtain ⟨T,h0,hI,hp⟩:=h.below nodes.length (.root (nodes:=nodes)) (by omega)
 refine ⟨T,h,h0,hI,h.nodup (k:=0) hI (by rw [h0]; exact .root),fun j=>⟨fun hj=>?_,fun hj=>?_⟩⟩
 ·obtain ⟨k,_,hk⟩:=hp j hj; exact h.inside hk
 ·obtain ⟨k,hk⟩:=h.path j hj
  clear hj
  induction hk with
  | root=>rw [← h0]; exact T.jE
  | left _ hx hi ih=>exact (hI.child ih hx hi).1
  | right _ hx hi ih=>exact (hI.child ih hx hi).2
theorem Tree.length {T:BT} (h:Tree nan nodes T):T.pre.length=nodes.length:=by
 apply Nat.le_antisymm
 ·have:=List.Nodup.length_le_of_subset h.nodup (l₂:=List.range nodes.length) (fun j hj=>by simpa using (h.mem j).1 hj)
  simpa using this
 ·have:=List.Nodup.length_le_of_subset (List.nodup_range (n:=nodes.length)) (l₂:=T.pre) (fun j hj=>(h.mem j).2 (by simpa using hj))
  simpa using this
theorem IC (h:(fM nan nodes).1=0):∃ T,Tree nan nodes T:=(MV h).tree
end
def BT.leaves:BT→List Nat
 | .leaf i=>[i]
 | .node _ l r=>l.leaves++r.leaves
def BT.depth:BT→Nat
 | .leaf _=>0
 | .node _ l r=>1+max l.depth r.depth
def BT.I4:BT→Nat→List (Nat×Nat)
 | .leaf i,d=>[(i,d)]
 | .node i l r,d=>(i,d)::(l.I4 (d+1)++r.I4 (d+1))
theorem BT.uM:∀ (T:BT) (d:Nat),(T.I4 d).map (·.1)=T.pre
 | .leaf _,_=>rfl
 | .node _ l r,d=>by simp [BT.I4,BT.pre,l.uM,r.uM]
theorem BT.qi (T:BT) (d:Nat):(T.I4 d).length=T.size:=by rw [← BT.gW,← T.uM d,List.length_map]
theorem Is.leaves {nodes:List ND}:∀ {T:BT},Is nodes T→T.leaves=T.pre.filter fun i => !((nodes[i]?.map ND.inner).getD false)
 | .leaf i,⟨x,hx,hn⟩=>by simp [BT.leaves,BT.pre,hx,hn]
 | .node i l r,⟨x,hx,hi,_,_,hl,hr⟩=>by
  simp [BT.leaves,BT.pre,List.filter_cons,hx,hi,List.filter_append,Is.leaves hl,Is.leaves hr]
end Go.Tr
namespace Go.Tr
open Go
theorem Es (l:List ND) (x:ND) (j:Nat):cnt (l++[x]) j=cnt l j+(if x.inner&&x.left==(j:Int) then 1 else 0)+(if x.inner&&x.right==(j:Int) then 1 else 0):=by
 unfold cnt
 simp only [List.filter_append,List.length_append]
 have h:∀ p:ND→Bool,(List.filter p [x]).length=if p x then 1 else 0:=fun p=>by
  by_cases hp:p x=true
  ·simp [hp]
  ·simp [hp]
 rw [h,h]
 omega
theorem cnt_le (l:List ND) (j:Nat):cnt l j≤2*l.length:=by
 unfold cnt
 have h1:=List.length_filter_le (fun x:ND=>x.inner&&x.left==(j:Int)) l
 have h2:=List.length_filter_le (fun x:ND=>x.inner&&x.right==(j:Int)) l
 omega
def xC (l:List ND) (n:Nat):List Int:=(List.range n).map fun j=>(cnt l j:Int)
theorem jC (l:List ND) (n:Nat):(xC l n).length=n:=by simp [xC]
theorem kS (l:List ND) {n j:Nat} (hj:j<n):(xC l n)[j]?=some (cnt l j:Int):=by simp [xC,hj]
theorem FD (n:Nat):xC [] n=List.replicate n 0:=by
 apply List.ext_getElem?
 intro i
 by_cases hi:i<n
 ·rw [kS _ hi,List.getElem?_replicate,if_pos hi]; rfl
 ·rw [List.getElem?_eq_none (by rw [jC]; omega),List.getElem?_eq_none (by simp; omega)]
theorem BP {l:List ND} {x:ND} (h:x.inner=false) (n:Nat):xC (l++[x]) n=xC l n:=by
 unfold xC
 apply List.map_congr_left
 intro j _
 rw [Es,h]
 simp
theorem yA {l:List ND} {x:ND} (h:x.inner=true) {n lf rg:Nat} (hl:x.left=(lf:Int)) (hr:x.right=(rg:Int)) (hln:lf<n) (hrn:rg<n) :
  ∃ y,((xC l n).set lf ((cnt l lf:Int)+1))[rg]?=some y∧0≤y∧y≤2*l.length+1∧((xC l n).set lf ((cnt l lf:Int)+1)).set rg (y+1)=xC (l++[x]) n:=by
 have e:∀ j:Nat,(cnt (l++[x]) j:Int)=cnt l j+(if lf=j then 1 else 0)+(if rg=j then 1 else 0):=fun j=>by
  rw [Es,h,hl,hr]
  simp only [Bool.true_and,beq_iff_eq,Int.ofNat_inj]
  split <;> split <;> simp_all
 have c1:=cnt_le l rg
 have c2:=cnt_le l lf
 refine ⟨(cnt l rg:Int)+(if lf=rg then 1 else 0),?_,by split <;> omega,by split <;> omega,?_⟩
 ·by_cases hx:lf=rg
  ·subst hx; rw [List.getElem?_set_self (by rw [jC]; exact hln),if_pos rfl]
  ·rw [List.getElem?_set_ne hx,kS _ hrn,if_neg hx]; simp
 ·apply List.ext_getElem?
  intro i
  by_cases hi:i<n
  ·rw [kS _ hi,e i]
   by_cases h1:rg=i
   ·subst h1
    rw [List.getElem?_set_self (by rw [List.length_set,jC]; exact hrn),if_pos rfl]
   ·rw [List.getElem?_set_ne h1,if_neg h1]
    by_cases h2:lf=i
    ·subst h2; rw [List.getElem?_set_self (by rw [jC]; exact hln),if_pos rfl]; simp
    ·rw [List.getElem?_set_ne h2,if_neg h2,kS _ hi]; simp
  ·rw [List.getElem?_eq_none (by rw [List.length_set,List.length_set,jC]; omega),List.getElem?_eq_none (by rw [jC]; omega)]
def cf (r:List Bool):Nat:=(r.filter fun b => !b).length
theorem JA:∀ {r:List Bool} {i:Nat},r[i]?=some false→cf (r.set i true)+1=cf r
 | [],_,h=>by simp at h
 | b::r,0,h=>by simp at h; subst h; simp [cf]
 | b::r,i+1,h=>by
  have:=JA (r:=r) (i:=i) (by simpa using h)
  cases b <;> simp [cf] at this ⊢ <;> omega
theorem um (n:Nat):cf (List.replicate n false)=n:=by simp [cf]
section
variable {nodes:List ND} {r:List Bool} {st:List Nat} {f i:Nat} {x:ND}
theorem zV:dfs nodes f r []=r:=by cases f <;> rfl
theorem FO (h:r[i]?=some true):dfs nodes (f+1) r (i::st)=dfs nodes f r st:=by
 rw [dfs,if_pos (by rw [List.getD_eq_getElem?_getD,h]; rfl)]
theorem Pg (h:r[i]?=some false) (hx:nodes[i]?=some x):dfs nodes (f+1) r (i::st)=dfs nodes f (r.set i true) (if x.inner then x.right.toNat::x.left.toNat::st else st):=by
 rw [dfs,if_neg (by rw [List.getD_eq_getElem?_getD,h]; simp),hx]
end
theorem sD {nodes:List ND}:∀ (f:Nat) (r:List Bool) (st:List Nat),(dfs nodes f r st).length=r.length
 | 0,_,_=>rfl
 | f+1,r,[]=>rfl
 | f+1,r,i::st=>by
  unfold dfs
  split
  ·exact sD f r st
  ·split
   ·rfl
   ·rw [sD f]; simp
theorem jG (nodes:List ND):(reached nodes).length=nodes.length:=by unfold reached; rw [sD]; simp
def stk (st:List Nat):List Int:=st.reverse.map fun (i:Nat)=>(i:Int)
theorem uS (i:Nat) (st:List Nat):(stk (i::st))[st.length]?=some (i:Int):=by simp [stk]
theorem zA (i:Nat) (st:List Nat):(stk (i::st)).take st.length=stk st:=by simp [stk]
theorem uO (st:List Nat) (a b:Nat):stk st++[(a:Int),(b:Int)]=stk (b::a::st):=by simp [stk]
theorem jZ {α:Type} {p:Nat→α→Bool} {i:Nat} {x:α} {l:List α}:dH p i (x::l)=if p i x then dH p (i+1) l else some i:=rfl
end Go.Tr
namespace Go.Tr
def nH (l:List Nat):List Int:=l.map fun (i:Nat)=>(i:Int)
def H6 (Ts:List BT):Nat:=(Ts.map BT.size).sum
def OU (Ts:List BT):List Nat:=Ts.flatMap BT.pre
theorem Dv (Ts:List BT):(OU Ts).length=H6 Ts:=by
 induction Ts with
 | nil=>rfl
 | cons T Ts ih =>
  simp only [OU,H6,List.flatMap_cons,List.length_append,List.map_cons,List.sum_cons,BT.gW] at ih ⊢
  omega
theorem mV (Ts:List BT):Ts.length≤H6 Ts:=by
 induction Ts with
 | nil=>simp
 | cons T Ts ih=>have:=T.size_pos; simp only [H6,List.map_cons,List.sum_cons,List.length_cons] at ih ⊢; omega
theorem iZ (T:BT) (Ts:List BT):H6 (T::Ts)=T.size+H6 Ts:=by simp [H6]
theorem Is.root_lt {nodes:List ND}:∀ {T:BT},Is nodes T→T.root<nodes.length
 | .leaf i,⟨x,hx,_⟩=>(List.getElem?_eq_some_iff.1 hx).1
 | .node i _ _,⟨x,hx,_⟩=>(List.getElem?_eq_some_iff.1 hx).1
theorem mW (l:List Nat):(nH l).length=l.length:=by simp [nH]
theorem vV (l r:List Nat):nH (l++r)=nH l++nH r:=by simp [nH]
end Go.Tr
namespace Go.Tr
abbrev BD:=BT×Nat
def Oo (Ts:List BD):Nat:=(Ts.map fun x=>x.1.size).sum
def Ad (Ts:List BD):List (Nat×Nat):=Ts.flatMap fun x=>x.1.I4 x.2
def AZ (l:List (Nat×Nat)):List (Int×Int):=l.map fun x=>((x.1:Int),(x.2:Int))
def IQ (Ts:List BD):List (Int×Int):=AZ (Ts.reverse.map fun x=>(x.1.root,x.2))
theorem oq (T:BD) (Ts:List BD):Oo (T::Ts)=T.1.size+Oo Ts:=by simp [Oo]
theorem wJ (Ts:List BD):Ts.length≤Oo Ts:=by
 induction Ts with
 | nil=>simp
 | cons T Ts ih=>have:=T.1.size_pos; simp only [Oo,List.map_cons,List.sum_cons,List.length_cons] at ih ⊢; omega
theorem BU (Ts:List BD):(Ad Ts).length=Oo Ts:=by
 induction Ts with
 | nil=>rfl
 | cons T Ts ih =>
  simp only [Ad,Oo,List.flatMap_cons,List.length_append,List.map_cons,List.sum_cons,BT.qi] at ih ⊢
  omega
theorem Ih (T:BD) (Ts:List BD):(IQ (T::Ts))[Ts.length]?=some ((T.1.root:Int),(T.2:Int)):=by simp [IQ,AZ]
theorem Ny (T:BD) (Ts:List BD):(IQ (T::Ts)).take Ts.length=IQ Ts:=by simp [IQ,AZ]
theorem JO (Ts:List BD) (A B:BD):IQ Ts++[((A.1.root:Int),(A.2:Int)),((B.1.root:Int),(B.2:Int))]=IQ (B::A::Ts):=by simp [IQ,AZ]
theorem pY (l:List (Nat×Nat)):(AZ l).length=l.length:=by simp [AZ]
end Go.Tr
namespace Go.Tr
open Go
section
variable {nan:Nat→Bool} {nodes:List ND}
end
section
variable {f:Nat→Nat}
end
section
variable {nan:Nat→Bool} {nodes:List ND} {T:BT}
end
end Go.Tr
