/- Part of a proof; no conditions. -/
import Derived.MapKept
import Derived.WideKeyRuns
import Derived.Laws.StructEq
import Derived.Maps.RangeRun
import Derived.Test.YtmjlipmapfofmaaGreatEC
import Derived.Test.YtmjlipmapfofmaaGreatEA
set_option linter.unusedVariables false
set_option linter.unusedSimpArgs false
set_option linter.unusedSectionVars false
namespace Go.E
open Go Go.RowKit Go.MapKept
open Go.ChangeMaps (setBlock)
theorem mW{α β:Type}(f:α->β){l:List α}(h:(l.map f).Nodup):l.Nodup:=(List.pairwise_map.1 h).imp λhn e=>hn (congrArg f e)
theorem lD{α:Type}{l:List α}(h:l.Nodup){i j:Nat}(hi:i<l.length)(hj:j<l.length)(e:l[i]=l[j]):i=j:=by
 have hp:=List.pairwise_iff_getElem.1 h
 rcases Nat.lt_trichotomy i j with h1 | h1 | h1
 .exact absurd e (hp i j hi hj h1)
 .exact h1
 .exact absurd e.symm (hp j i hj hi h1)
structure Rj(P:Program)(kt:TypeId){κ:Type}(en:κ->Value):Prop where
 inj:∀x y,en x=en y->x=y
 check:∀(e:Bool) (x:κ) (w:World),(Instr.checkKey e 10000 kt (en x)).run P w = .ok () w
 find:∀(l:List MapEntry) (x:κ) (w:World),(∀e∈l,∃y,e.key=en y) ->
  ((Instr.findKey kt (en x) l).run P w = .ok none w/\∀e∈l,e.key≠en x)\/∃j e,(Instr.findKey kt (en x) l).run P w = .ok (some (j,e.val)) w/\l[j]?=some e/\e.key=en x
 same:∀(x:κ) (w:World),(Instr.keyThatStays (en x) (en x)).run P w = .ok (en x) w
def enK(k:IntKind)(x:Int):Value := .int k x
theorem Xl{P:Program}{kt:TypeId}{k:IntKind}(ht:P.underlying kt=some (.int k)):Rj P kt (enK k) where
 inj x y h:=by unfold enK at h;cases h;rfl
 check e x w:=run_checkKey ht (by simp[IsKey,enK]) e _
 find l x w h:=by
  have hk:IsKey (.int k) (enK k x):=by simp[IsKey,enK]
  rcases findNow_spec hk l 0 (λe he=>by obtain⟨y,hy⟩:=h e he;rw[hy];simp[IsKey,enK]) with ⟨h1,h2⟩ | ⟨j,e,h1,h2,h3⟩
  .exact .inl ⟨run_findKey ht h1,h2⟩
  .exact .inr ⟨j,e,by simpa using run_findKey ht h1,h2,h3⟩
 same x w:=run_keyThatStays (d := .int k) (by simp[IsKey,enK])
theorem NI{P:Program}{kt:TypeId}{κ:Type}[DecidableEq κ]{en:κ->Value}(hw:(match P.underlying kt with | some (.array _ _) | some (.struct _)=>true | _=>false)=true)
  (inj:∀x y,en x=en y->x=y) (check:∀(e:Bool) (x:κ) (w:World),(Instr.checkKey e 10000 kt (en x)).run P w = .ok () w)
  (eq:∀(x y:κ) (w:World),(Op.equal kt (en x) (en y)).run P w = .ok (decide (x=y)) w) (same:∀x,Instr.sameBits 10000 (en x) (en x)=true):Rj P kt en where
 inj:=inj
 check:=check
 find l x w h:=by
  rw[run_findKey_eq w hw];have key:∀(l:List MapEntry) (i:Nat),(∀e∈l,∃y,e.key=en y)->((Instr.findAsking kt (en x) l i).run P w = .ok none w/\∀e∈l,e.key≠en x)\/∃j e,(Instr.findAsking kt (en x) l i).run P w = .ok (some (i+j,e.val)) w/\l[j]?=some e/\e.key=en x:=by
   intro l
   induction l with
   |nil=>intro i _;exact .inl ⟨rfl,λe he=>by cases he⟩
   |cons e r ih=>
    intro i h;obtain⟨y,hy⟩:=h e (.head _);have hr:(Instr.findAsking kt (en x) (e::r) i).run P w=if decide (x=y) then .ok (some (i,e.val)) w else(Instr.findAsking kt (en x) r (i+1)).run P w:=by
     rw[show Instr.findAsking kt (en x) (e::r) i=(Op.equal kt (en x) e.key >>= λb=>if b then pure (some (i,e.val)) else Instr.findAsking kt (en x) r (i+1)) from rfl,hy,Sem.run_bind,eq]
     by_cases hxy:x=y
     .subst hxy;simp[Result.andThen]
     .simp[hxy,Result.andThen]
    by_cases hxy:x=y
    .subst hxy;rw[hr];exact .inr ⟨0,e,by simp,rfl,hy⟩
    .rw[hr];simp only[hxy,decide_false,Bool.false_eq_true,if_false]
     rcases ih (i+1) (λe he=>h e (.tail _ he)) with ⟨h1,h2⟩ | ⟨j,e',h1,h2,h3⟩
     .refine .inl ⟨h1,λe0 he=>?_⟩
      cases he with
      |head=>rw[hy];exactλh=>hxy (inj _ _ h.symm)
      |tail _ he=>exact h2 e0 he
     .exact .inr ⟨j+1,e',by rw[h1];congr 3;omega,by simpa using h2,h3⟩
  rcases key l 0 h with h | ⟨j,e,h1,h2,h3⟩
  .exact .inl h
  .exact .inr ⟨j,e,by simpa using h1,h2,h3⟩
 same x w:=by simp[Instr.keyThatStays,same x]
section
variable{κ:Type}[DecidableEq κ]
def nI:List (κ×Value)->κ->Option Value
 | [],_=>none
 | (y,v)::r,x=>if y=x then some v else nI r x
def rP:List (κ×Value)->κ->Value->List (κ×Value)
 | [],x,v=>[(x,v)]
 | (y,u)::r,x,v=>if y=x then(y,v)::r else(y,u)::rP r x v
theorem DR(L:List (κ×Value))(x:κ)(v:Value):∀y,nI (rP L x v) y=if y=x then some v else nI L y:=by
 intro y
 induction L with
 |nil=>
  by_cases h:y=x
  .subst h;simp[rP,nI]
  .simp[rP,nI,h,Ne.symm h]
 |cons p r ih=>
  obtain⟨z,u⟩:=p;unfold rP
  by_cases h:z=x
  .subst h
   by_cases hy:y=z
   .subst hy;simp[nI]
   .simp[nI,hy,Ne.symm hy]
  .simp only[h,if_false]
   by_cases hy:z=y
   .subst hy;simp[nI,h]
   .simp only[nI,hy,if_false];exact ih
theorem SB{L:List (κ×Value)}{x:κ}{v:Value}(h:nI L x=some v):(x,v)∈L:=by
 induction L with
 |nil=>cases h
 |cons p r ih=>
  obtain⟨z,u⟩:=p;unfold nI at h;split at h
  .next e=>subst e;cases h;exact .head _
  .exact .tail _ (ih h)
theorem I4{L:List (κ×Value)}(hn:(L.map (·.1)).Nodup){x:κ}{v:Value}(h:(x,v)∈L):nI L x=some v:=by
 induction L with
 |nil=>cases h
 |cons p r ih=>
  obtain⟨z,u⟩:=p;simp only[ze0,zf1]at hn
  cases h with
  |head=>simp[nI]
  |tail _ h=>
   have hne:z≠x:=λe=>hn.1 (zd4.2 ⟨_,h,e.symm⟩);simp only[nI,hne,if_false];exact ih hn.2 h
theorem Fp{L:List (κ×Value)}{x:κ}:nI L x=none↔x∉L.map (·.1):=by
 induction L with
 |nil=>simp[nI]
 |cons p r ih=>
  obtain⟨z,u⟩:=p;unfold nI
  by_cases h:z=x
  .subst h;simp
  .simp[h,ih,Ne.symm h]
theorem Nu(L:List (κ×Value))(x:κ)(v:Value):(rP L x v).map (·.1)=if x∈L.map (·.1) then L.map (·.1) else L.map (·.1)++[x]:=by
 induction L with
 |nil=>rfl
 |cons p r ih=>
  obtain⟨z,u⟩:=p;unfold rP
  by_cases h:z=x
  .subst h;simp
  .simp only[h,if_false,ze0,ih,zb3,Ne.symm h,false_or]
   split <;> simp
def ji(en:κ->Value)(w:World)(b:Nat)(L:List (κ×Value)):Prop :=
 ∃es clock,w.heap[b]?=some (.map es clock)/\Stamped es clock/\es.toList.map (λe=>(e.key,e.val))=L.map (λx=>(en x.1,x.2))
def G8(en:κ->Value)(w:World)(b:Nat)(L:List (κ×Value))(x:κ)(s:Int):Prop :=
 ∃es clock,w.heap[b]?=some (.map es clock)/\Stamped es clock/\es.toList.map (λe=>(e.key,e.val))=L.map (λx=>(en x.1,x.2))/\∃e∈es.toList,e.key=en x/\(e.born:Int)=s
variable{en:κ->Value}{w u:World}{b:Nat}{L:List (κ×Value)}{P:Program}{t kt et:TypeId}
theorem G8.map{x:κ}{s:Int}(h:G8 en w b L x s):ji en w b L:=let⟨es,c,h1,h2,h3,_⟩:=h; ⟨es,c,h1,h2,h3⟩
theorem ji.lt(h:ji en w b L):b<w.heap.size:=by
 obtain⟨es,c,h1,_⟩:=h;exact(zc4.1 h1).1
theorem ji.mod{S:Nat->Prop}(h:ji en w b L)(hm:Mod S w u)(hn:¬ S b):ji en u b L:=by
 have hlt:=h.lt;obtain⟨es,c,h1,h2,h3⟩:=h;exact⟨es,c,(hm.block b hlt hn).trans h1,h2,h3⟩
theorem ji.kept(h:ji en w b L)(hm:Kept w u):ji en u b L:=h.mod (S:=λ_=>False) hm.mod (λh=>h)
theorem G8.mod{S:Nat->Prop}{x:κ}{s:Int}(h:G8 en w b L x s)(hm:Mod S w u)(hn:¬ S b):G8 en u b L x s:=by
 have hlt:=h.map.lt;obtain⟨es,c,h1,h2⟩:=h;exact⟨es,c,(hm.block b hlt hn).trans h1,h2⟩
theorem ji.new(en:κ->Value)(w:World):ji en (w.alloc (.map #[] 0)) w.heap.size [] :=
 ⟨#[],0,(MapKept.heap_alloc w _).1,stamped_empty 0,rfl⟩
theorem keysOf{es:List MapEntry}(h:es.map (λe=>(e.key,e.val))=L.map (λx=>(en x.1,x.2))):∀e∈es,∃y,e.key=en y:=by
 intro e he;have:(e.key,e.val)∈es.map (λe=>(e.key,e.val)):=zd4.2 ⟨e,he,rfl⟩;rw[h]at this;obtain⟨x,_,hx⟩:=zd4.1 this;exact⟨x.1,(congrArg Prod.fst hx).symm⟩
theorem ji.nodup(K:Rj P kt en)(h:ji en w b L):(L.map (·.1)).Nodup:=by
 obtain⟨es,c,_,hs,hl⟩:=h;have h3:=hs.2.2;have:es.toList.map (·.key)=L.map (λx=>en x.1):=by
  have:=congrArg (List.map Prod.fst) hl;simpa[ze6,Function.comp_def] using this
 have h4:(es.toList.map (·.key)).Nodup:=by
  simpa[List.Nodup,List.pairwise_map] using h3
 rw[this]at h4;have h5:((L.map (·.1)).map en).Nodup:=by simpa[ze6,Function.comp_def] using h4
 exact mW _ h5
theorem get_none{es:List MapEntry}(hi:∀x y,en x=en y->x=y):∀ {L:List (κ×Value)} (_:es.map (λe=>(e.key,e.val))=L.map (λx=>(en x.1,x.2))) {x:κ} (_:∀e∈es,e.key≠en x),nI L x=none:=by
 intro L h x hx;rw[Fp];intro hm;obtain⟨p,hp,rfl⟩:=zd4.1 hm;have:(en p.1,p.2)∈es.map (λe=>(e.key,e.val)):=by rw[h];exact zd4.2 ⟨p,hp,rfl⟩
 obtain⟨e,he,e2⟩:=zd4.1 this;exact hx e he (congrArg Prod.fst e2)
theorem get_some{es:List MapEntry}(hi:∀x y,en x=en y->x=y)(hn:(es.map (·.key)).Nodup)(h:es.map (λe=>(e.key,e.val))=L.map (λx=>(en x.1,x.2))){x:κ}{e:MapEntry}(he:e∈es)(hk:e.key=en x):nI L x=some e.val:=by
 have h1:es.map (·.key)=L.map (λx=>en x.1):=by
  have:=congrArg (List.map Prod.fst) h;simpa[ze6,Function.comp_def] using this
 rw[h1]at hn;have h5:((L.map (·.1)).map en).Nodup:=by simpa[ze6,Function.comp_def] using hn
 have:(e.key,e.val)∈es.map (λe=>(e.key,e.val)):=zd4.2 ⟨e,he,rfl⟩;rw[h]at this;obtain⟨p,hp,e2⟩:=zd4.1 this;have e3:=hi _ _ ((congrArg Prod.fst e2).trans hk);have e4:p.2=e.val:=congrArg Prod.snd e2;refine I4 (mW _ h5) ?_;rw[<- e3,<- e4];exact hp
theorem xB{v:Value}(hi:∀x y,en x=en y->x=y):∀ {es:List MapEntry} {L:List (κ×Value)} {j:Nat} {e:MapEntry} {x:κ} (_:(es.map (·.key)).Nodup) (_:es.map (λe=>(e.key,e.val))=L.map (λx=>(en x.1,x.2))) (_:es[j]?=some e) (_:e.key=en x)
  (f:MapEntry->MapEntry) (_:∀e',es[j]?=some e'->(f e').key=e'.key/\(f e').val=v),(es.modify j f).map (λe=>(e.key,e.val))=(rP L x v).map (λx=>(en x.1,x.2))
 | [],_,_,_,_,_,_,h,_,_,_=>by simp at h
 |a::r,[],_,_,_,_,h,_,_,_,_=>by simp at h
 |a::r,(y,u)::L,0,e,x,hn,h,he,hk,f,hf=>by
  simp only[List.getElem?_cons_zero,Option.some.injEq]at he;subst he;simp only[ze0,List.cons.injEq,Prod.mk.injEq]at h;obtain⟨⟨h1,h2⟩,h3⟩:=h;have hxy:y=x:=hi _ _ (h1.symm.trans hk);obtain⟨f1,f2⟩:=hf a rfl;simp only[List.modify_zero_cons,ze0,f1,f2,rP,hxy,if_true,List.cons.injEq,Prod.mk.injEq,and_true];exact⟨hk,h3⟩
 |a::r,(y,u)::L,j+1,e,x,hn,h,he,hk,f,hf=>by
  simp only[List.getElem?_cons_succ]at he;simp only[ze0,List.cons.injEq,Prod.mk.injEq]at h;obtain⟨⟨h1,h2⟩,h3⟩:=h;simp only[ze0,zf1]at hn;have hxy:y≠x:=by
   rintro rfl;refine hn.1 ?_;rw[h1,<- hk];exact zd4.2 ⟨e,za0 he,rfl⟩
  have:=xB hi hn.2 h3 he hk f (λe' h'=>hf e' (by simpa using h'));simp only[List.modify_succ_cons,ze0,rP,hxy,if_false,this,h1,h2]
theorem Hg{v:Value}{n:Nat}:∀ {es:List MapEntry} {L:List (κ×Value)} {x:κ} (_:es.map (λe=>(e.key,e.val))=L.map (λx=>(en x.1,x.2))) (_:nI L x=none),
  (es++[({ key:=en x,val:=v,born:=n }:MapEntry)]).map (λe=>(e.key,e.val))=(rP L x v).map (λx=>(en x.1,x.2))
 | [],[],x,_,_=>by simp[rP]
 | [],_::_,_,h,_=>by simp at h
 |_::_,[],_,h,_=>by simp at h
 |a::r,(y,u)::L,x,h,hn=>by
  simp only[ze0,List.cons.injEq]at h;unfold nI at hn;split at hn
  .cases hn
  .next hne=>
   simp only[ze1,ze0,rP,hne,if_false,h.1,Hg h.2 hn]
theorem uD{es:Array MapEntry}{c:Nat}(h:Stamped es c):(es.toList.map (·.key)).Nodup:=by
 simpa[List.Nodup,List.pairwise_map] using h.2.2
theorem rE{o o':Obj}(h:w.heap[b]?=some o):Only (b+1) w { w with heap:=w.heap.setIfInBounds b o' } :=
 ⟨rfl,rfl,rfl,by simp,λk _ hn=>by
  rw[Array.getElem?_setIfInBounds_ne (λe=>hn (by omega))]⟩
theorem ji.lookup(K:Rj P kt en)(ht:P.underlying t=some (.map kt et)){z:Value}(hz:∀w,(zeroValue et).run P w = .ok z w)(h:ji en w b L){x:κ}{R:Value->zg6}(hk:R ((nI L x).getD z) w) :
  dC P (Instr.lookup t (.map (some b)) (en x) false) w R:=by
 obtain⟨es,c,h1,h2,h3⟩:=h;refine dC.of (v:=(nI L x).getD z) (u:=w) (λd=>?_) hk;have h1':(dr w d).heap[b]?=some (.map es c):=h1
 rcases K.find es.toList x (dr w d) (keysOf h3) with ⟨f1,f2⟩ | ⟨j,e,f1,f2,f3⟩
 .rw[get_none K.inj h3 f2];simp[Instr.lookup,run_underlying ht,MapKept.run_getObj_map h1',K.check,f1,hz,Result.andThen]
 .rw[get_some K.inj (uD h2) h3 (za0 f2) f3];simp[Instr.lookup,run_underlying ht,MapKept.run_getObj_map h1',K.check,f1,Result.andThen]
theorem ji.update(K:Rj P kt en)(ht:P.underlying t=some (.map kt et))(h:ji en w b L){x:κ}{v:Value}{R:Value->zg6}(hk:∀u,ji en u b (rP L x v)->Only (b+1) w u->R undef u) :
  dC P (do Instr.mapUpdate t (.map (some b)) (en x) v;pure undef) w R:=by
 obtain⟨es,c,h1,h2,h3⟩:=h
 rcases K.find es.toList x w (keysOf h3) with ⟨f1,f2⟩ | ⟨j,e,f1,f2,f3⟩
 .refine dC.of (u:={ w with heap:=w.heap.setIfInBounds b (.map (es.push { key:=en x,val:=v,born:=c }) (c+1)) }) (λd=>?_) (hk _ ⟨_,_,(heap_set h1).1,stamped_push h2 f2,?_⟩ (rE h1))
  .have h1':(dr w d).heap[b]?=some (.map es c):=h1
   rcases K.find es.toList x (dr w d) (keysOf h3) with ⟨g1,g2⟩ | ⟨j,e,g1,g2,g3⟩
   .simp[Instr.mapUpdate,run_underlying ht,MapKept.run_getObj_map h1',K.check,g1,MapKept.run_setObj_map _ h1',Result.andThen];rfl
   .exact absurd g3 (f2 e (za0 g2))
  .rw[Array.toList_push];exact Hg h3 (get_none K.inj h3 f2)
 .have hj:es[j]?=some e:=by simpa using f2
  have hkey:∀e',es[j]?=some e'->({ e' with key:=en x,val:=v }:MapEntry).key=e'.key:=λe' he'=>by rw[hj]at he';cases he';exact f3.symm
  refine dC.of (u:={ w with heap:=w.heap.setIfInBounds b (.map (es.modify j λe=>{ e with key:=en x,val:=v }) c) }) (λd=>?_) (hk _ ⟨_,_,(heap_set h1).1,stamped_modify h2 _ _ (λ_ _=>rfl) (λe' _ he'=>hkey e' he'),?_⟩ (rE h1))
  .have h1':(dr w d).heap[b]?=some (.map es c):=h1
   rcases K.find es.toList x (dr w d) (keysOf h3) with ⟨g1,g2⟩ | ⟨j',e',g1,g2,g3⟩
   .exact absurd f3 (g2 e (za0 f2))
   .have hjj:j'=j:=by
     have hnd:=uD h2;have l1:j'<es.toList.length:=(za1.1 g2).1;have l2:j<es.toList.length:=(za1.1 f2).1;refine lD hnd (by simpa using l1) (by simpa using l2) ?_;simp only[List.getElem_map];rw[(za1.1 g2).2,(za1.1 f2).2,g3,f3]
    subst hjj;simp[Instr.mapUpdate,run_underlying ht,MapKept.run_getObj_map h1',K.check,g1,hj,f3,K.same,MapKept.run_setObj_map _ h1',Result.andThen];rfl
  .rw[Array.toList_modify];refine xB K.inj (uD h2) h3 f2 f3 _ λe' he'=>?_;rw[f2]at he';cases he';exact⟨f3.symm,rfl⟩
theorem G8.store(K:Rj P kt en){x:κ}{s:Int}(h:G8 en w b L x s){v:Value}{R:Value->zg6}(hk:∀u,ji en u b (rP L x v)->Only (b+1) w u->R undef u) :
  dC P (do Instr.entryStore t (.map (some b)) (.int .i64 s) v;pure undef) w R:=by
 obtain⟨es,c,h1,h2,h3,e,he,hek,rfl⟩:=h
 cases hf:es.findIdx? (λx=>(x.born:Int)==(e.born:Int)) with
 |none=>
  have:=Array.findIdx?_eq_none_iff.1 hf e (Array.mem_toList_iff.1 he);simp at this
 |some i=>
  obtain⟨hi,hb,_⟩:=Array.findIdx?_eq_some_iff_getElem.1 hf;have hie:es[i]=e:=by
   obtain⟨k,hk,rfl⟩:=List.getElem_of_mem he;have hnd:=h2.2.1;have hb':es.toList[i].born=(es.toList[k]).born:=by
    have hb2:((es[i].born:Nat):Int)=((es.toList[k].born:Nat):Int):=by simpa using hb
    rw[Array.getElem_toList];omega
   have:=lD hnd (i:=i) (j:=k) (by simpa using hi) (by simpa using hk) (by simpa using hb');subst this;simp
  have hj:es[i]?=some e:=by rw[Array.getElem?_eq_getElem hi,hie]
  refine dC.of (u:={ w with heap:=w.heap.setIfInBounds b (.map (es.modify i λe=>{ e with val:=v }) c) }) (λd=>?_) (hk _ ⟨_,_,(heap_set h1).1,stamped_modify h2 _ _ (λ_ _=>rfl) (λ_ _ _=>rfl),?_⟩ (rE h1))
  .have h1':(dr w d).heap[b]?=some (.map es c):=h1;simp[Instr.entryStore,MapKept.run_getObj_map h1',asInt,asIntOf,hf,MapKept.run_setObj_map _ h1',Result.andThen];rfl
  .rw[Array.toList_modify];exact xB K.inj (uD h2) h3 (by simpa using hj) hek _ λe' he'=>⟨rfl,rfl⟩
def Rng(en:κ->Value)(w:World)(b r:Nat)(L rem:List (κ×Value)):Prop :=
 ∃es clock since seen last,w.heap[r]?=some (.mapIter (some b) since seen last)/\w.heap[b]?=some (.map es clock)/\Stamped es clock/\es.toList.map (λe=>(e.key,e.val))=L.map (λx=>(en x.1,x.2)) /\
  (∀x∈es.toList,x.born<since)/\since<=last/\since<=clock/\(leftOf es seen).toList.map (λe=>(e.key,e.val))=rem.map (λx=>(en x.1,x.2))
variable{r:Nat}{rem:List (κ×Value)}
theorem Rng.map(h:Rng en w b r L rem):ji en w b L:=let⟨es,c,_,_,_,_,h2,h3,h4,_⟩:=h; ⟨es,c,h2,h3,h4⟩
theorem Rng.lt(h:Rng en w b r L rem):r<w.heap.size:=by
 obtain⟨es,c,s,se,l,h1,_⟩:=h;exact(zc4.1 h1).1
theorem Rng.mod{S:Nat->Prop}(h:Rng en w b r L rem)(hm:Mod S w u)(hb:¬ S b)(hr:¬ S r):Rng en u b r L rem:=by
 have l1:=h.map.lt;have l2:=h.lt;obtain⟨es,c,s,se,l,h1,h2,h3⟩:=h;exact⟨es,c,s,se,l,(hm.block r l2 hr).trans h1,(hm.block b l1 hb).trans h2,h3⟩
theorem KN(es:Array MapEntry):leftOf es #[]=es:=by
 unfold leftOf;simp
theorem ji.range(ht:P.underlying t=some (.map kt et))(h:ji en w b L){R:Value->zg6}(hk:∀u,Rng en u b w.heap.size L L->Kept w u->R (.pointer (some (na w))) u) :
  dC P (Instr.range t (.map (some b))) w R:=by
 have hlt:=h.lt;obtain⟨es,c,h1,h2,h3⟩:=h;have ha:=MapKept.heap_alloc w (.mapIter (some b) c #[] c);refine dC.of (u:=w.alloc (.mapIter (some b) c #[] c)) (λd=>?_) (hk _ ⟨es,c,c,#[],c,ha.1,(ha.2 b hlt).trans h1,h2,h3,h2.1,zb4 _,zb4 _,by rw[KN];exact h3⟩ (zg3 w _));have h1':(dr w d).heap[b]?=some (.map es c):=h1;simp[Instr.range,run_underlying ht,MapKept.run_getObj_map h1',Result.andThen];exact⟨rfl,rfl⟩
theorem Qi{es:List MapEntry}{seen:Array Nat}{e:MapEntry}(hn:(es.map (·.born)).Nodup)(he:e∈es.filter λx => !seen.contains x.born) :
  ∃l1 l2,(es.filter λx => !seen.contains x.born)=l1++e::l2/\(es.filter λx => !(seen.push e.born).contains x.born)=l1++l2:=by
 obtain⟨l1,l2,h⟩:=List.append_of_mem he;refine⟨l1,l2,h,?_⟩;have e1:(es.filter λx => !(seen.push e.born).contains x.born)=(es.filter λx => !seen.contains x.born).filter λx=>x.born != e.born:=by
  rw[List.filter_filter];congr 1;funext x;simp only[Array.contains_push]
  cases seen.contains x.born <;> simp[bne,Bool.beq_comm]
 rw[e1,h];have hn2:((es.filter λx => !seen.contains x.born).map (·.born)).Nodup:=(List.filter_sublist.map _).nodup hn;rw[h,zb8,ze0]at hn2;have hp:=List.pairwise_append.1 hn2;have hp2:=List.pairwise_cons.1 hp.2.1;rw[List.filter_append,List.filter_cons];simp only[bne_self_eq_false,Bool.false_eq_true,if_false];congr 1
 .refine List.filter_eq_self.2 λx hx=>?_;have:=hp.2.2 x.born (zd4.2 ⟨x,hx,rfl⟩) e.born (.head _);simpa using this
 .refine List.filter_eq_self.2 λx hx=>?_;have:=hp2.1 x.born (zd4.2 ⟨x,hx,rfl⟩);simpa using Ne.symm this
theorem P6{l l1 l2:List MapEntry}{e:MapEntry}(h:(l1++e::l2).map (λe=>(e.key,e.val))=rem.map (λx=>(en x.1,x.2))) :
  ∃r1 x r2,rem=r1++x::r2/\e.key=en x.1/\e.val=x.2/\(l1++l2).map (λe=>(e.key,e.val))=(r1++r2).map (λx=>(en x.1,x.2)):=by
 rw[zb8,ze0]at h;obtain⟨r1,r',rfl,h1,h2⟩:=List.map_eq_append_iff.1 h.symm;obtain⟨x,r2,rfl,h3,h4⟩:=List.map_eq_cons_iff.1 h2;refine⟨r1,x,r2,rfl,(congrArg Prod.fst h3).symm,(congrArg Prod.snd h3).symm,?_⟩;rw[zb8,zb8,h1,h4]
theorem Rng.next(h:Rng en w b r L rem){ty:TypeId}{R:Value->zg6}(h0:rem=[]->R (.tuple #[.bool false]) w)
  (h1:∀u r1 x r2,rem=r1++x::r2->Rng en u b r L (r1++r2)->Only (r+1) w u->(∀d,(Instr.entry (.pointer (some ⟨r,0,none⟩))).run P (dr u d) = .ok (.tuple #[en x.1,x.2]) (dr u d))->R (.tuple #[.bool true,en x.1,x.2]) u) :
  dC P (Instr.next (.pointer (some ⟨r,0,none⟩)) false ty) w R:=by
 obtain⟨es,c,s,se,l,g1,g2,g3,g4,g5,g6,hsc,g7⟩:=h;intro d;have g1':(dr w d).heap[r]?=some (.mapIter (some b) s se l):=g1;have g2':(dr w d).heap[b]?=some (.map es c):=g2
 rcases run_next_at (P:=P) (dr w d) ty r b s l se es c g1' g2' g5 g6 with ⟨h2,h3⟩ | ⟨e,he,w1,hw1,hrun⟩
 .refine⟨_,w,d,h3,h0 ?_⟩;have:(leftOf es se).toList=[]:=by
   apply za9;simpa using h2
  rw[this]at g7;simpa using g7.symm
 .have hl:(leftOf es se).toList=es.toList.filter λx => !se.contains x.born:=by unfold leftOf;simp
  rw[hl]at he g7;obtain⟨l1,l2,e1,e2⟩:=Qi g3.2.1 he;rw[e1]at g7;obtain⟨r1,x,r2,hr,hk,hv,hm⟩:=P6 (l:=[]) g7;have hne:r≠b:=by rintro rfl;rw[g1]at g2;cases g2
  have hes:e∈es.toList:=(ze3.1 he).1;have only:Only (r+1) w (setBlock w r (.mapIter (some b) s (se.push e.born) c)):=rE g1;have hb2:(setBlock w r (.mapIter (some b) s (se.push e.born) c)).heap[b]?=some (.map es c):=by
   unfold setBlock;rw[(MapKept.heap_set g1).2 b (Ne.symm hne)];exact g2
  have hr2:(setBlock w r (.mapIter (some b) s (se.push e.born) c)).heap[r]?=some (.mapIter (some b) s (se.push e.born) c):=(MapKept.heap_set g1).1;refine⟨_,setBlock w r (.mapIter (some b) s (se.push e.born) c),w1.drawn,by rw[hrun,hk,hv];rcases hw1 with rfl | rfl <;> rfl,h1 _ r1 x r2 hr ⟨es,c,s,_,c,hr2,hb2,g3,g4,g5,hsc,hsc,?_⟩ only λd'=>?_⟩
  .have hl2:(leftOf es (se.push e.born)).toList=es.toList.filter λx => !(se.push e.born).contains x.born:=by unfold leftOf;simp
   rw[hl2,e2];exact hm
  .have:=run_entry_at (P:=P) (dr (setBlock w r (.mapIter (some b) s (se.push e.born) c)) d') r b s se es c e hr2 hb2 hes g3.2.1;rw[this,hk,hv]
end
end Go.E
namespace Go.Ss
variable{α:Type}
def swp(xs:List α)(i j:Nat):List α:=match xs[i]?,xs[j]? with
 |some x,some y=>(xs.set i y).set j x
 |_,_=>xs
theorem UG{β:Type}(f:α->β)(xs:List α)(i j:Nat):swp (xs.map f) i j=(swp xs i j).map f:=by
 unfold swp;simp only[zc1]
 cases xs[i]? <;> cases xs[j]? <;> simp
theorem Ul{xs:List α}{i j:Nat}{x y:α}(hi:xs[i]?=some x)(hj:xs[j]?=some y):swp xs i j=(xs.set i y).set j x:=by
 unfold swp;rw[hi,hj]
theorem NT(p q s:List α)(u v:α):swp (p++u::(q++v::s)) p.length (p.length+1+q.length)=p++v::(q++u::s):=by
 have h1:(p++u::(q++v::s))[p.length]?=some u:=by simp
 have h2:(p++u::(q++v::s))[p.length+1+q.length]?=some v:=by
  rw[zc0 (by omega),show p.length+1+q.length - p.length=q.length+1 by omega];simp
 rw[Ul h1 h2,List.set_append_right _ _ (zb4 _),zf8,List.set_cons_zero,List.set_append_right _ _ (by omega),
  show p.length+1+q.length - p.length=q.length+1 by omega,List.set_cons_succ,List.set_append_right _ _ (zb4 _),zf8,List.set_cons_zero]
theorem GM(p s:List α)(u v:α):swp (p++u::v::s) p.length (p.length+1)=p++v::u::s:=by
 have:=NT p [] s u v;simpa using this
theorem JR(xs:List α)(i j:Nat):swp xs i j=swp xs j i:=by
 unfold swp
 by_cases h:i=j
 .subst h;rfl
 .cases xs[i]? <;> cases xs[j]? <;> simp[List.set_comm _ _ h]
def rng(p x q y s:List α)(i:Nat):List α:=p++(y.take i++x.drop i)++q++(x.take i++y.drop i)++s
theorem CX(p x q y s:List α):rng p x q y s 0=p++x++q++y++s:=by simp[rng]
theorem WM(p x q y s:List α)(h:x.length=y.length):rng p x q y s x.length=p++y++q++x++s:=by
 unfold rng;rw[zb1 (by omega),List.drop_of_length_le (by omega),zb1 (by omega),List.drop_of_length_le (by omega)];simp
theorem RH(p x q y s:List α)(h:x.length=y.length){i:Nat}(hi:i<x.length) :
  swp (rng p x q y s i) (p.length+i) (p.length+x.length+q.length+i)=rng p x q y s (i+1):=by
 have hy:i<y.length:=by omega
 have ex:x.drop i=x[i]::x.drop (i+1):=zb0 hi;have ey:y.drop i=y[i]::y.drop (i+1):=zb0 hy;have tx:x.take (i+1)=x.take i++[x[i]]:=by rw[List.take_add_one,za2 hi];rfl
 have ty:y.take (i+1)=y.take i++[y[i]]:=by rw[List.take_add_one,za2 hy];rfl
 have:=NT (p++y.take i) (x.drop (i+1)++q++x.take i) (y.drop (i+1)++s) x[i] y[i];have l1:(p++y.take i).length=p.length+i:=by simp;omega
 have l2:(p++y.take i).length+1+(x.drop (i+1)++q++x.take i).length=p.length+x.length+q.length+i:=by simp;omega
 rw[l2,l1]at this;unfold rng;rw[ex,ey,tx,ty];simp only[za5,ze1,zc9]at this ⊢;exact this
structure Wk(lt:α->α->Bool):Prop where
 irrefl:∀x,lt x x=false
 trans:∀x y z,lt x y=true->lt y z=true->lt x z=true
 ntrans:∀x y z,lt x y=false->lt y z=false->lt x z=false
def T(lt:α->α->Bool)(p q:α×Nat):Prop:=lt p.1 q.1=true\/(lt q.1 p.1=false/\p.2<q.2)
variable{lt:α->α->Bool}
theorem Wk.asymm(h:Wk lt){x y:α}(h1:lt x y=true):lt y x=false:=by
 cases h2:lt y x with
 |false=>rfl
 |true=>have:=h.trans _ _ _ h1 h2;rw[h.irrefl]at this;cases this
theorem T.trans(h:Wk lt){p q r:α×Nat}(h1:T lt p q)(h2:T lt q r):T lt p r:=by
 unfold T at *
 rcases h1 with a | ⟨a,a'⟩ <;> rcases h2 with b | ⟨b,b'⟩
 .exact .inl (h.trans _ _ _ a b)
 .cases hr:lt p.1 r.1 with
  |true=>exact .inl rfl
  |false=>have:=h.ntrans _ _ _ hr b;rw[a]at this;cases this
 .cases hr:lt p.1 r.1 with
  |true=>exact .inl rfl
  |false=>have:=h.ntrans _ _ _ a hr;rw[b]at this;cases this
 .exact .inr ⟨h.ntrans _ _ _ b a,by omega⟩
theorem T.asymm(h:Wk lt){p q:α×Nat}(h1:T lt p q)(h2:T lt q p):False:=by
 have:=T.trans h h1 h2;unfold T at this
 rcases this with a | ⟨_,a⟩
 .rw[h.irrefl]at a;cases a
 .omega
theorem YX{x y:α×Nat}(h:x.2<y.2):lt y.1 x.1=true↔T lt y x:=by
 unfold T;constructor
 .exact .inl
 .rintro(h1 | ⟨_,h1⟩)
  .exact h1
  .omega
theorem Rh(hw:Wk lt){x y:α×Nat}(h:x.2<y.2):lt y.1 x.1=false↔T lt x y:=by
 unfold T;constructor
 .exactλh1 => .inr ⟨h1,h⟩
 .rintro(h1 | ⟨h1,_⟩)
  .exact hw.asymm h1
  .exact h1
abbrev Up(lt:α->α->Bool)(l:List (α×Nat)):Prop:=l.Pairwise (T lt)
section
variable{U V:List (α×Nat)}{x:α×Nat}
theorem qO(h:Wk lt)(hV:Up lt V){i j:Nat}(hij:i<=j){y z:α×Nat}(hi:V[i]?=some y)(hj:V[j]?=some z)(ht:T lt z x):T lt y x:=by
 rcases Nat.eq_or_lt_of_le hij with rfl | hlt
 .rw[hi]at hj;cases hj;exact ht
 .obtain⟨h1,e1⟩:=za1.1 hi;obtain⟨h2,e2⟩:=za1.1 hj;have:=List.pairwise_iff_getElem.1 hV i j h1 h2 hlt;rw[e1,e2]at this;exact T.trans h this ht
theorem qJ(h:Wk lt)(hV:Up lt V){i j:Nat}(hij:j<=i){y z:α×Nat}(hi:V[i]?=some y)(hj:V[j]?=some z)(ht:T lt x z):T lt x y:=by
 rcases Nat.eq_or_lt_of_le hij with rfl | hlt
 .rw[hi]at hj;cases hj;exact ht
 .obtain⟨h1,e1⟩:=za1.1 hi;obtain⟨h2,e2⟩:=za1.1 hj;have:=List.pairwise_iff_getElem.1 hV j i h2 h1 hlt;rw[e1,e2]at this;exact T.trans h ht this
theorem OZ(hV:Up lt V){i:Nat}(h1:∀(k:Nat) y,k<i->V[k]?=some y->T lt y x)(h2:∀(k:Nat) y,i<=k->V[k]?=some y->T lt x y):Up lt (V.take i++x::V.drop i):=by
 have hs:=List.pairwise_append.1 (show List.Pairwise (T lt) (V.take i++V.drop i) by rw[List.take_append_drop];exact hV);refine List.pairwise_append.2 ⟨hs.1,List.pairwise_cons.2 ⟨λy hy=>?_,hs.2.1⟩,λy hy z hz=>?_⟩
 .obtain⟨k,hk⟩:=List.mem_iff_getElem?.1 hy;rw[List.getElem?_drop]at hk;exact h2 _ y (by omega) hk
 .cases hz with
  |head=>
   obtain⟨k,hk⟩:=List.mem_iff_getElem?.1 hy;rw[zd6]at hk;split at hk
   .next hlt=>exact h1 k y hlt hk
   .cases hk
  |tail _ hz=>exact hs.2.2 y hy z hz
theorem CZ(V:List (α×Nat))(x:α×Nat)(i:Nat):(V.take i++x::V.drop i).Perm (x::V):=by
 have h1:(V.take i++x::V.drop i).Perm (x::(V.take i++V.drop i)):=zf7
 rwa [List.take_append_drop]at h1
theorem Yb(h:Wk lt)(hU:Up lt U)(hV:Up lt V){s e:Nat}(hs:s<=U.length)(he:e<=V.length)
  (h1:s=0\/e=V.length\/∃y z,U[s - 1]?=some y/\V[e]?=some z/\T lt y z) (h2:e=0\/s=U.length\/∃y z,V[e - 1]?=some y/\U[s]?=some z/\T lt y z) :
  ∀l∈U.take s++V.take e,∀r∈U.drop s++V.drop e,T lt l r:=by
 have hUs:=List.pairwise_append.1 (show List.Pairwise (T lt) (U.take s++U.drop s) by rw[List.take_append_drop];exact hU);have hVs:=List.pairwise_append.1 (show List.Pairwise (T lt) (V.take e++V.drop e) by rw[List.take_append_drop];exact hV);intro l hl r hr
 rcases zb2.1 hl with hl | hl <;> rcases zb2.1 hr with hr | hr
 .exact hUs.2.2 l hl r hr
 .obtain⟨i,hi⟩:=List.mem_iff_getElem?.1 hl;obtain⟨j,hj⟩:=List.mem_iff_getElem?.1 hr;rw[zd6]at hi;rw[List.getElem?_drop]at hj;split at hi
  .next hlt=>
   rcases h1 with h1 | h1 | ⟨y,z,hy,hz,ht⟩
   .omega
   .rw[zc3 (by omega)]at hj;cases hj
   .exact qJ h hV (j:=e) (by omega) hj hz (qO h hU (j:=s - 1) (by omega) hi hy ht)
  .cases hi
 .obtain⟨i,hi⟩:=List.mem_iff_getElem?.1 hl;obtain⟨j,hj⟩:=List.mem_iff_getElem?.1 hr;rw[zd6]at hi;rw[List.getElem?_drop]at hj;split at hi
  .next hlt=>
   rcases h2 with h2 | h2 | ⟨y,z,hy,hz,ht⟩
   .omega
   .rw[zc3 (by omega)]at hj;cases hj
   .exact qJ h hU (j:=s) (by omega) hj hz (qO h hV (j:=e - 1) (by omega) hi hy ht)
  .cases hi
 .exact hVs.2.2 l hl r hr
theorem Qn{A B A' B':List (α×Nat)}(hA:A'.Perm A)(hB:B'.Perm B)(uA:Up lt A')(uB:Up lt B')(h:∀l∈A,∀r∈B,T lt l r):Up lt (A'++B') :=
 List.pairwise_append.2 ⟨uA,uB,λl hl r hr=>h l (hA.mem_iff.1 hl) r (hB.mem_iff.1 hr)⟩
theorem ET(h:Wk lt):∀ {A B:List (α×Nat)},A.Perm B->Up lt A->Up lt B->A=B
 | [],B,hp,_,_=>(List.nil_perm.1 hp).symm
 |a::A,[],hp,_,_=>absurd hp.length_eq (by simp)
 |a::A,b::B,hp,hA,hB=>by
  have hA':=List.pairwise_cons.1 hA;have hB':=List.pairwise_cons.1 hB;have hab:a=b:=by
   rcases zb3.1 (hp.mem_iff.1 (List.mem_cons_self (a:=a) (l:=A))) with e | e
   .exact e
   .rcases zb3.1 (hp.mem_iff.2 (List.mem_cons_self (a:=b) (l:=B))) with e2 | e2
    .exact e2.symm
    .exact(T.asymm h (hA'.1 b e2) (hB'.1 a e)).elim
  subst hab;rw[ET h (List.Perm.cons_inv hp) hA'.2 hB'.2]
end
def lX(lt:α->α->Bool)(l:List α)(x:α):List α:=(l.reverse.dropWhile (λy=>lt x y)).reverse++x::(l.reverse.takeWhile (λy=>lt x y)).reverse
def sorted(lt:α->α->Bool)(xs:List α):List α:=xs.foldl (lX lt) []
theorem O8{β:Type}(f:α->β)(p:β->Bool):∀l:List α,(l.map f).takeWhile p=(l.takeWhile (λx=>p (f x))).map f
 | []=>rfl
 |x::r=>by simp only[ze0,List.takeWhile_cons];split <;> simp[O8 f p r]
theorem Ns{β:Type}(f:α->β)(p:β->Bool):∀l:List α,(l.map f).dropWhile p=(l.dropWhile (λx=>p (f x))).map f
 | []=>rfl
 |x::r=>by simp only[ze0,List.dropWhile_cons];split <;> simp[Ns f p r]
theorem Uk{β:Type}{p:β->Bool}:∀ {l:List β} {x:β},x∈l.takeWhile p->p x=true
 |y::r,x,h=>by
  rw[List.takeWhile_cons]at h;split at h
  .next hy=>
   rcases zb3.1 h with rfl | h
   .exact hy
   .exact Uk h
  .cases h
def QB(lt:α->α->Bool)(l:List (α×Nat))(x:α×Nat):List (α×Nat):=lX (λa b=>lt a.1 b.1) l x
theorem Rf(l:List (α×Nat))(x:α×Nat):(QB lt l x).map (·.1)=lX lt (l.map (·.1)) x.1:=by
 unfold QB lX;rw[<- List.map_reverse,O8,Ns];simp[List.map_reverse]
theorem Fa(lt:α->α->Bool)(l:List α)(x:α):(lX lt l x).Perm (l++[x]):=by
 unfold lX;have h1:(l.reverse.dropWhile (λy=>lt x y)).reverse++(l.reverse.takeWhile (λy=>lt x y)).reverse=l:=by
  rw[<- List.reverse_append,List.takeWhile_append_dropWhile,List.reverse_reverse]
 refine(zf7).trans ?_;rw[h1];exact(List.perm_append_singleton x l).symm
theorem Vg(h:Wk lt){l:List (α×Nat)}{x:α×Nat}(hu:Up lt l)(hx:∀y∈l,y.2<x.2):Up lt (QB lt l x):=by
 unfold QB lX;have e1:(l.reverse.dropWhile (λy=>lt x.1 y.1)).reverse++(l.reverse.takeWhile (λy=>lt x.1 y.1)).reverse=l:=by
  rw[<- List.reverse_append,List.takeWhile_append_dropWhile,List.reverse_reverse]
 have hu':=hu;rw[<- e1]at hu';have hs:=List.pairwise_append.1 hu';have g2:∀y∈(l.reverse.takeWhile (λy=>lt x.1 y.1)).reverse,T lt x y:=by
  intro y hy;rw[List.mem_reverse]at hy;have:=Uk hy;exact .inl this
 have hmem:∀y∈(l.reverse.dropWhile (λy=>lt x.1 y.1)).reverse,y∈l:=λy hy=>by rw[<- e1];exact List.mem_append_left _ hy
 have g1:∀y∈(l.reverse.dropWhile (λy=>lt x.1 y.1)).reverse,T lt y x:=by
  cases hd:l.reverse.dropWhile (λy=>lt x.1 y.1) with
  |nil=>intro y hy;cases hy
  |cons z r=>
   have hz:lt x.1 z.1=false:=by
    have:=List.head?_dropWhile_not (λy:α×Nat=>lt x.1 y.1) l.reverse;rw[hd]at this;simpa using this
   have hzl:z∈l:=hmem z (by rw[hd];simp);have tz:T lt z x := .inr ⟨hz,hx z hzl⟩;intro y hy;rw[List.reverse_cons]at hy
   rcases zb2.1 hy with hy | hy
   .have hp:=hs.1;rw[hd,List.reverse_cons]at hp;exact T.trans h ((List.pairwise_append.1 hp).2.2 y hy z (by simp)) tz
   .obtain rfl:y=z:=by simpa using hy
    exact tz
 refine List.pairwise_append.2 ⟨hs.1,List.pairwise_cons.2 ⟨g2,hs.2.1⟩,λy hy z hz=>?_⟩
 rcases zb3.1 hz with rfl | hz
 .exact g1 y hy
 .exact hs.2.2 y hy z hz
theorem Vd(h:Wk lt):∀(zs acc:List (α×Nat)),Up lt acc->(∀y∈acc,∀z∈zs,y.2<z.2)->zs.Pairwise (λa b=>a.2<b.2) ->
  Up lt (zs.foldl (QB lt) acc)/\(zs.foldl (QB lt) acc).Perm (acc++zs)/\(zs.foldl (QB lt) acc).map (·.1)=(zs.map (·.1)).foldl (lX lt) (acc.map (·.1))
 | [],acc,hu,_,_=>⟨hu,by simp,rfl⟩
 |z::zs,acc,hu,ha,hz=>by
  have hz':=List.pairwise_cons.1 hz;have hp:(QB lt acc z).Perm (acc++[z]):=Fa _ _ _;obtain⟨h1,h2,h3⟩:=Vd h zs (QB lt acc z) (Vg h hu λy hy=>ha y hy z (.head _)) (λy hy w hw=>by
   rcases zb2.1 (hp.mem_iff.1 hy) with h' | h'
   .exact ha y h' w (.tail _ hw)
   .obtain rfl:y=z:=by simpa using h'
    exact hz'.1 w hw) hz'.2
  refine⟨h1,h2.trans ?_,?_⟩
  .have:=hp.append_right zs;simpa using this
  .rw[ze9,h3,Rf];rfl
theorem IE(xs:List α)(n:Nat):(xs.zipIdx n).Pairwise (λa b=>a.2<b.2):=by
 rw[List.pairwise_iff_getElem];intro i j hi hj hij;simp;omega
theorem zip_fst:∀(xs:List α) (n:Nat),(xs.zipIdx n).map (·.1)=xs
 | [],_=>rfl
 |x::r,n=>by rw[List.zipIdx_cons,ze0,zip_fst r]
theorem Qv(h:Wk lt){xs:List α}{zs:List (α×Nat)}(hp:zs.Perm xs.zipIdx)(hu:Up lt zs):zs.map (·.1)=sorted lt xs:=by
 obtain⟨h1,h2,h3⟩:=Vd h xs.zipIdx [] List.Pairwise.nil (λy hy=>by cases hy) (IE xs 0);rw[ET h (hp.trans (by simpa using h2.symm)) hu h1,h3,zip_fst];rfl
end Go.Ss
namespace Go.E
open Go Go.RowKit Go.Ss
abbrev rdX{β:Type}(ld:World->Addr->(β->Prop)->Prop)(kc:Nat)(a:OA)(n:Nat)(i:Int)(w:World)(K:β->Prop):Prop:=ix a n i λq=>ld w (q.add (i.toNat*kc)) K
abbrev wrX{β:Type}(sto:World->Addr->β->(zg6)->Prop)(kc:Nat)(a:OA)(n:Nat)(i:Int)(w:World)(x:β)(K:zg6):Prop:=ix a n i λq=>sto w (q.add (i.toNat*kc)) x K
structure SM(β:Type) where
 P:Program
 ld:World->Addr->(β->Prop)->Prop
 sto:World->Addr->β->(zg6)->Prop
 kc:Nat
 a:OA
 n:Nat
 lt:β->β->Bool
 cf:FuncId
 cargs:β->β->Array Value
 H:World->List β->Prop
 G:β->Prop
 Rel:World->World->Prop
 wk:Wk lt
 small:n<=1152921504606846975
 refl:∀w,Rel w w
 trans:∀ {w u x},Rel w u->Rel u x->Rel w x
 len:∀ {w xs},H w xs->xs.length=n
 rd:∀ {w xs i K},H w xs->0<=i->i<(n:Int)->(∀x,xs[i.toNat]?=some x->K x)->rdX ld kc a n i w K
 good:∀ {w xs},H w xs->∀x∈xs,G x
 wr:∀ {w xs i x K},H w xs->G x->0<=i->i<(n:Int)->(∀u,H u (xs.set i.toNat x)->Rel w u->K u)->wrX sto kc a n i w x K
 call:∀ {w xs x y},H w xs->x∈xs->y∈xs->E.CallsD P cf (cargs x y) w λv u=>∃r:Int,v = .int .i64 r/\decide (r<0)=lt x y/\H u xs/\Rel w u
section
variable{β:Type}(S:SM β)
abbrev SM.rdE(i:Int)(w:World)(K:β->Prop):Prop:=rdX S.ld S.kc S.a S.n i w K
abbrev SM.wrE(i:Int)(w:World)(x:β)(K:zg6):Prop:=wrX S.sto S.kc S.a S.n i w x K
abbrev SM.cmp(x y:β)(w:World)(K:Int->zg6):Prop:=E.CallsD S.P S.cf (S.cargs x y) w λv u=>∃r,v = .int .i64 r/\K r u
abbrev I3:=Int->Int->Int->World->VP->Prop
abbrev dn(R:VP)(w:World):Prop:=R (.tuple #[]) w
abbrev th(K:zg6):VP:=λv u=>v = .tuple #[]/\K u
abbrev half(x y:Int)(K:Int->Prop):Prop:=nv (IntKind.i64.wrap (x+y)) λt=>nv (IntKind.u64.wrap t) λt=>nv (Int.fdiv t (2 ^ 1)) λt=>nv (IntKind.i64.wrap t) K
abbrev wI(x:Int)(K:Int->Prop):Prop:=nv (IntKind.i64.wrap x) K
def a0X(b3:Int->zg6)(R:VP)(x1 x2 x3 x:Int)(w:World):Prop :=
 af (decide (x<x3)) (∃wm:World,CK wm w/\wI (x1+x) λt16=>wI (x2+x) λt17=>wI (x2+x) λt18=>S.rdE t18 w λy=>wI (x1+x) λt21=>S.rdE t21 w λz=>S.wrE t16 w y λw1=>CK wm w1/\S.wrE t17 w1 z λw2=>inc x λt=>b3 t w2) (dn R w)
def a1u(cSwp:I3)(b6:Int->Int->zg6)(R:VP)(m i j:Int)(w:World):Prop :=
 af (i != j) (af (decide (i>j)) (wI (m - i) λt=>cSwp t m j w (th λu=>wI (i - j) λt=>b6 t j u)) (wI (m - i) λt1=>wI (m+j) λt=>wI (t - i) λt2=>cSwp t1 t2 i w (th λu=>wI (j - i) λt=>b6 i t u)))
  (wI (m - i) λt=>cSwp t m i w (th λu=>dn R u))
def Uh(b10 e29:Int->Int->zg6)(x1 x10 x11:Int)(w:World):Prop :=
 af (decide (x10<x11)) (half x10 x11 λh=>S.rdE h w λy=>S.rdE x1 w λz=>S.cmp y z w λr u=>af (decide (r<0)) (inc h λt=>b10 t x11 u) (b10 x10 h u)) (e29 x10 x1 w)
def Jq(b29:Int->zg6)(R:VP)(x10 x:Int)(w:World):Prop :=
 wI (x10 - 1) λt=>af (decide (x<t)) (∃wm:World,CK wm w/\inc x λt1=>inc x λt2=>S.rdE t2 w λy=>S.rdE x w λz=>S.wrE x w y λw1=>CK wm w1/\S.wrE t1 w1 z λw2=>inc x λt=>b29 t w2) (dn R w)
def Uw(b52 e71:Int->Int->zg6)(x2 x14 x15:Int)(w:World):Prop :=
 af (decide (x14<x15)) (half x14 x15 λh=>S.rdE x2 w λy=>S.rdE h w λz=>S.cmp y z w λr u=>af (!(decide (r<0))) (inc h λt=>b52 t x15 u) (b52 x14 h u)) (e71 x14 x2 w)
def Uy(b71:Int->zg6)(R:VP)(x14 x:Int)(w:World):Prop :=
 af (decide (x>x14)) (∃wm:World,CK wm w/\wI (x - 1) λt1=>wI (x - 1) λt2=>S.rdE t2 w λy=>S.rdE x w λz=>S.wrE x w y λw1=>CK wm w1/\S.wrE t1 w1 z λw2=>wI (x - 1) λt=>b71 t w2) (dn R w)
def Gx(cSym:I3)(R:VP)(b mid e:Int)(w:World):Prop :=
 af (decide (mid<e)) (af (decide (e<b)) (cSym mid e b w (th λu=>dn R u)) (dn R w)) (dn R w)
def yP(cSym:I3)(R:VP)(a b mid s e:Int)(w:World):Prop :=
 af (decide (a<s)) (af (decide (s<mid)) (cSym a s mid w (th λu=>Gx cSym R b mid e u)) (Gx cSym R b mid e w)) (Gx cSym R b mid e w)
def Dk(cRot cSym:I3)(b104:Int->Int->zg6)(R:VP)(a m b mid n s r p:Int)(w:World):Prop :=
 af (decide (s<r)) (half s r λc=>wI (p - c) λt=>S.rdE t w λy=>S.rdE c w λz=>S.cmp y z w λq u=>af (!(decide (q<0))) (inc c λt=>b104 t r u) (b104 s c u))
  (wI (n - s) λe=>af (decide (s<m)) (af (decide (m<e)) (cRot s m e w (th λu=>yP cSym R a b mid s e u)) (yP cSym R a b mid s e w)) (yP cSym R a b mid s e w))
def XR(e10 e52:Int->Int->Int->zg6)(j100:Int->Int->Int->Int->zg6)(a m b:Int)(w:World):Prop :=
 wI (m - a) λt=>af (t==1) (e10 a m b w) (wI (b - m) λt=>af (t==1) (e52 m a m w) (half a b λmid=>wI (mid+m) λn=>af (decide (m>mid)) (wI (n - b) λt=>j100 mid n t mid w) (j100 mid n a m w)))
def U5(b3 b15:Int->zg6)(x1 x8 x:Int)(w:World):Prop :=
 af (decide (x>x1)) (S.rdE x w λy=>wI (x - 1) λt=>S.rdE t w λz=>S.cmp y z w λr u=>af (decide (r<0))
  (∃wm:World,CK wm u/\wI (x - 1) λt1=>wI (x - 1) λt2=>S.rdE t2 u λy=>S.rdE x u λz=>S.wrE x u y λw1=>CK wm w1/\S.wrE t1 w1 z λw2=>wI (x - 1) λt=>b15 t w2)
  (inc x8 λt=>b3 t u)) (inc x8 λt=>b3 t w)
def ZE(e15:Int->Int->zg6)(R:VP)(x2 x8:Int)(w:World):Prop:=af (decide (x8<x2)) (e15 x8 x8 w) (dn R w)
abbrev I2:=Int->Int->World->VP->Prop
def XN(cIns:I2)(b6:Int->Int->zg6)(e22:Int->zg6)(n x6 x7 x8:Int)(w:World):Prop :=
 af (decide (x8<=n)) (cIns x7 x8 w (th λu=>wI (x8+x6) λt=>b6 x8 t u)) (cIns x7 n w (th λu=>e22 x6 u))
def Uu(e34:Int->Int->Int->zg6)(R:VP)(n x6:Int)(w:World):Prop:=af (decide (x6<n)) (wI (2*x6) λt=>e34 x6 0 t w) (dn R w)
def Q3(cSym:I3)(b22:Int->zg6)(b34:Int->Int->zg6)(n x6 x7 x8:Int)(w:World):Prop :=
 af (decide (x8<=n)) (wI (x7+x6) λt=>cSym x7 t x8 w (th λu=>wI (2*x6) λt=>wI (x8+t) λt=>b34 x8 t u))
  (wI (x7+x6) λt=>af (decide (t<n)) (cSym x7 t n w (th λu=>wI (x6*2) λt=>b22 t u)) (wI (x6*2) λt=>b22 t w))
end
def E0(w:World):World:={ w with heap := #[] }
theorem ck0(w u:World):CK (E0 w) u:=λa v h=>by
 have:(E0 w).heap[a.block]?=none:=by simp[E0]
 unfold World.cell? at h;rw[this]at h;cases h
theorem D5{x y:Int}{K:Int->Prop}(h1:0<=x)(h2:0<=y)(h3:x<=4611686018427387903)(h4:y<=4611686018427387903)(hk:K ((x+y) / 2)):half x y K:=by
 refine bM (by omega) (by omega) (Y9 (by omega) (by omega) (nH (y:=(x+y) / 2) ?_ (bM (by omega) (by omega) hk)));rw[Int.fdiv_eq_ediv_of_nonneg _ (by decide)];rfl
section
variable{β:Type}(S:SM β){R:VP}{w0:World}{P Q:List (β×Nat)}
abbrev fs(l:List (β×Nat)):List β:=l.map (·.1)
theorem SM.Ak{w:World}{l:List (β×Nat)}(h:S.H w (fs l)):l.length=S.n:=by rw[<- S.len h,za7]
theorem YH{xs:List β}{i j:Nat}{y z:β}(hy:xs[j]?=some y)(hz:xs[i]?=some z):(xs.set i y).set j z=swp xs i j:=(Ul hz hy).symm
theorem Ii(l:List (β×Nat))(i j:Nat):swp (fs l) i j=fs (swp l i j):=UG _ _ _ _
theorem SM.DD{x1 x2 x3:Int}{l:Nat->Int->zg6}(hl:∀k x w,a0X S (l k) R x1 x2 x3 x w->l (k+1) x w){p x q y s:List (β×Nat)}(hxy:x.length=y.length)(e1:x1=(p.length:Nat))(e2:x2=(p.length+x.length+q.length:Nat))(e3:x3=(x.length:Nat))
  (hR:∀u,S.H u (fs (p++y++q++x++s))->S.Rel w0 u->dn R u) :
  ∀(m i:Nat) (w:World),i+m=x.length->S.Rel w0 w->S.H w (fs (rng p x q y s i))->l (m+1) i w
 |0,i,w,hi,hr,hH=>hl _ _ _ (aA (by omega) (hR w (by rw[<- WM p x q y s hxy,<- show i=x.length by omega];exact hH) hr))
 |m+1,i,w,hi,hr,hH=>by
  have hn:=S.Ak hH;have hs:=S.small;have hln:(rng p x q y s i).length=p.length+x.length+q.length+y.length+s.length:=by simp[rng];omega
  refine hl _ _ _ (aH (by omega) ⟨E0 w,ck0 _ _,bM (by omega) (by omega) (bM (by omega) (by omega) (bM (by omega) (by omega) ?_))⟩);refine S.rd hH (by omega) (by omega) λb hb=>bM (by omega) (by omega) (S.rd hH (by omega) (by omega) λa ha=>S.wr hH (S.good hH _ (za0 hb)) (by omega) (by omega) λu1 h1 r1=>⟨ck0 _ _,S.wr h1 (S.good hH _ (za0 ha)) (by omega) (by omega) λu2 h2 r2=>aC (by omega) ?_⟩);have ea:(x1+(i:Int)).toNat=p.length+i:=by omega
  have eb:(x2+(i:Int)).toNat=p.length+x.length+q.length+i:=by omega
  rw[ea]at ha h2;rw[eb]at hb h2;rw[YH hb ha,Ii,RH p x q y s hxy (by omega)]at h2;exact SM.DD hl hxy e1 e2 e3 hR m (i+1) u2 (by omega) (S.trans hr (S.trans r1 r2)) h2
def SM.TS(c:I3):Prop:=∀(p x q y s:List (β×Nat)) (w:World) (R:VP),x.length=y.length->S.H w (fs (p++x++q++y++s))->(∀u,S.H u (fs (p++y++q++x++s))->S.Rel w u->dn R u) ->
 c (p.length:Nat) (p.length+x.length+q.length:Nat) (x.length:Nat) w R
theorem SM.Gi{c:I3}(hc:S.TS c){m:Int}{l:Nat->Int->Int->zg6}(hl:∀k i j w,a1u c (l k) R m i j w->l (k+1) i j w){F:List (β×Nat)}(hR:∀u,S.H u (fs F)->S.Rel w0 u->dn R u) :
  ∀(k:Nat) (P L R' Q:List (β×Nat)) (w:World),L.length+R'.length<=k->0<L.length->0<R'.length->P++R'++L++Q=F->m=(P.length+L.length:Nat)->S.Rel w0 w->S.H w (fs (P++L++R'++Q))->l (k+1) (L.length:Nat) (R'.length:Nat) w:=by
 intro k
 induction k with
 |zero=>intro P L R' Q w hk hL;omega
 |succ k ih=>
  intro P L R' Q w hk hL hR' hF hm hr hH;have hn:=S.Ak hH;have hs:=S.small;have hln:(P++L++R'++Q).length=P.length+L.length+R'.length+Q.length:=by simp;omega
  refine hl _ _ _ _ (ja (λhne=>fJ (λhgt=>?_) (λhle=>?_)) (λheq=>?_))
  ·-- the left one is longer
   have h1:(L.take R'.length).length=R'.length:=by simp;omega
   have h2:(L.drop R'.length).length=L.length - R'.length:=by simp
   refine bM (by omega) (by omega) ?_;have:=hc P (L.take R'.length) (L.drop R'.length) R' Q w (th λu=>wI ((L.length:Int) - (R'.length:Int)) λt=>l (k+1) t (R'.length:Nat) u) h1 (by simpa[za5] using hH) λu hu ru=>⟨rfl,bM (by omega) (by omega) ?_⟩
   .rw[h1,h2]at this;rw[show m - (L.length:Int)=(P.length:Nat) by omega,show m=((P.length+R'.length+(L.length - R'.length):Nat):Int) by omega];exact this
   .have:=ih (P++R') (L.drop R'.length) (L.take R'.length) Q u (by omega) (by omega) (by omega) (by rw[<- hF];simp[za5]) (by simp;omega) (S.trans hr ru) (by simpa[za5] using hu);rw[h1,h2]at this;rw[show(L.length:Int) - (R'.length:Int)=((L.length - R'.length:Nat):Int) by omega];exact this
  ·-- the right one is longer
   have hd:(R'.drop (R'.length - L.length)).length=L.length:=by simp;omega
   have ht:(R'.take (R'.length - L.length)).length=R'.length - L.length:=by simp
   refine bM (by omega) (by omega) (bM (by omega) (by omega) (bM (by omega) (by omega) ?_));have:=hc P L (R'.take (R'.length - L.length)) (R'.drop (R'.length - L.length)) Q w (th λu=>wI ((R'.length:Int) - (L.length:Int)) λt=>l (k+1) (L.length:Nat) t u) hd.symm (by simpa[za5] using hH) λu hu ru=>⟨rfl,bM (by omega) (by omega) ?_⟩
   .rw[ht]at this;rw[show m - (L.length:Int)=(P.length:Nat) by omega,show m+(R'.length:Int) - (L.length:Int)=((P.length+L.length+(R'.length - L.length):Nat):Int) by omega];exact this
   .have:=ih P (R'.drop (R'.length - L.length)) (R'.take (R'.length - L.length)) (L++Q) u (by omega) (by omega) (by omega) (by rw[<- hF];simp[<- List.append_assoc];simp[za5]) (by omega) (S.trans hr ru) (by simpa[za5] using hu);rw[hd,ht]at this;rw[show(R'.length:Int) - (L.length:Int)=((R'.length - L.length:Nat):Int) by omega];exact this
  .refine bM (by omega) (by omega) ?_;have:=hc P L [] R' Q w (th λu=>dn R u) (by omega) (by simpa using hH) λu hu ru=>⟨rfl,hR u (by rw[<- hF];simpa using hu) (S.trans hr ru)⟩;rw[show m - (L.length:Int)=(P.length:Nat) by omega,show m=((P.length+L.length+([]:List (β×Nat)).length:Nat):Int) by simpa using hm];exact this
def SM.P7(c:I3):Prop:=∀(P L R' Q:List (β×Nat)) (w:World) (R:VP),0<L.length->0<R'.length->S.H w (fs (P++L++R'++Q))->(∀u,S.H u (fs (P++R'++L++Q))->S.Rel w u->dn R u) ->
 c (P.length:Nat) (P.length+L.length:Nat) (P.length+L.length+R'.length:Nat) w R
end
section
variable{β:Type}(S:SM β){R:VP}{w0:World}{P Q U V:List (β×Nat)}{x:β×Nat}
theorem IZ{α:Type}(A B C:List α){k:Nat}(h:k<B.length):(A++(B++C))[A.length+k]?=B[k]?:=by
 rw[zc0 (by omega),Nat.add_sub_cancel_left,zb9 h]
theorem xO{l:List (β×Nat)}{i:Nat}{z:β×Nat}(h:l[i]?=some z):(fs l)[i]?=some z.1:=by rw[zc1,h];rfl
theorem xC{l:List (β×Nat)}{i:Nat}{z:β×Nat}(h:l[i]?=some z):z.1∈fs l:=zd4.2 ⟨z,za0 h,rfl⟩
theorem SM.Zk{x1:Int}{l:Nat->Int->Int->zg6}{e29:Int->Int->zg6}(hl:∀k i j w,Uh S (l k) e29 x1 i j w->l (k+1) i j w)(e1:x1=(P.length:Nat))(hV:Up S.lt V)(ht:∀y∈V,x.2<y.2)
  (hR:∀u i,i<=V.length->(∀(k:Nat) y,k<i->V[k]?=some y->T S.lt y x)->(∀(k:Nat) y,i<=k->V[k]?=some y->T S.lt x y)->S.H u (fs (P++x::(V++Q)))->S.Rel w0 u->e29 (P.length+1+i:Nat) x1 u) :
  ∀(m i j:Nat) (w:World),i<=j->j<=V.length->j - i<=m->(∀(k:Nat) y,k<i->V[k]?=some y->T S.lt y x)->(∀(k:Nat) y,j<=k->V[k]?=some y->T S.lt x y)->S.Rel w0 w->S.H w (fs (P++x::(V++Q))) ->
   l (m+1) (P.length+1+i:Nat) (P.length+1+j:Nat) w:=by
 intro m
 induction m with
 |zero=>
  intro i j w h1 h2 h3 ha hb hr hH;obtain rfl:i=j:=by omega
  exact hl _ _ _ _ (aA (by omega) (hR w i h2 ha hb hH hr))
 |succ m ih=>
  intro i j w h1 h2 h3 ha hb hr hH;have hn:=S.Ak hH;have hs:=S.small;have hln:(P++x::(V++Q)).length=P.length+1+V.length+Q.length:=by simp;omega
  refine hl _ _ _ _ (fJ (λhij=>?_) (λhij=>?_))
  .have hc:(((P.length+1+i:Nat):Int)+((P.length+1+j:Nat):Int)) / 2=((P.length+1+(i+j) / 2:Nat):Int):=by omega
   have hij2:i<j:=by omega
   refine D5 (by omega) (by omega) (by omega) (by omega) ?_;rw[hc];clear hc hij;refine S.rd hH (by omega) (by omega) λy hy=>S.rd hH (by omega) (by omega) λz hz=>?_;rw[za3]at hy;rw[e1,za3]at hz;have hk:(i+j) / 2<V.length:=by omega
   obtain⟨yt,hyt⟩:∃yt,V[(i+j) / 2]?=some yt:=⟨_,za2 hk⟩;have hy':(P++x::(V++Q))[P.length+1+(i+j) / 2]?=some yt:=by
    have:=IZ (P++[x]) V Q hk;rw[hyt]at this;simpa[Nat.add_assoc] using this
   have hx':(P++x::(V++Q))[P.length]?=some x:=by simp
   rw[xO hy']at hy;cases hy;rw[xO hx']at hz;cases hz;refine zg0 (S.call hH (xC hy') (xC hx')) λv u ⟨r,hv,hlt,hu,ru⟩=>⟨r,hv,?_⟩;have htg:=ht yt (za0 hyt);show af (decide (r<0)) _ _;rw[hlt]
   cases hb2:S.lt yt.1 x.1 with
   |true=>
    have hT:=(YX (lt:=S.lt) htg).1 hb2;rw[yG];refine aC (by omega) ?_;refine ih ((i+j) / 2+1) j u (by omega) h2 (by omega) (λk y hk hky=>qO S.wk hV (j:=(i+j) / 2) (by omega) hky hyt hT) hb (S.trans hr ru) hu
   |false=>
    have hT:=(Rh S.wk htg).1 hb2;rw[yJ];exact ih i ((i+j) / 2) u (by omega) (by omega) (by omega) ha (λk y hk hky=>qJ S.wk hV (j:=(i+j) / 2) (by omega) hky hyt hT) (S.trans hr ru) hu
  .obtain rfl:i=j:=by omega
   exact hR w i h2 ha hb hH hr
theorem SM.Y7{x10:Int}{l:Nat->Int->zg6}(hl:∀k x w,Jq S (l k) R x10 x w->l (k+1) x w){i:Nat}(hi:i<=V.length)(e1:x10=(P.length+1+i:Nat))
  (hR:∀u,S.H u (fs (P++(V.take i++x::(V.drop i++Q))))->S.Rel w0 u->dn R u) :
  ∀(m t:Nat) (w:World),t+m=i->S.Rel w0 w->S.H w (fs (P++(V.take t++x::(V.drop t++Q))))->l (m+1) (P.length+t:Nat) w
 |0,t,w,h,hr,hH=>by
  have hn:=S.Ak hH;have hs:=S.small;simp at hn;obtain rfl:t=i:=by omega
  refine hl _ _ _ ?_;unfold Jq;exact bM (by omega) (by omega) (aA (by omega) (hR w hH hr))
 |m+1,t,w,h,hr,hH=>by
  have hn:=S.Ak hH;have hs:=S.small;have hln:(P++(V.take t++x::(V.drop t++Q))).length=P.length+1+V.length+Q.length:=by simp;omega
  refine hl _ _ _ ?_;unfold Jq;refine bM (by omega) (by omega) (aH (by omega) ⟨E0 w,ck0 _ _,aC (by omega) (aC (by omega) ?_)⟩);refine S.rd hH (by omega) (by omega) λb hb=>S.rd hH (by omega) (by omega) λa ha=>S.wr hH (S.good hH _ (za0 hb)) (by omega) (by omega) λu1 h1 r1=>⟨ck0 _ _,S.wr h1 (S.good hH _ (za0 ha)) (by omega) (by omega) λu2 h2 r2=>aC (by omega) ?_⟩;rw[za3]at ha hb;rw[za3,za3,YH hb ha,Ii]at h2;have hd:V.drop t=V[t]::V.drop (t+1):=zb0 (by omega);have ht:V.take (t+1)=V.take t++[V[t]]:=by rw[List.take_add_one,za2 (by omega)];rfl
  have hsw:swp (P++(V.take t++x::(V.drop t++Q))) (P.length+t) (P.length+t+1)=P++(V.take (t+1)++x::(V.drop (t+1)++Q)):=by
   have:=GM (P++V.take t) (V.drop (t+1)++Q) x V[t];have hl:(P++V.take t).length=P.length+t:=by simp;omega
   rw[hl]at this;rw[hd,ht];simp only[za5,ze1,zc9]at this ⊢;exact this
  rw[hsw]at h2;exact SM.Y7 hl hi e1 hR m (t+1) u2 (by omega) (S.trans hr (S.trans r1 r2)) h2
theorem SM.ZQ{x2:Int}{l:Nat->Int->Int->zg6}{e71:Int->Int->zg6}(hl:∀k i j w,Uw S (l k) e71 x2 i j w->l (k+1) i j w)(e1:x2=(P.length+U.length:Nat))(hU:Up S.lt U)(ht:∀y∈U,y.2<x.2)
  (hR:∀u i,i<=U.length->(∀(k:Nat) y,k<i->U[k]?=some y->T S.lt y x)->(∀(k:Nat) y,i<=k->U[k]?=some y->T S.lt x y)->S.H u (fs (P++(U++x::Q)))->S.Rel w0 u->e71 (P.length+i:Nat) x2 u) :
  ∀(m i j:Nat) (w:World),i<=j->j<=U.length->j - i<=m->(∀(k:Nat) y,k<i->U[k]?=some y->T S.lt y x)->(∀(k:Nat) y,j<=k->U[k]?=some y->T S.lt x y)->S.Rel w0 w->S.H w (fs (P++(U++x::Q))) ->
   l (m+1) (P.length+i:Nat) (P.length+j:Nat) w:=by
 intro m
 induction m with
 |zero=>
  intro i j w h1 h2 h3 ha hb hr hH;obtain rfl:i=j:=by omega
  exact hl _ _ _ _ (aA (by omega) (hR w i h2 ha hb hH hr))
 |succ m ih=>
  intro i j w h1 h2 h3 ha hb hr hH;have hn:=S.Ak hH;have hs:=S.small;have hln:(P++(U++x::Q)).length=P.length+1+U.length+Q.length:=by simp;omega
  refine hl _ _ _ _ (fJ (λhij=>?_) (λhij=>?_))
  .have hc:(((P.length+i:Nat):Int)+((P.length+j:Nat):Int)) / 2=((P.length+(i+j) / 2:Nat):Int):=by omega
   have hij2:i<j:=by omega
   refine D5 (by omega) (by omega) (by omega) (by omega) ?_;rw[hc];clear hc hij;refine S.rd hH (by omega) (by omega) λz hz=>S.rd hH (by omega) (by omega) λy hy=>?_;rw[za3]at hy;rw[e1,za3]at hz;have hk:(i+j) / 2<U.length:=by omega
   obtain⟨yt,hyt⟩:∃yt,U[(i+j) / 2]?=some yt:=⟨_,za2 hk⟩;have hy':(P++(U++x::Q))[P.length+(i+j) / 2]?=some yt:=by rw[IZ P U _ hk,hyt]
   have hx':(P++(U++x::Q))[P.length+U.length]?=some x:=by rw[zc0 (by omega),Nat.add_sub_cancel_left];simp
   rw[xO hy']at hy;cases hy;rw[xO hx']at hz;cases hz;refine zg0 (S.call hH (xC hx') (xC hy')) λv u ⟨r,hv,hlt,hu,ru⟩=>⟨r,hv,?_⟩;have htg:=ht yt (za0 hyt);show af (!(decide (r<0))) _ _;rw[hlt]
   cases hb2:S.lt x.1 yt.1 with
   |false=>
    have hT:=(Rh S.wk htg).1 hb2;rw[Bool.not_false,yG];refine aC (by omega) ?_;refine ih ((i+j) / 2+1) j u (by omega) h2 (by omega) (λk y hk hky=>qO S.wk hU (j:=(i+j) / 2) (by omega) hky hyt hT) hb (S.trans hr ru) hu
   |true=>
    have hT:=(YX (lt:=S.lt) htg).1 hb2;rw[Bool.not_true,yJ];exact ih i ((i+j) / 2) u (by omega) (by omega) (by omega) ha (λk y hk hky=>qJ S.wk hU (j:=(i+j) / 2) (by omega) hky hyt hT) (S.trans hr ru) hu
  .obtain rfl:i=j:=by omega
   exact hR w i h2 ha hb hH hr
theorem SM.XC{x14:Int}{l:Nat->Int->zg6}(hl:∀k x w,Uy S (l k) R x14 x w->l (k+1) x w){i:Nat}(e1:x14=(P.length+i:Nat))
  (hR:∀u,S.H u (fs (P++(U.take i++x::(U.drop i++Q))))->S.Rel w0 u->dn R u) :
  ∀(m t:Nat) (w:World),t=i+m->t<=U.length->S.Rel w0 w->S.H w (fs (P++(U.take t++x::(U.drop t++Q))))->l (m+1) (P.length+t:Nat) w
 |0,t,w,h,hi,hr,hH=>by
  obtain rfl:t=i:=by omega
  exact hl _ _ _ (aA (by omega) (hR w hH hr))
 |m+1,t,w,h,hi,hr,hH=>by
  have hn:=S.Ak hH;have hs:=S.small;have hln:(P++(U.take t++x::(U.drop t++Q))).length=P.length+1+U.length+Q.length:=by simp;omega
  obtain⟨t',rfl⟩:∃t',t=t'+1:=⟨t - 1,by omega⟩;have e2:((P.length+(t'+1):Nat):Int) - 1=((P.length+t':Nat):Int):=by omega
  refine hl _ _ _ (aH (by omega) ⟨E0 w,ck0 _ _,?_⟩);rw[e2];refine bM (by omega) (by omega) (bM (by omega) (by omega) (S.rd hH (by omega) (by omega) λb hb=>S.rd hH (by omega) (by omega) λa ha=>S.wr hH (S.good hH _ (za0 hb)) (by omega) (by omega) λu1 h1 r1=>⟨ck0 _ _,S.wr h1 (S.good hH _ (za0 ha)) (by omega) (by omega) λu2 h2 r2=>bM (by omega) (by omega) ?_⟩));rw[za3]at ha hb;rw[za3,za3,YH hb ha,Ii,JR]at h2;have hd:U.drop t'=U[t']::U.drop (t'+1):=zb0 (by omega);have ht:U.take (t'+1)=U.take t'++[U[t']]:=by rw[List.take_add_one,za2 (by omega)];rfl
  have hsw:swp (P++(U.take (t'+1)++x::(U.drop (t'+1)++Q))) (P.length+t') (P.length+(t'+1))=P++(U.take t'++x::(U.drop t'++Q)):=by
   have:=GM (P++U.take t') (U.drop (t'+1)++Q) U[t'] x;have hl:(P++U.take t').length=P.length+t':=by simp;omega
   rw[hl]at this;rw[hd,ht];simp only[za5,ze1,zc9]at this ⊢;exact this
  rw[hsw]at h2;exact SM.XC hl e1 hR m t' u2 (by omega) (by omega) (S.trans hr (S.trans r1 r2)) h2
end
section
variable{β:Type}(S:SM β){w0:World}{P Q U V:List (β×Nat)}
def SM.CG(c:I3)(N:Nat):Prop:=∀(P U V Q:List (β×Nat)) (w:World) (R:VP),U.length+V.length<=N->0<U.length->0<V.length->Up S.lt U->Up S.lt V->(∀x∈U,∀y∈V,x.2<y.2)->S.H w (fs (P++(U++V)++Q)) ->
 (∀u W,W.Perm (U++V)->Up S.lt W->S.H u (fs (P++W++Q))->S.Rel w u->dn R u)->c (P.length:Nat) (P.length+U.length:Nat) (P.length+U.length+V.length:Nat) w R
theorem up_nil(A:List (β×Nat)){B:List (β×Nat)}(h:A=[]\/B=[])(hA:Up S.lt A)(hB:Up S.lt B):Up S.lt (A++B):=by
 rcases h with rfl | rfl
 .simpa using hB
 .simpa using hA
theorem Eh{l:List (β×Nat)}{lt:β->β->Bool}(h:Up lt l)(k:Nat):Up lt (l.take k):=List.Pairwise.sublist (List.take_sublist _ _) h
theorem Dz{l:List (β×Nat)}{lt:β->β->Bool}(h:Up lt l)(k:Nat):Up lt (l.drop k):=List.Pairwise.sublist (List.drop_sublist _ _) h
theorem SM.XG{cSym:I3}{N:Nat}(hc:S.CG cSym N){R:VP}{s e:Nat}(hs:s<=U.length)(he:e<=V.length)(hU:Up S.lt U)(hV:Up S.lt V)(ht:∀x∈U,∀y∈V,x.2<y.2)(hcut:∀l∈U.take s++V.take e,∀r∈U.drop s++V.drop e,T S.lt l r)
  (hN1:s+e<=N) (hN2:U.length - s+(V.length - e)<=N) (hR:∀u W,W.Perm (U++V)->Up S.lt W->S.H u (fs (P++W++Q))->S.Rel w0 u->dn R u)
  {u:World} (hH:S.H u (fs (P++(U.take s++V.take e)++((U.drop s++V.drop e)++Q)))) (hr:S.Rel w0 u) :
  yP cSym R (P.length:Nat) (P.length+U.length+V.length:Nat) (P.length+(s+e):Nat) (P.length+s:Nat) (P.length+U.length+e:Nat) u:=by
 have lt1:(U.take s).length=s:=by simp;omega
 have lt2:(V.take e).length=e:=by simp;omega
 have ld1:(U.drop s).length=U.length - s:=by simp
 have ld2:(V.drop e).length=V.length - e:=by simp
 have memT:∀ {l:List (β×Nat)} {k:Nat} {x},x∈l.take k->x∈l:=λh=>zf3 h;have memD:∀ {l:List (β×Nat)} {k:Nat} {x},x∈l.drop k->x∈l:=λh=>List.mem_of_mem_drop h;have perm4:∀ {W1 W2:List (β×Nat)},W1.Perm (U.take s++V.take e)->W2.Perm (U.drop s++V.drop e)->(W1++W2).Perm (U++V):=by
  intro W1 W2 h1 h2;refine(h1.append h2).trans ?_;have:(U.take s++V.take e++(U.drop s++V.drop e)).Perm ((U.take s++U.drop s)++(V.take e++V.drop e)):=by
   simp only[za5];refine List.Perm.append_left _ ?_;simp only[<- List.append_assoc];exact List.Perm.append_right _ List.perm_append_comm
  rwa [List.take_append_drop,List.take_append_drop]at this
 -- the right half
 have right:∀(W1:List (β×Nat)) (u:World),W1.Perm (U.take s++V.take e)->Up S.lt W1->S.H u (fs (P++W1++((U.drop s++V.drop e)++Q)))->S.Rel w0 u->Gx cSym R (P.length+U.length+V.length:Nat) (P.length+(s+e):Nat) (P.length+U.length+e:Nat) u:=by
  intro W1 u hp1 hu1 hH hr;have hl1:=hp1.length_eq;rw[za6,lt1,lt2]at hl1;have done:(U.drop s=[]\/V.drop e=[])->dn R u:=λh=>hR u (W1++(U.drop s++V.drop e)) (perm4 hp1 (List.Perm.refl _)) (Qn hp1 (List.Perm.refl _) hu1 (up_nil S _ h (Dz hU s) (Dz hV e)) hcut) (by simpa[za5] using hH) hr;unfold Gx;refine fJ (λh1=>fJ (λh2=>?_) (λh2=>done (.inr (za9 (by omega))))) (λh1=>done (.inl (za9 (by omega))));have:=hc (P++W1) (U.drop s) (V.drop e) Q u (th λu=>dn R u) (by omega) (by omega) (by omega) (Dz hU s) (Dz hV e) (λx hx y hy=>ht x (memD hx) y (memD hy)) (by simpa[za5] using hH) λu2 W2 hp2 hu2 hH2 r2=>⟨rfl,hR u2 (W1++W2) (perm4 hp1 hp2) (Qn hp1 hp2 hu1 hu2 hcut) (by simpa[za5] using hH2) (S.trans hr r2)⟩;rw[za6,ld1,ld2,hl1]at this;rw[show P.length+U.length+e=P.length+(s+e)+(U.length - s) by omega,show P.length+U.length+V.length=P.length+(s+e)+(U.length - s)+(V.length - e) by omega];exact this
 -- the left half
 have skip:(U.take s=[]\/V.take e=[])->Gx cSym R (P.length+U.length+V.length:Nat) (P.length+(s+e):Nat) (P.length+U.length+e:Nat) u:=λh=>right _ u (List.Perm.refl _) (up_nil S _ h (Eh hU s) (Eh hV e)) hH hr;unfold yP;refine fJ (λh1=>fJ (λh2=>?_) (λh2=>skip (.inr (za9 (by omega))))) (λh1=>skip (.inl (za9 (by omega))));have:=hc P (U.take s) (V.take e) ((U.drop s++V.drop e)++Q) u (th λu=>Gx cSym R (P.length+U.length+V.length:Nat) (P.length+(s+e):Nat) (P.length+U.length+e:Nat) u) (by omega) (by omega) (by omega) (Eh hU s) (Eh hV e) (λx hx y hy=>ht x (memT hx) y (memT hy)) (by simpa[za5] using hH) λu2 W1 hp1 hu1 hH1 r1=>⟨rfl,right W1 u2 hp1 hu1 (by simpa[za5] using hH1) (S.trans hr r1)⟩;rw[lt1,lt2,show P.length+s+e=P.length+(s+e) by omega]at this;exact this
theorem SM.Xz{cRot cSym:I3}(hrot:S.P7 cRot){N:Nat}(hc:S.CG cSym N){R:VP}{h:Nat}{a m b mid n p:Int}{l:Nat->Int->Int->zg6}(hl:∀k s r w,Dk S cRot cSym (l k) R a m b mid n s r p w->l (k+1) s r w)
  (hU:Up S.lt U) (hV:Up S.lt V) (ht:∀x∈U,∀y∈V,x.2<y.2) (ea:a=(P.length:Nat)) (em:m=(P.length+U.length:Nat)) (eb:b=(P.length+U.length+V.length:Nat)) (emid:mid=(P.length+h:Nat)) (en:n=mid+m) (ep:p=n - 1)
  (hh0:0<h) (hh1:h<U.length+V.length) (hN1:h<=N) (hN2:U.length+V.length - h<=N) (hR:∀u W,W.Perm (U++V)->Up S.lt W->S.H u (fs (P++W++Q))->S.Rel w0 u->dn R u) :
  ∀(k i j:Nat) (w:World),h - V.length<=i->i<=j->j<=U.length->j<=h->j - i<=k->(i=h - V.length\/∃y z,U[i - 1]?=some y/\V[h - i]?=some z/\T S.lt y z/\0<i)->(j=U.length\/j=h\/∃y z,V[h - 1 - j]?=some y/\U[j]?=some z/\T S.lt y z) ->
   S.Rel w0 w->S.H w (fs (P++(U++V)++Q))->l (k+1) (P.length+i:Nat) (P.length+j:Nat) w:=by
 have fin:∀(i:Nat) (w:World),h - V.length<=i->i<=U.length->i<=h->(i=h - V.length\/∃y z,U[i - 1]?=some y/\V[h - i]?=some z/\T S.lt y z/\0<i)->(i=U.length\/i=h\/∃y z,V[h - 1 - i]?=some y/\U[i]?=some z/\T S.lt y z)->S.Rel w0 w->S.H w (fs (P++(U++V)++Q)) ->
   wI (n - (P.length+i:Nat)) λe=>af (decide (((P.length+i:Nat):Int)<m)) (af (decide (m<e)) (cRot (P.length+i:Nat) m e w (th λu=>yP cSym R a b mid (P.length+i:Nat) e u)) (yP cSym R a b mid (P.length+i:Nat) e w)) (yP cSym R a b mid (P.length+i:Nat) e w):=by
  intro i w h1 h2 h3 hi hj hr hH;have hn:=S.Ak hH;have hsm:=S.small;have hln:(P++(U++V)++Q).length=P.length+U.length+V.length+Q.length:=by simp;omega
  have hcut:=Yb (e:=h - i) S.wk hU hV h2 (by omega) (by
   rcases hi with hi | ⟨y,z,g1,g2,g3,g4⟩
   .by_cases h0:i=0
    .exact .inl h0
    .exact .inr (.inl (by omega))
   .exact .inr (.inr ⟨y,z,g1,g2,g3⟩)) (by
   rcases hj with hj | hj | ⟨y,z,g1,g2,g3⟩
   .exact .inr (.inl hj)
   .exact .inl (by omega)
   .exact .inr (.inr ⟨y,z,by rw[show h - i - 1=h - 1 - i by omega];exact g1,g2,g3⟩))
  have e1:n - ((P.length+i:Nat):Int)=((P.length+U.length+(h - i):Nat):Int):=by omega
  refine bM (by omega) (by omega) ?_;rw[e1];have ende:∀u,S.H u (fs (P++(U.take i++V.take (h - i))++((U.drop i++V.drop (h - i))++Q)))->S.Rel w0 u->yP cSym R a b mid (P.length+i:Nat) (P.length+U.length+(h - i):Nat) u:=by
   intro u hu ru;have:=S.XG hc (s:=i) (e:=h - i) h2 (by omega) hU hV ht hcut (by omega) (by omega) hR hu ru;rw[ea,eb,emid,show P.length+h=P.length+(i+(h - i)) by omega];exact this
  have td:U.take i++U.drop i=U:=List.take_append_drop _ _;have td2:V.take (h - i)++V.drop (h - i)=V:=List.take_append_drop _ _;have stay:(U.drop i=[]\/V.take (h - i)=[])->yP cSym R a b mid (P.length+i:Nat) (P.length+U.length+(h - i):Nat) w:=λhq=>ende w (by
   have e3:U.drop i++V.take (h - i)=V.take (h - i)++U.drop i:=by rcases hq with hq | hq <;> rw[hq] <;> simp
   have e2:P++(U++V)++Q=P++(U.take i++V.take (h - i))++((U.drop i++V.drop (h - i))++Q):=by
    calc P++(U++V)++Q=P++((U.take i++U.drop i)++(V.take (h - i)++V.drop (h - i)))++Q:=by rw[td,td2]
     _=P++(U.take i++((U.drop i++V.take (h - i))++V.drop (h - i)))++Q:=by simp only[za5]
     _=_:=by rw[e3];simp only[za5]
   rw[<- e2];exact hH) hr
  refine fJ (λc1=>fJ (λc2=>?_) (λc2=>stay (.inr ?_))) (λc1=>stay (.inl ?_))
  .have ld:(U.drop i).length=U.length - i:=by simp
   have lt':(V.take (h - i)).length=h - i:=by simp;omega
   have lp:(P++U.take i).length=P.length+i:=by simp;omega
   have e2:P++(U++V)++Q=P++U.take i++U.drop i++V.take (h - i)++(V.drop (h - i)++Q):=by
    calc P++(U++V)++Q=P++((U.take i++U.drop i)++(V.take (h - i)++V.drop (h - i)))++Q:=by rw[td,td2]
     _=_:=by simp only[za5]
   have:=hrot (P++U.take i) (U.drop i) (V.take (h - i)) (V.drop (h - i)++Q) w (th λu=>yP cSym R a b mid (P.length+i:Nat) (P.length+U.length+(h - i):Nat) u) (by omega) (by omega) (by rw[<- e2];exact hH) λu hu ru=>⟨rfl,ende u (by simpa[za5] using hu) (S.trans hr ru)⟩;rw[lp,ld,lt']at this;rw[show m=((P.length+i+(U.length - i):Nat):Int) by omega,show((P.length+U.length+(h - i):Nat):Int)=((P.length+i+(U.length - i)+(h - i):Nat):Int) by omega];rw[show((P.length+U.length+(h - i):Nat):Int)=((P.length+i+(U.length - i)+(h - i):Nat):Int) by omega]at this;exact this
  .exact za9 (by simp;omega)
  .exact za9 (by simp;omega)
 intro k
 induction k with
 |zero=>
  intro i j w h1 h2 h3 h4 h5 hi hj hr hH;obtain rfl:i=j:=by omega
  refine hl _ _ _ _ ?_;unfold Dk;exact aA (by omega) (fin i w h1 h3 h4 hi hj hr hH)
 |succ k ih=>
  intro i j w h1 h2 h3 h4 h5 hi hj hr hH;have hn:=S.Ak hH;have hsm:=S.small;have hln:(P++(U++V)++Q).length=P.length+U.length+V.length+Q.length:=by simp;omega
  refine hl _ _ _ _ ?_;unfold Dk;refine fJ (λhij=>?_) (λhij=>?_)
  .have hc2:(((P.length+i:Nat):Int)+((P.length+j:Nat):Int)) / 2=((P.length+(i+j) / 2:Nat):Int):=by omega
   have hij2:i<j:=by omega
   refine D5 (by omega) (by omega) (by omega) (by omega) ?_;rw[hc2];clear hc2 hij;generalize hcc:(i+j) / 2=c;have c1:i<=c:=by omega
   have c2:c<j:=by omega
   have ei:p - ((P.length+c:Nat):Int)=((P.length+U.length+(h - 1 - c):Nat):Int):=by omega
   refine bM (by omega) (by omega) ?_;rw[ei];refine S.rd hH (by omega) (by omega) λy hy=>S.rd hH (by omega) (by omega) λz hz=>?_;rw[za3]at hy hz;have hkV:h - 1 - c<V.length:=by omega
   have hkU:c<U.length:=by omega
   obtain⟨yt,hyt⟩:∃yt,V[h - 1 - c]?=some yt:=⟨_,za2 hkV⟩;obtain⟨zt,hzt⟩:∃zt,U[c]?=some zt:=⟨_,za2 hkU⟩;have hy':(P++(U++V)++Q)[P.length+U.length+(h - 1 - c)]?=some yt:=by
    have:=IZ (P++U) V Q hkV;rw[hyt,za6]at this;simpa[za5] using this
   have hz':(P++(U++V)++Q)[P.length+c]?=some zt:=by
    have:=IZ P U (V++Q) hkU;rw[hzt]at this;simpa[za5] using this
   rw[xO hy']at hy;cases hy;rw[xO hz']at hz;cases hz;refine zg0 (S.call hH (xC hy') (xC hz')) λv u ⟨r,hv,hlt,hu,ru⟩=>⟨r,hv,?_⟩;have htg:=ht zt (za0 hzt) yt (za0 hyt);show af (!(decide (r<0))) _ _;rw[hlt]
   cases hb2:S.lt yt.1 zt.1 with
   |false=>
    have hT:=(Rh S.wk htg).1 hb2;rw[Bool.not_false,yG];refine aC (by omega) ?_;exact ih (c+1) j u (by omega) (by omega) h3 h4 (by omega) (.inr ⟨zt,yt,hzt,by rw[show h - (c+1)=h - 1 - c by omega];exact hyt,hT,by omega⟩) hj (S.trans hr ru) hu
   |true=>
    have hT:=(YX (lt:=S.lt) htg).1 hb2;rw[Bool.not_true,yJ];exact ih i c u h1 c1 (by omega) (by omega) (by omega) hi (.inr (.inr ⟨yt,zt,hyt,hzt,hT⟩)) (S.trans hr ru) hu
  .obtain rfl:i=j:=by omega
   exact fin i w h1 h3 h4 hi hj hr hH
end
section
variable{β:Type}(S:SM β)
theorem SM.symMerge{cRot cSym:I3}(hrot:S.P7 cRot){l29 l71:VP->Nat->Int->Int->zg6}{l10 l52:VP->Nat->Int->Int->Int->zg6}{Ai:VP->Nat->Int->Int->Int->Int->Int->Int->Int->Int->zg6}
  (h29:∀R k x10 x w,Jq S (l29 R k x10) R x10 x w->l29 R (k+1) x10 x w) (h71:∀R k x14 x w,Uy S (l71 R k x14) R x14 x w->l71 R (k+1) x14 x w)
  (h10:∀R k x1 i j w,Uh S (l10 R k x1) (λi x w=>∃k,l29 R k i x w) x1 i j w->l10 R (k+1) x1 i j w) (h52:∀R k x2 i j w,Uw S (l52 R k x2) (λi x w=>∃k,l71 R k i x w) x2 i j w->l52 R (k+1) x2 i j w)
  (h104:∀R k a m b mid n p s r w,Dk S cRot cSym (λs r w=>Ai R k a m b mid n s r p w) R a m b mid n s r p w->Ai R (k+1) a m b mid n s r p w)
  (hbody:∀R a m b w,XR (λa m b w=>∃k,l10 R k a m b w) (λm a m' w=>∃k,l52 R k m a m' w) (λmid n s r w=>wI (n - 1) λp=>∃k,Ai R k a m b mid n s r p w) a m b w->cSym a m b w R) :
  ∀N,S.CG cSym N:=by
 intro N
 induction N with
 |zero=>intro P U V Q w R h1 h2;omega
 |succ N ih=>
  intro P U V Q w R hN hU0 hV0 hU hV ht hH hR;have hn:=S.Ak hH;have hsm:=S.small;have hln:(P++(U++V)++Q).length=P.length+U.length+V.length+Q.length:=by simp;omega
  refine hbody _ _ _ _ _ ?_;unfold XR;refine bM (by omega) (by omega) (nN (λh1=>?_) (λh1=>bM (by omega) (by omega) (nN (λh2=>?_) (λh2=>?_))))
  ·-- one element on the left
   have hU1:U.length=1:=by omega
   obtain⟨x,rfl⟩:∃x,U=[x]:=List.length_eq_one_iff.1 hU1;have htx:∀y∈V,x.2<y.2:=λy hy=>ht x (by simp) y hy;have:=S.Zk (w0:=w) (x1:=(P.length:Nat)) (P:=P) (Q:=Q) (x:=x) (l:=λk=>l10 R k (P.length:Nat)) (e29:=λi x w=>∃k,l29 R k i x w) (λk i j w=>h10 R k _ i j w) rfl hV htx (λu i hi ga gb hu ru=>⟨i+1,?_⟩) V.length 0 V.length w (Nat.zero_le _) (zb4 _) (by omega) (λk y hk=>by omega) (λk y hk hy=>by rw[zc3 (by omega)]at hy;cases hy) (S.refl _) (by simpa[za5] using hH)
   .exact⟨_,this⟩
   .exact S.Y7 (R:=R) (w0:=w) (P:=P) (Q:=Q) (x:=x) (V:=V) (l:=λk=>l29 R k (P.length+1+i:Nat)) (λk x w=>h29 R k _ x w) hi rfl (λu2 hu2 r2=>hR u2 (V.take i++x::V.drop i) (CZ V x i) (OZ hV ga gb) (by simpa[za5] using hu2) r2) i 0 u (by omega) ru (by simpa using hu)
  ·-- one element on the right
   have hV1:V.length=1:=by omega
   obtain⟨x,rfl⟩:∃x,V=[x]:=List.length_eq_one_iff.1 hV1;have htx:∀y∈U,y.2<x.2:=λy hy=>ht y hy x (by simp);have:=S.ZQ (w0:=w) (x2:=(P.length+U.length:Nat)) (P:=P) (Q:=Q) (x:=x) (l:=λk=>l52 R k (P.length+U.length:Nat)) (e71:=λi x w=>∃k,l71 R k i x w) (λk i j w=>h52 R k _ i j w) rfl hU htx (λu i hi ga gb hu ru=>⟨U.length - i+1,?_⟩) U.length 0 U.length w (Nat.zero_le _) (zb4 _) (by omega) (λk y hk=>by omega) (λk y hk hy=>by rw[zc3 (by omega)]at hy;cases hy) (S.refl _) (by simpa[za5] using hH)
   .exact⟨_,this⟩
   .exact S.XC (R:=R) (w0:=w) (P:=P) (Q:=Q) (x:=x) (U:=U) (l:=λk=>l71 R k (P.length+i:Nat)) (λk x w=>h71 R k _ x w) rfl (λu2 hu2 r2=>hR u2 (U.take i++x::U.drop i) ((CZ U x i).trans (List.perm_append_singleton x U).symm) (OZ hU ga gb) (by simpa[za5] using hu2) r2) (U.length - i) U.length u (by omega) (zb4 _) ru (by simpa using hu)
  .have hh:(((P.length:Nat):Int)+((P.length+U.length+V.length:Nat):Int)) / 2=((P.length+(U.length+V.length) / 2:Nat):Int):=by omega
   refine D5 (by omega) (by omega) (by omega) (by omega) ?_;rw[hh];clear hh;generalize hhd:(U.length+V.length) / 2=h;have hU2:2<=U.length:=by omega
   have hV2:2<=V.length:=by omega
   refine bM (by omega) (by omega) ?_;have main:=λ(i j:Nat) (a1:h - V.length<=i) (a2:i<=j) (a3:j<=U.length) (a4:j<=h) (a5:i=h - V.length) (a6:j=U.length\/j=h) =>
    S.Xz hrot (N:=N) ih (R:=R) (h:=h) (a:=(P.length:Nat)) (m:=(P.length+U.length:Nat)) (b:=(P.length+U.length+V.length:Nat)) (mid:=(P.length+h:Nat)) (n:=((P.length+h:Nat):Int)+((P.length+U.length:Nat):Int)) (p:=((P.length+h:Nat):Int)+((P.length+U.length:Nat):Int) - 1)
     (l:=λk s r w=>Ai R k (P.length:Nat) (P.length+U.length:Nat) (P.length+U.length+V.length:Nat) (P.length+h:Nat) (((P.length+h:Nat):Int)+((P.length+U.length:Nat):Int)) s r (((P.length+h:Nat):Int)+((P.length+U.length:Nat):Int) - 1) w)
     (λk s r w=>h104 R k _ _ _ _ _ _ s r w) (U:=U) (V:=V) (Q:=Q) (w0:=w) hU hV ht rfl rfl rfl rfl rfl rfl (by omega) (by omega) (by omega) (by omega) hR (j - i) i j w a1 a2 a3 a4 (zb4 _) (.inl a5) (a6.elim .inl λh => .inr (.inl h)) (S.refl _) hH
   refine fJ (λh3=>bM (by omega) (by omega) ?_) (λh3=>?_)
   .refine bM (by omega) (by omega) ⟨h - (h - V.length)+1,?_⟩;have:=main (h - V.length) h (zb4 _) (by omega) (by omega) (zb4 _) rfl (.inr rfl);rw[show((P.length+h:Nat):Int)+((P.length+U.length:Nat):Int) - ((P.length+U.length+V.length:Nat):Int)=((P.length+(h - V.length):Nat):Int) by omega];exact this
   .refine bM (by omega) (by omega) ⟨U.length - 0+1,?_⟩;have:=main 0 U.length (by omega) (by omega) (zb4 _) (by omega) (by omega) (.inl rfl);exact this
def SM.KL(c:I2):Prop:=∀(P U Q:List (β×Nat)) (w:World) (R:VP),U.Pairwise (λx y=>x.2<y.2)->S.H w (fs (P++U++Q))->(∀u W,W.Perm U->Up S.lt W->S.H u (fs (P++W++Q))->S.Rel w u->dn R u)->c (P.length:Nat) (P.length+U.length:Nat) w R
section
variable{R:VP}{w0:World}{P Q:List (β×Nat)}
theorem SM.Y6{x1 x8:Int}{b3:Int->zg6}{l:Nat->Int->zg6}(hl:∀k x w,U5 S b3 (l k) x1 x8 x w->l (k+1) x w){x:β×Nat}{W B:List (β×Nat)}(e1:x1=(P.length:Nat))(hW:Up S.lt W)(ht:∀y∈W,y.2<x.2)(h8:x8=(P.length+W.length:Nat))
  (hR:∀u i,i<=W.length->(∀(k:Nat) y,k<i->W[k]?=some y->T S.lt y x)->(∀(k:Nat) y,i<=k->W[k]?=some y->T S.lt x y)->S.H u (fs (P++(W.take i++x::(W.drop i++B))))->S.Rel w0 u->b3 (P.length+W.length+1:Nat) u) :
  ∀(t:Nat) (w:World),t<=W.length->(∀(k:Nat) y,t<=k->W[k]?=some y->T S.lt x y)->S.Rel w0 w->S.H w (fs (P++(W.take t++x::(W.drop t++B))))->l (t+1) (P.length+t:Nat) w
 |0,w,htl,hb,hr,hH=>by
  have hn:=S.Ak hH;have hsm:=S.small;have hln:(P++(W.take 0++x::(W.drop 0++B))).length=P.length+1+W.length+B.length:=by simp;omega
  refine hl _ _ _ (aA (by omega) ?_);rw[h8];exact aC (by omega) (hR w 0 htl (λk y hk=>by omega) hb hH hr)
 |t+1,w,htl,hb,hr,hH=>by
  have hn:=S.Ak hH;have hsm:=S.small;have hln:(P++(W.take (t+1)++x::(W.drop (t+1)++B))).length=P.length+1+W.length+B.length:=by simp;omega
  have e2:((P.length+(t+1):Nat):Int) - 1=((P.length+t:Nat):Int):=by omega
  have hd:W.drop t=W[t]::W.drop (t+1):=zb0 (by omega);have htk:W.take (t+1)=W.take t++[W[t]]:=by rw[List.take_add_one,za2 (by omega)];rfl
  have hlt:(W.take (t+1)).length=t+1:=by simp;omega
  have hlt0:(W.take t).length=t:=by simp;omega
  have hWt:W[t]?=some W[t]:=za2 (by omega);have hx':(P++(W.take (t+1)++x::(W.drop (t+1)++B)))[P.length+(t+1)]?=some x:=by
   rw[zc0 (by omega),Nat.add_sub_cancel_left,zc0 (by omega),hlt,zf8];rfl
  have hy':(P++(W.take (t+1)++x::(W.drop (t+1)++B)))[P.length+t]?=some W[t]:=by
   rw[zc0 (by omega),Nat.add_sub_cancel_left,zb9 (by omega),zd6,if_pos (by omega)];exact hWt
  refine hl _ _ _ (aH (by omega) ?_);refine S.rd hH (by omega) (by omega) λy hy=>?_;rw[e2];refine bM (by omega) (by omega) (S.rd hH (by omega) (by omega) λz hz=>?_);rw[za3]at hy hz;rw[xO hx']at hy;cases hy;rw[xO hy']at hz;cases hz;refine zg0 (S.call hH (xC hx') (xC hy')) λv u ⟨r,hv,hlt2,hu,ru⟩=>⟨r,hv,?_⟩;have htg:=ht W[t] (List.getElem_mem _);show af (decide (r<0)) _ _;rw[hlt2]
  cases hb2:S.lt x.1 W[t].1 with
  |false=>
   have hT:=(Rh S.wk htg).1 hb2;rw[yJ,h8];exact aC (by omega) (hR u (t+1) htl (λk y hk hky=>qO S.wk hW (j:=t) (by omega) hky hWt hT) hb hu (S.trans hr ru))
  |true=>
   have hT:=(YX (lt:=S.lt) htg).1 hb2;rw[yG];refine⟨E0 u,ck0 _ _,bM (by omega) (by omega) (bM (by omega) (by omega) (S.rd hu (by omega) (by omega) λb hb1=>S.rd hu (by omega) (by omega) λa ha1=>S.wr hu (S.good hu _ (za0 hb1)) (by omega) (by omega) λu1 g1 r1=>⟨ck0 _ _,S.wr g1 (S.good hu _ (za0 ha1)) (by omega) (by omega) λu2 g2 r2=>bM (by omega) (by omega) ?_⟩))⟩;rw[za3]at ha1 hb1;rw[za3,za3,YH hb1 ha1,Ii,JR]at g2;have hsw:swp (P++(W.take (t+1)++x::(W.drop (t+1)++B))) (P.length+t) (P.length+(t+1))=P++(W.take t++x::(W.drop t++B)):=by
    have:=GM (P++W.take t) (W.drop (t+1)++B) W[t] x;have hl:(P++W.take t).length=P.length+t:=by simp;omega
    rw[hl]at this;rw[hd,htk];simp only[za5,ze1,zc9]at this ⊢;exact this
   rw[hsw]at g2;exact SM.Y6 hl e1 hW ht h8 hR t u2 (by omega) (λk y hk hky=>qJ S.wk hW (j:=t) (by omega) hky hWt hT) (S.trans hr (S.trans ru (S.trans r1 r2))) g2
theorem SM.Gt{c:I2}{l3:VP->Nat->Int->Int->Int->zg6}{l15:VP->Nat->Nat->Int->Int->Int->Int->zg6}
  (h3:∀R k x1 x2 x8 w,ZE (λx8 x w=>∃k',l15 R k k' x1 x2 x8 x w) R x2 x8 w->l3 R (k+1) x1 x2 x8 w) (h15:∀R k0 k x1 x2 x8 x w,U5 S (l3 R k0 x1 x2) (l15 R k0 k x1 x2 x8) x1 x8 x w->l15 R k0 (k+1) x1 x2 x8 x w)
  (hbody:∀R x1 x2 w,(inc x1 λt=>∃k,l3 R k x1 x2 t w)->c x1 x2 w R):S.KL c:=by
 intro P U Q w R hU hH hR;have hn:=S.Ak hH;have hsm:=S.small;have hln:(P++U++Q).length=P.length+U.length+Q.length:=by simp;omega
 -- the rounds: the first i are rising
 have loop:∀(m i:Nat) (W B:List (β×Nat)) (u:World),W.length=i->i+m=U.length->0<i\/U=[]->B=U.drop i->W.Perm (U.take i)->Up S.lt W->S.H u (fs (P++W++(B++Q)))->S.Rel w u->l3 R (m+1) (P.length:Nat) (P.length+U.length:Nat) (P.length+i:Nat) u:=by
  intro m
  induction m with
  |zero=>
   intro i W B u hWl him hi0 hB hp hW hu hr;have hBn:B=[]:=by rw[hB];exact List.drop_eq_nil_of_le (by omega)
   subst hBn;rw[zb1 (by omega)]at hp;exact h3 _ _ _ _ _ _ (aA (by omega) (hR u W hp hW (by simpa using hu) hr))
  |succ m ih=>
   intro i W B u hWl him hi0 hB hp hW hu hr;have hiU:i<U.length:=by omega
   have hBc:B=U[i]::U.drop (i+1):=by rw[hB];exact zb0 hiU
   have htag:∀y∈W,y.2<U[i].2:=by
    intro y hy;obtain⟨k,hk⟩:=List.mem_iff_getElem?.1 (hp.mem_iff.1 hy);rw[zd6]at hk;split at hk
    .next hki=>
     obtain⟨hkU,e⟩:=za1.1 hk;have:=List.pairwise_iff_getElem.1 hU k i hkU hiU hki;rw[e]at this;exact this
    .cases hk
   refine h3 _ _ _ _ _ _ (aH (by omega) ⟨i+1,?_⟩);have:=S.Y6 (w0:=w) (P:=P) (x1:=(P.length:Nat)) (x8:=(P.length+i:Nat)) (x:=U[i]) (W:=W) (B:=U.drop (i+1)++Q) (b3:=l3 R (m+1) (P.length:Nat) (P.length+U.length:Nat)) (l:=λk x w=>l15 R (m+1) k (P.length:Nat) (P.length+U.length:Nat) (P.length+i:Nat) x w)
    (λk x w=>h15 R _ k _ _ _ x w) rfl hW htag (by rw[hWl]) (λu2 j hj ga gb hu2 r2=>?_) W.length u (zb4 _) (λk y hk hy=>by rw[zc3 (by omega)]at hy;cases hy) hr (by
     rw[zb1 (zb4 _),List.drop_of_length_le (zb4 _)];rw[hBc]at hu;simp only[zc9,za5,ze1]at hu ⊢;exact hu)
   .rw[hWl]at this;exact this
   .have hp2:(W.take j++U[i]::W.drop j).Perm (U.take (i+1)):=by
     refine(CZ W U[i] j).trans ?_;rw[List.take_add_one,za2 hiU];exact(List.perm_append_singleton U[i] W).symm.trans (hp.append_right [U[i]])
    have:=ih (i+1) (W.take j++U[i]::W.drop j) (U.drop (i+1)) u2 (by simp;omega) (by omega) (.inl (by omega)) rfl hp2 (OZ hW ga gb) (by simpa[za5] using hu2) r2;rw[hWl];exact this
 refine hbody _ _ _ _ (aC (by omega) ?_)
 by_cases hU0:U.length=0
 .obtain rfl:=za9 hU0;refine⟨1,h3 _ _ _ _ _ _ (aA (by have:([]:List (β×Nat)).length=0:=rfl;omega) (hR w [] (List.Perm.refl _) List.Pairwise.nil (by simpa using hH) (S.refl _)))⟩
 .obtain⟨x,r,rfl⟩:∃x r,U=x::r:=by cases U with | nil=>simp at hU0 | cons x r=>exact⟨x,r,rfl⟩
  exact⟨r.length+1,loop r.length 1 [x] r w rfl (by simp;omega) (.inl (by omega)) rfl (List.Perm.refl _) (List.pairwise_singleton _ _) (by simpa[za5] using hH) (S.refl _)⟩
end
end
section
variable{β:Type}
inductive Pc(lt:β->β->Bool)(s:Nat):List (β×Nat)->List (β×Nat)->Prop
 |nil:Pc lt s [] []
 |last {W U:List (β×Nat)}:W.Perm U->Up lt W->U.length<=s->Pc lt s W U
 |cons {W U zs z0:List (β×Nat)}:W.Perm U->Up lt W->U.length=s->Pc lt s zs z0->Pc lt s (W++zs) (U++z0)
variable{lt:β->β->Bool}{s:Nat}{zs z0:List (β×Nat)}
theorem Pc.perm(h:Pc lt s zs z0):zs.Perm z0:=by
 induction h with
 |nil=>exact List.Perm.refl _
 |last h _ _=>exact h
 |cons h _ _ _ ih=>exact h.append ih
theorem Pc.one(hs:0<s)(h:Pc lt s zs z0)(hl:zs.length<=s):Up lt zs:=by
 cases h with
 |nil=>exact List.Pairwise.nil
 |last _ h _=>exact h
 | @cons W U zs' z0' hp hu hU h=>
  have:=hp.length_eq;obtain rfl:zs'=[]:=za9 (by simp at hl;omega);simpa using hu
theorem Pc.split(hs:0<s)(h:Pc lt s zs z0)(hl:s<=zs.length):∃W U zs' z0',zs=W++zs'/\z0=U++z0'/\W.Perm U/\Up lt W/\U.length=s/\Pc lt s zs' z0':=by
 cases h with
 |nil=>simp at hl;omega
 |last hp hu hU=>
  have:=hp.length_eq;exact⟨zs,z0,[],[],by simp,by simp,hp,hu,by omega,.nil⟩
 |cons hp hu hU h=>exact⟨_,_,_,_,rfl,rfl,hp,hu,hU,h⟩
theorem tags{U1 U2 W1 W2:List (β×Nat)}(h1:W1.Perm U1)(h2:W2.Perm U2)(h:(U1++U2).Pairwise (λx y=>x.2<y.2)):∀x∈W1,∀y∈W2,x.2<y.2 :=
 λx hx y hy=>(List.pairwise_append.1 h).2.2 x (h1.mem_iff.1 hx) y (h2.mem_iff.1 hy)
variable(S:SM β){R:VP}{w0:World}
theorem SM.a0U{cIns:I2}(hi:S.KL cIns){n:Int}{e22:Int->zg6}{l:Nat->Int->Int->zg6}(hl:∀k a b w,XN cIns (l k) e22 n 20 a b w->l (k+1) a b w){N:Nat}(en:n=N)
  {zs0:List (β×Nat)} (hR:∀u zs,Pc S.lt 20 zs zs0->S.H u (fs zs)->S.Rel w0 u->e22 20 u) :
  ∀(k:Nat) (P z0:List (β×Nat)) (w:World),z0.length<=k->P.length+z0.length=N->z0.Pairwise (λx y=>x.2<y.2)->(∀zs,Pc S.lt 20 zs z0->Pc S.lt 20 (P++zs) zs0)->S.Rel w0 w->S.H w (fs (P++z0))->l (k+1) (P.length:Nat) (P.length+20:Nat) w:=by
 intro k
 induction k with
 |zero=>
  intro P z0 w hk hN hz hc hr hH;have hn:=S.Ak hH;have hsm:=S.small;obtain rfl:=za9 (Nat.le_zero.1 hk);simp at hN hn;refine hl _ _ _ _ (aA (by omega) ?_);have:=hi P [] [] w (th λu=>e22 20 u) List.Pairwise.nil (by simpa using hH) λu W hp hW hu ru=>⟨rfl,hR u (P++W) (hc W (.last hp hW (by simp))) (by simpa using hu) (S.trans hr ru)⟩;rw[en,<- hN];simpa using this
 |succ k ih=>
  intro P z0 w hk hN hz hc hr hH;have hn:=S.Ak hH;have hsm:=S.small;rw[za6]at hn;refine hl _ _ _ _ (fJ (λh=>?_) (λh=>?_))
  .have hlt:(z0.take 20).length=20:=by simp;omega
   have hld:(z0.drop 20).length=z0.length - 20:=by simp
   have hz':=hz;rw[<- List.take_append_drop 20 z0]at hz';have hzp:=List.pairwise_append.1 hz';have:=hi P (z0.take 20) (z0.drop 20) w (th λu=>wI (((P.length+20:Nat):Int)+20) λt=>l (k+1) (P.length+20:Nat) t u) hzp.1 (by rw[za5,List.take_append_drop];exact hH) λu W hp hW hu ru=>⟨rfl,bM (by omega) (by omega) ?_⟩
   .rw[hlt]at this;exact this
   .have hWl:=hp.length_eq;have:=ih (P++W) (z0.drop 20) u (by omega) (by simp;omega) hzp.2.1 (λzs h=>by
     have:=hc (W++zs) (by
      have:=Pc.cons (lt:=S.lt) (s:=20) hp hW hlt h
      rwa [List.take_append_drop]at this)
     simpa[za5] using this) (S.trans hr ru) hu
    rw[za6,hWl,hlt]at this;rw[show((P.length+20:Nat):Int)+20=((P.length+20+20:Nat):Int) by omega];exact this
  .have:=hi P z0 [] w (th λu=>e22 20 u) hz (by simpa using hH) λu W hp hW hu ru=>⟨rfl,hR u (P++W) (hc W (.last hp hW (by omega))) (by simpa using hu) (S.trans hr ru)⟩;rw[en,<- hN];exact this
theorem SM.a04{cSym:I3}(hsym:∀N,S.CG cSym N){n:Int}{b22:Int->zg6}{s:Nat}{l:Nat->Int->Int->zg6}(hl:∀k a b w,Q3 cSym b22 (l k) n s a b w->l (k+1) a b w){N:Nat}(en:n=N)(hs0:0<s)(hsn:s<N)
  {zs0:List (β×Nat)} (hR:∀u zs,Pc S.lt (2*s) zs zs0->S.H u (fs zs)->S.Rel w0 u->b22 (2*s:Nat) u) :
  ∀(k:Nat) (P zs z0:List (β×Nat)) (w:World),zs.length<=k->P.length+zs.length=N->z0.Pairwise (λx y=>x.2<y.2)->Pc S.lt s zs z0->(∀zs,Pc S.lt (2*s) zs z0->Pc S.lt (2*s) (P++zs) zs0)->S.Rel w0 w->S.H w (fs (P++zs))->l (k+1) (P.length:Nat) (P.length+2*s:Nat) w:=by
 have fin:∀(P zs z0:List (β×Nat)) (w:World),zs.length<2*s->P.length+zs.length=N->z0.Pairwise (λx y=>x.2<y.2)->Pc S.lt s zs z0->(∀zs,Pc S.lt (2*s) zs z0->Pc S.lt (2*s) (P++zs) zs0)->S.Rel w0 w->S.H w (fs (P++zs)) ->
   wI ((P.length:Nat)+s) λt=>af (decide (t<n)) (cSym (P.length:Nat) t n w (th λu=>wI ((s:Int)*2) λt=>b22 t u)) (wI ((s:Int)*2) λt=>b22 t w):=by
  intro P zs z0 w hz hN htag hp hc hr hH;have hn:=S.Ak hH;have hsm:=S.small;rw[za6]at hn;refine bM (by omega) (by omega) (fJ (λh=>?_) (λh=>bM (by omega) (by omega) ?_))
  .obtain⟨W,U,zs',z0',rfl,rfl,p1,u1,hU,hp'⟩:=hp.split hs0 (by omega);have hWl:=p1.length_eq;rw[za6]at hz hN hn;have p2:=hp'.perm;have u2:=hp'.one hs0 (by omega);have:=hsym (W.length+zs'.length) P W zs' [] w (th λu=>wI ((s:Int)*2) λt=>b22 t u) (zb4 _) (by omega) (by omega) u1 u2 (tags p1 p2 htag) (by simpa using hH) λu X hX uX hu ru=>⟨rfl,bM (by omega) (by omega) ?_⟩
   .rw[show n=((P.length+W.length+zs'.length:Nat):Int) by omega,show((P.length:Nat):Int)+(s:Int)=((P.length+W.length:Nat):Int) by omega];exact this
   .rw[show(s:Int)*2=((2*s:Nat):Int) by omega];have hl2:=(hX.trans (p1.append p2)).length_eq;have hl3:=hX.length_eq;rw[za6]at hl3;exact hR u (P++X) (hc X (.last (hX.trans (p1.append p2)) uX (by omega))) (by simpa using hu) (S.trans hr ru)
  .rw[show(s:Int)*2=((2*s:Nat):Int) by omega];have:=hp.perm.length_eq;exact hR w (P++zs) (hc zs (.last hp.perm (hp.one hs0 (by omega)) (by omega))) hH hr
 intro k
 induction k with
 |zero=>
  intro P zs z0 w hk hN htag hp hc hr hH;have hn:=S.Ak hH;have hsm:=S.small;rw[za6]at hn;refine hl _ _ _ _ (aA (by omega) (fin P zs z0 w (by omega) hN htag hp hc hr hH))
 |succ k ih=>
  intro P zs z0 w hk hN htag hp hc hr hH;have hn:=S.Ak hH;have hsm:=S.small;rw[za6]at hn;refine hl _ _ _ _ (fJ (λh=>?_) (λh=>fin P zs z0 w (by omega) hN htag hp hc hr hH));obtain⟨W1,U1,zs1,z1,rfl,rfl,p1,u1,hU1,hp1⟩:=hp.split hs0 (by omega);have hWl:=p1.length_eq;rw[za6]at hk hN hn;obtain⟨W2,U2,zs2,z2,rfl,rfl,p2,u2,hU2,hp2⟩:=hp1.split hs0 (by omega);have hWl2:=p2.length_eq;rw[za6]at hk hN hn;have ht2:=List.pairwise_append.1 htag;have ht3:=List.pairwise_append.1 ht2.2.1;have htt:(U1++U2).Pairwise (λx y=>x.2<y.2):=by
   rw[<- List.append_assoc]at htag;exact(List.pairwise_append.1 htag).1
  refine bM (by omega) (by omega) ?_;have:=hsym (W1.length+W2.length) P W1 W2 zs2 w (th λu=>wI (2*(s:Int)) λt=>wI (((P.length+2*s:Nat):Int)+t) λt=>l (k+1) (P.length+2*s:Nat) t u) (zb4 _) (by omega) (by omega) u1 u2 (tags p1 p2 htt) (by simpa[za5] using hH) λu X hX uX hu ru=>⟨rfl,bM (by omega) (by omega) (bM (by omega) (by omega) ?_)⟩
  .rw[show((P.length:Nat):Int)+(s:Int)=((P.length+W1.length:Nat):Int) by omega];rw[show((P.length+W1.length+W2.length:Nat):Int)=((P.length+2*s:Nat):Int) by omega]at this;exact this
  .have hXl:=hX.length_eq;rw[za6]at hXl;have:=ih (P++X) zs2 z2 u (by omega) (by rw[za6];omega) ht3.2.1 hp2 (λzs h=>by
    have:=hc (X++zs) (by
     have:=Pc.cons (lt:=S.lt) (s:=2*s) (hX.trans (p1.append p2)) uX (by rw[za6];omega) h
     rwa [za5]at this)
    simpa[za5] using this) (S.trans hr ru) hu
   rw[za6,hXl]at this;rw[show((P.length+2*s:Nat):Int)+2*(s:Int)=((P.length+(W1.length+W2.length)+2*s:Nat):Int) by omega];rw[show((P.length+(W1.length+W2.length):Nat):Int)=((P.length+2*s:Nat):Int) by omega]at this;exact this
theorem SM.YY{cSym:I3}(hsym:∀N,S.CG cSym N){n:Int}{l22:Nat->Int->zg6}{l34:Nat->Nat->Int->Int->Int->zg6}(h22:∀k x6 w,Uu (λx6 a b w=>∃k',l34 k k' x6 a b w) R n x6 w->l22 (k+1) x6 w)(h34:∀k k' x6 a b w,Q3 cSym (l22 k) (l34 k k' x6) n x6 a b w->l34 k (k'+1) x6 a b w){N:Nat}(en:n=N)
  {zs0:List (β×Nat)} (h0:zs0.Pairwise (λx y=>x.2<y.2)) (hl0:zs0.length=N) (hR:∀u zs,zs.Perm zs0->Up S.lt zs->S.H u (fs zs)->S.Rel w0 u->dn R u) :
  ∀(k s:Nat) (zs:List (β×Nat)) (w:World),0<s->s<2*N+40->N<s+k->Pc S.lt s zs zs0->S.Rel w0 w->S.H w (fs zs)->l22 (k+1) (s:Nat) w:=by
 intro k
 induction k with
 |zero=>
  intro s zs w hs hs2 hk hp hr hH;have:=hp.perm.length_eq;exact h22 _ _ _ (aA (by omega) (hR w zs hp.perm (hp.one hs (by omega)) hH hr))
 |succ k ih=>
  intro s zs w hs hs2 hk hp hr hH;have hn:=S.Ak hH;have hsm:=S.small;have hlen:=hp.perm.length_eq;refine h22 _ _ _ (fJ (λh=>bM (by omega) (by omega) ⟨zs.length+1,?_⟩) (λh=>hR w zs hp.perm (hp.one hs (by omega)) hH hr));have:=S.a04 (w0:=w0) hsym (n:=n) (b22:=l22 (k+1)) (s:=s) (l:=λk' a b w=>l34 (k+1) k' (s:Nat) a b w) (λk' a b w=>h34 (k+1) k' _ a b w) en hs (by omega) (zs0:=zs0) (λu zs2 hp2 hu ru=>ih (2*s) zs2 u (by omega) (by omega) (by omega) hp2 ru hu) zs.length [] zs zs0 w (zb4 _) (by simp;omega) h0 hp (λzs h=>by simpa using h) hr (by simpa using hH);rw[show(2:Int)*((s:Nat):Int)=((2*s:Nat):Int) by omega];simpa using this
theorem SM.stable{cIns:I2}(hi:S.KL cIns){cSym:I3}(hsym:∀N,S.CG cSym N){l6:Nat->Int->Int->zg6}{l22:Nat->Int->zg6}{l34:Nat->Nat->Int->Int->Int->zg6}
  (h6:∀k a b w,XN cIns (l6 k) (λx6 w=>∃k,l22 k x6 w) S.n 20 a b w->l6 (k+1) a b w) (h22:∀k x6 w,Uu (λx6 a b w=>∃k',l34 k k' x6 a b w) R S.n x6 w->l22 (k+1) x6 w) (h34:∀k k' x6 a b w,Q3 cSym (l22 k) (l34 k k' x6) S.n x6 a b w->l34 k (k'+1) x6 a b w)
  {xs:List β} {w:World} (hH:S.H w xs) (hR:∀u,S.H u (sorted S.lt xs)->S.Rel w u->dn R u):∃k,l6 k 0 20 w:=by
 have hln:=S.len hH;have hz:fs (xs.zipIdx)=xs:=zip_fst xs 0;have hzl:xs.zipIdx.length=S.n:=by simp[hln]
 refine⟨xs.zipIdx.length+1,?_⟩;have:=S.a0U (w0:=w) hi (n:=S.n) (e22:=λx6 w=>∃k,l22 k x6 w) (l:=l6) h6 (N:=S.n) rfl (zs0:=xs.zipIdx) (λu zs hp hu ru=>⟨S.n+1+1,?_⟩) xs.zipIdx.length [] xs.zipIdx w (zb4 _) (by simpa using hzl) (IE xs 0) (λzs h=>by simpa using h) (S.refl _) (by rw[zc9,hz];exact hH)
 .simpa using this
 .exact S.YY (w0:=w) hsym h22 h34 (N:=S.n) rfl (IE xs 0) hzl (λu2 zs2 hp2 hu2 hH2 r2=>hR u2 (by rw[<- Qv S.wk hp2 hu2];exact hH2) r2) (S.n+1) 20 zs u (by omega) (by omega) (by omega) hp ru hu
end
section
variable{β:Type}{P:Program}{ld:World->Addr->(β->Prop)->Prop}{sto:World->Addr->β->(zg6)->Prop}{k:Nat}{a:OA}{n c e g:Nat}{en:β->List Value}{lt:β->β->Bool}{cf:FuncId}{cargs:β->β->Array Value}{X:zg6}{G:β->Prop}
noncomputable def smK(P:Program)(ld:World->Addr->(β->Prop)->Prop)(sto:World->Addr->β->(zg6)->Prop)(k:Nat)(a:OA)(n c e g:Nat)(en:β->List Value)(lt:β->β->Bool)(cf:FuncId)(cargs:β->β->Array Value)(X:zg6)(G:β->Prop)
  (hl:∀x,(en x).length=k) (hk:0<k) (wk:Wk lt) (small:n<=1152921504606846975)
  (hld:∀w p x K,(∀j v,(en x)[j]?=some v->w.cell? (p.add j)=some v)->K x->ld w p K) (hst:∀w p x K,wrS w p 0 (en x) K->sto w p x K)
  (hX:∀w u,X w->Only g w u->X u) (hcall:∀w x y,X w->G x->G y->E.CallsD P cf (cargs x y) w λv u=>∃r:Int,v = .int .i64 r/\decide (r<0)=lt x y/\Kept w u):SM β where
 P:=P
 ld:=ld
 sto:=sto
 kc:=k
 a:=a
 n:=n
 lt:=lt
 cf:=cf
 cargs:=cargs
 H w xs:=aK k en e w a n c xs g/\X w/\∀x∈xs,G x
 G:=G
 Rel:=Only g
 wk:=wk
 small:=small
 refl w:=Mod.refl _
 trans h1 h2:=h1.trans h2 zg7 zg7
 len h:=(h.1.len hl hk).symm
 rd:=by
  intro w xs i K h h0 hi hk';have hs:=h.1.slk hl hk;have hil:i.toNat<xs.length:=by have:=hs.len;omega
  obtain⟨p,rfl,hp⟩:=hs.get i.toNat _ (za2 hil);show chk ((0:Int)<=i/\i<(n:Int)) (ld w (p.add (i.toNat*k)) K);refine dK ⟨h0,hi⟩ (hld _ _ _ _ (λj v hj=>?_) (hk' _ (za2 hil)));rw[add_add];exact hp j v hj
 good h:=h.2.2
 wr:=by
  intro w xs i x K h hG h0 hi hk';have hln:=h.1.len hl hk;obtain⟨b,rfl,rfl,hw⟩:=h.1.put hl (i:=i.toNat) (by omega) hln (y:=x) (K:=K) (λu hu ho=>hk' u ⟨hu,hX _ _ h.2.1 ho,λy hy=>(List.mem_or_eq_of_mem_set hy).elim (h.2.2 y) λe=>e ▸ hG⟩ ho);refine dK ⟨h0,hi⟩ (hst _ _ _ _ ?_);rw[addr_add,zd1];exact hw
 call:=by
  intro w xs x y h hx hy;exact zg0 (hcall w x y h.2.1 (h.2.2 x hx) (h.2.2 y hy)) λv u ⟨r,hv,hr,hk'⟩=>⟨r,hv,hr,⟨h.1.kept hk',hX _ _ h.2.1 (Kept.mod hk'),h.2.2⟩,Kept.mod hk'⟩
end
theorem F7{β:Type}(f:β->Int):Wk λx y=>decide (f x<f y) where
 irrefl x:=by simp
 trans x y z:=by simp;omega
 ntrans x y z:=by simp;omega
end Go.E
