/- Part of a proof; no conditions. -/
import Derived.Test.YtmjlipmapfofmaaGreatFJ
import Derived.Test.YtmjlipmapfofmaaGreatFE
import Derived.Test.YtmjlipmapfofmaaGreatXLBack
set_option linter.unusedVariables false
set_option linter.unusedSimpArgs false
set_option linter.unusedSectionVars false
set_option maxRecDepth 100000
open Go.Proofs.Tryz (prog)
namespace Go.Mir
open Go Go.E Go.RowKit Go.Tr Go.Ss Go.ChangeShapes
section
variable{w u w1:World}{a a1:OA}{n c n1 c1:Nat}{F:Nat->Prop}{p:Addr}{R:VP}{f:fC}{s b t:SH}{k:Int}
theorem WH{x:fC}{s t:SH}(h:AtL w p (jo x s t)){K:Int->Int->OA->Nat->Nat->OA->Nat->Nat->Prop}(hk:K x.features x.outputs s.a s.n s.c t.a t.n t.c):mV w p K :=
 ⟨_,h 0 _ rfl,_,h 1 _ rfl,_,_,_,h 2 _ rfl,_,_,_,h 3 _ rfl,hk⟩
def OkT(t:TD):Prop:=t.nodes.length<=1048576/\∀x∈t.nodes,OkN x
theorem BM{b:kJ}(hb:b.sm)(h3:∀l∈b.lists,∀c∈l.numbers,c.thr<18446744073709551616)(h2:ui b.lists<=524287\/∀v∈b.values,v.length<=524288):∀(k i:Nat) (T T':List TD),ku b k i T=some T'->(∀t∈T,OkT t)->∀t∈T',OkT t
 |0,i,T,T',h,hT=>by
  unfold ku at h;rw[<- Option.some.inj h];exact hT
 |k+1,i,T,T',h,hT=>by
  unfold ku at h;split at h
  .cases h
  .rename_i t ht;refine BM hb h3 h2 k (i+1) _ _ h λy hy=>?_
   rcases zb2.1 hy with hy | hy
   .exact hT y hy
   .obtain rfl:=zd0.1 hy;exact F5 hb h3 h2 ht
theorem Ci:∀(bs:List kJ) (T:List TD) (r:List (Int×Int)) (p:List TD×List (Int×Int)),(∀b∈bs,b.sm/\(ui b.lists<=524287\/∀v∈b.values,v.length<=524288)/\∀l∈b.lists,∀c∈l.numbers,c.thr<18446744073709551616) ->
  kF bs T r=some p->(∀t∈T,OkT t)->(∀t∈p.1,OkT t)/\p.1.length=T.length+trT bs
 | [],T,r,p,_,h,hT=>by
  unfold kF at h;rw[<- Option.some.inj h];exact⟨hT,rfl⟩
 |b::bs,T,r,p,hb,h,hT=>by
  unfold kF at h;split at h
  .cases h
  split at h
  .cases h
  .rename_i T' hT';obtain⟨k1,k2,k3⟩:=hb b (.head _);have hl:=tX _ _ _ _ hT';obtain⟨i1,i2⟩:=Ci bs T' _ p (λx hx=>hb x (.tail _ hx)) h (BM k1 k3 k2 _ _ _ _ hT' hT);refine⟨i1,?_⟩;have:trT (b::bs)=b.leaves.length+trT bs:=rfl;omega
theorem Ve(hS:SmF f)(hR:SmR f){ts:List TD}(h:gJ f=some ts):ts.length<=1048576/\∀t∈ts,t.nodes.length<=1048576/\Short 1048576 t.nodes:=by
 rw[<- Jp]at h;unfold yM at h
 cases hp:kF f.blocks [] [] with
 |none=>rw[hp]at h;cases h
 |some p=>
  rw[hp]at h;simp only[Option.bind_some]at h;split at h
  .cases h
  split at h
  .obtain rfl:=zc2 h;obtain⟨i1,i2⟩:=Ci f.blocks [] [] p (λb hb=>⟨hS.sm.2.2 b hb,hR.two b hb,hR.thr b hb⟩) hp (λt ht=>by cases ht);have:=hS.trs;rw[zc6]at i2;exact⟨by omega,λt ht=>⟨(i1 t ht).1,λx hx=>((i1 t ht).2 x hx).1⟩⟩
  .cases h
noncomputable def O7(f:fC):List TD:=(gJ f).getD []
noncomputable def Yo(f:fC):Int:=match gJ f with
 |some _=>0
 |none=>150
theorem qK.ls{v:Value}(h:qK w f v u):∃a n c,v = .tuple #[.slice a n c,.int .i64 (Yo f)]/\Ls tT (λb=>b<u.heap.size) u a n c (O7 f)/\Kept w u:=by
 obtain⟨a,n,c,why,hv,h0,h1,hf⟩:=h;unfold O7 Yo
 cases hb:gJ f with
 |none=>
  obtain⟨rfl,rfl,rfl,rfl⟩:=h0 hb;exact⟨none,0,0,hv,Ls.nil _ _ _ _ _,zg4 hf⟩
 |some ts=>
  obtain⟨rfl,hl⟩:=h1 ts hb;exact⟨a,n,c,hv,hl.mono λb hb=>hb.2,zg4 hf⟩
theorem TN(hS:SmF f)(hR:SmR f):(O7 f).length<=1048576/\∀t∈O7 f,t.nodes.length<=1048576/\Short 1048576 t.nodes:=by
 unfold O7
 cases hb:gJ f with
 |none=>exact⟨Nat.zero_le _,λt ht=>by cases ht⟩
 |some ts=>exact Ve hS hR hb
set_option maxHeartbeats 2000000 in
theorem AB(hG:jr F w f s t)(hS:SmF f)(hR:SmR f)(hF:∀b,F b->b<w.heap.size):Pure prog 4 #[vF f s t] w (.bool true):=by
 refine dh.calls (R:=λv u=>v = .bool true/\Below w.heap.size w u) ?_;unfold dh dh.g0;have up:∀ {x:World},Kept w x->∀b,F b->b<x.heap.size:=λhk b hb=>by have:=hF b hb;have:=hk.size;omega
 obtain⟨hbl,hbs⟩:=TN hS hR;refine yE (cs:=(jo f s t).toArray) λw1 hA' hk1=>?_;have hA:AtL w1 (na w) (jo f s t):=hA';refine WH hA ?_;refine zg0 (MC (hG.kept hk1) (up hk1)) λv w2 ⟨s',t',hv,hC,hk2⟩=>?_;have kC:∀ {x:World},Kept w2 x->jr (nwB w1 w2) x f s' t':=λhk=>⟨hC.b.kept hk,hC.k.kept hk,hS.sm⟩;have uC:∀ {x:World},Kept w2 x->∀b,nwB w1 w2 b->b<x.heap.size:=λhk b hb=>by have:=hb.2;have:=hk.size;omega
 have k12:=zg1 hk1 hk2;refine⟨_,_,_,_,_,_,_,_,hv,?_⟩;refine boxS (zs:=(mr 0 0 none 0 0 none 0 0).toList) (vs:=jo f s' t') rfl λw3 hB _ hk3=>WH hB ?_;have k13:=zg1 k12 hk3;refine zg0 (PX (kC hk3) hS (uC hk3)) λv w4 hbk=>?_;obtain⟨a1,n1,c1,hv,hx,hk4⟩:=hbk.ls;refine⟨_,_,_,_,hv,?_⟩;have k34:=zg1 hk3 hk4;have k14:=zg1 k13 hk4;refine WH (hA.kept (zg1 hk2 k34)) ?_;refine zg0 (Fh (hG.kept k14) hS hR (up k14)) λv w5 hbk2=>?_;obtain⟨a2,n2,c2,hv,hy,hk5⟩:=hbk2.ls;refine⟨_,_,_,_,hv,?_⟩;have k35:=zg1 k34 hk5;have k15:=zg1 k14 hk5;refine WH (hB.kept (zg1 hk4 hk5)) ?_;refine zg0 (Ql (kC k35) hS (uC k35)) λv w6 ⟨hv,hk6⟩=>?_;refine⟨_,_,hv,?_⟩;have k36:=zg1 k35 hk6;have k16:=zg1 k15 hk6;refine WH (hA.kept (zg1 hk2 k36)) ?_;refine zg0 (KP (hG.kept k16) hS hR (up k16)) λv w7 ⟨hv,hk7⟩=>?_;refine⟨_,_,hv,?_⟩;refine zg0 UL λv w8 ⟨hv,hk8⟩=>⟨_,hv,LW ?_⟩;have k58:=zg1 hk6 (zg1 hk7 hk8);have k48:=zg1 hk5 k58;have hxl:=hx.len;refine zg0 (Qs (hx.kept k48) (hy.kept k58) (λb hb=>by have:=k48.size;omega) (λb hb=>by have:=k58.size;omega) (by omega) hbs hbs) λv w9 ⟨hv,hk9⟩=>⟨_,hv,?_⟩;rw[iG rfl];refine LW (kQ rfl (kQ rfl (kQ rfl ?_)));have k39:=zg1 hk4 (zg1 k48 hk9);have k19:=zg1 k13 k39;refine WH (hB.kept k39) (WH (hA.kept (zg1 hk2 (zg1 hk3 k39))) ?_);refine zg0 (BQ (kC (zg1 hk3 k39)) (hG.kept k19)) λv w10 ⟨hv,hk10⟩=>⟨_,hv,?_⟩;rw[iG rfl];exact⟨rfl,zg1 k19 hk10⟩
end
end Go.Mir
