/- Part of a proof; no conditions. -/
import Derived.Test.YtmjlipmapfofmaaGreatFH
set_option linter.unusedVariables false
set_option linter.unusedSimpArgs false
set_option linter.unusedSectionVars false
set_option maxRecDepth 100000
open Go.Proofs.Tryz (prog)
namespace Go.Mir
open Go Go.E Go.RowKit Go.Tr Go.Ss Go.ChangeShapes
section
variable{w w0 u:World}{B pk gx g kk:Nat}{R:VP}{L:List AD}{s tk:SH}{kd:AD}
theorem PU{α:Type}{lt:α->α->Bool}{L:List α}{c:α}{k:Nat}(hk:k<=L.length)(h1:∀y∈L.drop k,lt c y=true)(h2:k=0\/∃y,L[k - 1]?=some y/\lt c y=false):lX lt L c=L.take k++c::L.drop k:=by
 have e:L.reverse=(L.drop k).reverse++(L.take k).reverse:=by rw[<- List.reverse_append,List.take_append_drop]
 have h1':∀y∈(L.drop k).reverse,lt c y=true:=λy hy=>h1 y (List.mem_reverse.1 hy);have hd:(L.take k).reverse.dropWhile (λy=>lt c y)=(L.take k).reverse/\(L.take k).reverse.takeWhile (λy=>lt c y)=[]:=by
  rcases h2 with rfl | ⟨y,hy,hf⟩
  .simp
  .by_cases h0:k=0
   .subst h0;simp
   .have ht:L.take k=L.take (k - 1)++[y]:=by
     have:=take_snoc hy
     rwa [Nat.sub_add_cancel (by omega)]at this
    rw[ht,List.reverse_append];simp[hf]
 unfold lX;rw[e,List.dropWhile_append_of_pos h1',List.takeWhile_append_of_pos h1',hd.1,hd.2];simp
theorem a0n{p:Addr}(h:AtL w p (jG (kd,tk))){K:Int->Int->Int->Nat->OA->Nat->Nat->Int->Int->Int->Int->Int->Prop}(hk:K kd.nd.kind kd.nd.value kd.nd.feature kd.nd.thr tk.a tk.n tk.c kd.nd.missing kd.nd.left kd.nd.right kd.frm kd.to):mf w p K :=
 ⟨_,h 0 _ rfl,_,h 1 _ rfl,_,h 2 _ rfl,_,h 3 _ rfl,_,_,_,h 4 _ rfl,_,h 5 _ rfl,_,h 6 _ rfl,_,h 7 _ rfl,_,h 8 _ rfl,_,h 9 _ rfl,hk⟩
variable{b42:ag.T42}{b22:ag.T22}{b8:ag.T8}{xa xf xl xm xq xr:Int}{ae ai an':OA}{nj ck no cp:Nat}
theorem SL(hkk:kk<=L.length)(hL:L.length<=549755813000)(hpk:pk+1≠g)
  (hend:∀u,mi B u s (L.take kk++kd::L.drop kk) g->Only g w0 u->inc xr λh=>b42 xa s.a s.n s.c ae xf ai nj ck xl xm an' no cp xq h u) :
  ∀(j:Nat) (w:World) (y:AD),kk+j<=L.length->mi B w s (L.take (kk+j)++y::L.drop (kk+j)) g->AtL w ⟨pk,0,none⟩ (jG (kd,tk))->Arr enI tI' w tk.a tk.n tk.c kd.nd.aT gx->fresh B gx->Only g w0 w ->
   ag.WJ R b8 b22 b42 (j+1) xa s.a s.n s.c ae xf (some ⟨pk,0,none⟩) kk ((kk+j:Nat):Int) ai nj ck xl xm an' no cp xq xr w:=by
 intro j
 induction j with
 |zero=>
  intro w y hj h hc hcr hgx ho0;unfold ag.WJ ag.YF;refine aA (by omega) ?_;have hl:s.n=_:=h.len;simp only[za6,zc5,zb6,zb7]at hl;refine a0n hc ?_;refine h.wr (i:=(kk:Int)) (t:=tk) (by omega) (by omega) hcr hgx λu hr ho=>hend u ?_ (zg2 ho0 ho zg7 zg7);rw[za3,zd2,set_mid _ _ _ _ hkk]at hr;exact hr
 |succ j ih=>
  intro w y hj h hc hcr hgx ho0;unfold ag.WJ ag.YF;refine aH (by omega) ?_;have hl:s.n=_:=h.len;simp only[za6,zc5,zb6,zb7]at hl;refine bM (by omega) (by omega) ?_;refine h.rd (i:=((kk+(j+1):Nat):Int) - 1) (by omega) (by omega) λp y2 t2 gx2 hy2 hA2 hc2 hg2=>a0n hA2 ?_;refine h.wr (i:=((kk+(j+1):Nat):Int)) (t:=t2) (by omega) (by omega) hc2 hg2 λu hr ho=>?_;refine bM (by omega) (by omega) ?_;have e1:(((kk+(j+1):Nat):Int) - 1)=((kk+j:Nat):Int):=by omega
  rw[e1];have ap:=h.ap;rw[e1,za3,zb9 (by rw[zb6];omega),List.getElem?_take_of_lt (by omega)]at hy2;refine ih u y2 (by omega) ?_ (hc.mod ho λhk=>hpk hk) (Row.mD hcr ho (ap [tI'] (by decide)) (by simp)) hgx (zg2 ho0 ho zg7 zg7);rw[za3,set_mid _ _ _ _ (by omega),show kk+(j+1)=(kk+j)+1 by omega,EI _ _ _ hy2]at hr;exact hr
end
section
variable{w w0 u:World}{S:Nat->Prop}{B pk gx g kk:Nat}{R:VP}{L:List AD}{s tk:SH}{kd:AD}
variable{b42:ag.T42}{b22:ag.T22}{b8:ag.T8}{xa xf xl xm xq xr:Int}{ae ai an':OA}{nj ck no cp:Nat}
theorem VH(h:mi B w s L g)(hB:B<=w.heap.size)(hc:AtL w ⟨pk,0,none⟩ (jG (kd,tk)))(hcr:Arr enI tI' w tk.a tk.n tk.c kd.nd.aT gx)(hgx:fresh B gx)(hpg:pk+1≠g)(hpw:pk<w.heap.size)(hm:s.n<=549755810000)
  (hend:∀u s' g',mi B u s' (lX xR L kd) g'->(g'=g\/w.heap.size<g')->From B w u->Mod (λk=>k+1=g\/w.heap.size<=k) w u->inc xr λh=>b42 xa s'.a s'.n s'.c ae xf ai nj ck xl xm an' no cp xq h u) :
  ∀k:Nat,k<=L.length->(∀y∈L.drop k,xR kd y=true)->ag.l94 R b8 b22 b42 (k+1) xa s.a s.n s.c ae xf (some ⟨pk,0,none⟩) k ai nj ck xl xm an' no cp xq xr w:=by
 have hl:s.n=_:=h.len;have app:∀k:Nat,k<=L.length->lX xR L kd=L.take k++kd::L.drop k ->
   nw (w.alloc (.cells (mJ 0 0 0 0 none 0 0 0 0 0 0 0) tKn)) λC=>dC prog (Builtin.append_ #[86,86] 86 #[.slice s.a s.n s.c,.slice (some (na w)) 1 1]) C λy z=>∃A B C,y = .slice A B C/\(nv (IntKind.i64.wrap ((B:Int) - 1)) λt=>ag.e109 R b8 b22 b42 xa A B C ae xf (some ⟨pk,0,none⟩) k t ai nj ck xl xm an' no cp xq xr z):=by
  intro k hk hput;refine bZ ?_;have hkn:=zg3 w (.cells (mJ 0 0 0 0 none 0 0 0 0 0 0 0) tKn);have hAz:AtL (w.alloc (.cells (mJ 0 0 0 0 none 0 0 0 0 0 0 0) tKn)) (na w) (jG (⟨⟨0,0,0,0,[],0,0,0⟩,0,0⟩,⟨none,0,0⟩)):=AtL.new w (jG (⟨⟨0,0,0,0,[],0,0,0⟩,0,0⟩,⟨none,0,0⟩)) tKn;have hzn:=hkn.size;have apC:=(h.kept hkn).ap [tI'] (by decide);have hgw:=h.le;refine(h.kept hkn).mY (y:=⟨⟨0,0,0,0,[],0,0,0⟩,0,0⟩) (t:=⟨none,0,0⟩) (gx:=0) hAz (Arr.nil _ _ _) (.inl rfl) (by omega) (by omega) λa' c' u g' h' hg' _ ho=>⟨_,_,_,rfl,?_⟩;have hzu:=ho.size;have hl':s.n+1=_:=h'.len;refine bM (by omega) (by omega) ?_;refine za4 (L.length - k+1) ?_;have e2:(((s.n+1:Nat):Int) - 1)=((k+(L.length - k):Nat):Int):=by omega
  rw[e2];refine SL (kk:=k) (L:=L) (kd:=kd) (tk:=tk) (w0:=u) (B:=B) (gx:=gx) (s:=⟨a',s.n+1,c'⟩) (g:=g') hk (by omega) (by omega) (λv hv ho'=>?_) (L.length - k) u ⟨⟨0,0,0,0,[],0,0,0⟩,0,0⟩ (by omega) ?_ ((hc.kept hkn).mod ho λhk=>hpg hk) (Row.mD (hcr.kept hkn) ho apC (by simp)) hgx (Mod.refl _)
  .rw[<- hput]at hv;have hfr:=h.fr;unfold fresh at hfr;have fr1:From B w u:=From.then (Kept.mod hkn) ho λj _ hj=>by have hj':j+1=g:=hj;omega
   have fr2:From B w v:=From.then fr1 ho' λj _ hj=>by have hj':j+1=g':=hj;omega
   have m1:Mod (λk=>k+1=g\/w.heap.size<=k) w u:=zg2 (Kept.mod (S:=λ_=>False) hkn) ho (λ_ _ h=>h.elim) (λj _ hj => .inl hj);refine hend v _ g' hv (by omega) fr2 (zg2 m1 ho' (λ_ _ h=>h) λj _ hj=>?_);have hj':j+1=g':=hj;show j+1=g\/w.heap.size<=j;omega
  .rw[show k+(L.length - k)=L.length by omega,zd3,List.drop_length];exact h'
 intro k
 induction k with
 |zero=>
  intro hk hd;unfold ag.l94 ag.g94;refine aA (by omega) ?_;exact app 0 hk (PU hk hd (.inl rfl))
 |succ k ih=>
  intro hk hd;have e1:(((k+1:Nat):Int) - 1)=(k:Int):=by omega
  have hy:L[k]?=some (L[k]'(by omega)):=za2 _;generalize hyy:L[k]'(by omega)=y at hy;have yes:xR kd y=true->ag.l94 R b8 b22 b42 (k+1) xa s.a s.n s.c ae xf (some ⟨pk,0,none⟩) k ai nj ck xl xm an' no cp xq xr w:=λhlt=>ih (by omega) λz hz=>by
   rw[zb0 (by omega),hyy]at hz
   rcases zb3.1 hz with rfl | hz
   .exact hlt
   .exact hd z hz
  have no:xR kd y=false->_:=λhlt=>app (k+1) hk (PU hk hd (.inr ⟨y,hy,hlt⟩));have rd:∀ {K:Addr->Prop},(∀p t,AtL w (p.add ((((k+1:Nat):Int) - 1).toNat*10)) (jG (y,t))->K p)->ix s.a s.n (((k+1:Nat):Int) - 1) K:=fun {K} hK=>h.rd (by omega) (by omega) λp y2 t2 gx2 hy2 hA2 _ _=>by
   rw[e1,za3,hy]at hy2;obtain rfl:=zc2 hy2;exact hK p t2 hA2
  unfold ag.l94 ag.g94;refine aH (by omega) ?_;refine bM (by omega) (by omega) (rd λp t hA=>⟨_,hA 8 _ rfl,_,hc 8 _ rfl,?_⟩);refine fJ (λh1=>bM (by omega) (by omega) ?_) λh1=>bM (by omega) (by omega) (rd λp2 t2 hA2=>⟨_,hA2 8 _ rfl,_,hc 8 _ rfl,?_⟩)
  .rw[e1];have h1':y.frm>kd.frm:=h1;exact yes (by unfold xR;rw[decide_eq_true (show kd.frm<y.frm by omega)];rfl)
  .have h1':¬ y.frm>kd.frm:=h1;have f1:decide (kd.frm<y.frm)=false:=decide_eq_false (by omega);refine nN (λh2=>bM (by omega) (by omega) (rd λp3 t3 hA3=>⟨_,hA3 9 _ rfl,_,hc 9 _ rfl,?_⟩)) λh2=>no (by
    have h2':y.frm≠kd.frm:=h2;unfold xR;rw[f1,decide_eq_false (show¬ kd.frm=y.frm by omega)];rfl)
   refine fJ (λh3=>bM (by omega) (by omega) ?_) λh3=>no (by
    have h2':y.frm=kd.frm:=h2;have h3':¬ y.to<kd.to:=h3;unfold xR;rw[f1,decide_eq_false h3'];simp)
   have h2':y.frm=kd.frm:=h2;have h3':y.to<kd.to:=h3;rw[e1];exact yes (by unfold xR;rw[f1,decide_eq_true (show kd.frm=y.frm by omega),decide_eq_true h3'];rfl)
end
section
variable{w w0 u w1:World}{F:Nat->Prop}{pk pc:Nat}{R:VP}{L:List AD}{tk tc:SH}{kd:AD}{cu:cZ}{lost:List cZ}
def mAD(kd:AD)(m:Int):AD:=⟨{ kd.nd with missing:=m },kd.frm,kd.to⟩
theorem Bv(k:Int)(L:List cZ)(o c:cZ):uu k (L++[o]) c=if o.tree=k/\o.frm=c.frm/\o.to=c.to then 2 else uu k L c:=by
 unfold uu;rw[List.any_append]
 by_cases h:o.tree=k/\o.frm=c.frm/\o.to=c.to
 .simp[h]
 .rw[if_neg h];have:([o].any λo=>decide (o.tree=k)&&decide (o.frm=c.frm)&&decide (o.to=c.to))=false:=by
   simp only[List.any_cons,List.any_nil,Bool.or_false]
   by_cases h1:o.tree=k <;> by_cases h2:o.frm=c.frm <;> by_cases h3:o.to=c.to <;> simp[h1,h2,h3]at h ⊢
  rw[this,Bool.or_false]
variable{b42:ag.T42}{b22:ag.T22}{b8:ag.T8}{xa xf xl xm xq xr:Int}{ae ai an' as' ab:OA}{nj ck no cp nl cl nb cb:Nat}
theorem Tv(hs:Ls tC F w0 as' nl cl lost)(hF:∀b,F b->b<w0.heap.size/\b≠pk)(hc:AtL w0 ⟨pc,0,none⟩ (enC cu tc))(hpc:pc<w0.heap.size)(hpcpk:pc≠pk)(hpk:pk<w0.heap.size)(hm:nl<=1073741824)
  (hend:∀u,Mod (Bx pk w0.heap.size) w0 u->Blk u pk (jG (mAD kd (uu xa lost cu),tk)).toArray tKn->ag.e94 R b8 b22 b42 xa ab nb cb ae xf (some ⟨pk,0,none⟩) nb ai nj ck xl xm an' no cp xq xr u) :
  ∀(k j:Nat) (w:World),j+k=nl->Mod (Bx pk w0.heap.size) w0 w->Blk w pk (jG (mAD kd (uu xa (lost.take j) cu),tk)).toArray tKn ->
   ag.l73 R b8 b22 b42 (k+1) xa ab nb cb ae xf (some ⟨pc,0,none⟩) (some ⟨pk,0,none⟩) ai nj ck xl xm an' no cp xq xr as' nl cl nl j w:=by
 intro k;have hl:=hs.len
 induction k with
 |zero=>
  intro j w hj hw hb;obtain rfl:j=lost.length:=by omega
  rw[zd3]at hb;unfold ag.l73 ag.g73;refine aA (by omega) ?_;exact hend w hw hb
 |succ k ih=>
  intro j w hj hw hb;unfold ag.l73 ag.g73;refine aH (by omega) ?_;have hsw:Ls tC F w as' nl cl lost:=hs.mod hw λb hb h=>by have:=hF b hb;rcases h with h | h <;> omega
  refine hsw.rdC (by omega) (by omega) λo a' n' c' ho hco=>?_;rw[za3]at ho;have hz:=hw.size;refine boxS (zs:=(oG 0 none 0 0 0 0 0).toList) (vs:=enC o ⟨a',n',c'⟩) (e:=tC') rfl λw1 hA _ hk1=>?_;have hz1:=hk1.size;have hw1:=Ei hw hk1;have hb1:=hb.keep hk1;have hc1:AtL w1 ⟨pc,0,none⟩ (enC cu tc):=hc.mod hw1 λh=>by
   have h':pc=pk\/w0.heap.size<=pc:=h;omega
  have skip:¬ (o.tree=xa/\o.frm=cu.frm/\o.to=cu.to)->ag.l73 R b8 b22 b42 (k+1) xa ab nb cb ae xf (some ⟨pc,0,none⟩) (some ⟨pk,0,none⟩) ai nj ck xl xm an' no cp xq xr as' nl cl nl ((j+1:Nat):Int) w1:=λhn=>by
   refine ih (j+1) w1 (by omega) hw1 ?_;rw[take_snoc ho,Bv,if_neg hn];exact hb1
  refine⟨_,hA 2 _ rfl,nN (λh1=>?_) λh1=>aC (by omega) (skip λh=>h1 h.1)⟩;refine⟨_,hA 3 _ rfl,?_⟩;refine⟨_,hc1 3 _ rfl,nN (λh2=>?_) λh2=>aC (by omega) (skip λh=>h2 h.2.1)⟩;refine⟨_,hA 4 _ rfl,?_⟩;refine⟨_,hc1 4 _ rfl,nN (λh3=>?_) λh3=>aC (by omega) (skip λh=>h3 h.2.2)⟩;refine stB (j:=5) hb1 (by simp) λw2 hb2 ho2=>aC (by omega) ?_;refine ih (j+1) w2 (by omega) (JA hw1 ho2) ?_;rw[take_snoc ho,Bv,if_pos ⟨h1,h2,h3⟩];exact hb2
end
section
variable{u w1:World}{e b:Nat}{K:zg6}
theorem wrP:∀(vs pre zs post:List Value) (w1:World),Blk w1 b (pre++zs++post).toArray e->zs.length=vs.length->(∀u,Blk u b (pre++vs++post).toArray e->Only (b+1) w1 u->K u)->wrS w1 ⟨b,0,none⟩ pre.length vs K
 | [],pre,[],post,w1,hb,_,hk=>hk w1 hb (Mod.refl _)
 |v::vs,pre,z::zs,post,w1,hb,hl,hk=>by
  have h1:=hb.set pre.length v;have e1:(pre++z::zs++post).toArray.setIfInBounds pre.length v=((pre++[v])++zs++post).toArray:=by
   rw[List.setIfInBounds_toArray];simp
  rw[e1]at h1;refine⟨?_,bZ ?_⟩
  .rw[addr_add,zd1];exact hb.ok (by simp)
  .rw[addr_add,zd1];have:=wrP vs (pre++[v]) zs post (w1.setCell ⟨b,pre.length,none⟩ v) h1 (by simpa using hl) (λu hb' hf'=>hk u (by simpa using hb') ((zg5 w1 b _ v).trans hf' zg7 zg7));simpa using this
end
section
variable{w w0 u:World}{F:Nat->Prop}{B pk pc pl gx g:Nat}{R:VP}{L:List AD}{s tk tc z1 z2 z3:SH}{kd:AD}{cu:cZ}{l:dL}
variable{b42:ag.T42}{b22:ag.T22}{b8:ag.T8}{xa xf xl xm xq xr:Int}{ai an':OA}{nj ck no cp:Nat}
theorem XE(h:mi B w s L g)(hB:B<=w.heap.size)(hbl:Blk w pl (enL l z1 z2 z3).toArray tL')(hs:Ls tC F w z3.a z3.n z3.c l.lost)(hF:∀b,F b->b<B)(hc:AtL w ⟨pc,0,none⟩ (enC cu tc))(hpc:pc<w.heap.size)(hne:pc≠pk)(hk:Blk w pk (jG (mAD kd 1,tk)).toArray tKn)(hpB:B<=pk)(hpg:pk+1≠g)(hcr:Arr enI tI' w tk.a tk.n tk.c kd.nd.aT gx)(hgx:fresh B gx)(hm:l.lost.length<=1073741824)(hn:s.n<=549755810000)
  (hend:∀u s' g',mi B u s' (lX xR L (mAD kd (uu xa l.lost cu))) g'->From B w u->Blk u pl (enL l z1 z2 z3).toArray tL'->inc xr λh=>b42 xa s'.a s'.n s'.c (some ⟨pl,0,none⟩) xf ai nj ck xl xm an' no cp xq h u) :
  ag.j69 R b8 b22 b42 xa s.a s.n s.c (some ⟨pl,0,none⟩) xf (some ⟨pc,0,none⟩) (some ⟨pk,0,none⟩) ai nj ck xl xm an' no cp xq xr w:=by
 unfold ag.j69 ag.g69;have hzl:=hs.len;have hkl:=hk.lt;have hll:=h.len;have hgl:=h.le;have hbll:=hbl.lt;have hplk:pl≠pk:=λe=>by subst e;exact absurd (hbl.ne hk) (by decide)
 refine⟨_,_,_,atB hbl 3 _ rfl,za4 (z3.n+1) ?_⟩;refine Tv (w0:=w) (kd:=kd) (tk:=tk) (F:=F) hs (λb hb=>by have:=hF b hb;omega) hc hpc hne hkl (by omega) (λu hu hbu=>?_) z3.n 0 w (by omega) (Mod.refl _) ?_
 .have hzu:=hu.size;have hu':Mod (Bx pk w.heap.size) w u:=hu;have hrow:mi B u s L g:=by
   obtain⟨⟨ll,r1,r2,r3⟩,r4⟩:=h;refine⟨⟨ll,aK.mod r1 hu' (λk hk1 hk2=>by rcases hk2 with h | h <;> omega),r2,λy hy=>?_⟩,r4⟩;obtain⟨gy,q1,q2⟩:=r3 y hy;have hgy:=q1.le;refine⟨gy,q1.mod hu' (λk hk1 hk2=>?_),q2⟩
   rcases hk2 with h | h
   .have hkb:k=pk:=h;subst hkb;obtain⟨cur,hcb⟩:=Row.blk q1 hk1;exact absurd (hcb.ne hk) (by decide)
   .have h':w.heap.size<=k:=h;omega
  have hcru:Arr enI tI' u tk.a tk.n tk.c kd.nd.aT gx:=by
   have hgy:=hcr.le;refine hcr.mod hu' (λk hk1 hk2=>?_)
   rcases hk2 with h | h
   .have hkb:k=pk:=h;subst hkb;obtain⟨cur,hcb⟩:=Row.blk hcr hk1;exact absurd (hcb.ne hk) (by decide)
   .have h':w.heap.size<=k:=h;omega
  have hblu:Blk u pl (enL l z1 z2 z3).toArray tL':=hbl.mod hu' (λh=>by
   have h':pl=pk\/w.heap.size<=pl:=h
   omega)
  have hfu:From B w u:=hu'.weak λk _ hk=>by
   have hk':k=pk\/w.heap.size<=k:=hk;show B<=k;omega
  refine za4 (s.n+1) (VH (kd:=mAD kd (uu xa l.lost cu)) (tk:=tk) (gx:=gx) hrow (by omega) (atB hbu) hcru hgx hpg (by omega) hn (λv s' g' hv _ hfv hmv=>hend v s' g' hv (zg2 hfu hfv zg7 zg7) (hblu.mod hmv λhk=>?_)) s.n (by omega) (λy hy=>by rw[List.drop_of_length_le (by omega)]at hy;cases hy));have hk':pl+1=g\/u.heap.size<=pl:=hk
  rcases hk' with e | e
  .exact hrow.ap [tL'] (by decide) _ _ _ e hblu (by simp)
  .omega
 .rw[List.take_zero];exact hk
end
section
variable{u x:World}{F:Nat->Prop}{B gx:Nat}{L:List AD}{cu:cZ}{l:dL}
theorem C9(ask:cZ->AD)(k:Int)(c:cZ):∀(cs:List cZ) (out:List AD),jI ask k (cs++[c]) out=if c.tree=k then lX xR (jI ask k cs out) (ask c) else jI ask k cs out
 | [],out=>rfl
 |x::cs,out=>by
  rw[ze1];unfold jI;exact C9 ask k c cs _
theorem I9{α:Type}(lt:α->α->Bool)(L:List α)(c:α):(lX lt L c).length=L.length+1:=by
 have:(lX lt L c).Perm (c::L):=by
  unfold lX;refine zf7.trans (List.Perm.cons _ ?_);rw[<- List.reverse_append,List.takeWhile_append_dropWhile,List.reverse_reverse]
 simpa using this.length_eq
theorem qB(ask:cZ->AD)(k:Int):∀(cs:List cZ) (out:List AD),(jI ask k cs out).length<=out.length+cs.length
 | [],_=>zb4 _
 |c::cs,out=>by
  unfold jI;have h1:=qB ask k cs (if c.tree=k then lX xR out (ask c) else out);have h2:(if c.tree=k then lX xR out (ask c) else out).length<=out.length+1:=by
   split
   .rw[I9];exact zb4 _
   .omega
  rw[zc5];omega
def G5(f k:Int)(l:dL)(c:cZ):AD:=if f=1 then Du k l c else zq k l c
def FTl(B:Nat)(cu:cZ):Nat->Value->World->Prop:=λi v u=>match i with
 |3=>∃(p:Addr) (t:SH) (F:Nat->Prop),v = .slice (some p) 1 1/\AtL u p (enC cu t)/\LsI F u t.a t.n t.c cu.aT/\(∀b,F b->b<u.heap.size)/\p.block<u.heap.size
 |4=>∃a n c,v = .slice a n c/\rf B u a n c [cu]
 |7=>∃a n c gx,v = .slice a n c/\Arr enI tI' u a n c cu.aT gx/\fresh B gx
 |_=>True
theorem FTl.keep(i:Nat)(v:Value)(u u':World)(h:FTl B cu i v u)(hk:Below u.heap.size u u'):FTl B cu i v u':=by
 have hz:=hk.size;unfold FTl at h ⊢;split at h
 .obtain⟨p,t,F,h1,h2,h3,h4,h5⟩:=h;exact⟨p,t,F,h1,h2.kept hk,h3.kept hk,λb hb=>by have:=h4 b hb;omega,by omega⟩
 .obtain⟨a,n,c,h1,h2⟩:=h;exact⟨a,n,c,h1,h2.kept hk⟩
 .obtain⟨a,n,c,gx,h1,h2,h3⟩:=h;exact⟨a,n,c,gx,h1,h2.kept hk,h3⟩
 .trivial
end
def sG(b:kJ)(i:Nat):Option TD :=
 if b.leaves.getD i 0<1\/b.leaves.getD i 0≠((b.values.getD i []).length:Int) then none
 else if(uy (oz (i:Int) b.lists []) (b.values.getD i [])).1 then some ⟨b.outputs.getD i 0,(uy (oz (i:Int) b.lists []) (b.values.getD i [])).2⟩ else none
def ku(b:kJ):Nat->Nat->List TD->Option (List TD)
 |0,_,T=>some T
 |k+1,i,T=>match sG b i with
  |none=>none
  |some t=>ku b k (i+1) (T++[t])
def kF:List kJ->List TD->List (Int×Int)->Option (List TD×List (Int×Int))
 | [],T,r=>some (T,r)
 |b::bs,T,r=>if b.values.length≠b.leaves.length\/b.outputs.length≠b.leaves.length then none else
  match ku b b.leaves.length 0 T with
  |none=>none
  |some T'=>kF bs T' (r++[(b.first,IntKind.i64.wrap (b.first+b.leaves.length))])
noncomputable def yM(f:fC):Option (List TD):=(kF f.blocks [] []).bind λp=>if f.features<0\/f.features>65536 then none else
 if ofE (ig f p.1) p.2=0/\ofP (ig f p.1) p.2=f then some p.1 else none
theorem Qm{ts:List TD}{first:Int}(hl:∀t∈ts,lvE t.nodes=0){k:Nat}{t:TD}(ht:ts[k]?=some t):sG (dm ts first) k=some (dQ t):=by
 obtain⟨hs,h4⟩:=gz (hl t (za0 ht));have hnl:(dA t.nodes false).length=(gW t.nodes).nl:=by rw[iR hs];rfl
 have e1:(dm ts first).leaves.getD k 0=((gW t.nodes).nl:Int):=by
  rw[<- hnl];exact getD_map (f:=λt:TD=>((dA t.nodes false).length:Int)) ht 0
 have e2:(dm ts first).values.getD k []=eF t:=getD_map ht [];have e3:(dm ts first).outputs.getD k 0=t.output:=getD_map ht 0;have hvl:(eF t).length=(gW t.nodes).nl:=by rw[lF hs,za7];rfl
 have hpos:=(gW t.nodes).mg;have hm:=Wp (att:=GN t.nodes) (λ_=>rfl) hvl;unfold sG;rw[e1,e2,e3,if_neg (by omega),WS hl ht,hm,if_pos rfl];rw[lF hs,zH hs];rfl
theorem Ce{ts:List TD}{first:Int}(hl:∀t∈ts,lvE t.nodes=0):∀(k i:Nat) (T:List TD),i+k=ts.length->ku (dm ts first) k i T=some (T++(ts.drop i).map dQ)
 |0,i,T,h=>by
  rw[List.drop_of_length_le (by omega),List.map_nil,zc8];rfl
 |k+1,i,T,h=>by
  have ht:ts[i]?=some (ts[i]'(by omega)):=za2 _;generalize ts[i]'(by omega)=t at ht;unfold ku;rw[Qm hl ht];simp only;rw[Ce hl k (i+1) _ (by omega)];have:ts.drop i=t::ts.drop (i+1):=by
   obtain⟨hlt,e⟩:=za1.1 ht;rw[zb0 hlt,e]
  rw[this,za5];rfl
theorem BA{ts:List TD}(hn:ts.length<=65536)(hl:∀t∈ts,lvE t.nodes=0):∀(rs:List (Int×Int)) (at_:Nat) (acc:List (Int×Int)),at_<=ts.length->jc ts.length rs at_=true ->
  kF (rs.map λr=>dm ((ts.take r.2.toNat).drop r.1.toNat) r.1) ((ts.take at_).map dQ) acc=some (ts.map dQ,acc++rs)
 | [],at_,acc,h0,h=>by
  unfold jc at h;have h':(at_:Int)=(ts.length:Int):=by simpa using h
  have e:at_=ts.length:=by omega
  show some ((ts.take at_).map dQ,acc)=_;rw[e,zd3,zc8]
 |r::rs,at_,acc,h0,h=>by
  unfold jc at h;simp only[ze5,decide_eq_true_eq]at h;obtain⟨⟨⟨h1,h2⟩,h3⟩,h4⟩:=h;have hb:=Ce (ts:=(ts.take r.2.toNat).drop r.1.toNat) (first:=r.1) (λt ht=>hl t (zf3 (List.mem_of_mem_drop ht))) ((ts.take r.2.toNat).drop r.1.toNat).length 0 ((ts.take at_).map dQ) (by omega);have e1:r.1.toNat=at_:=by omega
  have hcat:(ts.take at_).map dQ++((ts.take r.2.toNat).drop r.1.toNat).map dQ=(ts.take r.2.toNat).map dQ:=by
   rw[<- List.map_append,e1];congr 1;have:ts.take at_=(ts.take r.2.toNat).take at_:=by rw[List.take_take,Nat.min_eq_left (by omega)]
   rw[this,List.take_append_drop]
  have hll:(dm ((ts.take r.2.toNat).drop r.1.toNat) r.1).leaves.length=((ts.take r.2.toNat).drop r.1.toNat).length:=za7 ..;have hvv:(dm ((ts.take r.2.toNat).drop r.1.toNat) r.1).values.length=((ts.take r.2.toNat).drop r.1.toNat).length:=za7 ..;have hoo:(dm ((ts.take r.2.toNat).drop r.1.toNat) r.1).outputs.length=((ts.take r.2.toNat).drop r.1.toNat).length:=za7 ..;have hdl:(((ts.take r.2.toNat).drop r.1.toNat).length:Int)=r.2 - r.1:=by rw[zb7,zb6];omega
  rw[ze0];unfold kF;rw[if_neg (by rw[hll,hvv,hoo];omega),hll,hb];simp only;rw[List.drop_zero,hcat,hdl,show(dm ((ts.take r.2.toNat).drop r.1.toNat) r.1).first=r.1 from rfl,show r.1+(r.2 - r.1)=r.2 by omega,l9 (by omega) (by omega)];have:=BA hn hl rs r.2.toNat (acc++[(r.1,r.2)]) (by omega) (by rw[show((r.2.toNat:Nat):Int)=r.2 by omega];exact h4);rw[this,za5];rfl
theorem NL{e:ED}{rs:List (Int×Int)}(h0:ofE e rs=0):¬ ((ofP e rs).features<0\/(ofP e rs).features>65536)/\ofE (ig (ofP e rs) (e.trees.map dQ)) rs=0/\ofP (ig (ofP e rs) (e.trees.map dQ)) rs=ofP e rs:=by
 have hB:=JU h0;obtain⟨he,hr⟩:=Td h0;have hP:ofP e rs=rW e rs:=by unfold ofP;rw[if_pos h0]
 have hb:=zk (NQ he) rs 0 [] (Nat.zero_le _) hr;rw[List.take_zero,List.map_nil,zc9]at hb;have hb':pW (ofP e rs).blocks [] []=some (e.trees.map dQ,rs):=by rw[hP];exact hb
 unfold gJ at hB;split at hB
 .cases hB
 .rename_i h1;rw[hb']at hB;simp only[Option.bind_some]at hB;split at hB
  .rename_i h2;exact⟨h1,h2⟩
  .cases hB
theorem P5{e:ED}{rs:List (Int×Int)}(h0:ofE e rs=0):yM (ofP e rs)=some (e.trees.map dQ):=by
 obtain⟨h1,h2⟩:=NL h0;obtain⟨he,hr⟩:=Td h0;have hP:ofP e rs=rW e rs:=by unfold ofP;rw[if_pos h0]
 obtain⟨q1,q2,q3,q4,q5,q6⟩:=qw he;have hb:=BA q5 (NQ he) rs 0 [] (Nat.zero_le _) hr;rw[List.take_zero,List.map_nil,zc9]at hb;have hb':kF (ofP e rs).blocks [] []=some (e.trees.map dQ,rs):=by rw[hP];exact hb
 unfold yM;rw[hb'];simp only[Option.bind_some];rw[if_neg h1,if_pos h2]
theorem Jp(f:fC):yM f=gJ f:=by
 have inv:∀(e:ED) (rs:List (Int×Int)),ofE e rs=0->ofP e rs=f->yM f=gJ f:=λe rs h1 h2=>by rw[<- h2,P5 h1,JU h1]
 by_cases hc:∃e rs,ofE e rs=0/\ofP e rs=f
 .obtain⟨e,rs,h1,h2⟩:=hc;exact inv e rs h1 h2
 .have h1:yM f=none:=by
   unfold yM
   cases kF f.blocks [] [] with
   |none=>rfl
   |some p=>
    simp only[Option.bind_some]
    split
    .rfl
    .rw[if_neg λh=>hc ⟨_,_,h⟩]
  have h2:gJ f=none:=by
   unfold gJ
   split
   .rfl
   .cases pW f.blocks [] [] with
    |none=>rfl
    |some p=>
     simp only[Option.bind_some];rw[if_neg λh=>hc ⟨_,_,h⟩]
  rw[h1,h2]
structure SmR(f:fC):Prop where
 tot:∀b∈f.blocks,ui b.lists<=1073741824
 two:∀b∈f.blocks,ui b.lists<=524287\/∀v∈b.values,v.length<=524288
 thr:∀b∈f.blocks,∀l∈b.lists,∀c∈l.numbers,c.thr<18446744073709551616
def OkN(x:ND):Prop:=x.aT.length<=1048576/\x.thr<18446744073709551616
theorem DI{ask:cZ->AD}{k:Int}:∀(cs:List cZ) (out:List AD),(∀c∈cs,OkN (ask c).nd)->(∀x∈out,OkN x.nd)->∀x∈jI ask k cs out,OkN x.nd
 | [],out,_,h=>h
 |c::cs,out,ha,h=>by
  unfold jI;refine DI cs _ (λx hx=>ha x (.tail _ hx)) ?_
  split
  .intro x hx;have hp:(lX xR out (ask c)).Perm (ask c::out):=by
    unfold lX;refine zf7.trans (List.Perm.cons _ ?_);rw[<- List.reverse_append,List.takeWhile_append_dropWhile,List.reverse_reverse]
   rcases zb3.1 (hp.mem_iff.1 hx) with e | e
   .rw[e];exact ha c (.head _)
   .exact h x e
  .exact h
theorem Iu{k:Int}:∀(ls:List dL) (out:List AD),(∀l∈ls,nz l.numbers/\nz l.aT/\∀c∈l.numbers,c.thr<18446744073709551616)->(∀x∈out,OkN x.nd)->∀x∈oz k ls out,OkN x.nd
 | [],out,_,h=>h
 |l::ls,out,hl,h=>by
  unfold oz;obtain⟨h1,h2,h3⟩:=hl l (.head _);refine Iu ls _ (λx hx=>hl x (.tail _ hx)) (DI _ _ (λc hc=>⟨h2.2 c hc,by show 0<_;omega⟩) (DI _ _ (λc hc=>⟨Nat.zero_le _,h3 c hc⟩) h))
theorem uq{k:Int}:∀(ls:List dL) (out:List AD),(oz k ls out).length<=out.length+ui ls
 | [],_=>zb4 _
 |l::ls,out=>by
  unfold oz;have h1:=uq (k:=k) ls (jI (Du k l) k l.aT (jI (zq k l) k l.numbers out));have h2:=qB (Du k l) k l.aT (jI (zq k l) k l.numbers out);have h3:=qB (zq k l) k l.numbers out;have h4:ui (l::ls)=l.numbers.length+l.aT.length+ui ls:=rfl;omega
theorem SX{N:List ND}{ab:Int}(h:∀x∈N,OkN x):∀x∈iW N ab,OkN x:=by
 unfold iW
 split
 .split
  .rename_i x hx;intro y hy;have hxo:=h x (za0 hx)
   rcases List.mem_or_eq_of_mem_set hy with e | e
   .exact h y e
   .rw[e];split <;> exact hxo
  .exact h
 .exact h
theorem Em{l:List AD}{vals:List Int}(hl:∀x∈l,OkN x.nd):∀(m:Nat) (N:List ND) (st:List (Int×Int×Int)) (k:Nat),(∀x∈N,OkN x)->(qH l vals m N st k).2.length<=N.length+m/\∀x∈(qH l vals m N st k).2,OkN x
 |0,N,st,k,h=>⟨zb4 _,h⟩
 |m+1,N,[],k,h=>⟨Nat.le_add_right _ _,h⟩
 |m+1,N,s::st,k,h=>by
  rw[qU];have hk:=SX (ab:=s.2.2) h;have hn:=zG N s.2.2
  split
  .have:=Em (vals:=vals) hl m (iW N s.2.2++[uk (vals.getD s.1.toNat 0)]) st k λx hx=>by
    rcases zb2.1 hx with e | e
    .exact hk x e
    .rw[zd0.1 e];exact⟨Nat.zero_le _,by show 0<_;omega⟩
   refine⟨?_,this.2⟩;have h1:=this.1;rw[za6,zc7]at h1;omega
  .split
   .exact⟨by show(iW N s.2.2).length<=_;omega,hk⟩
   .rename_i x hx
    split
    .have:=Em (vals:=vals) hl m (iW N s.2.2++[x.nd]) ((s.1,x.to,(N.length:Int))::(x.to,s.2.1,(N.length:Int))::st) (k+1) λy hy=>by
      rcases zb2.1 hy with e | e
      .exact hk y e
      .rw[zd0.1 e];exact hl x (za0 hx)
     refine⟨?_,this.2⟩;have h1:=this.1;rw[za6,zc7]at h1;omega
    .exact⟨by show(iW N s.2.2).length<=_;omega,hk⟩
theorem F5{b:kJ}{i:Nat}{t:TD}(hb:b.sm)(h3:∀l∈b.lists,∀c∈l.numbers,c.thr<18446744073709551616)(h2:ui b.lists<=524287\/∀v∈b.values,v.length<=524288)(h:sG b i=some t):t.nodes.length<=1048576/\∀x∈t.nodes,OkN x:=by
 unfold sG at h;split at h
 .cases h
 split at h
 .rename_i h1 hm;obtain rfl:=zc2 h;have hl:∀x∈oz (i:Int) b.lists [],OkN x.nd:=Iu _ _ (λl hl=>⟨(hb.2.2.2.2.2 l hl).1,(hb.2.2.2.2.2 l hl).2.1,h3 l hl⟩) (λx hx=>by cases hx);have hn:=uq (k:=(i:Int)) b.lists [];unfold uy at hm ⊢;split at hm
  .rename_i hlen;rw[if_pos hlen];have hz:=Em (vals:=b.values.getD i []) hl (2*(b.values.getD i []).length) [] [(0,((b.values.getD i []).length:Int),-1)] 0 (λx hx=>by cases hx);have hv:(b.values.getD i []).length<=524288:=by
    rcases h2 with h2 | h2
    .rw[zc6]at hn;omega
    .rw[za8]
     cases hx:b.values[i]? with
     |none=>exact Nat.zero_le _
     |some v=>exact h2 v (za0 hx)
   refine⟨?_,hz.2⟩;have:=hz.1;rw[zc6]at this;show(qH _ _ _ _ _ _).2.length<=_;omega
  .cases hm
 .cases h
section
variable{w w0 u w1 x:World}{F:Nat->Prop}{B pl gx g:Nat}{R:VP}{L0:List AD}{s tk z1 z2 z3:SH}{cs:List cZ}{l:dL}
theorem XL{p:Addr}{cu:cZ}{t:SH}(hA:AtL w p (enC cu t))(hl:LsI F w t.a t.n t.c cu.aT):Ls tC (λb=>F b\/b=p.block) w (some p) 1 1 [cu]:=by
 refine⟨rfl,zb4 _,λi x hi=>?_⟩;obtain⟨hi',hx⟩:=za1.1 hi;obtain rfl:i=0:=by simpa using hi'
 obtain rfl:cu=x:=by simpa using hx
 exact⟨p,_,rfl,.inr rfl,⟨t,rfl,hl.mono λb hb => .inl hb⟩,λj y hj=>by rw[Nat.zero_mul,zd1];exact hA j y hj⟩
theorem mi.YG{L:List AD}{pb:Nat}{cur:Array Value}(h:mi B w s L g)(hb:Blk w pb cur tKn)(hne:pb+1≠g)(ho:Only (pb+1) w u):mi B u s L g:=by
 obtain⟨⟨l,k1,k2,k3⟩,k4⟩:=h;exact⟨⟨l,aK.mod k1 ho (λk hk hk2=>hne (by have hk':k+1=pb+1:=hk2;omega)),k2,k3.mD ho (Blk.yL (es:=[tI']) hb (by decide))⟩,k4⟩
variable{b22:ag.T22}{b8:ag.T8}{xa xl xm f:Int}{ai al:OA}{nj ck nl cl:Nat}
set_option maxHeartbeats 1000000 in
theorem IV(hs:Ls tC F w0 al nl cl cs)(hlo:Ls tC F w0 z3.a z3.n z3.c l.lost)(hF:∀b,F b->b<B)(hB:B<=w0.heap.size)(hsm:nz cs)(hml:l.lost.length<=1073741824)(hm0:L0.length+cs.length<=549755800000)
  (hend:∀u s g,mi B u s (jI (G5 f xa l) xa cs L0) g->From B w0 u->Blk u pl (enL l z1 z2 z3).toArray tL'->inc f λf=>b22 xa s.a s.n s.c (some ⟨pl,0,none⟩) f ai nj ck xl xm u) :
  ∀(k p:Nat) (w:World) (s:SH) (g:Nat),p+k=nl->mi B w s (jI (G5 f xa l) xa (cs.take p) L0) g->From B w0 w->Blk w pl (enL l z1 z2 z3).toArray tL' ->
   ag.l42 R b8 b22 (k+1) xa s.a s.n s.c (some ⟨pl,0,none⟩) f ai nj ck xl xm al nl cl nl p w:=by
 intro k;have hl:=hs.len
 induction k with
 |zero=>
  intro p w s g hp h hf hb;obtain rfl:p=cs.length:=by omega
  rw[zd3]at h;unfold ag.l42 ag.g42;refine aA (by omega) ?_;exact hend w s g h hf hb
 |succ k ih=>
  intro p w s g hp h hf hb;unfold ag.l42 ag.g42;refine aH (by omega) ?_;have hz:=hf.size;have hF0:∀b,F b->b<w0.heap.size:=λb hb=>by have:=hF b hb;omega
  have hsw:Ls tC F w al nl cl cs:=hs.mod hf λb hb h=>by have:=hF b hb;have h':B<=b:=h;omega
  have hlw:Ls tC F w z3.a z3.n z3.c l.lost:=hlo.mod hf λb hb h=>by have:=hF b hb;have h':B<=b:=h;omega
  refine hsw.rdC (by omega) (by omega) λcu a' n' c' hcu hco=>?_;rw[za3]at hcu;have hcm:cu.aT.length<=1048576:=hsm.2 cu (za0 hcu);have hstep:jI (G5 f xa l) xa (cs.take (p+1)) L0=if cu.tree=xa then lX xR (jI (G5 f xa l) xa (cs.take p) L0) (G5 f xa l cu) else jI (G5 f xa l) xa (cs.take p) L0:=by rw[take_snoc hcu,C9]
  have hlen:=qB (G5 f xa l) xa (cs.take p) L0;rw[zb6]at hlen;have hsn:=h.len;refine boxS (zs:=(oG 0 none 0 0 0 0 0).toList) (vs:=enC cu ⟨a',n',c'⟩) (e:=tC') rfl λw1 hA b1 hk1=>?_;have hz1:=hk1.size;have b1l:=b1.lt;have hf1:=hf.aG hk1;have h1:=h.kept hk1;have hb1:=hb.keep hk1;refine⟨_,hA 2 _ rfl,ja (λhne=>aC (by omega) (ih (p+1) w1 s g (by omega) (by rw[hstep,if_neg hne];exact h1) hf1 hb1)) λhe=>?_⟩;rw[if_pos he]at hstep;refine⟨_,hA 3 _ rfl,_,hA 4 _ rfl,?_⟩;refine boxS (zs:=(mJ 0 0 0 0 none 0 0 0 0 0 0 0).toList) (vs:=jG (⟨⟨0,0,0,0,[],0,0,0⟩,cu.frm,cu.to⟩,⟨none,0,0⟩)) (e:=tKn) rfl λw2 _ b2 hk2=>?_;have hz2:=hk2.size;have b2l:=b2.lt;have hf2:=hf1.aG hk2;have h2:=h1.kept hk2;have hb2:=hb1.keep hk2;have hA2:=hA.kept hk2;have hgl:=h1.le;refine⟨_,atB hb2 0 _ rfl,_,hA2 0 _ rfl,?_⟩
  -- the front of the box is written over
  refine wrP (b:=w1.heap.size) (e:=tKn) (pre:=[]) (zs:=[.int .u8 0,.int .i64 0,.int .i64 0,.float .f64 0,.slice none 0 0,.int .u8 0,.int .i64 0,.int .i64 0]) (post:=[.int .i64 cu.frm,.int .i64 cu.to]) [.int .u8 2,.int .i64 0,.int .i64 l.feature,.float .f64 cu.thr,.slice none 0 0,.int .u8 1,.int .i64 0,.int .i64 0] w2 b2 rfl λw3 b3 ho3=>?_;have hpl:pl≠w1.heap.size:=λe=>by subst e;exact absurd (hb2.ne b2) (by decide)
  have hpc:w.heap.size≠w1.heap.size:=by omega
  have hz3:=ho3.size;have hb3:=hb2.mod ho3 λhk=>hpl (by have hk':pl+1=w1.heap.size+1:=hk;omega);have hA3:AtL w3 ⟨w.heap.size,0,none⟩ (enC cu ⟨a',n',c'⟩):=hA2.mod ho3 λhk=>hpc (by have hk':w.heap.size+1=w1.heap.size+1:=hk;omega);have h3:mi B w3 s (jI (G5 f xa l) xa (cs.take p) L0) g:=h2.YG b2 (by omega) ho3;have hf3:From B w0 w3:=From.then hf2 ho3 λk _ hk=>by have hk':k+1=w1.heap.size+1:=hk;omega
  have hs3:Ls tC F w3 z3.a z3.n z3.c l.lost:=hlo.mod hf3 λb hb h=>by have:=hF b hb;have h':B<=b:=h;omega
  have hco3:LsI F w3 a' n' c' cu.aT:=((hco.kept hk1).kept hk2).mod ho3 λb hb hk=>by have:=hF b hb;have hk':b+1=w1.heap.size+1:=hk;omega
  have next:∀(u:World) (s':SH) (g':Nat) (kd:AD),From B w3 u->G5 f xa l cu=mAD kd (uu xa l.lost cu)->mi B u s' (lX xR (jI (G5 f xa l) xa (cs.take p) L0) (mAD kd (uu xa l.lost cu))) g'->Blk u pl (enL l z1 z2 z3).toArray tL'->inc (p:Int) λh=>ag.l42 R b8 b22 (k+1) xa s'.a s'.n s'.c (some ⟨pl,0,none⟩) f ai nj ck xl xm al nl cl nl h u:=by
   intro u s' g' kd hfu hk hr hbu;refine aC (by omega) (ih (p+1) u s' g' (by omega) ?_ (zg2 hf3 hfu zg7 zg7) hbu);rw[hstep,hk];exact hr
  refine nN (λef=>?_) λef=>?_
  .refine⟨FTl B cu,FTl.keep,_,atB hb3 0 _ rfl,hA3.ldC ⟨λC hC=>?_,λv hv=>⟨λW hW h3v=>?_,λxa' xn xc h4=>?_⟩⟩⟩
   .have hzc:=hC.size;exact⟨na C,⟨a',n',c'⟩,F,rfl,AtL.new C (enC cu ⟨a',n',c'⟩) tC',(hco3.kept hC).kept (zg3 _ _),λb hb=>by have:=hF b hb;simp;omega,by show C.heap.size<_;simp⟩
   .obtain⟨q,t,FF,hv',hAq,hcq,hFF,hqb⟩:=h3v;obtain rfl:v=q:=by simpa using hv'
    have hzW:=hW.size;refine zg0 (vS (XL hAq hcq) (λb hb=>hb.elim (hFF b) λe=>e ▸ hqb) ⟨by simp,λy hy=>by rw[zd0.1 hy];exact hcm⟩) λy u ⟨a5,n5,c5,hy,hO,hk⟩=>⟨a5,n5,c5,hy,⟨a5,n5,c5,rfl,hO.weak (by omega)⟩,hk⟩
   .obtain⟨W4,_,a5,n5,c5,e5,hO5⟩:=h4;obtain⟨rfl,rfl,rfl⟩:xa'=a5/\xn=n5/\xc=c5:=by simpa using e5
    obtain⟨q5,t5,gx5,rfl,rfl,_⟩:=hO5.one;refine dK (c:=(0:Int)<=0/\(0:Int)<((1:Nat):Int)) ⟨by omega,by omega⟩ ⟨λD hD _ h4D=>?_,λza zn zc h7=>?_⟩
    .obtain⟨a8,n8,c8,e8,hO8⟩:=h4D;obtain⟨rfl,rfl,rfl⟩:some q5=a8/\1=n8/\xc=c8:=by simpa using e8
     obtain⟨p',t',gx',hp',_,hA',k1,k2⟩:=hO8.one;obtain rfl:=zc2 hp';have hA'':AtL D (q5.add 0) (nJ (cu,t')):=λj v hj=>by rw[add_add,zd1];exact hA' j v hj
     exact⟨_,_,_,hA'' 1 _ rfl,_,_,_,gx',rfl,k1,k2⟩
    .intro C hC _ _ h7C;obtain⟨a9,n9,c9,gx9,e9,hr9,hg9⟩:=h7C;obtain⟨rfl,rfl,rfl⟩:za=a9/\zn=n9/\zc=c9:=by simpa using e9
     have hzC:=hC.size;have h3C:=h3.kept hC;have b3C:=b3.keep hC;have hb3C:=hb3.keep hC;refine wrP (b:=w1.heap.size) (e:=tKn) (pre:=[]) (zs:=[.int .u8 2,.int .i64 0,.int .i64 l.feature,.float .f64 cu.thr,.slice none 0 0,.int .u8 1,.int .i64 0,.int .i64 0]) (post:=[.int .i64 cu.frm,.int .i64 cu.to]) [.int .u8 3,.int .i64 0,.int .i64 l.feature,.float .f64 0,.slice za zn zc,.int .u8 1,.int .i64 0,.int .i64 0] C b3C rfl λw5 b5 ho5=>?_;have hz5:=ho5.size;have hA5:AtL w5 ⟨w.heap.size,0,none⟩ (enC cu ⟨a',n',c'⟩):=(hA3.kept hC).mod ho5 λhk=>hpc (by have hk':w.heap.size+1=w1.heap.size+1:=hk;omega);have hb5:=hb3C.mod ho5 λhk=>hpl (by have hk':pl+1=w1.heap.size+1:=hk;omega);have hf35:From B w3 w5:=From.then (Kept.mod hC) ho5 λk _ hk=>by have hk':k+1=w1.heap.size+1:=hk;omega
     have hs5:Ls tC F w5 z3.a z3.n z3.c l.lost:=hs3.mod hf35 λb hb h=>by have:=hF b hb;have h':B<=b:=h;omega
     refine XE (kd:=⟨⟨3,0,l.feature,0,cu.aT,1,0,0⟩,cu.frm,cu.to⟩) (tk:=⟨za,zn,zc⟩) (gx:=gx9) (L:=jI (G5 f xa l) xa (cs.take p) L0) (h3C.YG b3C (by omega) ho5) (by omega) hb5 hs5 hF hA5 (by omega) hpc b5 (by omega) (by omega) (Row.mD hr9 ho5 (Blk.yL (es:=[tI']) b3C (by decide)) (by simp)) hg9 hml (by omega) λu s' g' hr hfu hbu=>next u s' g' _ (zg2 hf35 hfu zg7 zg7) ?_ hr hbu;unfold G5;rw[if_pos ef];rfl
  .refine XE (kd:=⟨⟨2,0,l.feature,cu.thr,[],1,0,0⟩,cu.frm,cu.to⟩) (tk:=⟨none,0,0⟩) (gx:=0) (L:=jI (G5 f xa l) xa (cs.take p) L0) h3 (by omega) hb3 hs3 hF hA3 (by omega) hpc b3 (by omega) (by omega) (Arr.nil _ _ _) (.inl rfl) hml (by omega) λu s' g' hr hfu hbu=>next u s' g' _ hfu ?_ hr hbu;unfold G5;rw[if_neg ef];rfl
end
section
variable{w w0 u w1 x:World}{F:Nat->Prop}{B pl g:Nat}{R:VP}{L0:List AD}{s z1 z2 z3 s1 s2 s3 s4:SH}{cs:List cZ}{l:dL}{b:kJ}
theorem BH(k:Int)(l:dL):∀(ls:List dL) (out:List AD),oz k (ls++[l]) out=jI (Du k l) k l.aT (jI (zq k l) k l.numbers (oz k ls out))
 | [],out=>rfl
 |x::ls,out=>by
  rw[ze1];unfold oz;exact BH k l ls _
theorem PY{ls:List dL}(i:Nat):ui (ls.take i)<=ui ls:=by
 have h:=congrArg ui (List.take_append_drop i ls);unfold ui at h ⊢;rw[zb8,List.sum_append]at h;omega
variable{b8:ag.T8}{xa xl xm:Int}{ai:OA}{nj ck:Nat}
theorem SE(h1:Ls tC F w0 z1.a z1.n z1.c l.numbers)(h2:Ls tC F w0 z2.a z2.n z2.c l.aT)(h3:Ls tC F w0 z3.a z3.n z3.c l.lost)(hF:∀b,F b->b<B)(hB:B<=w0.heap.size)(hsm:l.sm)(hm0:L0.length<=2147483648)
  (hr:mi B w0 s L0 g) (hb:Blk w0 pl (enL l z1 z2 z3).toArray tL')
  (hend:∀u s g,mi B u s (jI (Du xa l) xa l.aT (jI (zq xa l) xa l.numbers L0)) g->From B w0 u->inc xm λe=>b8 xa s.a s.n s.c ai nj ck xl e u) :
  ag.l22 R b8 (2+1) xa s.a s.n s.c (some ⟨pl,0,none⟩) 0 ai nj ck xl xm w0:=by
 obtain⟨m1,m2,m3⟩:=hsm;have l1:=h1.len;have l2:=h2.len;have f0:G5 0 xa l=zq xa l:=funext λc=>if_neg (by decide);have f1:G5 1 xa l=Du xa l:=funext λc=>if_pos rfl;have k1:l.numbers.length<=1073741824:=m1.1;have k2:l.aT.length<=1073741824:=m2.1;unfold ag.l22 ag.g22;refine aH (by omega) ?_;refine⟨_,_,_,atB hb 1 _ rfl,xN (by decide) ?_⟩;unfold ag.j39 ag.g39;refine za4 (z1.n+1) (IV (B:=B) h1 h3 hF hB m1 m3.1 (by omega) (λu s' g' hr' hf' hb'=>?_) z1.n 0 w0 s g (by omega) hr (From.refl _ _) hb);rw[f0]at hr';refine bM (by omega) (by omega) ?_;show ag.l22 R b8 (1+1) xa s'.a s'.n s'.c (some ⟨pl,0,none⟩) 1 ai nj ck xl xm u;have hz:=hf'.size;have hlen:=qB (zq xa l) xa l.numbers L0;unfold ag.l22 ag.g22;refine aH (by omega) ?_;refine⟨_,_,_,atB hb' 1 _ rfl,kQ rfl ⟨_,_,_,atB hb' 2 _ rfl,?_⟩⟩;unfold ag.j39 ag.g39;have no:∀b,F b->¬ B<=b:=λb hb=>by have:=hF b hb;omega
 refine za4 (z2.n+1) (IV (B:=B) (h2.mod hf' no) (h3.mod hf' no) hF (by omega) m2 m3.1 (by omega) (λu2 s2 g2 hr2 hf2 hb2=>?_) z2.n 0 u s' g' (by omega) hr' (From.refl _ _) hb');rw[f1]at hr2;refine bM (by omega) (by omega) ?_;show ag.l22 R b8 (0+1) xa s2.a s2.n s2.c (some ⟨pl,0,none⟩) 2 ai nj ck xl xm u2;unfold ag.l22 ag.g22;refine aA (by omega) ?_;exact hend u2 s2 g2 hr2 (zg2 hf' hf2 zg7 zg7)
theorem XF{k:Int}(hb:jw F w b s1 s2 s3 s4)(hF:∀b,F b->b<w.heap.size)(hsm:b.sm)(htot:ui b.lists<=1073741824):E.CallsD prog 41 #[vB b s1 s2 s3 s4,.int .i64 k] w λv u=>∃(s:SH) (g:Nat),v=s.v/\mi w.heap.size u s (oz k b.lists []) g/\From w.heap.size w u:=by
 refine ag.calls (R:=λv u=>∃(s:SH) (g:Nat),v=s.v/\mi w.heap.size u s (oz k b.lists []) g/\From w.heap.size w u) ?_;unfold ag ag.g0;refine yE (cs:=(mG b s1 s2 s3 s4).toArray) λw1 hA' hk1=>?_;have hA:AtL w1 (na w) (mG b s1 s2 s3 s4):=hA';refine⟨_,_,_,hA 4 _ rfl,?_⟩;have hl:=hb.t.len;obtain⟨_,_,_,_,hm,hls⟩:=hsm;have key:∀(j i:Nat) (v:World) (s:SH) (g:Nat),i+j=s4.n->From w.heap.size w v->mi w.heap.size v s (oz k (b.lists.take i) []) g ->
   ag.l8 (λv u=>∃(s:SH) (g:Nat),v=s.v/\mi w.heap.size u s (oz k b.lists []) g/\From w.heap.size w u) (j+1) k s.a s.n s.c s4.a s4.n s4.c s4.n i v:=by
  intro j
  induction j with
  |zero=>
   intro i v s g hi hf hr;obtain rfl:i=s4.n:=by omega
   rw[hl,zd3]at hr;rw[ag.u8];unfold ag.g8;refine aA (by omega) ?_;exact⟨s,g,rfl,hr,hf⟩
  |succ j ih=>
   intro i v s g hi hf hr;rw[ag.u8];unfold ag.g8;refine aH (by omega) ?_;have hz:=hf.size;refine(From.ls hb.t hf hF).rdL (by omega) (by omega) λx a1 n1 c1 a2 n2 c2 a3 n3 c3 hx h1 h2 h3=>?_;rw[za3]at hx;have hxs:=hls x (za0 hx);refine boxS (zs:=(uf 0 none 0 0 none 0 0 none 0 0).toList) (vs:=enL x ⟨a1,n1,c1⟩ ⟨a2,n2,c2⟩ ⟨a3,n3,c3⟩) (e:=tL') rfl λv1 _ b1 hk2=>?_;have hz1:=hk2.size;have hlen:=uq (k:=k) (b.lists.take i) [];have htk:=PY (ls:=b.lists) i;rw[zc6]at hlen;refine za4 (2+1) (SE (B:=w.heap.size) (z1:=⟨a1,n1,c1⟩) (z2:=⟨a2,n2,c2⟩) (z3:=⟨a3,n3,c3⟩) (h1.kept hk2) (h2.kept hk2) (h3.kept hk2) hF (by omega) hxs (by omega) (hr.kept hk2) b1 λu s' g' hr' hf'=>aC (by omega) (ih (i+1) u s' g' (by omega) (zg2 (hf.aG hk2) hf' zg7 zg7) ?_));rw[take_snoc hx,BH];exact hr'
 exact za4 (s4.n+1) (key s4.n 0 w1 ⟨none,0,0⟩ 0 (by omega) (Kept.mod hk1) (mi.nil _ _))
end
abbrev tSp:Nat:=123
abbrev Sp:=Int×Int×Int
abbrev Ar(x:Sp):List Value:=[.int .i64 x.1,.int .i64 x.2.1,.int .i64 x.2.2]
theorem S89:fV prog 124 tSp 3 24:=sliceT (by kernel_rfl)
theorem QU(x:Sp):∀v∈Ar x,v.oneCell'=true:=by
 intro v hv;simp only[Ar,zb3,zf9,or_false]at hv
 rcases hv with h | h | h <;> subst h <;> rfl
structure MW(w0 w:World)(FA:Nat->Prop)(B pt pz:Nat)(out:Int)(N:List (ND×SH))(sN:SH)(gN:Nat)(st:List Sp)(sS:SH)(gS:Nat):Prop where
 bt:Blk w pt #[.int .i64 out,sN.v] tT'
 bz:Blk w pz #[.int .i64 0,.slice none 0 0] tT'
 ne:pt≠pz
 pB:B<=pt/\B<=pz
 nr:aK 8 enH tN' w sN.a sN.n sN.c N gN
 gB:gN=0\/B<gN
 sr:aK 3 Ar tSp w sS.a sS.n sS.c st.reverse gS
 sB:gS=0\/B<gS
 ct:∀x∈N,LsI FA w0 x.2.a x.2.n x.2.c x.1.aT
 fr:From B w0 w
section
variable{w0 w u:World}{a:OA}{n c:Nat}{FA:Nat->Prop}{p q:Addr}{B pt pz:Nat}{out:Int}{N:List (ND×SH)}{sN:SH}{gN:Nat}{st':List Sp}{sS:SH}{gS:Nat}
theorem MW.kept(h:MW w0 w FA B pt pz out N sN gN st' sS gS)(hk:Kept w u):MW w0 u FA B pt pz out N sN gN st' sS gS :=
 ⟨h.bt.keep hk,h.bz.keep hk,h.ne,h.pB,h.nr.kept hk,h.gB,h.sr.kept hk,h.sB,h.ct,h.fr.aG hk⟩
theorem MW.hB(h:MW w0 w FA B pt pz out N sN gN st' sS gS):B<=w.heap.size:=by
 have:=h.bt.lt;have:=h.pB.1;omega
theorem MW.YM(h:MW w0 w FA B pt pz out N sN gN st' sS gS):sN.n=N.length:=aK.len lg (by omega) h.nr
theorem MW.slen(h:MW w0 w FA B pt pz out N sN gN st' sS gS):sS.n=st'.length:=by
 have:=aK.len (k:=3) (en:=Ar) (λ_=>rfl) (by omega) h.sr
 rwa [List.length_reverse]at this
theorem MW.push(h:MW w0 w FA B pt pz out N sN gN st' sS gS)(hlen:N.length<=4194304){nd:ND}{s:SH}(hq:AtL w q (enH (nd,s)))(hs:LsI FA w0 s.a s.n s.c nd.aT){K:zg6}
  (hk:∀u sN' gN',MW w0 u FA B pt pz out (N++[(nd,s)]) sN' gN' st' sS gS->(∀k cur e,Blk w k cur e->e≠tN'->k≠pt->Blk u k cur e)->K u) :
  dC prog (Builtin.append_ #[48,48] 48 #[.slice sN.a sN.n sN.c,.slice (some q) 1 1]) w λv u2=>∃a2 n2 c2,v = .slice a2 n2 c2/\(st u2 (((⟨pt,0,none⟩:Addr).add 1).add 0) (.slice a2 n2 c2) K):=by
 have hn:=h.YM;have hBw:=h.hB;refine jJ a0u (by omega) h.nr (news:=enH (nd,s)) (m:=1) rfl (λj v hj=>⟨_,rfl,hq j v hj⟩) (λh=>by cases h) (JI _) (by simp only[maxLen];omega) (by omega) λa' c' g' u2 hrow hg' ho=>⟨_,_,_,rfl,?_⟩;have hbt:=h.bt.mod ho (λhk=>dW h.nr h.bt (by decide) hk);have hbz:=h.bz.mod ho (λhk=>dW h.nr h.bz (by decide) hk);have hsr:aK 3 Ar tSp u2 sS.a sS.n sS.c st'.reverse gS:=h.sr.mod ho (og h.nr h.sr (by decide));have hset:=hbt.set 1 (.slice a' (sN.n+1) c');have hon:=zg5 u2 pt 1 (.slice a' (sN.n+1) c');have hrow':aK 8 enH tN' u2 a' (sN.n+1) c' (N++[(nd,s)]) g':=by
  unfold aK;simpa using hrow
 rw[addr_add,addr_add,zd1,zd2];refine⟨hbt.ok (by simp),bZ (hk _ ⟨a',sN.n+1,c'⟩ g' ⟨hset,?_,h.ne,h.pB,hrow'.mod hon (eY hbt hrow' (by decide)),by have:=h.gB;omega,hsr.mod hon (eY hbt hsr (by decide)),h.sB,λx hx=>?_,?_⟩ ?_)⟩
 .exact hbz.mod hon λhk=>h.ne (by have hk':pz+1=pt+1:=hk;omega)
 .rcases zb2.1 hx with hx | hx
  .exact h.ct x hx
  .obtain rfl:=zd0.1 hx;exact hs
 .have hp:=h.pB.1;have hg:=h.gB;exact(h.fr.trans ho (λ_ _ h=>h) (λk _ hk=>by have hk':k+1=gN:=hk;show B<=k;omega)).trans hon (λ_ _ h=>h) (λk _ hk=>by have hk':k+1=pt+1:=hk;show B<=k;omega)
 .intro k cur e hb he hkp;exact(hb.mod ho λhk=>dW h.nr hb (Ne.symm he) hk).mod hon λhk=>hkp (by have hk':k+1=pt+1:=hk;omega)
theorem MW.link(h:MW w0 w FA B pt pz out N sN gN st' sS gS){i j:Nat}(hi:i<N.length){x y:ND×SH}{v:Value}(hx:N[i]?=some x)(hj:j<8)(hy:enH y=(enH x).set j v)(hc:LsI FA w0 y.2.a y.2.n y.2.c y.1.aT){K:zg6}(hk:∀u,MW w0 u FA B pt pz out (N.set i y) sN gN st' sS gS->(∀k cur e,Blk w k cur e->e≠tN'->Blk u k cur e)->K u){q:Addr}(hq:sN.a=some q) :
  st w (((q.add ((i:Int).toNat*8)).add j).add 0) v K:=by
 have hn:=h.YM;obtain⟨b,hb,ha,h3,h4,h5⟩:=aK.set (k:=8) (en:=enH) lg h.nr (i:=i) (j:=j) (x:=x) (y:=y) (v:=v) hx (by omega) hj hy;rw[hq]at ha;obtain rfl:=zc2 ha;rw[za3];simp only[addr_add,zd1,zd2];have hgB:=h.gB;refine⟨h3,bZ (hk _ ⟨h.bt.mod h5 (λhk=>dW h.nr h.bt (by decide) hk),h.bz.mod h5 (λhk=>dW h.nr h.bz (by decide) hk),h.ne,h.pB,h4,h.gB,h.sr.mod h5 (og h.nr h.sr (by decide)),h.sB,λz hz=>?_,h.fr.trans h5 (λ_ _ h=>h) (λk _ hk=>by have hk':k+1=gN:=hk;show B<=k;omega)⟩ λk cur e hb he=>hb.mod h5 λhk=>dW h.nr hb (Ne.symm he) hk)⟩
 rcases mem_set hz with rfl | ⟨j,_,hj⟩
 .exact hc
 .exact h.ct z (za0 hj)
theorem MW.pop{s:Sp}(h:MW w0 w FA B pt pz out N sN gN (s::st') sS gS):MW w0 w FA B pt pz out N sN gN st' ⟨sS.a,sS.n - 1,sS.c⟩ gS:=by
 have hl:=h.slen;rw[zc5]at hl;have:=aK.take (k:=3) (en:=Ar) (λ_=>rfl) h.sr (m:=sS.n - 1) (by omega);rw[List.reverse_cons,List.take_append_of_le_length (by rw[List.length_reverse];omega),zb1 (by rw[List.length_reverse];omega)]at this;exact⟨h.bt,h.bz,h.ne,h.pB,h.nr,h.gB,this,h.sB,h.ct,h.fr⟩
theorem MW.spans(h:MW w0 w FA B pt pz out N sN gN st' sS gS)(hlen:st'.length<=4194304){x y:Sp}(hq:AtL w q (Ar x++Ar y)){K:Value->zg6}
  (hk:∀a' n' c' u g',MW w0 u FA B pt pz out N sN gN (y::x::st') ⟨a',n',c'⟩ g'->K (.slice a' n' c') u) :
  dC prog (Builtin.append_ #[124,124] 124 #[.slice sS.a sS.n sS.c,.slice (some q) 2 2]) w K:=by
 have hn:=h.slen;have hBw:=h.hB;have hs:SlK 3 Ar w (some q) 2 [x,y]:=⟨rfl,λi z hz=>⟨q,rfl,λj v hj=>by
  have hj3:j<3:=(za1.1 hj).1
  rcases i with _ | _ | i
  .obtain rfl:x=z:=by simpa using hz
   rw[Nat.zero_mul,zd1];exact hq j v (by rw[zb9 (by simp[Ar];omega)];exact hj)
  .obtain rfl:y=z:=by simpa using hz
   have:=hq (1*3+j) v (by rw[zc0 (by simp[Ar])];simpa[Ar,Nat.add_sub_cancel_left] using hj);simpa using this
  .simp at hz⟩⟩
 refine aK.pushes S89 (λ_=>rfl) (by omega) h.sr QU hs (by simp only[maxLen];omega) (by omega) λa' c' g' u hr hg ho=>hk a' _ c' u g' ⟨h.bt.mod ho (λhk=>dW h.sr h.bt (by decide) hk),h.bz.mod ho (λhk=>dW h.sr h.bz (by decide) hk),h.ne,h.pB,h.nr.mod ho (og h.sr h.nr (by decide)),h.gB,?_,by have:=h.sB;omega,h.ct,?_⟩
 .have e:(y::x::st').reverse=st'.reverse++[x,y]:=by simp
  rw[e];exact hr
 .have hg:=h.sB;exact h.fr.trans ho (λ_ _ h=>h) (λk _ hk=>by have hk':k+1=gS:=hk;show B<=k;omega)
theorem MW.ret(h:MW w0 w FA B pt pz out N sN gN st' sS gS){K:Int->OA->Nat->Nat->zg6}(hk:∀u,aK 8 enH tN' u sN.a sN.n sN.c N gN->From B w0 u->K out sN.a sN.n sN.c u) :
  jF w ⟨pt,0,none⟩ λo p q r=>y8 w ⟨pz,0,none⟩ o p q r λu=>jF u ⟨pz,0,none⟩ λp q r s=>K p q r s u:=by
 have hA:=atB h.bt;refine⟨_,hA 0 _ rfl,_,_,_,hA 1 _ rfl,?_⟩;refine wrA (e:=tT') (b:=pz) (vs:=[.int .i64 out,sN.v]) h.bz rfl λu hb ho=>?_;have hAz:=atB hb;have hp:=h.pB.2;exact⟨_,hAz 0 _ rfl,_,_,_,hAz 1 _ rfl,hk u (h.nr.mod ho (eY h.bz h.nr (by decide))) (From.then h.fr ho λk _ hk=>by have hk':k+1=pz+1:=hk;omega)⟩
end
end Go.Mir
