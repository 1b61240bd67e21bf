/- Part of a proof; no conditions. -/
import Derived.Test.YtmjlipmapfofmaaGreatFI
import Derived.Test.YtmjlipmapfofmaaGreatFE
set_option linter.unusedVariables false
set_option linter.unusedSimpArgs false
set_option linter.unusedSectionVars false
set_option maxRecDepth 100000
open Go.Proofs.Tryz (prog)
namespace Go.Mir
open Go Go.E Go.RowKit Go.Tr Go.Ss Go.ChangeShapes
section
variable{w:World}{a:OA}{n c:Nat}{F:Nat->Prop}{l:List AD}
theorem Cb(h:Ls tA F w a n c l){i:Int}{K:Addr->Prop}(h0:0<=i)(hi:i<n)(hk:∀p x t,l[i.toNat]?=some x->LsI F w t.a t.n t.c x.nd.aT->AtL w (p.add (i.toNat*10)) (jG (x,t))->K p):ix a n i K:=by
 obtain⟨p,x,cs,rfl,h2,_,⟨t,rfl,h4⟩,h5⟩:=h.elem (i:=i.toNat) (by omega);exact dK ⟨h0,hi⟩ (hk p x t h2 h4 h5)
end
def X7(n m:Nat)(st:List Sp):Prop:=∀s∈st,0<=s.1/\s.1<s.2.1/\s.2.1<=n/\s.2.2<m
def oD:List Sp->Nat
 | []=>0
 |s::st=>(2*(s.2.1 - s.1) - 1).toNat+oD st
theorem vU{n m:Nat}:∀ {st:List Sp},X7 n m st->st.length<=oD st
 | [],_=>zb4 _
 |s::st,h=>by
  have h1:=vU (st:=st) λx hx=>h x (.tail _ hx);have h2:=h s (.head _);rw[zc5];unfold oD;omega
def MdA(w0:World)(FA:Nat->Prop)(out:Int)(res:Bool×List ND):VP:=λv u=>∃(o:Int) (s:SH),v = .tuple #[jh o s.a s.n s.c,.bool res.1]/\(res.1=true->o=out/\Ls tN (λb=>FA b\/(w0.heap.size<=b/\∃cur,Blk u b cur tN')) u s.a s.n s.c res.2)/\From w0.heap.size w0 u
section
variable{w0 w u:World}{a d:OA}{n c e f:Nat}{FA FV:Nat->Prop}{p q:Addr}{pt pz ps:Nat}{out:Int}{N:List (ND×SH)}{sN:SH}{gN:Nat}{st':List Sp}{sS:SH}{gS:Nat}{l:List AD}{vals:List Int}{res:Bool×List ND}
theorem MW.good(h:MW w0 w FA w0.heap.size pt pz out N sN gN st' sS gS)(hFA:∀b,FA b->b<w0.heap.size)(hres:(true,N.map (·.1))=res) :
  jF w ⟨pt,0,none⟩ λo p q r=>y8 w ⟨pz,0,none⟩ o p q r λu=>jF u ⟨pz,0,none⟩ λp q r s=>MdA w0 FA out res (.tuple #[jh p q r s,.bool true]) u:=by
 refine h.ret λu hr hf=>?_;subst hres;have hg:=h.gB;have hle:=Row.le hr;exact⟨out,sN,rfl,λ_=>⟨rfl,aK.lsN hr (λb hb => .inr ⟨by omega,Row.blk hr hb⟩) λx hx=>((h.ct x hx).kept (zg4 hf)).mono λb hb => .inl hb⟩,hf⟩
theorem MW.bad(h:MW w0 w FA w0.heap.size pt pz out N sN gN st' sS gS)(hres:(false,N.map (·.1))=res) :
  jF w ⟨pt,0,none⟩ λo p q r=>y8 w ⟨pz,0,none⟩ o p q r λu=>jF u ⟨pz,0,none⟩ λp q r s=>MdA w0 FA out res (.tuple #[jh p q r s,.bool false]) u:=by
 refine h.ret λu hr hf=>?_;subst hres;exact⟨out,sN,rfl,(λh=>by cases h),hf⟩
def FSp(cs:List Value):Nat->Value->World->Prop:=λ_ v u=>∃q,v = .slice (some q) 2 2/\AtL u q cs
theorem FSp.keep{cs:List Value}(i:Nat)(v:Value)(u u':World)(h:FSp cs i v u)(hk:Below u.heap.size u u'):FSp cs i v u':=by
 obtain⟨q,h1,h2⟩:=h;exact⟨q,h1,h2.kept hk⟩
def FNk(nd:ND)(FA:Nat->Prop)(w0:World):Nat->Value->World->Prop:=λ_ v u=>∃(q:Addr) (t:SH),v = .slice (some q) 1 1/\AtL u q (enH (nd,t))/\LsI FA w0 t.a t.n t.c nd.aT
theorem FNk.keep{nd:ND}(i:Nat)(v:Value)(u u':World)(h:FNk nd FA w0 i v u)(hk:Below u.heap.size u u'):FNk nd FA w0 i v u':=by
 obtain⟨q,t,h1,h2,h3⟩:=h;exact⟨q,t,h1,h2.kept hk,h3⟩
set_option maxHeartbeats 1000000 in
theorem IL(hl:Ls tA FA w0 a n c l)(hv:LsI FV w0 d e f vals)(hFA:∀b,FA b->b<w0.heap.size)(hFV:∀b,FV b->b<w0.heap.size)(hln:l.length<=1048576)(hn:vals.length<=1048576){m:Nat}{s:Sp}
  (ih:∀(w:World) (N:List (ND×SH)) (sN:SH) (gN:Nat) (st:List Sp) (sS:SH) (gS:Nat) (k:Nat),MW w0 w FA w0.heap.size pt pz out N sN gN st sS gS->X7 vals.length N.length st->oD st<m->N.length+oD st<=4194304->qH l vals m (N.map (·.1)) st k=res ->
   aS.l18 (MdA w0 FA out res) m a n c d e f (some ⟨pz,0,none⟩) (some ⟨pt,0,none⟩) sS.a sS.n sS.c k w)
  {k:Nat} (h:MW w0 w FA w0.heap.size pt pz out N sN gN st' sS gS) (hbp:Blk w ps (Ar s).toArray tSp) (hs:X7 vals.length N.length (s::st')) (hm:oD (s::st')<m+1) (hN:N.length+oD (s::st')<=4194304)
  (hres:(if s.2.1=s.1+1 then qH l vals m (N.map (·.1)++[uk (vals.getD s.1.toNat 0)]) st' k
   else match l[k]? with
    |none=>(false,N.map (·.1))
    |some x=>if x.frm=s.1/\s.1<x.to/\x.to<s.2.1 then qH l vals m (N.map (·.1)++[x.nd]) ((s.1,x.to,(N.length:Int))::(x.to,s.2.1,(N.length:Int))::st') (k+1) else(false,N.map (·.1)))=res) :
  aS.j44 (MdA w0 FA out res) (aS.l18 (MdA w0 FA out res) m) a n c d e f (some ⟨pz,0,none⟩) (some ⟨pt,0,none⟩) sS.a sS.n sS.c k (some ⟨ps,0,none⟩) w:=by
 unfold aS.j44 aS.g44;obtain⟨s0,s1,s2,s3⟩:=hs s (.head _);have hs':X7 vals.length N.length st':=λx hx=>hs x (.tail _ hx);have hvl:=hv.len;have hll:=hl.len;have hkw:Kept w0 w:=zg4 h.fr;have hm0:oD (s::st')=(2*(s.2.1 - s.1) - 1).toNat+oD st':=rfl;have hsl:=vU hs';have hAt:=atB h.bt;have hA:=atB hbp;refine⟨_,hA 1 _ rfl,_,hA 0 _ rfl,bM (by omega) (by omega) (nN (λe1=>?_) λe1=>?_)⟩
 .rw[if_pos e1]at hres;refine⟨FNd (uk (vals.getD s.1.toNat 0),⟨none,0,0⟩),FNd.keep,_,_,_,hAt 1 _ rfl,_,hA 0 _ rfl,?_⟩;refine(hv.kept hkw).rdI (by omega) (by omega) λy hy=>?_;have hyv:vals.getD s.1.toNat 0=y:=by rw[za8,hy];rfl
  refine⟨λt ht=>⟨na t,rfl,by rw[hyv];exact AtL.new t (enH (uk y,⟨none,0,0⟩)) tN'⟩,λq _ t ht hq=>?_⟩;obtain⟨q',hq1,hq2⟩:=hq;obtain rfl:q=q':=by simpa using hq1
  refine(h.kept ht).push (by omega) hq2 (Ls.nil _ _ _ _ _) λu sN' gN' hu hfb=>?_;refine ih u _ sN' gN' st' sS gS k hu (λx hx=>?_) (by omega) (by rw[za6,zc7];omega) (by rw[zb8];exact hres);obtain⟨x0,x1,x2,x3⟩:=hs' x hx;exact⟨x0,x1,x2,by rw[za6,zc7];omega⟩
 .rw[if_neg e1]at hres;refine fJ (λhk=>?_) λhk=>?_
  .rw[zc3 (by omega)]at hres;exact h.bad hres
  have hlk:=hl.kept hkw;refine Cb hlk (by omega) (by omega) λp x t hx hct hat=>?_;rw[za3]at hx;rw[hx]at hres;simp only at hres;refine⟨_,hat 8 _ rfl,_,hA 0 _ rfl,ja (λhne=>?_) λhe=>?_⟩
  .rw[if_neg λhh=>hne hh.1]at hres;exact h.bad hres
  refine Cb hlk (by omega) (by omega) λp2 x2 t2 hx2 _ hat2=>?_;rw[za3,hx]at hx2;obtain rfl:=zc2 hx2;refine⟨_,hat2 9 _ rfl,_,hA 0 _ rfl,fJ (λh2=>?_) λh2=>?_⟩
  .have h2':x.to<=s.1:=h2;rw[if_neg (λhh:x.frm=s.1/\s.1<x.to/\x.to<s.2.1=>by omega)]at hres;exact h.bad hres
  refine Cb hlk (by omega) (by omega) λp3 x3 t3 hx3 _ hat3=>?_;rw[za3,hx]at hx3;obtain rfl:=zc2 hx3;refine⟨_,hat3 9 _ rfl,_,hA 1 _ rfl,fJ (λh3=>?_) λh3=>?_⟩
  .have h3':s.2.1<=x.to:=h3;rw[if_neg (λhh:x.frm=s.1/\s.1<x.to/\x.to<s.2.1=>by omega)]at hres;exact h.bad hres
  have h2':¬ x.to<=s.1:=h2;have h3':¬ s.2.1<=x.to:=h3;rw[if_pos ⟨he,by omega,by omega⟩]at hres;refine⟨_,_,_,hAt 1 _ rfl,FNk x.nd FA w0,FNk.keep,_,_,_,hAt 1 _ rfl,?_⟩;refine Cb hlk (by omega) (by omega) λp4 x4 t4 hx4 hct4 hat4=>?_;rw[za3,hx]at hx4;obtain rfl:=zc2 hx4;have hat4':∀j v,(enH (x.nd,t4))[j]?=some v->w.cell? (((p4.add (((k:Nat):Int).toNat*10)).add 0).add j)=some v:=λj v hj=>by
   rw[add_zero];refine hat4 j v ?_;have hj8:j<8:=(za1.1 hj).1;have e:jG (x,t4)=enH (x.nd,t4)++[.int .i64 x.frm,.int .i64 x.to]:=rfl;rw[e,zb9 (by exact hj8)];exact hj
  refine⟨_,hat4' 0 _ rfl,_,hat4' 1 _ rfl,_,hat4' 2 _ rfl,_,hat4' 3 _ rfl,_,_,_,hat4' 4 _ rfl,_,hat4' 5 _ rfl,_,hat4' 6 _ rfl,_,hat4' 7 _ rfl,⟨λD hD=>⟨na D,t4,rfl,AtL.new D (enH (x.nd,t4)) tN',?_⟩,λq _ D hD hq=>?_⟩⟩
  .exact Ls.keep hct4 λb hb _=>((Kept.mod (S:=λ_=>False) hkw).block b (hFA b hb) (λh=>h)).symm
  .obtain⟨q',t',hq1,hq2,hq3⟩:=hq;obtain rfl:q=q':=by simpa using hq1
   have hz:=hD.size;refine(h.kept hD).push (by omega) hq2 hq3 λu sN' gN' hu hfb=>?_;have hku:Kept w0 u:=zg4 hu.fr;have hbu:=hfb _ _ _ (hbp.keep hD) (by decide) (λe=>by subst e;exact absurd (hbp.ne h.bt) (by decide));have hAu:=atB hbu;have hlu:=hl.kept hku;refine⟨FSp (Ar (x.to,s.2.1,(N.length:Int))++Ar (s.1,x.to,(N.length:Int))),FSp.keep,?_⟩;refine Cb hlu (by omega) (by omega) λp5 x5 t5 hx5 _ hat5=>?_;rw[za3,hx]at hx5;obtain rfl:=zc2 hx5;refine⟨_,hat5 9 _ rfl,_,hAu 1 _ rfl,_,hAu 0 _ rfl,?_⟩;refine Cb hlu (by omega) (by omega) λp6 x6 t6 hx6 _ hat6=>?_;rw[za3,hx]at hx6;obtain rfl:=zc2 hx6;have hnl:=h.YM;refine⟨_,hat6 9 _ rfl,⟨λD2 _=>⟨na D2,rfl,?_⟩,λq2 _ D2 hD2 hq2'=>?_⟩⟩
   .rw[hnl];exact AtL.new D2 (Ar (x.to,s.2.1,(N.length:Int))++Ar (s.1,x.to,(N.length:Int))) tSp
   .obtain⟨q3,e3,hq4⟩:=hq2';obtain rfl:q2=q3:=by simpa using e3
    refine(hu.kept hD2).spans (by omega) hq4 λa' n' c' u2 g' hu2=>⟨_,_,_,rfl,aC (by omega) ?_⟩;refine ih u2 _ sN' gN' _ ⟨a',n',c'⟩ g' (k+1) hu2 (λy hy=>?_) ?_ ?_ (by rw[zb8];exact hres)
    .rw[za6,zc7]
     rcases zb3.1 hy with e | hy
     .subst e;exact⟨s0,by show s.1<x.to;omega,by show x.to<=_;omega,by show(N.length:Int)<((N.length+1:Nat):Int);omega⟩
     .rcases zb3.1 hy with e | hy
      .subst e;exact⟨by show 0<=x.to;omega,by show x.to<s.2.1;omega,s2,by show(N.length:Int)<((N.length+1:Nat):Int);omega⟩
      .obtain⟨y0,y1,y2,y3⟩:=hs' y hy;exact⟨y0,y1,y2,by omega⟩
    .show(2*(x.to - s.1) - 1).toNat+((2*(s.2.1 - x.to) - 1).toNat+oD st')<m;omega
    .rw[za6,zc7];show N.length+1+((2*(x.to - s.1) - 1).toNat+((2*(s.2.1 - x.to) - 1).toNat+oD st'))<=_;omega
end
section
variable{w0 w u w1:World}{a d:OA}{n c e f:Nat}{FA FV:Nat->Prop}{p q:Addr}{pt pz:Nat}{out:Int}{N:List (ND×SH)}{sN:SH}{gN:Nat}{sS:SH}{gS:Nat}{l:List AD}{vals:List Int}{res:Bool×List ND}
theorem UJ{i j:Nat}{K:Int->Prop}(h:i=j+1)(hb:i<9223372036854775807)(hk:K (j:Int)):nv (IntKind.i64.wrap ((i:Int) - 1)) K :=
 nH (by rw[l9 (by omega) (by omega)];omega) hk
set_option maxHeartbeats 1000000 in
theorem QJ(hl:Ls tA FA w0 a n c l)(hv:LsI FV w0 d e f vals)(hFA:∀b,FA b->b<w0.heap.size)(hFV:∀b,FV b->b<w0.heap.size)(hln:l.length<=1048576)(hn:vals.length<=1048576) :
  ∀(m:Nat) (w:World) (N:List (ND×SH)) (sN:SH) (gN:Nat) (st:List Sp) (sS:SH) (gS:Nat) (k:Nat),MW w0 w FA w0.heap.size pt pz out N sN gN st sS gS->X7 vals.length N.length st->oD st<m->N.length+oD st<=4194304->qH l vals m (N.map (·.1)) st k=res ->
   aS.l18 (MdA w0 FA out res) m a n c d e f (some ⟨pz,0,none⟩) (some ⟨pt,0,none⟩) sS.a sS.n sS.c k w:=by
 intro m
 induction m with
 |zero=>intro w N sN gN st sS gS k _ _ hm;omega
 |succ m ih=>
  intro w N sN gN st sS gS k h hs hm hN hres;rw[aS.u18];unfold aS.g18;have hsl:=h.slen
  cases st with
  |nil=>
   refine aA (by rw[hsl];simp) ?_;exact h.good hFA hres
  |cons s st=>
   rw[zc5]at hsl;refine aH (by omega) ?_;have hml:=vU hs;rw[zc5]at hml;refine UJ (j:=st.length) hsl (by omega) ?_;have hx:(s::st).reverse[st.length]?=some s:=by rw[List.reverse_cons,zc0 (by rw[List.length_reverse];omega),List.length_reverse,zf8];rfl
   refine atF (k:=3) (en:=Ar) (λ_=>rfl) (by omega) h.sr (by omega) (by omega) (by rw[za3];exact hx) λp hp hat=>?_;refine⟨_,hat 0 _ rfl,_,hat 1 _ rfl,_,hat 2 _ rfl,?_⟩;refine boxS (zs:=[.int .i64 0,.int .i64 0,.int .i64 0]) (vs:=Ar s) (e:=tSp) rfl λw2 hA2 b2 hk2=>?_;have h2:=(h.kept hk2).pop;have hcap:=h.sr.capLe;rw[show IntKind.i64.wrap ((sS.n:Int) - 1)=((st.length:Nat):Int) by rw[l9 (by omega) (by omega)];omega];refine dK ⟨by omega,by omega⟩ ?_;have e1:sS.n - 1=st.length:=by omega
   rw[e1]at h2;rw[qU]at hres;obtain⟨s0,s1,s2,s3⟩:=hs s (.head _);have hnl:=h2.YM;rw[lC,za3];refine⟨_,hA2 2 _ rfl,fJ (λhab=>?_) λhab=>?_⟩
   .have hAt:=atB h2.bt;obtain⟨i,hi⟩:∃i:Nat,s.2.2=(i:Int):=⟨s.2.2.toNat,by omega⟩;have hiN:i<N.length:=by omega
    have hxi:N[i]?=some (N[i]'hiN):=za2 _;generalize N[i]'hiN=y at hxi;have hcy:=h2.ct y (za0 hxi);refine⟨_,_,_,hAt 1 _ rfl,_,_,_,hAt 1 _ rfl,_,hA2 2 _ rfl,?_⟩;refine atF (k:=8) (en:=enH) lg (by omega) h2.nr (by omega) (by omega) (by rw[hi,za3];exact hxi) λq hq hatq=>?_;have hlk:iW (N.map (·.1)) s.2.2=(N.map (·.1)).set i (if y.1.left=0 then { y.1 with left:=((N.map (·.1)).length:Int) } else { y.1 with right:=((N.map (·.1)).length:Int) }):=by
     unfold iW;rw[if_pos (by omega),hi,za3,zc1,hxi];rfl
    have hll:=zG (N.map (·.1)) s.2.2;rw[za7]at hll hlk;have fin:∀(u:World) (y':ND×SH),MW w0 u FA w0.heap.size pt pz out (N.set i y') sN gN st ⟨sS.a,st.length,sS.c⟩ gS->Blk u w.heap.size (Ar s).toArray tSp->iW (N.map (·.1)) s.2.2=(N.set i y').map (·.1) ->
      aS.j44 (MdA w0 FA out res) (aS.l18 (MdA w0 FA out res) m) a n c d e f (some ⟨pz,0,none⟩) (some ⟨pt,0,none⟩) sS.a st.length sS.c k (some (na w)) u:=λu y' hu hb hlk'=>by
     refine IL (sS:=⟨sS.a,st.length,sS.c⟩) hl hv hFA hFV hln hn ih hu hb (by rw[zf6];exact hs) (by omega) (by rw[zf6];exact hN) ?_;rw[<- hlk',zf6];rw[za7]at hres;exact hres
    refine⟨_,hatq 6 _ rfl,nN (λe0=>?_) λe0=>?_⟩
    .have e0':y.1.left=0:=e0;rw[if_pos e0']at hlk;rw[hi];refine h2.link (i:=i) (j:=6) (y:=({ y.1 with left:=(N.length:Int) },y.2)) hiN hxi (by omega) (by rw[hnl];rfl) hcy (λu hu hfb=>?_) hq;exact fin u _ hu (hfb _ _ _ b2 (by decide)) (by rw[hlk,List.map_set])
    .have e0':¬ y.1.left=0:=e0;rw[if_neg e0']at hlk;rw[hi];refine h2.link (i:=i) (j:=7) (y:=({ y.1 with right:=(N.length:Int) },y.2)) hiN hxi (by omega) (by rw[hnl];rfl) hcy (λu hu hfb=>?_) hq;exact fin u _ hu (hfb _ _ _ b2 (by decide)) (by rw[hlk,List.map_set])
   .have hlk:iW (N.map (·.1)) s.2.2=N.map (·.1):=by unfold iW;rw[if_neg hab]
    rw[hlk,za7]at hres;exact IL (sS:=⟨sS.a,st.length,sS.c⟩) hl hv hFA hFV hln hn ih h2 b2 hs (by omega) hN hres
theorem Y3(hl:Ls tA FA w a n c l)(hv:LsI FV w d e f vals)(hFA:∀b,FA b->b<w.heap.size)(hFV:∀b,FV b->b<w.heap.size)(hln:l.length<=1073741824)(hn:vals.length<=1048576) :
  E.CallsD prog 40 #[.slice a n c,.slice d e f,.int .i64 out] w (MdA w FA out (uy l vals)):=by
 refine aS.calls (R:=MdA w FA out (uy l vals)) ?_;unfold aS aS.g0;have hll:=hl.len;have hvl:=hv.len;refine bZ (bZ ?_);have bz:Blk (w.alloc (.cells (kU 0 none 0 0) 50)) w.heap.size #[.int .i64 0,.slice none 0 0] tT':=Blk.new w _ _;have k1:=zg3 w (.cells (kU 0 none 0 0) 50);have z1:(w.alloc (.cells (kU 0 none 0 0) 50)).heap.size=w.heap.size+1:=by simp
 generalize w.alloc (.cells (kU 0 none 0 0) 50)=w1 at bz k1 z1;have bt:Blk (w1.alloc (.cells (kU 0 none 0 0) 50)) w1.heap.size #[.int .i64 0,.slice none 0 0] tT':=Blk.new w1 _ _;have k2:=zg3 w1 (.cells (kU 0 none 0 0) 50);generalize w1.alloc (.cells (kU 0 none 0 0) 50)=w2 at bt k2;have bz2:=bz.keep k2;have k12:=zg1 k1 k2;refine wrA (e:=tT') (b:=w1.heap.size) (vs:=[.int .i64 out,.slice none 0 0]) bt rfl λw3 bt3 ho3=>?_;have bz3:=bz2.mod ho3 λhk=>by have hk':w.heap.size+1=w1.heap.size+1:=hk;omega
 have f3:From w.heap.size w w3:=From.then (Kept.mod k12) ho3 λk _ hk=>by have hk':k+1=w1.heap.size+1:=hk;omega
 rw[l9 (by omega) (by omega)];refine ja (λhne=>?_) λhe=>?_
 .have hP:uy l vals=(false,[]):=by unfold uy;rw[if_neg (by omega)]
  have hA:=atB bt3;refine⟨_,hA 0 _ rfl,_,_,_,hA 1 _ rfl,?_⟩;refine wrA (e:=tT') (b:=w.heap.size) (vs:=[.int .i64 out,.slice none 0 0]) bz3 rfl λu bu hou=>?_;have hAu:=atB bu;refine⟨_,hAu 0 _ rfl,_,_,_,hAu 1 _ rfl,out,⟨none,0,0⟩,?_,?_,From.then f3 hou λk _ hk=>by have hk':k+1=w.heap.size+1:=hk;omega⟩
  .rw[hP]
  .rw[hP];intro h;cases h
 .have hP:uy l vals=qH l vals (2*vals.length) [] [(0,(vals.length:Int),-1)] 0:=by unfold uy;rw[if_pos (by omega)]
  rw[hP];have hz3:=f3.size;refine bZ ?_;have hsr:=aK.new (k:=3) (en:=Ar) (λ_=>rfl) tSp w3 [((0:Int),(e:Int),(-1:Int))] #[.int .i64 0,.int .i64 e,.int .i64 (-1)] rfl (by show 1<=maxLen;decide);have hk4:=zg3 w3 (.cells #[.int .i64 0,.int .i64 e,.int .i64 (-1)] tSp);have hMW:MW w (w3.alloc (.cells #[.int .i64 0,.int .i64 e,.int .i64 (-1)] tSp)) FA w.heap.size w1.heap.size w.heap.size out [] ⟨none,0,0⟩ 0 [(0,(e:Int),-1)] ⟨some (na w3),1,1⟩ (w3.heap.size+1) :=
   ⟨bt3.keep hk4,bz3.keep hk4,by omega,⟨by omega,zb4 _⟩,aK.nil _ _ _ _,.inl rfl,hsr,.inr (by omega),(λx hx=>by cases hx),f3.aG hk4⟩
  refine za4 (2*vals.length) (QJ hl hv hFA hFV (by omega) hn (2*vals.length) _ [] ⟨none,0,0⟩ 0 [(0,(e:Int),-1)] ⟨some (na w3),1,1⟩ (w3.heap.size+1) 0 hMW (λs hs=>?_) ?_ ?_ ?_)
  .obtain rfl:=zd0.1 hs;exact⟨Int.le_refl _,by show(0:Int)<e;omega,by show(e:Int)<=_;omega,by show(-1:Int)<((0:Nat):Int);omega⟩
  .show(2*((e:Int) - 0) - 1).toNat+0<_;omega
  .show 0+((2*((e:Int) - 0) - 1).toNat+0)<=_;omega
  .rw[hvl];rfl
end
section
variable{w u wB x:World}{F S:Nat->Prop}{B B' g:Nat}{s t:SH}{L:List AD}
def NdR(B:Nat)(w:World)(b:Nat):Prop:=B<=b/\∃cur e,Blk w b cur e/\(e=tN'\/e=tI'\/e=tKn)
theorem NdR.lt{b:Nat}(h:NdR B w b):b<w.heap.size:=by
 obtain⟨_,cur,e,hb,_⟩:=h;exact hb.lt
theorem NdR.kept{b:Nat}(h:NdR B w b)(hk:Kept w u):NdR B u b:=by
 obtain⟨h0,cur,e,hb,he⟩:=h;exact⟨h0,cur,e,hb.keep hk,he⟩
theorem NdR.mod{b:Nat}(h:NdR B w b)(hm:Mod S w u)(hS:∀k cur e,Blk w k cur e->(e=tN'\/e=tI'\/e=tKn)->¬ S k):NdR B u b:=by
 obtain⟨h0,cur,e,hb,he⟩:=h;exact⟨h0,cur,e,hb.mod hm (hS _ _ _ hb he),he⟩
theorem NdR.no{b k:Nat}{cur:Array Value}{e:Nat}(h:NdR B w b)(hb:Blk w k cur e)(he:e≠tN'/\e≠tI'/\e≠tKn):b≠k:=λhk=>by
 subst hk;obtain⟨_,cur',e',hb',he'⟩:=h;have:=hb.ne hb'
 rcases he' with h | h | h
 .exact he.1 (this.trans h)
 .exact he.2.1 (this.trans h)
 .exact he.2.2 (this.trans h)
theorem mi.ls(h:mi B w s L g)(hB:B'<=B):Ls tA (NdR B' w) w s.a s.n s.c L:=by
 obtain⟨⟨l,h1,h2,h3⟩,h4⟩:=h;have:=aK.lsK (T:=tA) (f:=λx:AE=>x.1) (en:=jG) (k:=10) (F:=NdR B' w) (λ_=>rfl) (by omega) rfl h1 (λb hb=>by
  obtain⟨cur,hb'⟩:=Row.blk h1 hb;exact⟨by unfold fresh at h4;omega,cur,_,hb',.inr (.inr rfl)⟩) λx hx=>by
  obtain⟨gx,k1,k2⟩:=h3 x hx;exact⟨x.2,rfl,(Arr.ls (h1:=λ_=>rfl) k1).mono λb hb=>by
   obtain⟨cur,hb'⟩:=Row.blk k1 hb;exact⟨by unfold fresh at k2;omega,cur,_,hb',.inr (.inl rfl)⟩⟩
 rw[h2];exact this
theorem mi.weak(h:mi B w s L g)(hB:B'<=B):mi B' w s L g:=by
 obtain⟨⟨l,h1,h2,h3⟩,h4⟩:=h;exact⟨⟨l,h1,h2,λx hx=>by
  obtain⟨gx,k1,k2⟩:=h3 x hx;exact⟨gx,k1,by unfold fresh at k2 ⊢;omega⟩⟩,by unfold fresh at h4 ⊢;omega⟩
def FTr(B:Nat)(s0:World)(L:List AD)(out:Int)(res:Bool×List ND):Nat->Value->World->Prop:=λi v u=>match i with
 |2=>∃(s:SH) (g:Nat),v=s.v/\mi B u s L g
 |13=>∃(o:Int) (s:SH),v = .tuple #[jh o s.a s.n s.c,.bool res.1]/\(res.1=true->o=out/\Ls tN (NdR B u) u s.a s.n s.c res.2)
 |17=>∃b,v = .pointer (some ⟨b,0,none⟩)/\Blk u b #[.int .i64 0,.slice none 0 0] tT'/\s0.heap.size<=b
 |_=>True
theorem FTr.keep{s0:World}{out:Int}{res:Bool×List ND}(i:Nat)(v:Value)(u u':World)(h:FTr B s0 L out res i v u)(hk:Below u.heap.size u u'):FTr B s0 L out res i v u':=by
 unfold FTr at h ⊢;split at h
 .obtain⟨s,g,h1,h2⟩:=h;exact⟨s,g,h1,h2.kept hk⟩
 .obtain⟨o,s,h1,h2⟩:=h;exact⟨o,s,h1,λhr=>⟨(h2 hr).1,((h2 hr).2.kept hk).mono λb hb=>hb.kept hk⟩⟩
 .obtain⟨b,h1,h2,h3⟩:=h;exact⟨b,h1,h2.keep hk,h3⟩
 .trivial
structure RB(wB w:World)(f:fC)(s t:SH)(kf:Nat)(T:List (TD×SH))(sT:SH)(gT:Nat)(rs:List (Int×Int))(sR:SH)(gR:Nat):Prop where
 fr:From wB.heap.size wB w
 bf:Blk w kf (jo f s t).toArray jb
 tr:aK 2 Aj tT' w sT.a sT.n sT.c T gT
 nd:∀x∈T,Ls tN (NdR wB.heap.size w) w x.2.a x.2.n x.2.c x.1.nodes
 rr:aK 2 enR nS w sR.a sR.n sR.c rs gR
 gB:gT=0\/wB.heap.size<gT
 rB:gR=0\/wB.heap.size<gR
 kB:wB.heap.size<=kf
 sz:∀x∈T,x.1.nodes.length<=1048576/\∀y∈x.1.nodes,OkN y
variable{f:fC}{kf:Nat}{T:List (TD×SH)}{sT:SH}{gT:Nat}{rs:List (Int×Int)}{sR:SH}{gR:Nat}
theorem RB.kept(h:RB wB w f s t kf T sT gT rs sR gR)(hk:Kept w u):RB wB u f s t kf T sT gT rs sR gR :=
 ⟨h.fr.aG hk,h.bf.keep hk,h.tr.kept hk,λx hx=>((h.nd x hx).kept hk).mono λb hb=>hb.kept hk,h.rr.kept hk,h.gB,h.rB,h.kB,h.sz⟩
theorem RB.box{b:Nat}{cur:Array Value}(h:RB wB w f s t kf T sT gT rs sR gR)(hb:Blk w b cur tT')(hn:b+1≠gT)(hB:wB.heap.size<=b)(ho:Only (b+1) w u):RB wB u f s t kf T sT gT rs sR gR:=by
 have ne:∀k,k+1=b+1->k=b:=λk hk=>by omega
 refine⟨From.then h.fr ho λk _ hk=>by have hk':k+1=b+1:=hk;omega,h.bf.mod ho λhk=>?_,h.tr.mod ho λk hk hk2=>hn (by have hk2':k+1=b+1:=hk2;omega),λx hx=>?_,h.rr.mod ho (eY hb h.rr (by decide)),h.gB,h.rB,h.kB,h.sz⟩
 .obtain rfl:=ne kf hk;exact absurd (hb.ne h.bf) (by decide)
 .refine((h.nd x hx).mod ho λk hk hk2=>hk.no hb ⟨by decide,by decide,by decide⟩ (ne k hk2)).mono λk hk=>hk.mod ho λj c e hj he hj2=>?_;obtain rfl:=ne j hj2;have:=hb.ne hj
  rcases he with h | h | h <;> (rw[h]at this;exact absurd this (by decide))
theorem RB.push(h:RB wB w f s t kf T sT gT rs sR gR)(hlen:T.length<=1048576){td:TD}{sn:SH}{q:Addr}(hq:AtL w q (Aj (td,sn)))(hs:Ls tN (NdR wB.heap.size w) w sn.a sn.n sn.c td.nodes)(hsz:td.nodes.length<=1048576/\∀y∈td.nodes,OkN y){K:Value->zg6}
  (hk:∀a' c' u g',RB wB u f s t kf (T++[(td,sn)]) ⟨a',sT.n+1,c'⟩ g' rs sR gR->(∀k cur e,Blk w k cur e->e≠tT'->Blk u k cur e)->K (.slice a' (sT.n+1) c') u) :
  dC prog (Builtin.append_ #[24,24] 24 #[.slice sT.a sT.n sT.c,.slice (some q) 1 1]) w K:=by
 have hTl:=aK.KD h.tr;have hz:=h.fr.size;refine aK.mY Zd (λ_=>rfl) (by omega) h.tr (x:=(td,sn)) hq (Ef _) (by simp only[maxLen];omega) (by omega) λa' c' g' u hrow hg _ ho=>?_;have nd:∀y:TD×SH,Ls tN (NdR wB.heap.size w) w y.2.a y.2.n y.2.c y.1.nodes->Ls tN (NdR wB.heap.size u) u y.2.a y.2.n y.2.c y.1.nodes:=λy hy=>by
  refine(hy.mod ho λk hk hk2=>?_).mono λk hk=>hk.mod ho λj c e hj he hj2=>?_
  .obtain⟨cur,hb⟩:=Row.blk h.tr hk2;exact hk.no hb ⟨by decide,by decide,by decide⟩ rfl
  .obtain⟨cur,hb⟩:=Row.blk h.tr hj2;have:=hb.ne hj
   rcases he with h | h | h <;> (rw[h]at this;exact absurd this (by decide))
 refine hk a' c' u g' ⟨h.fr.trans ho (λ_ _ h=>h) (λk _ hk=>by have hk':k+1=gT:=hk;have:=h.gB;show wB.heap.size<=k;omega),h.bf.mod ho (λhk=>dW h.tr h.bf (by decide) hk),hrow,λy hy=>?_,h.rr.mod ho (og h.tr h.rr (by decide)),by have:=h.gB;omega,h.rB,h.kB,λy hy=>?_⟩ λk cur e hb he=>hb.mod ho λhk=>dW h.tr hb (Ne.symm he) hk
 .rcases zb2.1 hy with hy | hy
  .exact nd y (h.nd y hy)
  .obtain rfl:=zd0.1 hy;exact nd _ hs
 .rcases zb2.1 hy with hy | hy
  .exact h.sz y hy
  .obtain rfl:=zd0.1 hy;exact hsz
theorem RB.run(h:RB wB w f s t kf T sT gT rs sR gR)(hlen:rs.length<=1048576){r:Int×Int}{q:Addr}(hq:AtL w q (enR r)){K:Value->zg6}
  (hk:∀a' c' u g',RB wB u f s t kf T sT gT (rs++[r]) ⟨a',sR.n+1,c'⟩ g'->(∀k cur e,Blk w k cur e->e≠nS->Blk u k cur e)->K (.slice a' (sR.n+1) c') u) :
  dC prog (Builtin.append_ #[27,27] 27 #[.slice sR.a sR.n sR.c,.slice (some q) 1 1]) w K:=by
 have hRl:=aK.len (k:=2) (en:=enR) (λ_=>rfl) (by omega) h.rr;have hz:=h.fr.size;refine aK.mY SRn (λ_=>rfl) (by omega) h.rr (x:=r) hq (I5 _) (by simp only[maxLen];omega) (by omega) λa' c' g' u hrow hg _ ho=>?_;refine hk a' c' u g' ⟨h.fr.trans ho (λ_ _ h=>h) (λk _ hk=>by have hk':k+1=gR:=hk;have:=h.rB;show wB.heap.size<=k;omega),h.bf.mod ho (λhk=>dW h.rr h.bf (by decide) hk),h.tr.mod ho (og h.rr h.tr (by decide)),λy hy=>?_,hrow,h.gB,by have:=h.rB;omega,h.kB,h.sz⟩ λk cur e hb he=>hb.mod ho λhk=>dW h.rr hb (Ne.symm he) hk;refine((h.nd y hy).mod ho λk hk hk2=>?_).mono λk hk=>hk.mod ho λj c e hj he hj2=>?_
 .obtain⟨cur,hb⟩:=Row.blk h.rr hk2;exact hk.no hb ⟨by decide,by decide,by decide⟩ rfl
 .obtain⟨cur,hb⟩:=Row.blk h.rr hj2;have:=hb.ne hj
  rcases he with h | h | h <;> (rw[h]at this;exact absurd this (by decide))
end
section
variable{w u wB:World}{F:Nat->Prop}{s t:SH}{L:List AD}
variable{f:fC}{kf pb:Nat}{sT:SH}{gT:Nat}{rs:List (Int×Int)}{sR:SH}{gR:Nat}{x:kJ}{s1 s2 s3 s4:SH}{res:Option (List TD)}{R:VP}{b10:aN.T10}{bi:OA}{bj bk:Nat}{bl bm:Int}
set_option maxHeartbeats 2000000 in
theorem Qu(hb:jw F wB x s1 s2 s3 s4)(hF:∀b,F b->b<wB.heap.size)(hsm:x.sm)(htot:ui x.lists<=1073741824)(htwo:ui x.lists<=524287\/∀v∈x.values,v.length<=524288)(hthr:∀l∈x.lists,∀c∈l.numbers,c.thr<18446744073709551616)
  (hlv:x.values.length=x.leaves.length) (hlo:x.outputs.length=x.leaves.length)
  (hend:∀(u:World) (T:List (TD×SH)) (sT:SH) (gT:Nat),RB wB u f s t kf T sT gT rs sR gR->some (T.map (·.1))=res->inc bm λh=>b10 (some ⟨kf,0,none⟩) sT.a sT.n sT.c sR.a sR.n sR.c bi bj bk bl h u)
  (hbad:res=none->∀u,From wB.heap.size wB u->R (.tuple #[.slice none 0 0,.int .i64 150]) u) :
  ∀(k j:Nat) (w:World) (T:List (TD×SH)) (sT:SH) (gT:Nat),j+k=x.leaves.length->RB wB w f s t kf T sT gT rs sR gR->Blk w pb (mG x s1 s2 s3 s4).toArray tB'->ku x k j (T.map (·.1))=res->T.length+k<=1048576 ->
   aN.l34 R b10 (k+1) (some ⟨kf,0,none⟩) sT.a sT.n sT.c sR.a sR.n sR.c (some ⟨pb,0,none⟩) bi bj bk bl bm s1.a s1.n s1.c s1.n j w:=by
 intro k;obtain⟨m1,m2,m3,m4,m5,m6⟩:=id hsm;have e1:=hb.l.len;have e2:=hb.v.len;have e3:=hb.o.len
 induction k with
 |zero=>
  intro j w T sT gT hj h hbp hres hT;unfold aN.l34 aN.g34;refine aA (by omega) ?_;exact hend w T sT gT h hres
 |succ k ih=>
  intro j w T sT gT hj h hbp hres hT;unfold aN.l34 aN.g34;refine aH (by omega) ?_;have hz:=h.fr.size;have hA:=atB hbp;have hkw:Kept wB w:=zg4 h.fr;unfold ku at hres;refine(hb.l.kept hkw).rdI (by omega) (by omega) λy hy=>?_;rw[za3]at hy;have hyl:x.leaves.getD j 0=y:=by rw[za8,hy];rfl
  have none':(x.leaves.getD j 0<1\/x.leaves.getD j 0≠((x.values.getD j []).length:Int))->res=none:=λhh=>by
   have:sG x j=none:=by unfold sG;rw[if_pos hh]
   rw[this]at hres;exact hres.symm
  refine fJ (λh1=>hbad (none' (.inl (by rw[hyl];exact h1))) w h.fr) λh1=>?_;refine⟨_,_,_,hA 2 _ rfl,?_⟩;refine Ls.RQ (hb.v.kept hkw) (by omega) (by omega) λvs a' n' c' hvs hlvs=>?_;rw[za3]at hvs;have hvl:x.values.getD j []=vs:=by rw[za8,hvs];rfl
  have hnv:=hlvs.len;refine ja (λhne=>hbad (none' (.inr (by rw[hyl,hvl,<- hnv];exact hne))) w h.fr) λhe=>?_;have hx2:∃o,x.outputs[j]?=some o:=⟨_,za2 (by omega)⟩;obtain⟨oo,hoo⟩:=hx2;have hol:x.outputs.getD j 0=oo:=by rw[za8,hoo];rfl
  obtain⟨L,hL⟩:∃L,L=oz (j:Int) x.lists []:=⟨_,rfl⟩;have hLl:=uq (k:=(j:Int)) x.lists [];rw[zc6,<- hL]at hLl;have htree:sG x j=if(uy L vs).1 then some ⟨oo,(uy L vs).2⟩ else none:=by
   unfold sG;rw[if_neg (by rw[hyl,hvl];omega),hvl,hol,hL]
  have hsz:=λ(t:TD)=>F5 (b:=x) (i:=j) (t:=t) (hb:=hsm) hthr htwo;obtain⟨M,hM⟩:∃M,M=uy L vs:=⟨_,rfl⟩;rw[<- hM]at htree;have hgT:=Row.le h.tr;refine⟨FTr wB.heap.size w L oo M,FTr.keep,?_⟩;refine hA.ldB ⟨λH hH=>?_,λta tn tc h2=>?_⟩
  .have hzH:=hH.size;have hkH:Kept wB H:=zg1 hkw hH;refine zg0 (XF (k:=(j:Int)) ⟨hb.l.kept hkH,hb.v.kept hkH,hb.o.kept hkH,hb.t.kept hkH⟩ (λb hb=>by have:=hF b hb;omega) hsm htot) λv u ⟨s',g',hv,hr,hf⟩=>⟨s'.a,s'.n,s'.c,hv,⟨s',g',rfl,by rw[hL];exact hr.weak (by omega)⟩,zg4 hf⟩
  .refine⟨_,_,_,hA 2 _ rfl,?_⟩;refine Ls.RQ (hb.v.kept hkw) (by omega) (by omega) λvs2 a2 n2 c2 hvs2 hlvs2=>?_;rw[za3,hvs]at hvs2;obtain rfl:=zc2 hvs2;refine⟨_,_,_,hA 3 _ rfl,?_⟩;refine(hb.o.kept hkw).rdI (by omega) (by omega) λo2 ho2=>?_;rw[za3,hoo]at ho2;obtain rfl:=zc2 ho2;refine⟨λC hC h2C=>?_,λz0 z1 z2 z3 zb h13=>⟨λC hC=>⟨C.heap.size,rfl,Blk.new C _ _,hC.size⟩,λC hC D hD _ h13D h17D=>?_⟩⟩
   .obtain⟨s',g',hv',hr'⟩:=h2C;obtain⟨rfl,rfl,rfl⟩:ta=s'.a/\tn=s'.n/\tc=s'.c:=by simpa[SH.v] using hv'
    have hzC:=hC.size;have hvm:vs.length<=1048576:=m3 vs (za0 hvs);refine zg0 (Y3 (FA:=NdR wB.heap.size C) (FV:=F) (out:=oo) (hr'.ls (zb4 _)) (hlvs2.kept hC) (λb hb=>hb.lt) (λb hb=>by have:=hF b hb;omega) (by omega) hvm) λv u ⟨o,s5,hv,hok,hf⟩=>⟨o,s5.a,s5.n,s5.c,_,hv,⟨o,s5,by rw[hM],λhh=>?_⟩,zg4 hf⟩;rw[hM]at hh ⊢;refine⟨(hok hh).1,((hok hh).2).mono λb hb=>hb.elim (λh=>h.kept (zg4 hf)) λ⟨h1,cur,h2⟩=>⟨by omega,cur,_,h2,.inl rfl⟩⟩
   .obtain⟨o,s5,hv5,hok5⟩:=h13D;obtain⟨b,hvb,hbb,hsb⟩:=h17D;obtain rfl:C=⟨b,0,none⟩:=by simpa using hvb
    have hv5':(z0=o/\z1=s5.a/\z2=s5.n/\z3=s5.c)/\zb=M.1:=by simpa using hv5
    obtain⟨⟨rfl,rfl,rfl,rfl⟩,rfl⟩:=hv5';have hzD:=hD.size;have hD':=h.kept hD;refine wrA (e:=tT') (b:=b) (vs:=[.int .i64 z0,.slice s5.a s5.n s5.c]) hbb rfl λw4 hb4 ho4=>?_;have h4:=hD'.box hbb (by omega) (by omega) ho4
    cases hM1:M.1 with
    |false=>
     refine hbad ?_ w4 h4.fr;rw[hM1]at htree;rw[htree]at hres;exact hres.symm
    |true=>
     rw[hM1]at htree hok5;obtain⟨rfl,hls5⟩:=hok5 rfl;have htree':sG x j=some ⟨z0,M.2⟩:=htree;rw[htree']at hres;have hsz':=hsz _ htree';have hls4:Ls tN (NdR wB.heap.size w4) w4 s5.a s5.n s5.c M.2:=by
      refine(hls5.mod ho4 λk hk hk2=>hk.no hbb ⟨by decide,by decide,by decide⟩ (by have hk2':k+1=b+1:=hk2;omega)).mono λk hk=>hk.mod ho4 λj c e hj he hj2=>?_;have hj2':j+1=b+1:=hj2;obtain rfl:j=b:=by omega
      have:=hbb.ne hj
      rcases he with h | h | h <;> (rw[h]at this;exact absurd this (by decide))
     have hA4:=atB hb4;show jF w4 ⟨b,0,none⟩ _;refine⟨_,hA4 0 _ rfl,_,_,_,hA4 1 _ rfl,bZ ?_⟩;have hkn:=zg3 w4 (.cells (Aj ((⟨z0,M.2⟩:TD),(⟨s5.a,s5.n,s5.c⟩:SH))).toArray tT');have hAn:=AtL.new w4 (Aj ((⟨z0,M.2⟩:TD),(⟨s5.a,s5.n,s5.c⟩:SH))) tT';have hTl:=aK.KD h.tr;have hbp4:Blk w4 pb (mG x s1 s2 s3 s4).toArray tB':=(hbp.keep hD).mod ho4 λhk=>by
      have hk':pb+1=b+1:=hk;obtain rfl:pb=b:=by omega
      exact absurd ((hbp.keep hD).ne hbb) (by decide)
     refine(h4.kept hkn).push (td:=⟨z0,M.2⟩) (sn:=⟨s5.a,s5.n,s5.c⟩) (by omega) hAn ((hls4.kept hkn).mono λb hb=>hb.kept hkn) hsz' λa6 c6 u g6 hu hfb=>⟨a6,_,c6,rfl,aC (by omega) ?_⟩;refine ih (j+1) u _ ⟨a6,sT.n+1,c6⟩ g6 (by omega) hu (hfb _ _ _ (hbp4.keep hkn) (by decide)) (by rw[zb8];exact hres) (by rw[za6,zc7];omega)
end
section
variable{w u wB:World}{F:Nat->Prop}{B g:Nat}{s t:SH}
theorem tX{b:kJ}:∀(k i:Nat) (T T':List TD),ku b k i T=some T'->T'.length=T.length+k
 |0,i,T,T',h=>by
  unfold ku at h;rw[zc2 h,zd2]
 |k+1,i,T,T',h=>by
  unfold ku at h;split at h
  .cases h
  .have:=tX k (i+1) _ _ h;rw[za6,zc7]at this;omega
variable{f:fC}{kf:Nat}{T:List (TD×SH)}{sT:SH}{gT:Nat}{rs:List (Int×Int)}{sR:SH}{gR:Nat}
theorem RB.far{b e:Nat}{cur:Array Value}(h:RB wB w f s t kf T sT gT rs sR gR)(hb:Blk w b cur e)(he:e=Hw)(hB:wB.heap.size<=b)(ho:Only (b+1) w u):RB wB u f s t kf T sT gT rs sR gR:=by
 subst he;have ne:∀k,k+1=b+1->k=b:=λk hk=>by omega
 refine⟨From.then h.fr ho λk _ hk=>by have hk':k+1=b+1:=hk;omega,h.bf.mod ho λhk=>?_,h.tr.mod ho (eY hb h.tr (by decide)),λx hx=>?_,h.rr.mod ho (eY hb h.rr (by decide)),h.gB,h.rB,h.kB,h.sz⟩
 .obtain rfl:=ne kf hk;exact absurd (hb.ne h.bf) (by decide)
 .refine((h.nd x hx).mod ho λk hk hk2=>hk.no hb ⟨by decide,by decide,by decide⟩ (ne k hk2)).mono λk hk=>hk.mod ho λj c e hj he hj2=>?_;obtain rfl:=ne j hj2;have:=hb.ne hj
  rcases he with h | h | h <;> (rw[h]at this;exact absurd this (by decide))
def FBe(B n:Nat):Nat->Value->World->Prop:=λi v u=>match i with
 |2=>∃(a:Addr) (g:Nat),v = .slice (some a) n n/\Arr enS tS' u (some a) n n (List.replicate n ⟨#[]⟩) g/\B<g
 |9=>∃b,v = .pointer (some ⟨b,0,none⟩)/\Blk u b #[.string ⟨#[]⟩,.slice none 0 0,.int .i64 0,.slice none 0 0,.slice none 0 0] Hw/\B<=b
 |_=>True
theorem FBe.keep{n:Nat}(i:Nat)(v:Value)(u u':World)(h:FBe B n i v u)(hk:Below u.heap.size u u'):FBe B n i v u':=by
 unfold FBe at h ⊢;split at h
 .obtain⟨a,g,h1,h2,h3⟩:=h;exact⟨a,g,h1,h2.kept hk,h3⟩
 .obtain⟨b,h1,h2,h3⟩:=h;exact⟨b,h1,h2.keep hk,h3⟩
 .trivial
theorem UD(hz:∀x∈T,x.1.nodes.length<=1048576/\∀y∈x.1.nodes,OkN y):UT (T.map (·.1)):=λt ht y hy=>by
 obtain⟨x,hx,rfl⟩:=zd4.1 ht;exact((hz x hx).2 y hy).2
abbrev a0E:Value := .tuple #[.slice none 0 0,.int .i64 150]
set_option maxHeartbeats 2000000 in
theorem PV(hG:jr F wB f s t)(hF:∀b,F b->b<wB.heap.size)(h:RB wB w f s t kf T sT gT rs sR gR)(hT:T.length<=1048576)(hR:rs.length<=1048576)
  (hp:gJ f=if f.features<0\/f.features>65536 then none else if ofE (ig f (T.map (·.1))) rs=0/\ofP (ig f (T.map (·.1))) rs=f then some (T.map (·.1)) else none) {k:Nat} {i:Nat} (hi:t.n<=i) :
  aN.l10 (qK wB f) (k+1) (some ⟨kf,0,none⟩) sT.a sT.n sT.c sR.a sR.n sR.c t.a t.n t.c t.n i w:=by
 rw[aN.u10];unfold aN.g10;refine aA (by omega) ?_;have bad:gJ f=none->∀u,From wB.heap.size wB u->qK wB f a0E u:=λhh u hu=>⟨none,0,0,150,rfl,λ_=>⟨rfl,rfl,rfl,rfl⟩,λts ht=>(by rw[hh]at ht;cases ht),hu⟩;have hA:=atB h.bf;have hz:=h.fr.size;refine⟨_,hA 0 _ rfl,fJ (λh1=>bad (by rw[hp,if_pos (.inl h1)]) w h.fr) λh1=>?_⟩;refine⟨_,hA 0 _ rfl,fJ (λh2=>bad (by rw[hp,if_pos (.inr h2)]) w h.fr) λh2=>?_⟩;rw[if_neg (by omega)]at hp;refine⟨FBe wB.heap.size f.features.toNat,FBe.keep,_,hA 0 _ rfl,dK ⟨by omega,by omega,by omega,by omega⟩ ⟨λj hj=>?_,λfa fn fc h2'=>?_⟩⟩
 .have hm:=aK.made (α:=ByteArray) (k:=1) (en:=λx=>[enS x]) (x:=⟨#[]⟩) (vs := #[.string ⟨#[]⟩]) (λ_=>rfl) (by omega) rfl tS' j f.features.toNat (by simp only[maxLen];omega);have hzj:=hj.size;refine⟨na j,j.heap.size+1,rfl,?_,by omega⟩;have e:∀l:List ByteArray,l.flatMap (λx=>[enS x])=l.map enS:=λl=>by
   induction l with
   |nil=>rfl
   |cons x l ih=>rw[zd9,ih];rfl
  unfold aK at hm;rw[e]at hm;exact hm
 .refine⟨_,hA 1 _ rfl,_,_,_,hA 2 _ rfl,λq hq=>⟨q.heap.size,rfl,Blk.new q _ _,by have:=hq.size;omega⟩,λq _ r hr hr2 hr9=>?_⟩;obtain⟨a2,g2,e2,hfs,hg2⟩:=hr2;obtain⟨rfl,rfl,rfl⟩:fa=a2/\fn=f.features.toNat/\fc=f.features.toNat:=by simpa using e2
  obtain⟨b,e9,hb9,hB9⟩:=hr9;obtain rfl:q=⟨b,0,none⟩:=by simpa using e9
  have hzr:=hr.size;have h3:=h.kept hr;refine wrA (e:=Hw) (b:=b) (vs:=[.string ⟨#[]⟩,.slice (some fa) f.features.toNat f.features.toNat,.int .i64 f.outputs,s.v,sT.v]) hb9 rfl λw4 hb4 ho4=>?_;have h4:=h3.far hb9 rfl hB9 ho4;have hfs4:=hfs.mod ho4 (eY hb9 hfs (by decide));have hA4:=atB hb4;refine⟨_,hA4 0 _ rfl,_,_,_,hA4 1 _ rfl,_,hA4 2 _ rfl,_,_,_,hA4 3 _ rfl,_,_,_,hA4 4 _ rfl,?_⟩;have hsm:=hG.sm;have hsm1:=hsm.1;have hbl:=hG.bs.len;have hTl:=aK.KD h4.tr;have hRl:=aK.len (k:=2) (en:=enR) (λ_=>rfl) (by omega) h4.rr;have hE:rZ (λb=>b<w4.heap.size) w4 (ig f (T.map (·.1))) ⟨some fa,f.features.toNat,f.features.toNat⟩ s sT:=by
   refine⟨?_,?_,?_,λb hb=>hb,by show f.features.toNat<=_;omega,by omega,by omega,λx hx=>?_⟩
   .exact(Arr.ls (h1:=λ_=>rfl) hfs4).mono λb hb=>by have:=Row.le hfs4;omega
   .exact(From.ls hG.bs h4.fr hF).mono λb hb=>by have:=hF b hb;have:=h4.fr.size;omega
   .exact aK.lsT h4.tr (λb hb=>by have:=Row.le h4.tr;omega) λx hx=>(h4.nd x hx).mono λb hb=>hb.lt
   .obtain⟨y,hy,rfl⟩:=zd4.1 hx;exact⟨(h.sz y hy).1,λz hz=>((h.sz y hy).2 z hz).1⟩
  have hrs:Ls tR (λb=>b+1=gR) w4 sR.a sR.n sR.c rs:=by
   have:=aK.lsK (T:=tR) (f:=id) (en:=enR) (k:=2) (F:=λb=>b+1=gR) (λ_=>rfl) (by omega) rfl h4.rr (λb hb=>hb) (λx _=>rfl);simpa using this
  have hT0:UT (ig f (T.map (·.1))).trees:=UD h.sz;have hc:=UR hT0 hE hrs (λb hb=>by have:=Row.le h4.rr;omega) (by omega);refine zg0 hc λv u hh=>?_;obtain⟨s',k',hv,hfo,hku⟩:=hh;have hsmP:ofE (ig f (T.map (·.1))) rs=0->(ofP (ig f (T.map (·.1))) rs).sm:=λh0=>Uz h0 (λt ht=>(hE.good t ht).1) (λt ht=>(hE.good t ht).2);obtain⟨P,hP⟩:∃P,P=ofP (ig f (T.map (·.1))) rs:=⟨_,rfl⟩;rw[<- hP]at hfo hp hv hsmP;obtain⟨y,hy⟩:∃y,y=ofE (ig f (T.map (·.1))) rs:=⟨_,rfl⟩;rw[<- hy]at hp hv hsmP;refine za4 P.features (za4 P.outputs (za4 s'.a (za4 s'.n (za4 s'.c (za4 k'.a (za4 k'.n (za4 k'.c (za4 y ⟨hv,?_⟩))))))));refine boxS (zs:=(mr 0 0 none 0 0 none 0 0).toList) (vs:=jo P s' k') rfl λw75 hA5 hb75 hk75=>?_;have hkw:=zg1 hku hk75;have f75:From wB.heap.size wB w75:=h4.fr.aG hkw;refine ja (λhne=>bad (by rw[hp,if_neg (λhh=>hne hh.1)]) w75 f75) λh0=>?_;have hAf:=(atB h4.bf).kept hkw;refine⟨_,hAf 0 _ rfl,_,hAf 1 _ rfl,s.a,s.n,s.c,hAf 2 _ rfl,t.a,t.n,t.c,hAf 3 _ rfl,?_⟩;refine⟨_,hA5 0 _ rfl,_,hA5 1 _ rfl,s'.a,s'.n,s'.c,hA5 2 _ rfl,k'.a,k'.n,k'.c,hA5 3 _ rfl,?_⟩;have hGP:jr (λb=>w4.heap.size<=b/\b<u.heap.size) w75 P s' k':=⟨hfo.b.kept hk75,hfo.k.kept hk75,hsmP h0⟩;have hGf:jr F w75 f s t:=⟨From.ls hG.bs f75 hF,From.ls hG.ks f75 hF,hG.sm⟩;refine zg0 (BQ hGf hGP) λv u2 ⟨hv,hk2⟩=>⟨_,hv,?_⟩;have hk2w:=zg1 hkw hk2
  by_cases heq:f=P
  .rw[iG heq];refine GG ?_;rw[if_pos ⟨h0,heq.symm⟩]at hp;refine⟨sT.a,sT.n,sT.c,0,rfl,λhh=>(by rw[hp]at hh;cases hh),λts hts=>⟨rfl,?_⟩,f75.aG hk2⟩;rw[hp]at hts;cases hts;have hs2:=hk2w.size;have hlt:=Row.le h4.tr;have hgB:=h4.gB;refine aK.lsT (h4.tr.kept hk2w) (λb hb=>⟨by omega,by omega⟩) λx hx=>((h4.nd x hx).kept hk2w).mono λb hb=>⟨hb.1,by have:=hb.lt;omega⟩
  .rw[dG heq];exact LW (bad (by rw[hp,if_neg (λhh=>heq hh.2.symm)]) u2 (f75.aG hk2))
end
section
variable{w u w1 wB:World}{F:Nat->Prop}{s t:SH}
variable{f:fC}{kf:Nat}
set_option maxHeartbeats 1000000 in
theorem Oj(hG:jr F wB f s t)(hS:SmF f)(hR:SmR f)(hF:∀b,F b->b<wB.heap.size){res:Option (List TD×List (Int×Int))}
  (hp:gJ f=res.bind λp=>if f.features<0\/f.features>65536 then none else if ofE (ig f p.1) p.2=0/\ofP (ig f p.1) p.2=f then some p.1 else none) :
  ∀(k i:Nat) (w:World) (T:List (TD×SH)) (sT:SH) (gT:Nat) (rs:List (Int×Int)) (sR:SH) (gR:Nat),i+k=t.n->RB wB w f s t kf T sT gT rs sR gR->T.length+trT (f.blocks.drop i)<=1048576->rs.length=i->kF (f.blocks.drop i) (T.map (·.1)) rs=res ->
   aN.l10 (qK wB f) (k+1) (some ⟨kf,0,none⟩) sT.a sT.n sT.c sR.a sR.n sR.c t.a t.n t.c t.n i w:=by
 intro k;have hkl:=hG.ks.len;have hsm2:=hG.sm.2.1;have bad:gJ f=none->∀u,From wB.heap.size wB u->qK wB f a0E u:=λhh u hu=>⟨none,0,0,150,rfl,λ_=>⟨rfl,rfl,rfl,rfl⟩,λts ht=>(by rw[hh]at ht;cases ht),hu⟩
 induction k with
 |zero=>
  intro i w T sT gT rs sR gR hi h hT hr hres;obtain rfl:i=t.n:=by omega
  rw[List.drop_eq_nil_of_le (by omega)]at hres;refine PV hG hF h (by omega) (by omega) ?_ (zb4 _);rw[hp,<- hres];rfl
 |succ k ih=>
  intro i w T sT gT rs sR gR hi h hT hr hres;rw[aN.u10];unfold aN.g10;refine aH (by omega) ?_;have hz:=h.fr.size;refine(From.ls hG.ks h.fr hF).rdB (by omega) (by omega) λx b1 m1 d1 b2 m2 d2 b3 m3 d3 b4 m4 d4 hx h1 h2 h3 h4=>?_;rw[za3]at hx;have hxm:=za0 hx;have hdrop:f.blocks.drop i=x::f.blocks.drop (i+1):=by
   obtain⟨hlt,rfl⟩:=za1.1 hx;exact zb0 hlt
  rw[hdrop]at hres hT;have htr:trT (x::f.blocks.drop (i+1))=x.leaves.length+trT (f.blocks.drop (i+1)):=rfl;unfold kF at hres;refine boxS (zs:=(nD 0 none 0 0 none 0 0 none 0 0 none 0 0).toList) (vs:=mG x ⟨b1,m1,d1⟩ ⟨b2,m2,d2⟩ ⟨b3,m3,d3⟩ ⟨b4,m4,d4⟩) (e:=tB') rfl λw1 hA hb1 hk1=>?_;have hz1:=hk1.size;have hf1:=h.fr.aG hk1;have e1:=h1.len;have e2:=h2.len;have e3:=h3.len;have none':(x.values.length≠x.leaves.length\/x.outputs.length≠x.leaves.length)->gJ f=none:=λhh=>by
   rw[if_pos hh]at hres;rw[hp,<- hres];rfl
  refine⟨_,_,_,hA 2 _ rfl,_,_,_,hA 1 _ rfl,ja (λhne=>bad (none' (.inl (by have h':(m2:Int)≠(m1:Int):=hne;omega))) w1 hf1) λhe1'=>?_⟩;have he1:(m2:Int)=(m1:Int):=he1';refine⟨_,_,_,hA 3 _ rfl,_,_,_,hA 1 _ rfl,ja (λhne=>bad (none' (.inr (by have h':(m3:Int)≠(m1:Int):=hne;omega))) w1 hf1) λhe2'=>?_⟩;have he2:(m3:Int)=(m1:Int):=he2';rw[if_neg (by omega)]at hres;refine⟨_,hA 0 _ rfl,_,hA 0 _ rfl,_,_,_,hA 1 _ rfl,?_⟩;obtain⟨to,hto⟩:∃to,to=IntKind.i64.wrap (x.first+((m1:Nat):Int)):=⟨_,rfl⟩;refine nH hto.symm (bZ ?_);have hkn:=zg3 w1 (.cells (enR (x.first,to)).toArray nS);have hAn:=AtL.new w1 (enR (x.first,to)) nS;refine((h.kept hk1).kept hkn).run (r:=(x.first,to)) (by omega) hAn λa5 c5 u g5 hu hfb=>⟨a5,_,c5,rfl,?_⟩;have hbu:Blk u w.heap.size (mG x ⟨b1,m1,d1⟩ ⟨b2,m2,d2⟩ ⟨b3,m3,d3⟩ ⟨b4,m4,d4⟩).toArray tB':=hfb _ _ _ (hb1.keep hkn) (by decide);have hAu:=atB hbu;refine⟨_,_,_,hAu 1 _ rfl,?_⟩;have hi0:jw F wB x ⟨b1,m1,d1⟩ ⟨b2,m2,d2⟩ ⟨b3,m3,d3⟩ ⟨b4,m4,d4⟩:=by
   have back:∀b,F b->b<w.heap.size->wB.heap[b]?=w.heap[b]?:=λb hb _=>(h.fr.block b (hF b hb) (by have:=hF b hb;omega)).symm;exact⟨Ls.keep h1 back,Ls.keep h2 back,Ls.keep h3 back,Ls.keep h4 back⟩
  have hto':IntKind.i64.wrap (x.first+(x.leaves.length:Int))=to:=by rw[hto,e1]
  rw[hto']at hres;refine za4 (m1+1) (Qu (s1:=⟨b1,m1,d1⟩) (s2:=⟨b2,m2,d2⟩) (s3:=⟨b3,m3,d3⟩) (s4:=⟨b4,m4,d4⟩) (res:=ku x x.leaves.length 0 (T.map (·.1))) (sR:=⟨a5,sR.n+1,c5⟩) hi0 hF (hG.sm.2.2 x hxm) (hR.tot x hxm) (hR.two x hxm) (hR.thr x hxm) (by omega) (by omega) (λv T' sT' gT' hv hrv=>aC (by omega) ?_) (λhn v hfv=>bad ?_ v hfv) m1 0 u T sT gT (by omega) hu hbu (by rw[e1]) (by omega))
  .have hl':=tX _ _ _ _ hrv.symm;rw[za7,za7]at hl';rw[<- hrv]at hres;refine ih (i+1) v T' sT' gT' (rs++[(x.first,to)]) ⟨a5,sR.n+1,c5⟩ g5 (by omega) hv (by omega) (by rw[za6,zc7];omega) hres
  .rw[hn]at hres;rw[hp,<- hres];rfl
theorem Fh(hG:jr F w f s t)(hS:SmF f)(hR:SmR f)(hF:∀b,F b->b<w.heap.size):E.CallsD prog 16 #[vF f s t] w (qK w f):=by
 refine aN.calls (R:=qK w f) ?_;unfold aN aN.g0;refine bZ ?_;have hbk:Blk (w.alloc (.cells (jo f s t).toArray jb)) w.heap.size (jo f s t).toArray jb:=Blk.new w _ _;have hk1:=zg3 w (.cells (jo f s t).toArray jb);change cL (w.alloc (.cells (jo f s t).toArray jb)) _ _;generalize w.alloc (.cells (jo f s t).toArray jb)=w1 at hbk hk1;have hA:=atB hbk;refine⟨_,_,_,hA 3 _ rfl,?_⟩;have hts:=hS.trs;refine za4 (t.n+1) (Oj (res:=kF f.blocks [] []) hG hS hR hF (by rw[<- Jp];rfl) t.n 0 w1 [] ⟨none,0,0⟩ 0 [] ⟨none,0,0⟩ 0 (by omega) ⟨Kept.mod hk1,hbk,aK.nil _ _ _ _,(λ_ h=>by cases h),aK.nil _ _ _ _,.inl rfl,.inl rfl,zb4 _,(λ_ h=>by cases h)⟩ (by simpa using hts) rfl rfl)
end
theorem Fq{f:fC}:∀(d i k:Nat),(∀j,i<j->j<=i+d->gJ (headB f j)≠none)->gJ (headB f (i+d+1))=none->d<k->xK f k i=(150,((i+d:Nat):Int))
 |0,i,k+1,_,h2,_=>by
  unfold xK;rw[zd2]at h2;rw[h2];rfl
 |d+1,i,k+1,h1,h2,hk=>by
  have:=h1 (i+1) (by omega) (by omega);unfold xK
  cases hb:gJ (headB f (i+1)) with
  |none=>exact absurd hb this
  |some ts=>
   simp only;rw[Fq d (i+1) k (λj hj1 hj2=>h1 j (by omega) (by omega)) (by rw[show i+1+d+1=i+(d+1)+1 by omega];exact h2) (by omega),show i+1+d=i+(d+1) by omega]
theorem Qe{f:fC}{n:Nat}(h:f.blocks.length<=n):headB f n=f:=by
 unfold headB;rw[zb1 h]
theorem PR{f:fC}{n:Nat}(h0:gJ f=none)(h1:∀m,m<n->gJ (headB f m)≠none)(h2:gJ (headB f n)=none)(hn:n<=f.blocks.length):lM f=(150,((n - 1:Nat):Int)):=by
 unfold lM;rw[h0];simp only
 cases n with
 |zero=>rw[h2];rfl
 |succ n=>
  cases hb:gJ (headB f 0) with
  |none=>exact absurd hb (h1 0 (by omega))
  |some ts=>
   simp only;rw[Fq n 0 f.blocks.length (λj hj1 hj2=>h1 j (by omega)) (by rw[zd1];exact h2) (by omega),zd1,Nat.add_sub_cancel]
theorem SmR.cut{f:fC}(h:SmR f)(n:Nat):SmR (headB f n) :=
 ⟨λb hb=>h.tot b (zf3 hb),λb hb=>h.two b (zf3 hb),λb hb=>h.thr b (zf3 hb)⟩
section
variable{w w0 u w1:World}{F:Nat->Prop}{s t:SH}{f:fC}
theorem Ig{K:Int->zg6}(hG:jr F w f s t)(hS:SmF f)(hR:SmR f)(hF:∀b,F b->b<w.heap.size)(h0:gJ f=none->∀u,Kept w u->K 150 u)(h1:gJ f≠none->∀u,Kept w u->K 0 u) :
  E.CallsD prog 16 #[vF f s t] w λv u=>∃a n c x,v = .tuple #[.slice a n c,.int .i64 x]/\K x u:=by
 refine zg0 (Fh hG hS hR hF) λv u hh=>?_;obtain⟨a,n,c,why,hv,k0,k1,hfr⟩:=hh;refine⟨a,n,c,why,hv,?_⟩;have hk:=zg4 hfr
 cases hb:gJ f with
 |none=>rw[(k0 hb).1];exact h0 hb u hk
 |some ts=>rw[(k1 ts hb).1];exact h1 (by rw[hb];exactλh=>by cases h) u hk
theorem IG{kf k6 i:Nat}{w:World}{s6:SH}{b18:aY.T18}(hG:jr F w0 f s t)(hS:SmF f)(hR:SmR f)(hF:∀b,F b->b<w0.heap.size)(h06:w0.heap.size<=k6)(hne:kf≠k6)(hn0:gJ f=none)
  (hi:i<=t.n) (hfr:From w0.heap.size w0 w) (hbf:Blk w kf (jo f s t).toArray jb) (hb6:Blk w k6 (jo f s s6).toArray jb) (hall:∀m,m<i->gJ (headB f m)≠none)
  (hnext:∀u s6',From w0.heap.size w0 u->Blk u kf (jo f s t).toArray jb->Blk u k6 (jo f s s6').toArray jb->gJ (headB f i)≠none->inc (i:Int) λc=>b18 (some ⟨kf,0,none⟩) (some ⟨k6,0,none⟩) c u) :
  aY.g18 (CkA w0 (lM f)) b18 (some ⟨kf,0,none⟩) (some ⟨k6,0,none⟩) i w:=by
 have hl:=hG.ks.len;have hsm2:=hG.sm.2.1;unfold aY.g18;have hA:=atB hbf;refine⟨_,_,_,hA 3 _ rfl,aH (by omega) ⟨_,_,_,hA 3 _ rfl,dK ⟨by omega,by have:=hG.ks.cap;omega⟩ ?_⟩⟩;rw[lC,za3];have bs:=hb6.set 3 (.slice t.a i t.c);have hos:=zg5 w k6 3 (.slice t.a i t.c);have e1:(((⟨k6,0,none⟩:Addr).add 3).add 0)=⟨k6,3,none⟩:=by rw[addr_add,addr_add]
 show st w (((⟨k6,0,none⟩:Addr).add 3).add 0) _ _;rw[e1];refine⟨hb6.ok (by simp),bZ ?_⟩;generalize w.setCell ⟨k6,3,none⟩ (.slice t.a i t.c)=w2 at bs hos;have bs':Blk w2 k6 (jo (headB f i) s ⟨t.a,i,t.c⟩).toArray jb:=bs;have hbf2:=hbf.mod hos (λhk=>by have hk':kf+1=k6+1:=hk;omega);have hfr2:From w0.heap.size w0 w2:=From.then hfr hos λk _ h2=>by have h2':k+1=k6+1:=h2;omega
 have hA6:=atB bs';refine⟨_,hA6 0 _ rfl,_,hA6 1 _ rfl,s.a,s.n,s.c,hA6 2 _ rfl,t.a,i,t.c,hA6 3 _ rfl,?_⟩;have hG0:jr F w2 f s t:=⟨From.ls hG.bs hfr2 hF,From.ls hG.ks hfr2 hF,hG.sm⟩;have hF2:∀b,F b->b<w2.heap.size:=λb hb=>by have:=hF b hb;have:=hfr2.size;omega
 refine Ig (s:=s) (t:=⟨t.a,i,t.c⟩) (IU hG0 hS hi) (hS.cut i) (hR.cut i) hF2 (λhb u hk=>?_) λhb u hk=>?_
 .refine IP (by omega) ?_;have hC:=PR hn0 hall hb (by omega);have hku:Kept w0 u:=zg4 (hfr2.aG hk);refine nN (λh0=>?_) λh0=>?_
  .have:i=0:=by omega
   subst this;exact⟨by rw[hC];rfl,hku⟩
  .refine nH (y:=((i - 1:Nat):Int)) (by rw[l9 (by omega) (by omega)];omega) ⟨by rw[hC],hku⟩
 .refine sH (by omega) ?_;exact hnext u ⟨t.a,i,t.c⟩ (hfr2.aG hk) (hbf2.keep hk) (bs'.keep hk) hb
theorem LM{kf k6:Nat}(hG:jr F w0 f s t)(hS:SmF f)(hR:SmR f)(hF:∀b,F b->b<w0.heap.size)(h06:w0.heap.size<=k6)(hne:kf≠k6)(hn0:gJ f=none) :
  ∀(k i:Nat) (w:World) (s6:SH),i+k=t.n->From w0.heap.size w0 w->Blk w kf (jo f s t).toArray jb->Blk w k6 (jo f s s6).toArray jb->(∀m,m<i->gJ (headB f m)≠none) ->
   aY.l18 (CkA w0 (lM f)) (k+1) (some ⟨kf,0,none⟩) (some ⟨k6,0,none⟩) i w:=by
 intro k;have hl:=hG.ks.len;have hsm2:=hG.sm.2.1
 induction k with
 |zero=>
  intro i w s6 hi hfr hbf hb6 hall;obtain rfl:i=t.n:=by omega
  rw[aY.u18];exact IG hG hS hR hF h06 hne hn0 (zb4 _) hfr hbf hb6 hall λu s6' _ _ _ hb=>absurd (by rw[Qe (by omega)];exact hn0) hb
 |succ k ih=>
  intro i w s6 hi hfr hbf hb6 hall;rw[aY.u18];exact IG hG hS hR hF h06 hne hn0 (by omega) hfr hbf hb6 hall λu s6' hfu hfb h6 hb=>aC (by omega) (ih (i+1) u s6' (by omega) hfu hfb h6 λm hm=>by
   by_cases h:m=i
   .subst h;exact hb
   .exact hall m (by omega))
theorem KP(hG:jr F w f s t)(hS:SmF f)(hR:SmR f)(hF:∀b,F b->b<w.heap.size):E.CallsD prog 18 #[vF f s t] w (CkA w (lM f)):=by
 refine aY.calls (R:=CkA w (lM f)) ?_;unfold aY aY.g0;refine bZ ?_;have hbk:Blk (w.alloc (.cells (jo f s t).toArray jb)) w.heap.size (jo f s t).toArray jb:=Blk.new w _ _;have hk1:=zg3 w (.cells (jo f s t).toArray jb);change mV (w.alloc (.cells (jo f s t).toArray jb)) _ _;have hz:(w.alloc (.cells (jo f s t).toArray jb)).heap.size=w.heap.size+1:=by simp
 generalize w.alloc (.cells (jo f s t).toArray jb)=w1 at hbk hk1 hz;have A1:=atB hbk;have hF1:∀ {u:World},Kept w u->∀b,F b->b<u.heap.size:=λhk b hb=>by have:=hF b hb;have:=hk.size;omega
 refine⟨_,A1 0 _ rfl,_,A1 1 _ rfl,s.a,s.n,s.c,A1 2 _ rfl,t.a,t.n,t.c,A1 3 _ rfl,?_⟩;refine Ig (hG.kept hk1) hS hR (hF1 hk1) (λhb u hk=>?_) λhb u hk=>?_
 .refine xN (by omega) ?_;have hk2:=zg1 hk1 hk;have A2:=A1.kept hk;have hks:=hk.size;refine⟨_,A2 0 _ rfl,_,A2 1 _ rfl,s.a,s.n,s.c,A2 2 _ rfl,t.a,t.n,t.c,A2 3 _ rfl,?_⟩;refine boxS (zs:=(mr 0 0 none 0 0 none 0 0).toList) (vs:=jo f s t) (e:=jb) rfl λw3 hA3 be3 hk3=>?_;exact za4 (t.n+1) (LM hG hS hR hF (k6:=u.heap.size) (kf:=w.heap.size) (by omega) (by omega) hb t.n 0 w3 t (by omega) (Kept.mod (zg1 hk2 hk3)) ((hbk.keep hk).keep hk3) be3 λm hm=>by omega)
 .refine kQ (by omega) ?_;refine⟨?_,zg1 hk1 hk⟩
  cases hb2:gJ f with
  |none=>exact absurd hb2 hb
  |some ts=>
   unfold lM;rw[hb2]
end
end Go.Mir
