/- Part of a proof; no conditions. -/
import Derived.Test.YtmjlipmapfofmaaGreatFC
import Derived.Test.YtmjlipmapfofmaaGreatTD
set_option linter.unusedVariables false
set_option linter.unusedSimpArgs false
set_option linter.unusedSectionVars false
set_option maxRecDepth 100000
open Go.Proofs.Tryz (prog)
namespace Go.Mir
open Go Go.E Go.RowKit Go.Tr Go.Ss Go.ChangeShapes
def qF(f:Int)(cat:Bool)(lost:List cZ)(c:cZ):AD:=⟨⟨if cat then 3 else 2,0,f,c.thr,c.aT,if 0<lost.countP (λx=>decide (uO f x=uO f c)) then 2 else 1,0,0⟩,c.frm,c.to⟩
def sW(ask:cZ->AD):List cZ->List (List AD)->Option (List (List AD))
 | [],N=>some N
 |c::cs,N=>if 0<=c.tree/\c.tree<N.length then sW ask cs (N.set c.tree.toNat (N.getD c.tree.toNat []++[ask c])) else none
abbrev dR(r:RA):List AD:=r.2.1.map (·.1)
section
variable{w u x:World}{a a4:OA}{n c n4 c4 g:Nat}{p:Addr}{B mb:Nat}{L:List (KC×Value)}{lost:List cZ}{rows:List RA}
def VK(a4:OA)(n4:Nat)(p6:OA)(m7:Option Nat)(pb q147:Addr)(K:zg6)(w150:World):Prop :=
 cI w150 (pb.add 2) .i64 λx151' =>
 cI w150 (pb.add 3) .i64 λx152' =>
 cI w150 (pb.add 4) .i64 λx153' =>
 aV p6 λq154=>
 cI w150 (q154.add 0) .i64 λx155' =>
 dC prog (Instr.lookup 109 (.map m7) (Lj x151' x152' x153' x155') false) w150 λv156 u157=>
  ∃x158',v156 = .int .i64 x158' /\
   (af (decide (x158'>0))
    (st u157 ((q147.add 5).add 0) (.int .u8 2) λw159=>YE a4 n4 pb q147 K w159)
    (YE a4 n4 pb q147 K u157))
theorem Vb{K:zg6}{k1:Int}{s sc s1 s2 s3:SH}{ls:dL}{ct:cZ}{t kL bq:Nat}(hW:lQ B w a4 n4 c4 g rows)(hB:B<=w.heap.size)(ht:t<rows.length)(htt:ct.tree=t)(hlen:∀r∈rows,r.2.1.length<=549755813888)(hp:AtL w p (enC ct sc))(hpb:¬ Nd w p.block)(hpq:p.block≠bq)
  (hq:Blk w bq #[.int .u8 k1,.int .i64 0,.int .i64 ls.feature,.float .f64 ct.thr,s.v,.int .u8 1,.int .i64 0,.int .i64 0] tN') (hBq:B<=bq) (hcs:LsI (UE B w) w s.a s.n s.c ct.aT) (hkL:Blk w kL (enL ls s1 s2 s3).toArray tL') (hM:ji Ah w mb L) (hC:Cnt ls.feature lost L) (hBm:B<=mb)
  (hk:∀u r r',rows[t]?=some r->r'.2.1=r.2.1++[(⟨⟨k1,0,ls.feature,ct.thr,ct.aT,if 0<lost.countP (λx=>decide (uO ls.feature x=uO ls.feature ct)) then 2 else 1,0,0⟩,ct.frm,ct.to⟩,s)]->lQ B u a4 n4 c4 g (rows.set t r')->Mod (λk=>B<=k/\(k=bq\/Nd w k)) w u->K u) :
  VK a4 n4 (some ⟨kL,0,none⟩) (some mb) p ⟨bq,0,none⟩ K w:=by
 unfold VK;refine⟨_,hp 2 _ rfl,_,hp 3 _ rfl,_,hp 4 _ rfl,?_⟩;refine⟨_,by rw[addr_add,hkL.cell];rfl,?_⟩;show dC prog (Instr.lookup 109 (.map (some mb)) (Ah (uO ls.feature ct)) false) w _;refine ji.lookup VG t120 zI hM ⟨_,hC _,?_⟩;have hnq:¬ Nd w bq:=λ⟨cur,e,hb,he⟩=>by
  have:=hq.ne hb
  rcases he with rfl | rfl
  .exact absurd this (by decide)
  .exact absurd this (by decide)
 refine fJ (λh=>?_) λh=>?_
 .have hq2:=hq.set 5 (.int .u8 2);have ho:=zg5 w bq 5 (.int .u8 2);have e1:(((⟨bq,0,none⟩:Addr).add 5).add 0)=⟨bq,5,none⟩:=by rw[addr_add,addr_add]
  rw[e1];refine⟨hq.ok (by simp),bZ ?_⟩;have hsz:(w.setCell ⟨bq,5,none⟩ (.int .u8 2)).heap.size=w.heap.size:=gV _ _ _;generalize w.setCell ⟨bq,5,none⟩ (.int .u8 2)=w2 at hq2 ho hsz;have nd2:∀k,k≠bq->Nd w2 k->Nd w k:=λk hk ⟨cur,e,hb,he⟩=>by
   refine⟨cur,e,?_,he⟩
   by_cases hkw:k<w.heap.size
   .have:=ho.block k hkw (λh=>hk (by have h':k+1=bq+1:=h;omega));unfold Blk at hb ⊢;rw[<- this];exact hb
   .have:=hb.lt;omega
  have hnq2:¬ Nd w2 bq:=λ⟨cur,e,hb,he⟩=>by
   have:=hq2.ne hb
   rcases he with rfl | rfl
   .exact absurd this (by decide)
   .exact absurd this (by decide)
  have blk2:∀ {b:Nat} {cs:Array Value} {e:Nat},Blk w b cs e->e≠tN'->Blk w2 b cs e:=λhb he=>hb.mod ho λhk=>by
   have hk':_+1=bq+1:=hk;obtain rfl:=Nat.succ.inj hk';exact he (hb.ne hq)
  have hW2:lQ B w2 a4 n4 c4 g rows:=by
   refine⟨hW.own.mod ho (λj hj hk=>?_) (λr hr j hj hk=>?_),λr hr x hx=>?_⟩
   .have hk':j+1=bq+1:=hk;obtain rfl:=Nat.succ.inj hk';exact hnq (hW.outer hj).2
   .have hk':j+1=bq+1:=hk;obtain rfl:=Nat.succ.inj hk';exact hnq (hW.row hr hj).2
   .refine((hW.ct r hr x hx).mod ho λb hb hk=>?_).mono λb ⟨h1,cur,h2⟩=>⟨h1,cur,blk2 h2 (by decide)⟩;obtain⟨_,cur,hb⟩:=hb;have hk':b+1=bq+1:=hk;obtain rfl:=Nat.succ.inj hk';exact absurd (hb.ne hq) (by decide)
  refine U4 (nd:=⟨k1,0,ls.feature,ct.thr,ct.aT,2,0,0⟩) (s:=s) (ct:=ct) (sc:=sc) hW2 (by omega) ht htt hlen (hp.mod ho λhk=>hpq (by have hk':p.block+1=bq+1:=hk;omega)) (λhn=>hpb (nd2 _ hpq hn)) ?_ hnq2 ?_ λu r r' h1 h2 h3 h4=>?_
  .intro j v hj;have hj':[Value.int .u8 k1,.int .i64 0,.int .i64 ls.feature,.float .f64 ct.thr,s.v,.int .u8 2,.int .i64 0,.int .i64 0][j]?=some v:=hj;rw[addr_add,zd1,hq2.cell];simpa using hj'
  .refine(hcs.mod ho λb hb hk=>?_).mono λb ⟨h1,cur,h2⟩=>⟨h1,cur,blk2 h2 (by decide)⟩;obtain⟨_,cur,hb⟩:=hb;have hk':b+1=bq+1:=hk;obtain rfl:=Nat.succ.inj hk';exact absurd (hb.ne hq) (by decide)
  .refine hk u r r' h1 ?_ h3 (zg2 ho h4 (λk _ hk=>?_) (λk _ hk=>?_))
   .rw[h2,if_pos (by omega)]
   .have hk':k+1=bq+1:=hk;obtain rfl:=Nat.succ.inj hk';exact⟨hBq,.inl rfl⟩
   .by_cases hkq:k=bq
    .exact⟨hk.1,.inl hkq⟩
    .exact⟨hk.1,.inr (nd2 k hkq hk.2)⟩
 .refine U4 (nd:=⟨k1,0,ls.feature,ct.thr,ct.aT,1,0,0⟩) (s:=s) (ct:=ct) (sc:=sc) hW hB ht htt hlen hp hpb ?_ hnq hcs λu r r' h1 h2 h3 h4=>?_
  .intro j v hj;have hj':[Value.int .u8 k1,.int .i64 0,.int .i64 ls.feature,.float .f64 ct.thr,s.v,.int .u8 1,.int .i64 0,.int .i64 0][j]?=some v:=hj;rw[addr_add,zd1,hq.cell];simpa using hj'
  .refine hk u r r' h1 ?_ h3 (h4.weak λk _ hk=>⟨hk.1,.inr hk.2⟩);rw[h2,if_neg (by omega)]
end
section
variable{w w0 u wB x:World}{a a4:OA}{n c n4 c4 g:Nat}{F S:Nat->Prop}{p:Addr}{mb:Nat}{L:List (KC×Value)}{l lost:List cZ}{R:VP}{rows:List RA}
theorem VI(h:Kept w u){k:Nat}(hk:k<w.heap.size)(hn:Nd u k):Nd w k:=by
 obtain⟨cur,e,hb,he⟩:=hn;refine⟨cur,e,?_,he⟩;have:=h.block k hk;unfold Blk at hb ⊢;rw[<- this];exact hb
def KG(w133:World)(cs:List Int):Nat->Value->World->Prop:=λi v u=>match i with
 |6=>∃(a:OA) (n c g:Nat),v = .slice a n c/\Arr enI tI' u a n c cs g/\(g=0\/w133.heap.size<g)
 |8=>∃b,v = .pointer (some ⟨b,0,none⟩)/\w133.heap.size<=b/\Blk u b #[.int .u8 0,.int .i64 0,.int .i64 0,.float .f64 0,.slice none 0 0,.int .u8 0,.int .i64 0,.int .i64 0] tN'
 |_=>True
theorem KG.keep{w133:World}{cs:List Int}(i:Nat)(v:Value)(u u':World)(h:KG w133 cs i v u)(hk:Below u.heap.size u u'):KG w133 cs i v u':=by
 unfold KG at h ⊢;split at h
 .obtain⟨a,n,c,g,h1,h2,h3⟩:=h;exact⟨a,n,c,g,h1,h2.kept hk,h3⟩
 .obtain⟨b,h1,h2,h3⟩:=h;exact⟨b,h1,h2,h3.keep hk⟩
 .trivial
theorem qR(ask:cZ->AD)(x:cZ)(cs:List cZ)(N:List (List AD)):sW ask (x::cs) N=if 0<=x.tree/\x.tree<N.length then sW ask cs (N.set x.tree.toNat (N.getD x.tree.toNat []++[ask x])) else none:=rfl
theorem Dj{b16:aF.T16}{b49:aF.T49}{p1 a41 a74 a81:OA}{n41 c41 n74 c74 n81 c81 kL:Nat}{x10 x42 x43 x75 x76:Int}{ls:dL}{s1 s2 s3:SH}{res:Option (List (List AD))}{M:Nat}
  (hls:Ls tC F wB a81 n81 c81 l) (hF:∀b,F b->b<wB.heap.size) (hsm:l.length<=1073741824) (hcsm:∀x∈l,x.aT.length<=1048576) (hb0:From wB.heap.size wB w0) (hMl:M+l.length<=549755813888)
  (hbox:Blk w0 kL (enL ls s1 s2 s3).toArray tL') (hM:ji Ah w0 mb L) (hC:Cnt ls.feature lost L) (hmb:wB.heap.size<=mb)
  (hfail:res=none->∀u,Fr wB.heap.size w0 u->R (.tuple #[.slice none 0 0,.bool false]) u)
  (hdone:∀N,res=some N->∀u rows',Fr wB.heap.size w0 u->lQ wB.heap.size u a4 n4 c4 g rows'->rows'.map dR=N->(∀r∈rows',r.2.1.length<=M+l.length)->rows'.length=n4->inc x76 λt=>b49 p1 a4 n4 c4 (some ⟨kL,0,none⟩) (some mb) a41 n41 c41 x42 x43 a74 n74 c74 x75 t u) :
  ∀(k i:Nat) (w:World) (rows:List RA),i+k=n81->Fr wB.heap.size w0 w->lQ wB.heap.size w a4 n4 c4 g rows->(∀r∈rows,r.2.1.length<=M+i)->sW (qF ls.feature (x10==1) lost) (l.drop i) (rows.map dR)=res ->
   aF.l63 R b16 b49 (k+1) p1 a4 n4 c4 (some ⟨kL,0,none⟩) (some mb) x10 a41 n41 c41 x42 x43 a74 n74 c74 x75 x76 a81 n81 c81 n81 i w:=by
 intro k;have hll:=hls.len
 induction k with
 |zero=>
  intro i w rows hi hfr hW hlen hres;obtain rfl:i=n81:=by omega
  rw[List.drop_eq_nil_of_le (by omega)]at hres;unfold aF.l63 aF.g63;exact aA (by omega) (hdone _ hres.symm w rows hfr hW rfl (λr hr=>by have:=hlen r hr;omega) hW.own.len.symm)
 |succ k ih=>
  intro i w rows hi hfr hW hlen hres;unfold aF.l63 aF.g63;refine aH (by omega) ?_;have hfw:From wB.heap.size wB w:=hb0.trans hfr.from zg7 zg7;obtain⟨p,x,cs,rfl,hx,hFp,⟨s,e,hcB⟩,hA0⟩:=hls.elem (i:=i) (by omega);subst e;have hA:=hA0.mod (S:=λk=>wB.heap.size<=k) hfw (by rw[add_block];have:=hF _ hFp;omega);obtain⟨hxl,hxe⟩:=za1.1 hx;have hdr:l.drop i=x::l.drop (i+1):=by rw[zb0 hxl,hxe]
  have hn4:=hW.own.len;rw[hdr,qR,za7]at hres;refine dK ⟨by omega,by omega⟩ (AtL.ldC hA ?_);refine boxS (zs:=(oG 0 none 0 0 0 0 0).toList) (vs:=enC x s) rfl λw133 hAu hbu hku=>?_;have hsz:=hku.size;have hlt0:=hbu.lt;have hB:wB.heap.size<=w.heap.size:=hfw.size;have hfr1:Fr wB.heap.size w0 w133:=hfr.trans (Fr.of hku);have hbox1:=hfr1.blk hbox (by decide) (by decide);refine⟨_,hAu 2 _ rfl,fJ (λh=>?_) λh1=>?_⟩
  .have h':x.tree<0:=h;rw[if_neg (by omega)]at hres;exact hfail hres.symm w133 hfr1
  refine⟨_,hAu 2 _ rfl,fJ (λh=>?_) λh2=>?_⟩
  .have h':x.tree>=n4:=h;rw[if_neg (by omega)]at hres;exact hfail hres.symm w133 hfr1
  have h1':¬ x.tree<0:=h1;have h2':¬ x.tree>=n4:=h2;rw[if_pos (by omega)]at hres;have hxc:=hcsm x (za0 hx);refine⟨KG w133 x.aT,KG.keep,?_⟩;refine⟨_,by rw[addr_add,hbox1.cell];rfl,_,hAu 0 _ rfl,s.a,s.n,s.c,hAu 1 _ rfl,λu hu=>?_,?_⟩
  .have hcu:LsI F u s.a s.n s.c x.aT:=hcB.mod ((hfw.aG hku).aG hu) λb hb hk=>by have:=hF b hb;have hk':wB.heap.size<=b:=hk;omega
   refine zg0 (Sj (ys:=x.aT) hcu.sl (by rw[hcu.len];exact hxc)) λv u2 ⟨a',c',hv,gg,h1,h2,h3⟩=>⟨a',s.n,c',hv,⟨a',s.n,c',gg,hv ▸ rfl,h1,?_⟩,h3⟩;have:=hu.size;omega
  .rintro a6 n6 c6 -;refine⟨λu hu=>⟨u.heap.size,rfl,hu.size,Blk.new u _ _⟩,λq147 _ u148 hu h6 h8=>?_⟩;obtain⟨a',n',c',gc,e6,hArr,hgc⟩:=h6;cases e6;obtain⟨bq,e8,hbq,hbk⟩:=h8;cases e8;refine wrA (e:=tN') (b:=bq) (vs:=[.int .u8 2,.int .i64 0,.int .i64 ls.feature,.float .f64 x.thr,.slice a6 n6 c6,.int .u8 1,.int .i64 0,.int .i64 0]) hbk rfl λw149 hb149 ho149=>?_;have hkw:Kept w w149:=zg4 (((Kept.mod (S:=λk=>w.heap.size<=k) hku).trans (Kept.mod (S:=λk=>w.heap.size<=k) hu) zg7 zg7).trans ho149 (λ_ _ h=>h) (λk _ hk=>by have hk':k+1=bq+1:=hk;show w.heap.size<=k;omega));have hA149:AtL w149 (na w) (enC x s):=(hAu.kept hu).mod ho149 λhk=>by
    have hk':w.heap.size+1=bq+1:=hk;omega
   have hpb149:Blk w149 w.heap.size (enC x s).toArray tC':=(hbu.keep hu).mod ho149 λhk=>by
    have hk':w.heap.size+1=bq+1:=hk;omega
   have hcat149:LsI (UE wB.heap.size w149) w149 a6 n6 c6 x.aT:=by
    have h9:Arr enI tI' w149 a6 n6 c6 x.aT gc:=hArr.mod ho149 λk hk1 hk2=>by
     have hk2':k+1=bq+1:=hk2;obtain⟨cur,hb⟩:=Row.blk hArr hk1;obtain rfl:k=bq:=by omega
     exact absurd (hb.ne hbk) (by decide)
    refine(Arr.ls (h1:=λ_=>rfl) h9).mono λb hb=>?_;obtain⟨cur,hb'⟩:=Row.blk h9 hb;exact⟨by omega,cur,hb'⟩
   have notNd:∀ {w:World} {b:Nat} {cs:Array Value} {e:Nat},Blk w b cs e->e≠tA'->e≠tSA->¬ Nd w b:=λhb h1 h2 ⟨cur,e',hb',he⟩=>by
    have:=hb.ne hb'
    rcases he with rfl | rfl
    .exact h1 this
    .exact h2 this
   have go:∀(k1:Int) (w150:World),k1=(if(x10==1)=true then 3 else 2)->Kept w w150->Blk w150 bq #[.int .u8 k1,.int .i64 0,.int .i64 ls.feature,.float .f64 x.thr,.slice a6 n6 c6,.int .u8 1,.int .i64 0,.int .i64 0] tN'->AtL w150 (na w) (enC x s)->Blk w150 w.heap.size (enC x s).toArray tC'->LsI (UE wB.heap.size w150) w150 a6 n6 c6 x.aT ->
     VK a4 n4 (some ⟨kL,0,none⟩) (some mb) (na w) ⟨bq,0,none⟩ (λw173=>inc (i:Int) λt174=>aF.l63 R b16 b49 (k+1) p1 a4 n4 c4 (some ⟨kL,0,none⟩) (some mb) x10 a41 n41 c41 x42 x43 a74 n74 c74 x75 x76 (some p) n81 c81 n81 t174 w173) w150:=λk1 w150 hk1 hk0 hb hA hpb hcat=>by
    have hfr2:Fr wB.heap.size w0 w150:=hfr.trans (Fr.of hk0);refine Vb (t:=x.tree.toNat) (s:=⟨a6,n6,c6⟩) (sc:=s) (ct:=x) (ls:=ls) (hW.kept hk0) (by have:=hk0.size;omega) (by omega) (by omega) (λr hr=>by have:=hlen r hr;omega) hA (notNd hpb (by decide) (by decide)) (by show w.heap.size≠bq;omega) hb (by omega) hcat (hfr2.blk hbox (by decide) (by decide)) (hfr2.map hM) hC hmb λu r r' hr hr' hWu hfu=>?_;have hfu2:Fr wB.heap.size w u:=zg2 (Kept.mod (S:=λ_=>False) hk0) hfu (λ_ _ h=>h.elim) λk2 hk2 hk3=>⟨hk3.1,by
     rcases hk3.2 with h | h
     .omega
     .exact VI hk0 hk2 h⟩
    refine aC (by omega) (ih (i+1) u _ (by omega) (hfr.trans hfu2) hWu (λy hy=>?_) ?_)
    .rcases mem_set hy with rfl | ⟨j,_,hj⟩
     .rw[hr',za6];have:=hlen r (za0 hr);simp;omega
     .have:=hlen y (za0 hj);omega
    .rw[<- hres,List.map_set];congr 2;rw[za8,zc1,hr];show r'.2.1.map (·.1)=_;rw[hr',zb8];rw[hk1];rfl
   refine nN (λhe=>?_) λhne=>?_
   .have hb150:=hb149.set 0 (.int .u8 3);have ho:=zg5 w149 bq 0 (.int .u8 3);have e1:(((⟨bq,0,none⟩:Addr).add 0).add 0)=⟨bq,0,none⟩:=by rw[addr_add,addr_add]
    rw[e1];refine⟨hb149.ok (by simp),bZ ?_⟩;generalize w149.setCell ⟨bq,0,none⟩ (.int .u8 3)=w150 at hb150 ho;have hk150:Kept w w150:=zg4 ((Kept.mod (S:=λk=>w.heap.size<=k) hkw).trans ho (λ_ _ h=>h) (λk _ hk=>by have hk':k+1=bq+1:=hk;show w.heap.size<=k;omega));refine go 3 w150 (by rw[he];rfl) hk150 hb150 (hA149.mod ho λhk=>by have hk':w.heap.size+1=bq+1:=hk;omega) (hpb149.mod ho λhk=>by have hk':w.heap.size+1=bq+1:=hk;omega) ?_;refine(hcat149.mod ho λb hb hk=>?_).mono λb ⟨h1,cur,h2⟩=>⟨h1,cur,h2.mod ho λhk=>?_⟩
    .obtain⟨_,cur,hb⟩:=hb;have hk':b+1=bq+1:=hk;obtain rfl:=Nat.succ.inj hk';exact absurd (hb.ne hb149) (by decide)
    .have hk':b+1=bq+1:=hk;obtain rfl:=Nat.succ.inj hk';exact absurd (h2.ne hb149) (by decide)
   .exact go 2 w149 (by rw[beq_false_of_ne hne];rfl) hkw hb149 hA149 hpb149 hcat149
end
def ng(b:kJ)(l:List AD)(i:Nat):Option TD :=
 if b.leaves.getD i 0<1\/b.leaves.getD i 0>4096\/((b.values.getD i []).length:Int)≠b.leaves.getD i 0\/(l.length:Int)≠b.leaves.getD i 0 - 1 then none
 else if(uj l (b.values.getD i [])).1 then some ⟨b.outputs.getD i 0,(uj l (b.values.getD i [])).2⟩ else none
def wU(b:kJ):List (List AD)->Nat->Option (List TD)
 | [],_=>some []
 |l::ls,i=>(ng b l i).bind λt=>(wU b ls (i+1)).map (t :: ·)
section
variable{w u wB x:World}{a a4:OA}{n c c1 n4 c4 g:Nat}{F S:Nat->Prop}{q:Addr}{B:Nat}{R:VP}{rows:List RA}{acc:List (TD×SH)}
theorem Zd:fV prog 24 tT' 2 32:=sliceT (by kernel_rfl)
abbrev a0M(B g:Nat)(w:World):Nat->Prop:=λb=>B<=b/\b<w.heap.size/\b+1≠g
structure TrW(B:Nat)(w:World)(a:OA)(n c g:Nat)(acc:List (TD×SH)):Prop where
 row:aK 2 Aj tT' w a n c acc g
 gB:g=0\/B<g
 nd:∀x∈acc,Ls tN (a0M B g w) w x.2.a x.2.n x.2.c x.1.nodes
theorem TrW.kept(h:TrW B w a n c g acc)(hk:Kept w u):TrW B u a n c g acc:=⟨h.row.kept hk,h.gB,λx hx=>((h.nd x hx).kept hk).mono λb hb=>⟨hb.1,by have:=hb.2.1;have:=hk.size;omega,hb.2.2⟩⟩
theorem lQ.mod(h:lQ B w a n c g rows)(hm:Mod S w u)(hS:∀k cur e,Blk w k cur e->(e=tA'\/e=tSA\/e=tI')->¬ S k):lQ B u a n c g rows:=by
 refine⟨h.own.mod hm (λj hj=>?_) (λr hr j hj=>?_),λr hr x hx=>((h.ct r hr x hx).mod hm λb hb=>?_).mono λb ⟨h1,cur,h2⟩=>⟨h1,cur,h2.mod hm (hS _ _ _ h2 (.inr (.inr rfl)))⟩⟩
 .obtain⟨cur,hb⟩:=Row.blk h.own.out hj;exact hS _ _ _ hb (.inr (.inl rfl))
 .obtain⟨cur,hb⟩:=Row.blk (h.own.row r hr).1 hj;exact hS _ _ _ hb (.inl rfl)
 .obtain⟨_,cur,hb⟩:=hb;exact hS _ _ _ hb (.inr (.inr rfl))
theorem lQ.ls(h:lQ B w a n c g rows){r:RA}(hr:r∈rows):Ls tA (λb=>B<=b/\(∃cur e,Blk w b cur e/\(e=tA'\/e=tI'))) w r.1.a r.1.n r.1.c (dR r) :=
 aK.lsK (T:=tA) (f:=λx:AE=>x.1) (en:=jG) (k:=10) oZ (by omega) rfl (h.own.row r hr).1 (λb hb=>by
  obtain⟨cur,hbk⟩:=Row.blk (h.own.row r hr).1 hb;exact⟨by have:=(h.own.row r hr).2;omega,cur,tA',hbk,.inl rfl⟩) λx hx=>⟨x.2,rfl,(h.ct r hr x hx).mono λb ⟨h1,cur,h2⟩=>⟨h1,cur,tI',h2,.inr rfl⟩⟩
theorem Q9{b:kJ}{s1 s2 s3 s4:SH}{kb:Nat}{res:Option (List TD)}(hs1:LsI F wB s1.a s1.n s1.c b.leaves)(hs2:Ls (vJ .i64).sl F wB s2.a s2.n s2.c b.values)(hs3:LsI F wB s3.a s3.n s3.c b.outputs)(hF:∀b,F b->b<wB.heap.size)
  (hv:b.values.length=b.leaves.length) (ho:b.outputs.length=b.leaves.length) (hn4:n4=b.leaves.length) (hn4s:n4<=1048576)
  (hfail:res=none->∀u,From wB.heap.size wB u->R (.tuple #[.slice none 0 0,.bool false]) u)
  (hdone:∀ts,res=some ts->∀u a n c,Ls tT (λb=>wB.heap.size<=b/\b<u.heap.size) u a n c ts->From wB.heap.size wB u->R (.tuple #[.slice a n c,.bool true]) u) :
  ∀(k i:Nat) (w:World) (acc:List (TD×SH)) (a15:OA) (n15 c15 g15:Nat),i+k=n4->From wB.heap.size wB w->Blk w kb (mG b s1 s2 s3 s4).toArray tB'->lQ wB.heap.size w a4 n4 c4 g rows->TrW wB.heap.size w a15 n15 c15 g15 acc->acc.length=i->(wU b ((rows.map dR).drop i) i).map (acc.map (·.1) ++ ·)=res ->
   aF.YP R (k+1) (some ⟨kb,0,none⟩) a15 n15 c15 a4 n4 c4 n4 i w:=by
 intro k
 induction k with
 |zero=>
  intro i w acc a15 n15 c15 g15 hi hfr hb hW hT hacc hres;obtain rfl:i=n4:=by omega
  rw[List.drop_eq_nil_of_le (by rw[za7,<- hW.own.len];exact zb4 _)]at hres;rw[aF.X5];unfold aF.ZA;refine aA (by omega) (hdone _ hres.symm w _ _ _ ?_ hfr);show Ls tT _ w a15 n15 c15 (acc.map (·.1)++[]);rw[zc8];refine aK.lsT hT.row (λb hb=>?_) λx hx=>(hT.nd x hx).mono λb hb=>⟨hb.1,hb.2.1⟩;have:=Row.le hT.row;have:=hT.gB;omega
 |succ k ih=>
  intro i w acc a15 n15 c15 g15 hi hfr hb hW hT hacc hres;rw[aF.X5];unfold aF.ZA;refine aH (by omega) ?_;have hln:=hW.own.len;obtain⟨r,hr⟩:∃r,rows[i]?=some r:=⟨_,za2 (by omega)⟩;have hrm:=za0 hr;have hdr:(rows.map dR).drop i=dR r::(rows.map dR).drop (i+1):=by
   rw[zb0 (by rw[za7];omega),List.getElem_map,(za1.1 hr).2]
  rw[hdr]at hres;unfold wU at hres;refine hW.own.Zj (i:=(i:Int)) (by omega) (by omega) λt ht=>?_;rw[za3,hr]at ht;cases ht;have hrl:=aK.len oZ (by omega) (hW.own.row r hrm).1;have old:∀ {α:Type} {T:Ty α} {xs:List α} {a:OA} {n c:Nat},Ls T F wB a n c xs->Ls T F w a n c xs:=λh=>From.ls h hfr hF;have ho1:=old hs1;have ho2:=old hs2;have ho3:=old hs3;have hl1:=hs1.len;have hl2:=hs2.len;have hl3:=hs3.len;have c1:w.cell? ((⟨kb,0,none⟩:Addr).add 1)=some s1.v:=by rw[addr_add,hb.cell];rfl
  have c2:w.cell? ((⟨kb,0,none⟩:Addr).add 2)=some s2.v:=by rw[addr_add,hb.cell];rfl
  have gl:∀x,b.leaves[((i:Nat):Int).toNat]?=some x->b.leaves.getD i 0=x:=λx hx=>by rw[za3]at hx;rw[za8,hx];rfl
  have fail:ng b (dR r) i=none->∀u,From wB.heap.size wB u->R (.tuple #[.slice none 0 0,.bool false]) u:=λh=>hfail (by rw[<- hres,h];rfl);have rdL:∀K:Int->Prop,K (b.leaves.getD i 0)->ix s1.a s1.n (i:Int) λq=>cI w (q.add ((i:Int).toNat*1)) .i64 K:=λK hK=>Ls.rdI ho1 (by omega) (by omega) λx hx=>by rw[<- gl x hx];exact hK
  refine za4 s1.a (za4 s1.n (za4 s1.c ⟨c1,rdL _ ?_⟩));refine fJ (λh=>fail (by unfold ng;rw[if_pos (.inl h)]) w hfr) λh1=>?_;refine za4 s1.a (za4 s1.n (za4 s1.c ⟨c1,rdL _ ?_⟩));refine fJ (λh=>fail (by unfold ng;rw[if_pos (.inr (.inl h))]) w hfr) λh2=>?_;refine za4 s2.a (za4 s2.n (za4 s2.c ⟨c2,Ls.RQ ho2 (by omega) (by omega) λvs a' n' c' hvs hlv=>?_⟩));rw[za3]at hvs;have hvs':b.values.getD i []=vs:=by rw[za8,hvs];rfl
  have hlvl:=hlv.len;refine za4 s1.a (za4 s1.n (za4 s1.c ⟨c1,rdL _ ?_⟩));refine ja (λh=>fail (by unfold ng;rw[if_pos (.inr (.inr (.inl (by rw[hvs',<- hlvl];exact h))))]) w hfr) λh3=>?_;refine za4 s1.a (za4 s1.n (za4 s1.c ⟨c1,rdL _ ?_⟩));have h1':¬ b.leaves.getD i 0<1:=h1;have h2':¬ b.leaves.getD i 0>4096:=h2;have h3':(n':Int)=b.leaves.getD i 0:=h3;refine bM (x:=b.leaves.getD i 0 - 1) (by omega) (by omega) ?_;refine ja (λh=>fail (by unfold ng;rw[if_pos (.inr (.inr (.inr (by rw[za7,<- hrl];exact h))))]) w hfr) λh4=>?_;have h4':(r.1.n:Int)=b.leaves.getD i 0 - 1:=h4;refine za4 s2.a (za4 s2.n (za4 s2.c ⟨c2,Ls.RQ ho2 (by omega) (by omega) λvs2 a2 n2 c2 hvs2 hlv2=>?_⟩));rw[za3,hvs]at hvs2;cases hvs2;have hlv2l:=hlv2.len;have hbB:=hfr.size;have hte:ng b (dR r) i=if(uj (dR r) vs).1 then some ⟨b.outputs.getD i 0,(uj (dR r) vs).2⟩ else none:=by
   unfold ng;rw[if_neg,hvs'];rw[hvs',za7,<- hrl,<- hlvl];omega
  refine zg0 (NU (by omega) (by omega) (by rw[za7,<- hrl];omega) (hW.ls hrm) (λb hb=>zf5 (hF b hb) hbB) hlv2 (λb ⟨_,cur,e,hb,_⟩=>hb.lt)) λv u ⟨bb,o,a',n',c',hv1,hb1,hb2,hfu⟩=>⟨o,a',n',c',bb,hv1,?_⟩;have hku:=zg4 hfu;refine boxS (zs:=(kU 0 none 0 0).toList) (vs:=[.int .i64 o,.slice a' n' c']) rfl λw261 hA261 hb261 hk261=>?_;have hkw:=zg1 hku hk261;have hf261:From wB.heap.size wB w261:=hfr.aG hkw;refine(aQ _ _ _).2 ⟨λhf=>fail (by rw[hte,<- hb1,if_neg (by cases bb <;> simp_all)]) w261 hf261,λht=>?_⟩;have hbt:bb=true:=by cases bb <;> simp_all
  obtain⟨rfl,hnl⟩:=hb2 hbt;have hb261':=hb.keep hkw;refine za4 s3.a (za4 s3.n (za4 s3.c ⟨by rw[addr_add,hb261'.cell];rfl,?_⟩));refine Ls.rdI (From.ls hs3 hf261 hF) (by omega) (by omega) λo' ho'=>?_;rw[za3]at ho';have hog:b.outputs.getD i 0=o':=by rw[za8,ho'];rfl
  have e1:(((na u:Addr).add 0).add 0)=⟨u.heap.size,0,none⟩:=by rw[gK,addr_add]
  rw[e1];have hbx:=hb261.set 0 (.int .i64 o');have hox:=zg5 w261 u.heap.size 0 (.int .i64 o');refine⟨hb261.ok (by simp),bZ ?_⟩;generalize w261.setCell ⟨u.heap.size,0,none⟩ (.int .i64 o')=w266 at hbx hox;have hAx:AtL w266 (na u) [.int .i64 o',.slice a' n' c']:=λj v hj=>by
   rw[gK,hbx.cell];simpa using hj
  refine⟨_,hAx 0 _ rfl,_,_,_,hAx 1 _ rfl,?_⟩;have hkx:Kept w w266:=zg4 ((show From w.heap.size w w261 from Kept.mod hkw).then hox (λk _ hk=>by have hk':k+1=u.heap.size+1:=hk;have:=hku.size;omega));have hkn:=zg3 w266 (.cells (Aj (⟨o',(uj (dR r) vs).2⟩,⟨a',n',c'⟩)).toArray tT');have hAn:=AtL.new w266 (Aj ((⟨o',(uj (dR r) vs).2⟩:TD),(⟨a',n',c'⟩:SH))) tT';show nw (w266.alloc (.cells (Aj ((⟨o',(uj (dR r) vs).2⟩:TD),(⟨a',n',c'⟩:SH))).toArray tT')) _;refine bZ ?_;generalize w266.alloc (.cells (Aj ((⟨o',(uj (dR r) vs).2⟩:TD),(⟨a',n',c'⟩:SH))).toArray tT')=w268 at hkn hAn;have hk268:Kept w w268:=zg1 hkx hkn;have hT268:=hT.kept hk268;have hal:=aK.KD hT.row;refine aK.mY (k:=2) (en:=Aj) Zd (λ_=>rfl) (by omega) hT268.row (x:=(⟨o',(uj (dR r) vs).2⟩,⟨a',n',c'⟩)) (q:=na w266) hAn (Ef _) (by simp only[maxLen];omega) (by omega) λa2 c2 g2 u2 hrow2 hg2 hg20 ho2=>?_;have hg15:=hT.gB;have hgle:=Row.le hT.row;have g15t:∀ {k:Nat} {cur:Array Value} {e:Nat},Blk w268 k cur e->e≠tT'->¬ (k+1=g15):=λhb he hk=>by
   obtain⟨cur',hb'⟩:=Row.blk hT268.row hk;exact he (hb.ne hb')
  have hku268:Kept u w268:=by
   have f1:From u.heap.size u w261:=Kept.mod hk261;exact zg4 ((f1.then hox (λk _ hk=>by have hk':k+1=u.heap.size+1:=hk;omega)).aG hkn)
  have hsz1:=hk268.size;have hsz2:=hku268.size;have hsz3:=ho2.size;have hsz4:=hku.size;refine⟨_,_,_,rfl,aC (by omega) (ih (i+1) u2 (acc++[(⟨o',(uj (dR r) vs).2⟩,⟨a',n',c'⟩)]) a2 (n15+1) c2 g2 (by omega) ((hfr.aG hk268).only ho2 hg15) ((hb.keep hk268).mod ho2 λhk=>g15t (hb.keep hk268) (by decide) hk) ((hW.kept hk268).mod ho2 λk cur e hb he=>g15t hb (by rcases he with rfl | rfl | rfl <;> decide)) ⟨hrow2,?_,λx hx=>?_⟩ (by simp;omega) ?_)⟩
  .omega
  .rcases zb2.1 hx with hx | hx
   .refine((hT268.nd x hx).mod ho2 λb hb hk=>hb.2.2 hk).mono λb hb=>⟨hb.1,by have:=hb.2.1;omega,?_⟩;have h5:=hb.2.1;have h6:=hb.2.2;omega
   .obtain rfl:x=(⟨o',(uj (dR r) vs).2⟩,⟨a',n',c'⟩):=by simpa using hx
    refine((hnl.kept hku268).mod ho2 λb hb hk=>?_).mono λb hb=>?_
    .have hk':b+1=g15:=hk
     rcases hb with ⟨_,cur,e,hb,he⟩ | hb
     .exact g15t (hb.keep hk268) (by rcases he with rfl | rfl <;> decide) hk'
     .omega
    .rcases hb with ⟨h5,cur,e,hb,he⟩ | hb
     .have:=hb.lt;refine⟨h5,by omega,?_⟩;intro h6
      rcases hg2 with h7 | h7
      .exact g15t (hb.keep hk268) (by rcases he with rfl | rfl <;> decide) (by omega)
      .omega
     .exact⟨by omega,by omega,by omega⟩
  .rw[<- hres,hte,<- hb1,hbt,if_pos rfl,hog];simp only[Option.bind_some,Option.map_map,zb8,ze0,List.map_nil];congr 1;funext ts;simp
end
def QK(l:dL)(N:List (List AD)):Option (List (List AD)):=(sW (qF l.feature false l.lost) l.numbers N).bind λN=>sW (qF l.feature true l.lost) l.aT N
def vP:List dL->List (List AD)->Option (List (List AD))
 | [],N=>some N
 |l::ls,N=>(QK l N).bind λN=>vP ls N
def rV(b:kJ):Option (List TD) :=
 if b.leaves.length≠b.values.length\/b.leaves.length≠b.outputs.length then none
 else(vP b.lists (List.replicate b.leaves.length [])).bind λN=>wU b N 0
def ui(l:List dL):Nat:=(l.map λx=>x.numbers.length+x.aT.length).sum
section
variable{w w0 u wB x:World}{a a4:OA}{n c c1 n4 c4 g:Nat}{F S:Nat->Prop}{p:Addr}{mb:Nat}{R:VP}{rows:List RA}
abbrev tCS:Nat:=72
theorem Tt{b16:aF.T16}{p1 a41:OA}{n41 c41 kL kk i:Nat}{x42:Int}{ls:dL}{s1 s2 s3:SH}{L:List (KC×Value)}{res:Option (List (List AD))}{M:Nat}(hi:i<1073741824)
  (hn:Ls tC F wB s1.a s1.n s1.c ls.numbers) (hc:Ls tC F wB s2.a s2.n s2.c ls.aT) (hF:∀b,F b->b<wB.heap.size) (hsm:ls.sm) (hb0:From wB.heap.size wB w0) (hMl:M+ls.numbers.length+ls.aT.length<=549755813888)
  (hbox:Blk w0 kL (enL ls s1 s2 s3).toArray tL') (hM:ji Ah w0 mb L) (hC:Cnt ls.feature ls.lost L) (hmb:wB.heap.size<=mb) (hkk:Blk w0 kk #[s1.v,s2.v] tCS)
  (hW:lQ wB.heap.size w0 a4 n4 c4 g rows) (hlen:∀r∈rows,r.2.1.length<=M) (hres:QK ls (rows.map dR)=res)
  (hfail:res=none->∀u,Fr wB.heap.size w0 u->R (.tuple #[.slice none 0 0,.bool false]) u)
  (hdone:∀N,res=some N->∀u rows',Fr wB.heap.size w0 u->lQ wB.heap.size u a4 n4 c4 g rows'->rows'.map dR=N->(∀r∈rows',r.2.1.length<=M+ls.numbers.length+ls.aT.length)->b16 p1 a4 n4 c4 a41 n41 c41 x42 ((i+1:Nat):Int) u) :
  aF.e49 R b16 p1 a4 n4 c4 (some ⟨kL,0,none⟩) (some mb) a41 n41 c41 x42 i (some ⟨kk,0,none⟩) 2 2 2 0 w0:=by
 refine⟨3,?_⟩;have hnl:=hn.len;have hcl:=hc.len;have e:aF.l49 R b16 3=aF.g49 R b16 (aF.e63 R b16 (aF.g49 R b16 (aF.e63 R b16 (aF.g49 R b16 (aF.e63 R b16 (aF.l49 R b16 0)))))):=rfl;rw[e];unfold aF.g49;refine aH (p:=(0:Int)<2) (by omega) ?_;show chk ((0:Int)<=0/\(0:Int)<((2:Nat):Int)) _;refine dK ⟨by omega,by omega⟩ ⟨s1.a,s1.n,s1.c,?_,s1.n+1,?_⟩
 .rw[addr_add,hkk.cell];rfl
 cases hres1:sW (qF ls.feature false ls.lost) ls.numbers (rows.map dR) with
 |none=>
  refine Dj (res:=none) (M:=M) hn hF hsm.1.1 hsm.1.2 hb0 (by omega) hbox hM hC hmb (λ_ u hu=>hfail (by rw[<- hres];unfold QK;rw[hres1];rfl) u hu) (λN h=>by cases h) s1.n 0 w0 rows (by omega) (Fr.refl _ _) hW (λr hr=>by have:=hlen r hr;omega) (by rw[List.drop_zero];exact hres1)
 |some N1=>
  refine Dj (res:=some N1) (M:=M) hn hF hsm.1.1 hsm.1.2 hb0 (by omega) hbox hM hC hmb (λh=>by cases h) (λN hN u1 rows1 hfr1 hW1 hd1 hlen1 hr1=>?_) s1.n 0 w0 rows (by omega) (Fr.refl _ _) hW (λr hr=>by have:=hlen r hr;omega) (by rw[List.drop_zero];exact hres1);cases hN;have hres2:sW (qF ls.feature true ls.lost) ls.aT (rows1.map dR)=res:=by
   rw[hd1,<- hres];unfold QK;rw[hres1];rfl
  refine aC (i:=0) (by omega) ?_;refine aH (p:=((0+1:Nat):Int)<2) (by omega) ?_;show chk ((0:Int)<=((0+1:Nat):Int)/\((0+1:Nat):Int)<((2:Nat):Int)) _;refine dK ⟨by omega,by omega⟩ ⟨s2.a,s2.n,s2.c,?_,s2.n+1,?_⟩
  .rw[addr_add,(hfr1.blk hkk (by decide) (by decide)).cell];rfl
  refine Dj (res:=res) (M:=M+ls.numbers.length) hc hF hsm.2.1.1 hsm.2.1.2 (hb0.trans hfr1.from zg7 zg7) (by omega) (hfr1.blk hbox (by decide) (by decide)) (hfr1.map hM) hC hmb (λh u hu=>hfail h u (hfr1.trans hu)) (λN hN u2 rows2 hfr2 hW2 hd2 hlen2 hr2=>?_) s2.n 0 u1 rows1 (by omega) (Fr.refl _ _) hW1 (λr hr=>by have:=hlen1 r hr;omega) (by rw[List.drop_zero];exact hres2);refine aC (i:=1) (by omega) ?_;refine aA (p:=((1+1:Nat):Int)<2) (by omega) (aC (by omega) (hdone N hN u2 rows2 (hfr1.trans hfr2) hW2 hd2 hlen2))
theorem Tj{b:kJ}{s1 s2 s3 s4:SH}{kb:Nat}{res:Option (List TD)}(hs1:LsI F wB s1.a s1.n s1.c b.leaves)(hs2:Ls (vJ .i64).sl F wB s2.a s2.n s2.c b.values)(hs3:LsI F wB s3.a s3.n s3.c b.outputs)(hs4:Ls tL F wB s4.a s4.n s4.c b.lists)(hF:∀b,F b->b<wB.heap.size)
  (hv:b.values.length=b.leaves.length) (ho:b.outputs.length=b.leaves.length) (hn4:n4=b.leaves.length) (hsm:b.sm) (htot:ui b.lists<=549755813888)
  (hfail:res=none->∀u,From wB.heap.size wB u->R (.tuple #[.slice none 0 0,.bool false]) u)
  (hdone:∀ts,res=some ts->∀u a n c,Ls tT (λb=>wB.heap.size<=b/\b<u.heap.size) u a n c ts->From wB.heap.size wB u->R (.tuple #[.slice a n c,.bool true]) u) :
  ∀(k i:Nat) (w:World) (rows:List RA),i+k=s4.n->From wB.heap.size wB w->Blk w kb (mG b s1 s2 s3 s4).toArray tB'->lQ wB.heap.size w a4 n4 c4 g rows->(∀r∈rows,r.2.1.length<=ui (b.lists.take i))->((vP (b.lists.drop i) (rows.map dR)).bind λN=>wU b N 0)=res ->
   aF.l16 R (k+1) (some ⟨kb,0,none⟩) a4 n4 c4 s4.a s4.n s4.c s4.n i w:=by
 intro k;have h4l:=hs4.len;have hsm1:=hsm.1;have hsm5:=hsm.2.2.2.2.1
 induction k with
 |zero=>
  intro i w rows hi hfr hb hW hlen hres;obtain rfl:i=s4.n:=by omega
  rw[List.drop_eq_nil_of_le (by omega)]at hres;rw[aF.u16];unfold aF.g16;refine aA (by omega) ⟨n4+1,?_⟩;refine Q9 (res:=res) (rows:=rows) (g:=g) hs1 hs2 hs3 hF hv ho hn4 (by omega) hfail hdone n4 0 w [] none 0 0 0 (by omega) hfr hb hW ⟨aK.nil _ _ _ _,.inl rfl,λ_ h=>by cases h⟩ rfl ?_;rw[List.drop_zero,<- hres];show _=wU b (rows.map dR) 0
  cases wU b (rows.map dR) 0 <;> rfl
 |succ k ih=>
  intro i w rows hi hfr hb hW hlen hres;rw[aF.u16];unfold aF.g16;refine aH (by omega) ?_;obtain⟨p,x,cs,hp,hx,hFp,⟨t1,t2,t3,e,hc1,hc2,hc3⟩,hA0⟩:=hs4.elem (i:=i) (by omega);subst e;have hA:=hA0.mod (S:=λk=>wB.heap.size<=k) hfr (by rw[add_block];have:=hF _ hFp;omega);obtain⟨hxl,hxe⟩:=za1.1 hx;have hxm:=za0 hx;have hxs:=hsm.2.2.2.2.2 x hxm;have hdr:b.lists.drop i=x::b.lists.drop (i+1):=by rw[zb0 hxl,hxe]
  have htk:ui (b.lists.take (i+1))=ui (b.lists.take i)+x.numbers.length+x.aT.length:=by
   rw[List.take_add_one,hx];unfold ui;simp;omega
  have htk2:ui (b.lists.take (i+1))<=ui b.lists:=by
   have:=congrArg ui (List.take_append_drop (i+1) b.lists);unfold ui at this ⊢;rw[zb8,List.sum_append]at this;omega
  rw[hdr]at hres;rw[hp];refine dK ⟨by omega,by omega⟩ (AtL.ldL hA ?_);refine boxS (zs:=(uf 0 none 0 0 none 0 0 none 0 0).toList) (vs:=enL x t1 t2 t3) rfl λw90 hA90 hb90 hk90=>?_;have hlt90:=hb90.lt;have hM0:=ji.new Ah w90;have hkm:=zg3 w90 (.map #[] 0);have hz91:(w90.alloc (.map #[] 0)).heap.size=w90.heap.size+1:=by simp
  generalize w90.alloc (.map #[] 0)=w91 at hM0 hkm hz91;have hk91:Kept w w91:=zg1 hk90 hkm;have hb91:=hb90.keep hkm;refine za4 t3.a (za4 t3.n (za4 t3.c ⟨(hA90.kept hkm) 3 _ rfl,?_⟩));have hsw:=hfr.size;refine⟨t3.n+1,Rw (wB:=wB) (w0:=w91) (ls:=x) (s1:=t1) (s2:=t2) (s3:=t3) (l:=x.lost) hc3 hF hxs.2.2.1 (by omega) (by omega) (hfr.aG hk91) (by omega) hb91 (λu L hCu hMu hmu=>?_) t3.n 0 w91 [] (by omega) (Cnt.nil _) hM0 (Mod.refl _)⟩;have hku:Kept w u:=zg4 ((Kept.mod (S:=λk=>w.heap.size<=k) hk91).trans hmu (λ_ _ h=>h) (λk _ h=>by show w.heap.size<=k;rcases h with h | h <;> omega));have hbu:Blk u w.heap.size (enL x t1 t2 t3).toArray tL':=hb91.mod hmu (λh=>by rcases h with h | h <;> omega);have c1:u.cell? ((⟨w.heap.size,0,none⟩:Addr).add 1)=some t1.v:=by rw[addr_add,hbu.cell];rfl
  have c2:u.cell? ((⟨w.heap.size,0,none⟩:Addr).add 2)=some t2.v:=by rw[addr_add,hbu.cell];rfl
  refine za4 t1.a (za4 t1.n (za4 t1.c ⟨c1,za4 t2.a (za4 t2.n (za4 t2.c ⟨c2,?_⟩))⟩));have hkn:=zg3 u (.cells #[t1.v,t2.v] tCS);have hbn:=Blk.new u #[t1.v,t2.v] tCS;show nw (u.alloc (.cells #[t1.v,t2.v] tCS)) _;refine bZ ?_;generalize u.alloc (.cells #[t1.v,t2.v] tCS)=w126 at hkn hbn;have hk126:Kept w w126:=zg1 hku hkn;refine Tt (F:=F) (wB:=wB) (w0:=w126) (ls:=x) (s1:=t1) (s2:=t2) (s3:=t3) (M:=ui (b.lists.take i)) (res:=QK x (rows.map dR)) (rows:=rows) (by omega) hc1 hc2 hF hxs (hfr.aG hk126) (by omega) (hbu.keep hkn) (hMu.kept hkn) hCu (by omega) hbn (hW.kept hk126) hlen rfl (λh v hv=>hfail ?_ v ?_) λN hN v rows' hfv hWv hdv hlv=>?_
  .rw[<- hres];unfold vP;rw[h];rfl
  .exact(hfr.aG hk126).trans hv.from zg7 zg7
  .rw[<- hp];refine ih (i+1) v rows' (by omega) ((hfr.aG hk126).trans hfv.from zg7 zg7) (hfv.blk (hb.keep hk126) (by decide) (by decide)) hWv (λr hr=>by have:=hlv r hr;omega) ?_;rw[<- hres,hdv];unfold vP;rw[hN]
   cases b.lists.drop (i+1) <;> rfl
end
section
variable{w u w1 wB x:World}{a:OA}{n c c1 g:Nat}{F:Nat->Prop}{R:VP}{b:kJ}{s1 s2 s3 s4:SH}
def BackA(w:World)(b:kJ)(v:Value)(u:World):Prop:=∃(a:OA) (n c:Nat) (ok:Bool),v = .tuple #[.slice a n c,.bool ok]/\(rV b=none->ok=false)/\(∀ts,rV b=some ts->ok=true/\Ls tT (λk=>w.heap.size<=k/\k<u.heap.size) u a n c ts)/\From w.heap.size w u
theorem Xk(hb:jw F w b s1 s2 s3 s4)(hF:∀b,F b->b<w.heap.size)(hsm:b.sm)(htot:ui b.lists<=549755813888):E.CallsD prog 38 #[vB b s1 s2 s3 s4] w (BackA w b):=by
 refine aF.calls (R:=BackA w b) ?_;unfold aF aF.g0;have hl1:=hb.l.len;have hl2:=hb.v.len;have hl3:=hb.o.len;have hsm1:=hsm.1;have hsm2:=hsm.2.1;have hsm4:=hsm.2.2.2.1;refine bZ ?_;have hbk:Blk (w.alloc (.cells (mG b s1 s2 s3 s4).toArray tB')) w.heap.size (mG b s1 s2 s3 s4).toArray tB':=Blk.new w _ _;have hk1:=zg3 w (.cells (mG b s1 s2 s3 s4).toArray tB');change cL (w.alloc (.cells (mG b s1 s2 s3 s4).toArray tB')) _ _;have hz:(w.alloc (.cells (mG b s1 s2 s3 s4).toArray tB')).heap.size=w.heap.size+1:=by simp
 generalize w.alloc (.cells (mG b s1 s2 s3 s4).toArray tB')=w1 at hbk hk1 hz;have hf1:From w.heap.size w w1:=Kept.mod hk1;have c1:w1.cell? ((na w:Addr).add 1)=some s1.v:=by rw[gK,hbk.cell];rfl
 have c2:w1.cell? ((na w:Addr).add 2)=some s2.v:=by rw[gK,hbk.cell];rfl
 have c3:w1.cell? ((na w:Addr).add 3)=some s3.v:=by rw[gK,hbk.cell];rfl
 have bad:rV b=none->∀u,From w.heap.size w u->BackA w b (.tuple #[.slice none 0 0,.bool false]) u:=λh u hu=>⟨none,0,0,false,rfl,λ_=>rfl,λts ht=>(by rw[h]at ht;cases ht),hu⟩;refine za4 s1.a (za4 s1.n (za4 s1.c ⟨c1,za4 s2.a (za4 s2.n (za4 s2.c ⟨c2,?_⟩))⟩));refine ja (λh=>bad (by unfold rV;rw[if_pos (.inl (by omega))]) w1 hf1) λh1=>?_;refine za4 s1.a (za4 s1.n (za4 s1.c ⟨c1,za4 s3.a (za4 s3.n (za4 s3.c ⟨c3,?_⟩))⟩));refine ja (λh=>bad (by unfold rV;rw[if_pos (.inr (by omega))]) w1 hf1) λh2=>?_;refine za4 s1.a (za4 s1.n (za4 s1.c ⟨c1,?_⟩));have hp:rV b=(vP b.lists (List.replicate b.leaves.length [])).bind λN=>wU b N 0:=by
  unfold rV;rw[if_neg (by omega)]
 refine Arr.make (α:=RA) (en:=a0s) (e:=tSA) (w:=w1) (v := .slice none 0 0) (x:=(⟨none,0,0⟩,[],0)) rfl (l:=(s1.n:Int)) (by_:=24) (by omega) (by omega) (by omega) λu hu hku=>?_;rw[za3]at hu ⊢;have hku1:Kept w u:=zg1 hk1 hku;have hbu:=hbk.keep hku;have hsz:=hk1.size;refine za4 s4.a (za4 s4.n (za4 s4.c ⟨by rw[gK,hbu.cell];rfl,s4.n+1,?_⟩));refine Tj (wB:=w) (b:=b) (kb:=w.heap.size) (res:=rV b) (g:=w1.heap.size+1) hb.l hb.v hb.o hb.t hF (by omega) (by omega) hl1 hsm htot bad (λts hts u2 a n c hL hf2=>⟨a,n,c,true,rfl,λh=>(by rw[h]at hts;cases hts),λts' ht'=>(by rw[hts]at ht';cases ht';exact⟨rfl,hL⟩),hf2⟩) s4.n 0 u (List.replicate s1.n (⟨none,0,0⟩,[],0)) (by omega) (Kept.mod hku1) hbu ⟨⟨hu,.inr (by omega),λt ht=>?_,?_⟩,λr hr x hx=>?_⟩ (λr hr=>?_) ?_
 .rw[List.eq_of_mem_replicate ht];exact⟨aK.nil _ _ _ _,.inl rfl⟩
 .exact List.pairwise_replicate.2 (.inr (.inl rfl))
 .rw[List.eq_of_mem_replicate hr]at hx;cases hx
 .rw[List.eq_of_mem_replicate hr];exact Nat.zero_le _
 .rw[hp,List.drop_zero,List.map_replicate,hl1];rfl
end
def ShN(m:Nat)(x:ND):Prop:=x.aT.length<=m
def ShA(m:Nat)(x:AD):Prop:=ShN m x.nd
theorem zT{m:Nat}{vals:List Int}:∀(k:Nat) (f t:Int) (S:List (Int×List AD)) (N:List ND),(∀g,∀x∈l7 S g,ShA m x)->(∀x∈N,ShN m x)->(∀g,∀x∈l7 (fB vals k f t S N).2.1 g,ShA m x)/\(∀x∈(fB vals k f t S N).2.2,ShN m x)
 |0,f,t,S,N,hS,hN=>⟨hS,hN⟩
 |k+1,f,t,S,N,hS,hN=>by
  have hr:∀(N:List ND) (i:Nat),(∀x∈N,ShN m x)->∀x∈iF N i,ShN m x:=λN i hN x hx=>by
   unfold iF at hx;split at hx
   .rename_i y hy
    rcases mem_set hx with rfl | ⟨j,_,hj⟩
    .exact hN y (za0 hy)
    .exact hN x (za0 hj)
   .exact hN x hx
  unfold fB
  by_cases h1:t - f=1
  .rw[if_pos h1];refine⟨hS,λx hx=>?_⟩
   rcases zb2.1 hx with hx | hx
   .exact hN x hx
   .obtain rfl:x=_:=by simpa using hx
    exact Nat.zero_le _
  rw[if_neg h1]
  cases hg:l7 S f with
  |nil=>exact⟨hS,hN⟩
  |cons s rest=>
   simp only
   by_cases h2:s.to>=t
   .rw[if_pos h2];exact⟨hS,hN⟩
   rw[if_neg h2];have hS':∀g,∀x∈l7 (DU S f rest) g,ShA m x:=λg x hx=>by
    rw[rH]at hx;split at hx
    .exact hS f x (by rw[hg];exact .tail _ hx)
    .exact hS g x hx
   have hN':∀x∈N++[{ s.nd with left:=(N.length:Int)+1 }],ShN m x:=λx hx=>by
    rcases zb2.1 hx with hx | hx
    .exact hN x hx
    .obtain rfl:x=_:=by simpa using hx
     exact hS f s (by rw[hg];exact .head _)
   obtain⟨r1,r2⟩:=zT (vals:=vals) k f s.to (DU S f rest) (N++[{ s.nd with left:=(N.length:Int)+1 }]) hS' hN'
   cases hb:fB vals k f s.to (DU S f rest) (N++[{ s.nd with left:=(N.length:Int)+1 }]) with
   |mk b p=>
    obtain⟨S1,N1⟩:=p;rw[hb]at r1 r2
    cases b with
    |false=>exact⟨r1,hr N1 _ r2⟩
    |true=>exact zT (vals:=vals) k s.to t S1 (iF N1 N.length) r1 (hr N1 _ r2)
theorem LV{m:Nat}{l:List AD}(h:∀x∈l,ShA m x):∀g,∀x∈l7 (oI (gY l)) g,ShA m x:=λg x hx=>by
 rw[uI]at hx;have hx':=(sorted_perm Me _).mem_iff.1 hx;have key:∀(l:List AD) (S:List (Int×List AD)),(∀x∈l,ShA m x)->(∀g,∀x∈l7 S g,ShA m x)->∀g,∀x∈l7 (l.foldl Jg S) g,ShA m x:=by
  intro l
  induction l with
  |nil=>exactλS _ h=>h
  |cons y l ih=>
   intro S hl hS;refine ih (Jg S y) (λx hx=>hl x (.tail _ hx)) λg x hx=>?_;rw[yj]at hx;split at hx
   .rcases zb2.1 hx with hx | hx
    .exact hS g x hx
    .obtain rfl:x=y:=by simpa using hx
     exact hl x (.head _)
   .exact hS g x hx
 exact key l [] h (λ_ _ h=>by cases h) g x hx'
theorem UZ{m:Nat}{l:List AD}{vals:List Int}(h:∀x∈l,ShA m x)(h0:0<vals.length):(uj l vals).2.length<=2*vals.length/\∀x∈(uj l vals).2,ShN m x:=by
 unfold uj
 split
 .rename_i ha;have h1:=oU (vals:=vals) (n:=(vals.length:Int)) vals.length 0 vals.length (oI (gY l)) [] (by omega) (Jo ha);refine⟨?_,(zT vals.length 0 vals.length (oI (gY l)) [] (LV h) (λ_ h=>by cases h)).2⟩;have:=h1.2.2;simp only[zc6]at this;show(fB vals vals.length 0 vals.length (oI (gY l)) []).2.2.length<=_;omega
 .exact⟨Nat.zero_le _,λ_ h=>by cases h⟩
theorem DF{m:Nat}{ask:cZ->AD}(ha:∀c,(ask c).nd.aT=c.aT):∀(l:List cZ) (N N':List (List AD)),(∀c∈l,c.aT.length<=m)->(∀r∈N,∀x∈r,ShA m x)->sW ask l N=some N'->(∀r∈N',∀x∈r,ShA m x)
 | [],N,N',_,hN,h=>by cases h;exact hN
 |c::cs,N,N',hl,hN,h=>by
  rw[qR]at h;split at h
  .refine DF ha cs _ _ (λc hc=>hl c (.tail _ hc)) (λr hr x hx=>?_) h
   rcases mem_set hr with rfl | ⟨j,_,hj⟩
   .rcases zb2.1 hx with hx | hx
    .rw[za8]at hx
     cases hg:N[c.tree.toNat]? with
     |none=>rw[hg]at hx;cases hx
     |some r=>rw[hg]at hx;exact hN r (za0 hg) x hx
    .obtain rfl:x=ask c:=by simpa using hx
     show(ask c).nd.aT.length<=m;rw[ha];exact hl c (.head _)
   .exact hN r (za0 hj) x hx
  .cases h
theorem Jt{m:Nat}:∀(l:List dL) (N N':List (List AD)),(∀x∈l,(∀c∈x.numbers,c.aT.length<=m)/\(∀c∈x.aT,c.aT.length<=m))->(∀r∈N,∀x∈r,ShA m x)->vP l N=some N'->(∀r∈N',∀x∈r,ShA m x)
 | [],N,N',_,hN,h=>by cases h;exact hN
 |x::xs,N,N',hl,hN,h=>by
  unfold vP QK at h
  cases h1:sW (qF x.feature false x.lost) x.numbers N with
  |none=>rw[h1]at h;cases h
  |some N1=>
   rw[h1]at h;simp only[Option.bind_some]at h
   cases h2:sW (qF x.feature true x.lost) x.aT N1 with
   |none=>rw[h2]at h;cases h
   |some N2=>
    rw[h2]at h;simp only[Option.bind_some]at h;exact Jt xs N2 N' (λy hy=>hl y (.tail _ hy)) (DF (λ_=>rfl) _ _ _ (hl x (.head _)).2 (DF (λ_=>rfl) _ _ _ (hl x (.head _)).1 hN h1) h2) h
theorem FC:∀(l:List dL) (N N':List (List AD)),vP l N=some N'->N'.length=N.length
 | [],N,N',h=>by cases h;rfl
 |x::xs,N,N',h=>by
  have cl:∀(ask:cZ->AD) (l:List cZ) (N N':List (List AD)),sW ask l N=some N'->N'.length=N.length:=by
   intro ask l
   induction l with
   |nil=>intro N N' h;cases h;rfl
   |cons c cs ih=>
    intro N N' h;rw[qR]at h;split at h
    .have:=ih _ _ h;rwa [zf6]at this
    .cases h
  unfold vP QK at h
  cases h1:sW (qF x.feature false x.lost) x.numbers N with
  |none=>rw[h1]at h;cases h
  |some N1=>
   rw[h1]at h;simp only[Option.bind_some]at h
   cases h2:sW (qF x.feature true x.lost) x.aT N1 with
   |none=>rw[h2]at h;cases h
   |some N2=>
    rw[h2]at h;simp only[Option.bind_some]at h;rw[FC xs N2 N' h,cl _ _ _ _ h2,cl _ _ _ _ h1]
theorem OB{m:Nat}{b:kJ}{l:List AD}{i:Nat}{t:TD}(hl:∀x∈l,ShA m x)(h:ng b l i=some t):t.nodes.length<=8192/\∀x∈t.nodes,ShN m x:=by
 unfold ng at h;split at h
 .cases h
 .rename_i hn;split at h
  .cases h;have h3:0<(b.values.getD i []).length/\(b.values.getD i []).length<=4096:=by omega
   obtain⟨h1,h2⟩:=UZ (m:=m) (vals:=b.values.getD i []) hl h3.1;exact⟨by show(uj l (b.values.getD i [])).2.length<=8192;omega,h2⟩
  .cases h
theorem Jk{m:Nat}{b:kJ}:∀(N:List (List AD)) (i:Nat) (ts:List TD),(∀r∈N,∀x∈r,ShA m x)->wU b N i=some ts->ts.length=N.length/\∀t∈ts,t.nodes.length<=8192/\∀x∈t.nodes,ShN m x
 | [],i,ts,_,h=>by cases h;exact⟨rfl,λ_ h=>by cases h⟩
 |r::N,i,ts,hN,h=>by
  unfold wU at h
  cases h1:ng b r i with
  |none=>rw[h1]at h;cases h
  |some t=>
   rw[h1]at h;simp only[Option.bind_some]at h
   cases h2:wU b N (i+1) with
   |none=>rw[h2]at h;cases h
   |some ts' =>
    rw[h2]at h;simp only[Option.map_some]at h;cases h;obtain⟨e1,e2⟩:=Jk N (i+1) ts' (λr hr=>hN r (.tail _ hr)) h2;refine⟨by simp[e1],λt ht=>?_⟩
    rcases zb3.1 ht with rfl | ht
    .exact OB (hN r (.head _)) h1
    .exact e2 t ht
theorem Sz{b:kJ}{ts:List TD}(hsm:b.sm)(h:rV b=some ts):ts.length=b.leaves.length/\∀t∈ts,t.nodes.length<=8192/\∀x∈t.nodes,ShN 1048576 x:=by
 unfold rV at h;split at h
 .cases h
 .cases h1:vP b.lists (List.replicate b.leaves.length []) with
  |none=>rw[h1]at h;cases h
  |some N=>
   rw[h1]at h;simp only[Option.bind_some]at h;have hN:=Jt (m:=1048576) b.lists _ N (λx hx=>by
    have:=hsm.2.2.2.2.2 x hx;exact⟨λc hc=>this.1.2 c hc,λc hc=>this.2.1.2 c hc⟩) (λr hr x hx=>by rw[List.eq_of_mem_replicate hr]at hx;cases hx) h1
   obtain⟨e1,e2⟩:=Jk N 0 ts hN h;refine⟨?_,e2⟩;rw[e1,FC _ _ _ h1,zd5]
theorem EN:∀(ts:List TD) (k:Nat),(dH ts k).length<=ts.length*4096
 | [],k=>Nat.zero_le _
 |t::ts,k=>by
  show(kP k t.nodes++dH ts (k+1)).length<=_;rw[za6,zc5,ze7,Nat.one_mul];have h1:=EN ts (k+1);have h2:(kP k t.nodes).length<=4096:=zb5 (List.length_filterMap_le _ _) (nZ _);omega
theorem FO:∀(ts:List TD) (k:Nat) (p:ND×cZ),p∈dH ts k->∃t∈ts,p.1∈t.nodes/\p.2.aT=p.1.aT
 |t::ts,k,p,h=>by
  rcases zb2.1 (show p∈kP k t.nodes++dH ts (k+1) from h) with h | h
  .obtain⟨m,_,hm⟩:=List.mem_filterMap.1 h;unfold sU at hm;obtain⟨x,hx,rfl⟩:=zd7.1 hm;exact⟨t,.head _,za0 hx,rfl⟩
  .obtain⟨t',h1,h2⟩:=FO ts (k+1) p h;exact⟨t',.tail _ h1,h2⟩
def WV(m n:Nat)(L:List dL):Prop:=L.length<=n/\∀x∈L,x.numbers.length<=n/\x.aT.length<=n/\x.lost.length<=n/\(∀c∈x.numbers,c.aT.length<=m)/\(∀c∈x.aT,c.aT.length<=m)/\(∀c∈x.lost,c.aT.length<=m)
theorem WE{m n:Nat}{L:List dL}{p:ND×cZ}(h:WV m n L)(hp:p.2.aT.length<=m):WV m (n+1) (nM L p):=by
 have he:WV m n (xX p.1.feature L)\/((xX p.1.feature L).length<=n+1/\∀x∈xX p.1.feature L,x.numbers.length<=n/\x.aT.length<=n/\x.lost.length<=n/\(∀c∈x.numbers,c.aT.length<=m)/\(∀c∈x.aT,c.aT.length<=m)/\(∀c∈x.lost,c.aT.length<=m)):=by
  unfold xX
  split
  .exact .inl h
  .refine .inr ⟨by have:=h.1;simp;omega,λx hx=>?_⟩
   rcases zb2.1 hx with hx | hx
   .exact h.2 x hx
   .obtain rfl:x=_:=by simpa using hx
    exact⟨Nat.zero_le _,Nat.zero_le _,Nat.zero_le _,(λ_ h=>by cases h),(λ_ h=>by cases h),(λ_ h=>by cases h)⟩
 have he':(xX p.1.feature L).length<=n+1/\∀x∈xX p.1.feature L,x.numbers.length<=n/\x.aT.length<=n/\x.lost.length<=n/\(∀c∈x.numbers,c.aT.length<=m)/\(∀c∈x.aT,c.aT.length<=m)/\(∀c∈x.lost,c.aT.length<=m):=by
  rcases he with h | h
  .exact⟨by have:=h.1;omega,h.2⟩
  .exact h
 refine⟨by unfold nM;rw[za7];exact he'.1,λy hy=>?_⟩;unfold nM at hy;obtain⟨x,hx,rfl⟩:=zd4.1 hy;obtain⟨h1,h2,h3,h4,h5,h6⟩:=he'.2 x hx;have app:∀l:List cZ,(∀c∈l,c.aT.length<=m)->∀c∈l++[p.2],c.aT.length<=m:=λl hl c hc=>by
  rcases zb2.1 hc with hc | hc
  .exact hl c hc
  .obtain rfl:c=p.2:=by simpa using hc
   exact hp
 split
 .unfold vI
  by_cases hk:p.1.kind=3
  .by_cases hm:p.1.missing=2
   .simp only[hk,hm,if_true];exact⟨by omega,by simp;omega,by simp;omega,h4,app _ h5,app _ h6⟩
   .simp only[hk,hm,if_true,if_false];exact⟨by omega,by simp;omega,by omega,h4,app _ h5,h6⟩
  .by_cases hm:p.1.missing=2
   .simp only[hk,hm,if_true,if_false];exact⟨by simp;omega,by omega,by simp;omega,app _ h4,h5,app _ h6⟩
   .simp only[hk,hm,if_false];exact⟨by simp;omega,by omega,by omega,app _ h4,h5,h6⟩
 .exact⟨by omega,by omega,by omega,h4,h5,h6⟩
theorem JF{m:Nat}:∀(cs:List (ND×cZ)) (L:List dL) (n:Nat),WV m n L->(∀p∈cs,p.2.aT.length<=m)->WV m (n+cs.length) (cs.foldl nM L)
 | [],L,n,h,_=>h
 |p::cs,L,n,h,hp=>by
  have:=JF cs (nM L p) (n+1) (WE h (hp p (.head _))) (λq hq=>hp q (.tail _ hq));rw[zc5,ze9];have e:n+(cs.length+1)=n+1+cs.length:=by omega
  rw[e];exact this
theorem Pg{m:Nat}{ts:List TD}(hs:∀t∈ts,∀x∈t.nodes,x.aT.length<=m):WV m (ts.length*4096) (dN ts):=by
 have h:=JF (m:=m) (dH ts 0) [] 0 ⟨zb4 _,λ_ h=>by cases h⟩ (λp hp=>by
  obtain⟨t,ht,h1,h2⟩:=FO ts 0 p hp;rw[h2];exact hs t ht _ h1)
 have hl:=EN ts 0;unfold dN;have hpm:=sorted_perm ltF (((dH ts 0).foldl nM []).map Az);refine⟨by rw[hpm.length_eq,za7];have:=h.1;omega,λy hy=>?_⟩;obtain⟨x,hx,rfl⟩:=zd4.1 (hpm.mem_iff.1 hy);obtain⟨h1,h2,h3,h4,h5,h6⟩:=h.2 x hx;have hp2:=sorted_perm ltD x.numbers;exact⟨by show(sorted ltD x.numbers).length<=_;rw[hp2.length_eq];omega,by show x.aT.length<=_;omega,by show x.lost.length<=_;omega,λc hc=>h4 c (hp2.mem_iff.1 hc),h5,h6⟩
theorem Px{ts:List TD}{first:Int}(hl:ts.length<=65536)(hn:∀t∈ts,t.nodes.length<=1048576)(hs:∀t∈ts,∀x∈t.nodes,x.aT.length<=1048576):(dm ts first).sm:=by
 obtain⟨h1,h2⟩:=Pg hs;refine⟨by show(ts.map _).length<=_;rw[za7];omega,by show(ts.map _).length<=_;rw[za7];omega,λv hv=>?_,by show(ts.map _).length<=_;rw[za7];omega,by show(dN ts).length<=_;omega,λl hl'=>?_⟩
 .obtain⟨t,ht,rfl⟩:=zd4.1 hv;show((dA t.nodes false).map _).length<=_;rw[za7];exact zb5 (QP (nodes:=t.nodes) false) (hn t ht)
 .obtain⟨a1,a2,a3,a4,a5,a6⟩:=h2 l hl';exact⟨⟨by omega,a4⟩,⟨by omega,a5⟩,⟨by omega,a6⟩⟩
theorem Td{e:ED}{rs:List (Int×Int)}(h0:ofE e rs=0):rO e=0/\jc e.trees.length rs 0=true:=by
 unfold ofE at h0;split at h0
 .rename_i h;exact absurd h0 h
 .rename_i h;split at h0
  .rename_i h2;exact⟨by omega,h2⟩
  .cases h0
theorem Uz{e:ED}{rs:List (Int×Int)}(h0:ofE e rs=0)(hn:∀t∈e.trees,t.nodes.length<=1048576)(hs:∀t∈e.trees,∀x∈t.nodes,x.aT.length<=1048576):(ofP e rs).sm:=by
 have hP:ofP e rs=rW e rs:=by unfold ofP;rw[if_pos h0]
 obtain⟨h1,h2⟩:=Td h0;have h3:=vk h2;have h4:e.trees.length<=65536/\e.base.length<=64:=by
  unfold rO at h1;split at h1
  .cases h1
  split at h1
  .cases h1
  split at h1
  .cases h1
  split at h1
  .cases h1
  split at h1
  .cases h1
  omega
 rw[hP];refine⟨by show e.base.length<=_;omega,by show(rs.map _).length<=_;rw[za7];omega,λb hb=>?_⟩;obtain⟨r,hr,rfl⟩:=zd4.1 hb;have hsub:∀t∈(e.trees.take r.2.toNat).drop r.1.toNat,t∈e.trees:=λt ht=>zf3 (List.mem_of_mem_drop ht);refine Px ?_ (λt ht=>hn t (hsub t ht)) (λt ht=>hs t (hsub t ht));rw[zb7,zb6];omega
def pW:List kJ->List TD->List (Int×Int)->Option (List TD×List (Int×Int))
 | [],T,r=>some (T,r)
 |b::bs,T,r=>match rV b with
  |none=>none
  |some ts=>if b.first≠T.length then none else pW bs (T++ts) (r++[(b.first,((T++ts).length:Int))])
def ig(f:fC)(T:List TD):ED:=⟨⟨#[]⟩,List.replicate f.features.toNat ⟨#[]⟩,f.outputs,f.base,T⟩
noncomputable def gJ(f:fC):Option (List TD):=if f.features<0\/f.features>65536 then none else
 (pW f.blocks [] []).bind λp=>if ofE (ig f p.1) p.2=0/\ofP (ig f p.1) p.2=f then some p.1 else none
def trT(l:List kJ):Nat:=(l.map λb=>b.leaves.length).sum
structure SmF(f:fC):Prop where
 sm:f.sm
 tot:∀b∈f.blocks,ui b.lists<=549755813888
 trs:trT f.blocks<=1048576
section
variable{w u wB x:World}{a:OA}{n c:Nat}{F:Nat->Prop}{B:Nat}{f:fC}{s t:SH}
theorem SRn:fV prog 27 nS 2 16:=sliceT (by kernel_rfl)
abbrev tS':Nat:=9
def qK(w:World)(f:fC)(v:Value)(u:World):Prop:=∃(a:OA) (n c:Nat) (why:Int),v = .tuple #[.slice a n c,.int .i64 why]/\(gJ f=none->why=150/\a=none/\n=0/\c=0)/\(∀ts,gJ f=some ts->why=0/\Ls tT (λk=>w.heap.size<=k/\k<u.heap.size) u a n c ts)/\From w.heap.size w u
abbrev NX(B ke gT gR:Nat)(w:World):Nat->Prop:=λb=>B<=b/\b<w.heap.size/\b≠ke/\b+1≠gT/\b+1≠gR
structure BkS(wB w:World)(f:fC)(s t:SH)(kf ke:Nat)(sf:SH)(gF:Nat)(T:List (TD×SH))(sT:SH)(gT:Nat)(rs:List (Int×Int))(sR:SH)(gR:Nat):Prop where
 fr:From wB.heap.size wB w
 bf:Blk w kf (jo f s t).toArray jb
 be:Blk w ke #[.string ⟨#[]⟩,sf.v,.int .i64 f.outputs,s.v,sT.v] Hw
 ft:Arr enS tS' w sf.a sf.n sf.c (List.replicate f.features.toNat ⟨#[]⟩) gF
 tr:aK 2 Aj tT' w sT.a sT.n sT.c T gT
 nd:∀x∈T,Ls tN (NX wB.heap.size ke gT gR w) w x.2.a x.2.n x.2.c x.1.nodes
 rr:aK 2 enR nS w sR.a sR.n sR.c rs gR
 gB:gT=0\/wB.heap.size<gT
 rB:gR=0\/wB.heap.size<gR
 kB:wB.heap.size<=ke
 sz:∀x∈T,x.1.nodes.length<=8192/\∀y∈x.1.nodes,ShN 1048576 y
theorem BkS.kept{kf ke:Nat}{sf sT sR:SH}{gF gT gR:Nat}{T:List (TD×SH)}{rs:List (Int×Int)}(h:BkS wB w f s t kf ke sf gF T sT gT rs sR gR)(hk:Kept w u):BkS wB u f s t kf ke sf gF T sT gT rs sR gR :=
 ⟨h.fr.aG hk,h.bf.keep hk,h.be.keep hk,h.ft.kept hk,h.tr.kept hk,λx hx=>((h.nd x hx).kept hk).mono λb hb=>⟨hb.1,by have:=hb.2.1;have:=hk.size;omega,hb.2.2⟩,h.rr.kept hk,h.gB,h.rB,h.kB,h.sz⟩
theorem Su{kf ke:Nat}{sf sT sR:SH}{gF gT gR:Nat}{T:List (TD×SH)}{rs:List (Int×Int)}(hG:jr F wB f s t)(hF:∀b,F b->b<wB.heap.size)(h:BkS wB w f s t kf ke sf gF T sT gT rs sR gR)(hfe:0<=f.features/\f.features<=65536)(hT:T.length<=1048576)(hR:rs.length<=1048576)
  (hp:gJ f=if ofE (ig f (T.map (·.1))) rs=0/\ofP (ig f (T.map (·.1))) rs=f then some (T.map (·.1)) else none) :
  aV (some (⟨ke,0,none⟩:Addr)) λq69=>
  U6 w q69 λs70'0 a70'1 n70'1 c70'1 x70'2 a70'3 n70'3 c70'3 a70'4 n70'4 c70'4=>
  E.CallsD prog 7 #[yl s70'0 a70'1 n70'1 c70'1 x70'2 a70'3 n70'3 c70'3 a70'4 n70'4 c70'4,.slice sR.a sR.n sR.c] w λv71 u72=>
   ∃x73'0_0 x73'0_1 a73'0_2 n73'0_2 c73'0_2 a73'0_3 n73'0_3 c73'0_3 x73'1,v71 = .tuple #[kE x73'0_0 x73'0_1 a73'0_2 n73'0_2 c73'0_2 a73'0_3 n73'0_3 c73'0_3,.int .i64 x73'1] /\
    (nw (u72.alloc (.cells (mr 0 0 none 0 0 none 0 0) 31)) λw74=>
    xQ w74 (na u72) x73'0_0 x73'0_1 a73'0_2 n73'0_2 c73'0_2 a73'0_3 n73'0_3 c73'0_3 λw75=>
    af (x73'1 != 0)
     (qK wB f (.tuple #[.slice none 0 0,.int .i64 150]) w75)
     (mV w75 (na u72) λx76'0 x76'1 a76'2 n76'2 c76'2 a76'3 n76'3 c76'3=>
     aV (some (⟨kf,0,none⟩:Addr)) λq77=>
     mV w75 q77 λx78'0 x78'1 a78'2 n78'2 c78'2 a78'3 n78'3 c78'3=>
     E.CallsD prog 39 #[kE x76'0 x76'1 a76'2 n76'2 c76'2 a76'3 n76'3 c76'3,kE x78'0 x78'1 a78'2 n78'2 c78'2 a78'3 n78'3 c78'3] w75 λv79 u80=>
      ∃b81',v79 = .bool b81' /\
       (af (!b81')
        (qK wB f (.tuple #[.slice none 0 0,.int .i64 150]) u80)
        (aV (some (⟨ke,0,none⟩:Addr)) λq82=>
        cL u80 (q82.add 4) λa83' n83' c83' =>
        qK wB f (.tuple #[.slice a83' n83' c83',.int .i64 0]) u80)))):=by
 have cE:∀ {u:World} (hb:Blk u ke #[.string ⟨#[]⟩,sf.v,.int .i64 f.outputs,s.v,sT.v] Hw) (i:Nat),u.cell? ((⟨ke,0,none⟩:Addr).add i)=(#[.string ⟨#[]⟩,sf.v,.int .i64 f.outputs,s.v,sT.v]:Array Value)[i]?:=λhb i=>by rw[addr_add,zd1,hb.cell]
 have hTl:=aK.KD h.tr;have hfl:=h.ft.len;rw[zd5]at hfl;have hsm:=hG.sm;have hbl:=hG.bs.len;have hsm1:=hsm.1;have hRl:=aK.len (k:=2) (en:=enR) (λ_=>rfl) (by omega) h.rr;refine⟨_,by rw[cE h.be];rfl,sf.a,sf.n,sf.c,by rw[cE h.be];rfl,_,by rw[cE h.be];rfl,s.a,s.n,s.c,by rw[cE h.be];rfl,sT.a,sT.n,sT.c,by rw[cE h.be];rfl,?_⟩;have bad:gJ f=none->∀u,From wB.heap.size wB u->qK wB f (.tuple #[.slice none 0 0,.int .i64 150]) u:=λhh u hu=>⟨none,0,0,150,rfl,λ_=>⟨rfl,rfl,rfl,rfl⟩,λts ht=>(by rw[hh]at ht;cases ht),hu⟩;have hE:rZ (λb=>b<w.heap.size) w (ig f (T.map (·.1))) sf s sT:=by
  refine⟨?_,?_,?_,λb hb=>hb,by omega,by omega,by omega,λx hx=>?_⟩
  .exact(Arr.ls (h1:=λ_=>rfl) h.ft).mono λb hb=>by have:=Row.le h.ft;omega
  .exact(From.ls hG.bs h.fr hF).mono λb hb=>by have:=hF b hb;have:=h.fr.size;omega
  .exact aK.lsT h.tr (λb hb=>by have:=Row.le h.tr;omega) λx hx=>(h.nd x hx).mono λb hb=>hb.2.1
  .obtain⟨y,hy,rfl⟩:=zd4.1 hx;exact⟨by have:=(h.sz y hy).1;omega,λz hz=>(h.sz y hy).2 z hz⟩
 have hrs:Ls tR (λb=>b+1=gR) w sR.a sR.n sR.c rs:=by
  have:=aK.lsK (T:=tR) (f:=id) (en:=enR) (k:=2) (F:=λb=>b+1=gR) (λ_=>rfl) (by omega) rfl h.rr (λb hb=>hb) (λx _=>rfl);simpa using this
 have hn:sR.n<=16777216:=by omega
 have hc:=a0d hE hrs (λb hb=>by have:=Row.le h.rr;omega) hn;refine zg0 hc λv u hh=>?_;obtain⟨s',k',hv,hfo,hku⟩:=hh;have hsmP:ofE (ig f (T.map (·.1))) rs=0->(ofP (ig f (T.map (·.1))) rs).sm:=λh0=>Uz h0 (λt ht=>(hE.good t ht).1) (λt ht=>(hE.good t ht).2);obtain⟨P,hP⟩:∃P,P=ofP (ig f (T.map (·.1))) rs:=⟨_,rfl⟩;rw[<- hP]at hfo hp hv hsmP;obtain⟨y,hy⟩:∃y,y=ofE (ig f (T.map (·.1))) rs:=⟨_,rfl⟩;rw[<- hy]at hp hv hsmP;refine za4 P.features (za4 P.outputs (za4 s'.a (za4 s'.n (za4 s'.c (za4 k'.a (za4 k'.n (za4 k'.c (za4 y ⟨hv,?_⟩))))))));refine boxS (zs:=(mr 0 0 none 0 0 none 0 0).toList) (vs:=jo P s' k') rfl λw75 hA hb75 hk75=>?_;have hkw:=zg1 hku hk75;have f75:From wB.heap.size wB w75:=h.fr.aG hkw;refine ja (λhne=>bad (by rw[hp,if_neg (λhh=>hne hh.1)]) w75 f75) λh0=>?_;have hAf:AtL w75 (⟨kf,0,none⟩:Addr) (jo f s t):=λj v hj=>by
  rw[addr_add,zd1,(h.bf.keep hkw).cell];simpa using hj
 refine⟨_,hA 0 _ rfl,_,hA 1 _ rfl,s'.a,s'.n,s'.c,hA 2 _ rfl,k'.a,k'.n,k'.c,hA 3 _ rfl,?_⟩;refine⟨_,hAf 0 _ rfl,_,hAf 1 _ rfl,s.a,s.n,s.c,hAf 2 _ rfl,t.a,t.n,t.c,hAf 3 _ rfl,?_⟩;have hGP:jr (λb=>w.heap.size<=b/\b<u.heap.size) w75 P s' k':=⟨hfo.b.kept hk75,hfo.k.kept hk75,hsmP h0⟩;have hGf:jr F w75 f s t:=⟨From.ls hG.bs f75 hF,From.ls hG.ks f75 hF,hG.sm⟩;refine uT (Vh hGP hGf) (λhne u2 hk2=>bad (by rw[hp,if_neg (λhh=>hne hh.2)]) u2 (f75.aG hk2)) λheq u2 hk2=>?_;have hk2w:=zg1 hkw hk2;refine za4 sT.a (za4 sT.n (za4 sT.c ⟨by rw[cE (h.be.keep hk2w)];rfl,?_⟩));rw[if_pos ⟨h0,heq⟩]at hp;refine⟨sT.a,sT.n,sT.c,0,rfl,λhh=>(by rw[hp]at hh;cases hh),λts hts=>⟨rfl,?_⟩,f75.aG hk2⟩;rw[hp]at hts;cases hts;have hs2:=hk2w.size;refine aK.lsT (h.tr.kept hk2w) (λb hb=>?_) λx hx=>((h.nd x hx).kept hk2w).mono λb hb=>⟨hb.1,by have:=hb.2.1;omega⟩;have:=Row.le h.tr;have:=h.gB;omega
end
section
variable{w u wB x:World}{a:OA}{n c:Nat}{F S:Nat->Prop}{p q:Addr}{f:fC}{s t:SH}
theorem TB{l:List kJ}{i:Nat}{x:kJ}(hx:l[i]?=some x):trT (l.drop i)=x.leaves.length+trT (l.drop (i+1)):=by
 obtain⟨hl,he⟩:=za1.1 hx;rw[zb0 hl,he];rfl
set_option maxHeartbeats 1000000 in
theorem TG{kf ke:Nat}{sf:SH}{gF:Nat}{res:Option (List TD×List (Int×Int))}(hG:jr F wB f s t)(hS:SmF f)(hF:∀b,F b->b<wB.heap.size)(hfe:0<=f.features/\f.features<=65536)
  (hp:gJ f=res.bind λp=>if ofE (ig f p.1) p.2=0/\ofP (ig f p.1) p.2=f then some p.1 else none) :
  ∀(k i:Nat) (w:World) (T:List (TD×SH)) (sT:SH) (gT:Nat) (rs:List (Int×Int)) (sR:SH) (gR:Nat),i+k=t.n->BkS wB w f s t kf ke sf gF T sT gT rs sR gR->T.length+trT (f.blocks.drop i)<=1048576->rs.length=i->pW (f.blocks.drop i) (T.map (·.1)) rs=res ->
   eU.l20 (qK wB f) (k+1) (some ⟨kf,0,none⟩) (some ⟨ke,0,none⟩) sR.a sR.n sR.c t.a t.n t.c t.n i w:=by
 intro k;have hbl:=hG.ks.len;have hsm2:=hG.sm.2.1;have bad:gJ f=none->∀u,From wB.heap.size wB u->qK wB f (.tuple #[.slice none 0 0,.int .i64 150]) u:=λhh u hu=>⟨none,0,0,150,rfl,λ_=>⟨rfl,rfl,rfl,rfl⟩,λts ht=>(by rw[hh]at ht;cases ht),hu⟩
 induction k with
 |zero=>
  intro i w T sT gT rs sR gR hi h hT hR hres;obtain rfl:i=t.n:=by omega
  rw[List.drop_eq_nil_of_le (by omega)]at hres;rw[eU.u20];unfold eU.g20;refine aA (by omega) (Su hG hF h hfe (by omega) (by omega) ?_);rw[hp,<- hres];rfl
 |succ k ih=>
  intro i w T sT gT rs sR gR hi h hT hR hres;rw[eU.u20];unfold eU.g20;refine aH (by omega) ?_;have hB:=h.fr.size;obtain⟨p,x,cs,hp0,hx,hFp,⟨s1,s2,s3,s4,e,hb1,hb2,hb3,hb4⟩,hA0⟩:=hG.ks.elem (i:=i) (by omega);subst e;have hA:=hA0.mod (S:=λk=>wB.heap.size<=k) h.fr (by rw[add_block];have:=hF _ hFp;omega);obtain⟨hxl,hxe⟩:=za1.1 hx;have hxm:=za0 hx;have hxs:=hG.sm.2.2 x hxm;have hdr:f.blocks.drop i=x::f.blocks.drop (i+1):=by rw[zb0 hxl,hxe]
  rw[TB hx]at hT;rw[hdr]at hres;rw[hp0];refine dK ⟨by omega,by omega⟩ (AtL.ldB hA ?_);refine boxS (zs:=(nD 0 none 0 0 none 0 0 none 0 0 none 0 0).toList) (vs:=mG x s1 s2 s3 s4) rfl λw46 hA46 hb46 hk46=>?_;have h46:=h.kept hk46;have f46:=h46.fr;refine AtL.ldB hA46 ?_;have hIn:jw F w46 x s1 s2 s3 s4:=⟨From.ls hb1 f46 hF,From.ls hb2 f46 hF,From.ls hb3 f46 hF,From.ls hb4 f46 hF⟩;refine zg0 (Xk hIn (λb hb=>by have:=hF b hb;have:=f46.size;omega) hxs (hS.tot x hxm)) λv u hh=>?_;obtain⟨a',n',c',ok,hv,hnone,hsome,hfu⟩:=hh;refine⟨a',n',c',ok,hv,?_⟩;have hk49:Kept w46 u:=zg4 hfu;have h49:=h46.kept hk49;have f49:=h49.fr
  cases hbk:rV x with
  |none=>
   rw[hnone hbk];refine bad ?_ u f49;rw[hp,<- hres];show(Option.bind (match rV x with | none=>none | some ts=>_) _)=none;rw[hbk];rfl
  |some ts=>
   obtain⟨rfl,hls⟩:=hsome ts hbk;have hsz:=Sz hxs hbk;have hres':(if x.first≠(T.map (·.1)).length then none else pW (f.blocks.drop (i+1)) (T.map (·.1)++ts) (rs++[(x.first,((T.map (·.1)++ts).length:Int))]))=res:=by
    rw[<- hres];show _=(match rV x with | none=>none | some ts=>_);rw[hbk]
   have hA49:AtL u (na w) (mG x s1 s2 s3 s4):=hA46.kept hk49;have hTl:=aK.KD h.tr;have cE:∀ {u:World} {z:SH} (hb:Blk u ke #[.string ⟨#[]⟩,sf.v,.int .i64 f.outputs,s.v,z.v] Hw),u.cell? ((⟨ke,0,none⟩:Addr).add 4)=some z.v:=λhb=>by rw[addr_add,zd1,hb.cell];rfl
   refine GG ?_;refine za4 x.first ⟨hA49 0 _ rfl,za4 sT.a (za4 sT.n (za4 sT.c ⟨cE h49.be,?_⟩))⟩;refine ja (λhne=>bad (by rw[hp,<- hres',if_pos (by rw[za7];omega)];rfl) u f49) λheq=>?_;rw[if_neg (by rw[za7];omega)]at hres';refine za4 sT.a (za4 sT.n (za4 sT.c ⟨cE h49.be,?_⟩));obtain⟨l,hl1,hl2,hl3⟩:=hls.YZ;have hll:l.length=ts.length:=by rw[<- hl1,za7]
   have hn':n'=ts.length:=hls.len;have hsz1:=hsz.1;refine aK.pushes Zd (λ_=>rfl) (by omega) h49.tr Ef hl2 (by simp only[maxLen];omega) (by omega) λa2 c2 g2 u57 hrow2 hg2 ho2=>⟨a2,sT.n+n',c2,rfl,?_⟩;have hgT:=h49.gB;have hgTl:=Row.le h49.tr;have typ:∀ {b:Nat} {cs:Array Value} {e:Nat},Blk u b cs e->e≠tT'->¬ (b+1=gT):=λhb he hk=>by
    obtain⟨cur,hb'⟩:=Row.blk h49.tr hk;exact he (hb.ne hb')
   have be57:=h49.be.mod ho2 (λhk=>typ h49.be (by decide) hk);have bs:=be57.set 4 (.slice a2 (sT.n+n') c2);have hos:=zg5 u57 ke 4 (.slice a2 (sT.n+n') c2);have e4:(((⟨ke,0,none⟩:Addr).add 4).add 0)=⟨ke,4,none⟩:=by rw[addr_add,addr_add]
   show st u57 (((⟨ke,0,none⟩:Addr).add 4).add 0) _ _;rw[e4];refine⟨be57.ok (by simp),bZ ?_⟩;generalize u57.setCell ⟨ke,4,none⟩ (.slice a2 (sT.n+n') c2)=w60 at bs hos;have bs':Blk w60 ke #[.string ⟨#[]⟩,sf.v,.int .i64 f.outputs,s.v,(⟨a2,sT.n+n',c2⟩:SH).v] Hw:=bs;have knot:∀ {b:Nat} {cs:Array Value} {e:Nat},Blk u57 b cs e->e≠Hw->¬ (b+1=ke+1):=λhb he hk=>by
    obtain rfl:=Nat.succ.inj hk;exact he (hb.ne be57)
   have blk60:∀ {b:Nat} {cs:Array Value} {e:Nat},Blk u b cs e->e≠tT'->e≠Hw->Blk w60 b cs e:=λhb h1 h2=>(hb.mod ho2 (typ hb h1)).mod hos (knot (hb.mod ho2 (typ hb h1)) h2);have hb49:Blk u w.heap.size (mG x s1 s2 s3 s4).toArray tB':=hb46.keep hk49;have hb60:=blk60 hb49 (by decide) (by decide);refine za4 x.first ⟨by rw[gK,hb60.cell];rfl,za4 a2 (za4 (sT.n+n') (za4 c2 ⟨cE bs',?_⟩))⟩;have hkn:=zg3 w60 (.cells (enR (x.first,((sT.n+n':Nat):Int))).toArray nS);have hAn:=AtL.new w60 (enR (x.first,((sT.n+n':Nat):Int))) nS;show nw (w60.alloc (.cells (enR (x.first,((sT.n+n':Nat):Int))).toArray nS)) _;refine bZ ?_;generalize w60.alloc (.cells (enR (x.first,((sT.n+n':Nat):Int))).toArray nS)=w64 at hkn hAn;have rr60:aK 2 enR nS w60 sR.a sR.n sR.c rs gR:=(h49.rr.mod ho2 λk hk hk2=>by
    obtain⟨cur,hb⟩:=Row.blk h49.rr hk;exact typ hb (by decide) hk2).mod hos λk hk hk2=>by
    obtain⟨cur,hb⟩:=Row.blk h49.rr hk;exact knot (hb.mod ho2 (typ hb (by decide))) (by decide) hk2
   have hRl:=aK.len (k:=2) (en:=enR) (λ_=>rfl) (by omega) h.rr;refine aK.mY SRn (λ_=>rfl) (by omega) (rr60.kept hkn) (x:=(x.first,((sT.n+n':Nat):Int))) (q:=na w60) hAn (I5 _) (by simp only[maxLen];omega) (by omega) λa5 c5 g5 u66 hrow5 hg5 _ ho5=>⟨a5,sR.n+1,c5,rfl,aC (by omega) ?_⟩;have hgR:=h49.rB;have hgRl:=Row.le h49.rr;have hke:=h.kB;have hkel:=h49.be.lt;have z1:=ho2.size;have z2:=hos.size;have z3:=hkn.size;have z4:=ho5.size;have z5:=hk46.size;have z6:=hk49.size;have f60:From wB.heap.size wB w60:=(f49.only ho2 hgT).then hos (λk _ hk=>by have hk':k+1=ke+1:=hk;omega);have f66:From wB.heap.size wB u66:=(f60.aG hkn).only ho5 hgR;have typR:∀ {b:Nat} {cs:Array Value} {e:Nat},Blk w64 b cs e->e≠nS->¬ (b+1=gR):=λhb he hk=>by
    obtain⟨cur,hb'⟩:=Row.blk (rr60.kept hkn) hk;exact he (hb.ne hb')
   have blk66:∀ {b:Nat} {cs:Array Value} {e:Nat},Blk w60 b cs e->e≠nS->Blk u66 b cs e:=λhb h1=>(hb.keep hkn).mod ho5 (typR (hb.keep hkn) h1);have row60:aK 2 Aj tT' w60 a2 (sT.n+n') c2 (T++l) g2:=hrow2.mod hos λk hk hk2=>by
    obtain⟨cur,hb⟩:=Row.blk hrow2 hk;exact knot hb (by decide) hk2
   have row66:aK 2 Aj tT' u66 a2 (sT.n+n') c2 (T++l) g2:=(row60.kept hkn).mod ho5 λk hk hk2=>by
    obtain⟨cur,hb⟩:=Row.blk (row60.kept hkn) hk;exact typR hb (by decide) hk2
   have ft66:Arr enS tS' u66 sf.a sf.n sf.c (List.replicate f.features.toNat ⟨#[]⟩) gF:=by
    have h1:=h49.ft.mod ho2 λk hk hk2=>by
     obtain⟨cur,hb⟩:=Row.blk h49.ft hk;exact typ hb (by decide) hk2
    have h2:=h1.mod hos λk hk hk2=>by
     obtain⟨cur,hb⟩:=Row.blk h1 hk;exact knot hb (by decide) hk2
    exact(h2.kept hkn).mod ho5 λk hk hk2=>by
     obtain⟨cur,hb⟩:=Row.blk (h2.kept hkn) hk;exact typR hb (by decide) hk2
   rw[<- hp0];refine ih (i+1) u66 (T++l) ⟨a2,sT.n+n',c2⟩ g2 (rs++[(x.first,((sT.n+n':Nat):Int))]) ⟨a5,sR.n+1,c5⟩ g5 (by omega) ⟨f66,blk66 (blk60 h49.bf (by decide) (by decide)) (by decide),blk66 bs' (by decide),ft66,row66,λy hy=>?_,hrow5,by omega,by omega,hke,λy hy=>?_⟩ ?_ ?_ ?_
   ·-- the nodes lie apart
    have key:∀ {F0:Nat->Prop},(∀b,F0 b->wB.heap.size<=b/\b<u.heap.size/\b≠ke/\b+1≠gT/\b+1≠gR)->Ls tN F0 u y.2.a y.2.n y.2.c y.1.nodes->Ls tN (NX wB.heap.size ke g2 g5 u66) u66 y.2.a y.2.n y.2.c y.1.nodes:=λhF0 hL=>by
     have l1:=hL.mod ho2 λb hb hk=>(hF0 b hb).2.2.2.1 hk;have l2:=l1.mod hos λb hb hk=>(hF0 b hb).2.2.1 (by have hk':b+1=ke+1:=hk;omega);have l3:=(l2.kept hkn).mod ho5 λb hb hk=>(hF0 b hb).2.2.2.2 hk;refine l3.mono λb hb=>?_;obtain⟨q1,q2,q3,q4,q5⟩:=hF0 b hb;exact⟨q1,by omega,q3,by omega,by omega⟩
    rcases zb2.1 hy with hy | hy
    .exact key (λb hb=>hb) (h49.nd y hy)
    .refine key (λb hb=>?_) (hl3 y hy);have hgT46:=Row.le h46.tr;have hgR46:=Row.le h46.rr;have hke46:=h46.be.lt;exact⟨by omega,hb.2,by omega,by omega,by omega⟩
   .rcases zb2.1 hy with hy | hy
    .exact h.sz y hy
    .exact hsz.2 y.1 (by rw[<- hl1];exact ze8 hy)
   .rw[za6];omega
   .simp;omega
   .rw[<- hres',zb8,hl1,za6,za7,hTl,hn']
end
section
variable{w u w1 x:World}{n:Nat}{F:Nat->Prop}{R:VP}{f:fC}{s t:SH}
theorem PX(hG:jr F w f s t)(hS:SmF f)(hF:∀b,F b->b<w.heap.size):E.CallsD prog 15 #[vF f s t] w (qK w f):=by
 refine eU.calls (R:=qK w f) ?_;unfold eU eU.g0;have bad:(f.features<0\/f.features>65536)->∀u,From w.heap.size w u->qK w f (.tuple #[.slice none 0 0,.int .i64 150]) u:=λhh u hu=>⟨none,0,0,150,rfl,λ_=>⟨rfl,rfl,rfl,rfl⟩,λts ht=>(by unfold gJ at ht;rw[if_pos hh]at ht;cases ht),hu⟩;refine bZ ?_;have hbk:Blk (w.alloc (.cells (jo f s t).toArray jb)) w.heap.size (jo f s t).toArray jb:=Blk.new w _ _;have hk1:=zg3 w (.cells (jo f s t).toArray jb);change cI (w.alloc (.cells (jo f s t).toArray jb)) _ _ _;have hz:(w.alloc (.cells (jo f s t).toArray jb)).heap.size=w.heap.size+1:=by simp
 generalize w.alloc (.cells (jo f s t).toArray jb)=w1 at hbk hk1 hz;have A1:AtL w1 (na w) (jo f s t):=by simpa using AtL.blk (b:=w) hbk
 refine⟨_,A1 1 _ rfl,_,_,_,A1 2 _ rfl,?_⟩;refine boxS (zs:=(wO ⟨#[]⟩ none 0 0 0 none 0 0 none 0 0).toList) (vs:=[.string ⟨#[]⟩,.slice none 0 0,.int .i64 f.outputs,s.v,.slice none 0 0]) rfl λw2 hA2 be2 hk2=>?_;have k12:=zg1 hk1 hk2;have A2:=A1.kept hk2;have hk2s:=hk2.size;refine⟨_,A2 0 _ rfl,?_⟩
 by_cases h1:f.features<0
 .refine aH (by omega) ?_;exact bad (.inl h1) w2 (Kept.mod k12)
 refine aA (by omega) ?_;refine⟨_,A2 0 _ rfl,?_⟩
 by_cases h2:f.features>65536
 .refine aH (by omega) ?_;exact bad (.inr h2) w2 (Kept.mod k12)
 refine aA (by omega) ?_;refine⟨_,A2 0 _ rfl,?_⟩;refine Arr.make (α:=ByteArray) (en:=enS) (e:=tS') (w:=w2) (v := .string ⟨#[]⟩) (x:=⟨#[]⟩) rfl (l:=f.features) (by_:=16) (by omega) (by omega) (by omega) λu hu hku=>?_;have be3:=be2.keep hku;have bs:=be3.set 1 (.slice (some (na w2)) f.features.toNat f.features.toNat);have hos:=zg5 u w1.heap.size 1 (.slice (some (na w2)) f.features.toNat f.features.toNat);have e1:(((na w1:Addr).add 1).add 0)=⟨w1.heap.size,1,none⟩:=by rw[gK,addr_add]
 show st u (((na w1).add 1).add 0) _ _;rw[e1];refine⟨be3.ok (by simp),bZ ?_⟩;generalize u.setCell ⟨w1.heap.size,1,none⟩ (.slice (some (na w2)) f.features.toNat f.features.toNat)=w4 at bs hos;have bs':Blk w4 w1.heap.size #[.string ⟨#[]⟩,(⟨some (na w2),f.features.toNat,f.features.toNat⟩:SH).v,.int .i64 f.outputs,s.v,(⟨none,0,0⟩:SH).v] Hw:=bs;have hk13:=zg1 k12 hku;have b3:=hbk.keep (zg1 hk2 hku);have lt1:=be2.lt;have b4:=b3.mod hos (λhk=>by have hk':w.heap.size+1=w1.heap.size+1:=hk;omega);have A4:AtL w4 (na w) (jo f s t):=by simpa using AtL.blk (b:=w) b4
 refine⟨_,_,_,A4 3 _ rfl,?_⟩;have hu4:=hu.mod hos (λk h1 h2=>by have h2':k+1=w1.heap.size+1:=h2;omega);have fr4:From w.heap.size w w4:=From.then (Kept.mod hk13) hos λk _ h2=>by have h2':k+1=w1.heap.size+1:=h2;omega
 refine za4 (t.n+1) (TG (res:=pW f.blocks [] []) hG hS hF (by omega) (by unfold gJ;rw[if_neg (by omega)]) t.n 0 w4 [] ⟨none,0,0⟩ 0 [] ⟨none,0,0⟩ 0 (by omega) ⟨fr4,b4,bs',hu4,aK.nil _ _ _ _,(λ_ h=>by cases h),aK.nil _ _ _ _,.inl rfl,.inl rfl,by omega,(λ_ h=>by cases h)⟩ ?_ rfl rfl);have:=hS.trs;simpa using this
end
end Go.Mir
