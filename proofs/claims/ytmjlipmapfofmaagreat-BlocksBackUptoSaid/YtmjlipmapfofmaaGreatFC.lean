/- Part of a proof; no conditions. -/
import Derived.Test.YtmjlipmapfofmaaGreatFB
import Derived.Test.YtmjlipmapfofmaaGreatED
set_option linter.unusedVariables false
set_option linter.unusedSimpArgs false
set_option linter.unusedSectionVars false
set_option maxRecDepth 100000
open Go.Proofs.Tryz (prog)
namespace Go.Mir
open Go Go.E Go.RowKit Go.Tr Go.Ss Go.ChangeShapes
abbrev tA':Nat:=115
abbrev MZ:=MOK tA'
section
variable{w u w1:World}{a:OA}{n c:Nat}{F F':Nat->Prop}{q:Addr}{B mb:Nat}{H:List (Int×RA)}{r:RA}{x:AE}
theorem oZ(x:AE):(jG x).length=10:=rfl
theorem CE(x:AE):∀v∈jG x,v.oneCell'=true:=by
 intro v hv;simp only[jG,zb3,zf9,or_false]at hv
 rcases hv with h | h | h | h | h | h | h | h | h | h <;> subst h <;> rfl
theorem a07:fV prog 113 tA' 10 96:=sliceT (by kernel_rfl)
theorem t147:(prog).underlying 144=some (.map 3 113):=by kernel_rfl
theorem zSl(w:World):(zeroValue 113).run prog w = .ok (.slice none 0 0) w:=by kernel_rfl
def ZL(r:RA)(u:World):Prop:=Row u tA' 10 r.1.a r.1.n r.1.c (r.2.1.flatMap jG) r.2.2
def Row1(r:RA)(x:AE)(u:World):Prop:=Row u tA' 10 r.1.a (r.1.n+1) r.1.c (r.2.1.flatMap jG++jG x) r.2.2
def LeR(r:RA)(x:AE)(u u':World):Prop:=Only r.2.2 u u'/\(ZL r u->ZL r u')/\(Row1 r x u->Row1 r x u')
theorem CV{u':World}(h:Kept u u'):LeR r x u u':=⟨Kept.mod h,λk=>Row.kept k h,λk=>Row.kept k h⟩
def FR(B:Nat)(r:RA)(x:AE):Nat->Value->World->Prop:=λi v u=>match i with
 |6=>v=r.1.v
 |8=>∃q,v = .slice (some q) 1 1/\AtL u q (jG x)/\q.block+1≠r.2.2
 |9=>∃r':RA,v=r'.1.v/\r'.2.1=r.2.1++[x]/\Row u tA' 10 r'.1.a r'.1.n r'.1.c (r.2.1.flatMap jG++jG x) r'.2.2/\((r'.2.2=r.2.2/\r'.1.a=r.1.a/\r'.1.n=r.1.n+1/\r'.1.c=r.1.c)\/B<r'.2.2)
 |_=>True
theorem XP{w0:World}(hr:aK 10 jG tA' w0 r.1.a r.1.n r.1.c r.2.1 r.2.2):GX (uG r.1.a w0) w0 (λu=>Only r.2.2 w0 u/\ZL r u) (LeR r x) (FR w0.heap.size r x) where
 ck u hu:=pU hr hu.1
 start:=⟨Mod.refl _,hr⟩
 dr u d:=CV (oV (Below.refl _ _))
 tr u u' u'' h k:=⟨h.1.trans k.1 zg7 zg7,λhh=>k.2.1 (h.2.1 hh),λhh=>k.2.2 (h.2.2 hh)⟩
 cls u u' hu h:=⟨zg2 hu.1 h.1 zg7 zg7,h.2.1 hu.2⟩
 st i v u u' hu h k:=by
  have hle:=Row.le hr;unfold FR at h ⊢;split at h
  .exact h
  .obtain⟨q,h1,h2,h3⟩:=h;exact⟨q,h1,h2.mod k.1 h3,h3⟩
  .obtain⟨r',h1,h2,h3,h4⟩:=h;refine⟨r',h1,h2,?_,h4⟩
   rcases h4 with ⟨e1,e2,e3,e4⟩ | h4
   .rw[e1,e2,e3,e4]at h3 ⊢;exact k.2.2 h3
   .exact h3.mod k.1 (λj hj hS=>by have hS':j+1=r.2.2:=hS;omega)
  .trivial
def tA:Ty AD where
 k:=10
 rd F w x cs:=∃s:SH,cs=jG (x,s)/\LsI F w s.a s.n s.c x.nd.aT
 len:=by rintro F w x cs ⟨s,rfl,_⟩;rfl
 one:=by rintro F w x cs ⟨s,rfl,_⟩;exact CE (x,s)
 mono:=by rintro F F' w x cs hF ⟨s,rfl,h⟩;exact⟨s,rfl,h.mono hF⟩
 keep:=by rintro F w u x cs hu ⟨s,rfl,h⟩;exact⟨s,rfl,h.keep hu⟩
def okA(n:Int)(x:AD):Bool:=decide (0<=x.frm)&&decide (x.frm<x.to)&&decide (x.to<n)
def Jg:List (Int×List AD)->AD->List (Int×List AD)
 | [],x=>[(x.frm,[x])]
 | (y,l)::L,x=>if y=x.frm then(y,l++[x])::L else(y,l)::Jg L x
abbrev dRA(h:Int×RA):Int×List AD:=(h.1,h.2.2.1.map (·.1))
theorem Ui:∀(H:List (Int×RA)) (x:AE) (r':RA),r'.2.1=(xG H x.1.frm).2.1++[x]->(Gg H x.1.frm r').map dRA=Jg (H.map dRA) x.1
 | [],x,r',h=>by
  have h':r'.2.1=[x]:=h;simp[Gg,Jg,dRA,h']
 | (y,s)::H,x,r',h=>by
  unfold Gg;rw[ze0];unfold Jg;unfold xG at h
  by_cases hy:y=x.1.frm
  .rw[if_pos hy]at h;rw[if_pos hy,if_pos hy];simp[dRA,h]
  .rw[if_neg hy]at h;rw[if_neg hy,if_neg hy,ze0,Ui H x r' h]
def JV(F:Nat->Prop)(w:World)(H:List (Int×RA)):Prop:=∀h∈H,∀x∈h.2.2.1,LsI F w x.2.a x.2.n x.2.c x.1.nd.aT
theorem Zb{R:VP}{b8:aZ.T8}{p3 p4 a15:OA}{n15 c15:Nat}{x16:Int}{pm i:Nat}(hi:i<1048576)(hM:MZ B w mb H)(hB:B<=w.heap.size)(hpm:Blk w pm #[.map (some mb)] 144)(hx:AtL w q (jG x))(hqr:q.block+1≠(xG H x.1.frm).2.2)(hlen:∀h∈H,h.2.2.1.length<=1048576)
    (hk:∀u r',r'.2.1=(xG H x.1.frm).2.1++[x]->MZ B u mb (Gg H x.1.frm r')->From B w u->(∀k cur e,Blk w k cur e->e≠tA'->Blk u k cur e)->b8 p3 p4 (some ⟨pm,0,none⟩) a15 n15 c15 x16 ((i+1:Nat):Int) u) :
    ∃(wm75:World) (C76:zg6) (Le77:World->zg6) (F74:Nat->Value->zg6),GX wm75 w C76 Le77 F74 /\
            (aV (some ⟨pm,0,none⟩) λq78=>
            cM wm75 q78 λm79' =>
            cI wm75 (q.add 8) .i64 λx80' =>
            aV (some ⟨pm,0,none⟩) λq81=>
            cM wm75 q81 λm82' =>
            cI wm75 (q.add 8) .i64 λx83' =>
            (∀u84:World,C76 u84->dC prog (Instr.lookup 144 (.map m82') (.int .i64 x83') false) u84 λv86 u87=>∃a85' n85' c85',v86 = .slice a85' n85' c85'/\F74 6 (.slice a85' n85' c85') u87/\Le77 u84 u87) /\
              (∀a88':Option Addr,∀n88':Nat,∀c88':Nat,(∃u,C76 u/\F74 6 (.slice a88' n88' c88') u) ->
              mf wm75 q λx89'0 x89'1 x89'2 z89'3 a89'4 n89'4 c89'4 x89'5 x89'6 x89'7 x89'8 x89'9=>
              (∀u90:World,C76 u90->F74 8 (.slice (some (na u90)) 1 1) (u90.alloc (.cells (mJ x89'0 x89'1 x89'2 z89'3 a89'4 n89'4 c89'4 x89'5 x89'6 x89'7 x89'8 x89'9) 115))/\Le77 u90 (u90.alloc (.cells (mJ x89'0 x89'1 x89'2 z89'3 a89'4 n89'4 c89'4 x89'5 x89'6 x89'7 x89'8 x89'9) 115))) /\
                (∀q91:Addr,(∃u,C76 u/\F74 8 (.slice (some q91) 1 1) u) ->
                (∀u92:World,C76 u92->F74 6 (.slice a88' n88' c88') u92->F74 8 (.slice (some q91) 1 1) u92->dC prog (Builtin.append_ #[113,113] 113 #[.slice a88' n88' c88',.slice (some q91) 1 1]) u92 λv94 u95=>∃a93' n93' c93',v94 = .slice a93' n93' c93'/\F74 9 (.slice a93' n93' c93') u95/\Le77 u92 u95) /\
                  (∀a96':Option Addr,∀n96':Nat,∀c96':Nat,(∃u,C76 u/\F74 9 (.slice a96' n96' c96') u) ->
                  ∀u97:World,C76 u97->F74 6 (.slice a88' n88' c88') u97->F74 8 (.slice (some q91) 1 1) u97->F74 9 (.slice a96' n96' c96') u97 ->
                    dC prog (do Instr.mapUpdate 144 (.map m79') (.int .i64 x80') (.slice a96' n96' c96');pure undef) u97 λ_ u98=>
                      inc i λt99=>
                      b8 p3 p4 (some ⟨pm,0,none⟩) a15 n15 c15 x16 t99 u98)))):=by
  obtain⟨r,hr⟩:∃r,r=xG H x.1.frm:=⟨_,rfl⟩;have hget:=hM.get x.1.frm;rw[<- hr]at hget hqr;have hle:=Row.le hget.1;have hn:=aK.len oZ (by omega) hget.1;have hrl:r.2.1.length<=1048576:=by
    rcases pG (H:=H) (f:=x.1.frm) with h1 | ⟨h1,_⟩
    . rw[hr];exact hlen _ h1
    . rw[hr,h1];exact Nat.zero_le _
  have rd:∀ {y:Addr} {v:Value},y.block+1≠r.2.2->w.cell? y=some v->(uG r.1.a w).cell? y=some v:=λh1 h2=>Ag hget.1 h1 h2;have hpmr:pm+1≠r.2.2:=λh=>by obtain⟨cur,hb⟩:=Row.blk hget.1 h;exact absurd (hb.ne hpm) (by decide)
  have hpc:(uG r.1.a w).cell? (⟨pm,0,none⟩:Addr)=some (.map (some mb)):=rd hpmr (by rw[hpm.cell];rfl);have hxq:AtL (uG r.1.a w) q (jG x):=λj v hj=>rd (by rw[add_block];exact hqr) (hx j v hj);have hmap:∀u,Only r.2.2 w u->ji (enK .i64) u mb (H.map kvA):=λu ho=>hM.map.mod ho λhk=>by
    obtain⟨cur,hb⟩:=Row.blk hget.1 hk;exact hM.map.lJ hb
  refine⟨_,_,LeR r x,FR w.heap.size r x,XP hget.1,⟨_,hpc,⟨_,hxq 8 _ rfl,⟨_,hpc,⟨_,hxq 8 _ rfl,λu hu=>?_,?_⟩⟩⟩⟩⟩
  . refine ji.lookup WL t147 zSl (hmap u hu.1) ?_;rw[OC,<- hr];exact⟨_,_,_,rfl,rfl,CV (Kept.refl u)⟩
  . rintro a6 n6 c6 ⟨_,_,h6⟩;have h6':Value.slice a6 n6 c6=r.1.v:=h6
    cases h6'
    refine⟨_,hxq 0 _ rfl,_,hxq 1 _ rfl,_,hxq 2 _ rfl,_,hxq 3 _ rfl,_,_,_,hxq 4 _ rfl,_,hxq 5 _ rfl,_,hxq 6 _ rfl,_,hxq 7 _ rfl,_,hxq 8 _ rfl,_,hxq 9 _ rfl,λu hu=>?_,λq8 _=>⟨λu hu _ h8=>?_,λa9 n9 c9 _ u hu _ _ h9=>?_⟩⟩
    . have hs:=hu.1.size;refine⟨⟨na u,rfl,AtL.new u (jG x) tA',?_⟩,CV (zg3 u _)⟩;show u.heap.size+1≠r.2.2;omega
    . obtain⟨q',hv,hA,hqg⟩:=h8;cases hv;have hs:=hu.1.size;refine FW a07 (by omega) hu.2 (news:=jG x) (m:=1) rfl (λj v hj=>⟨_,rfl,hA j v hj⟩) (λh=>by cases h) (CE x) (by simp only[maxLen];omega) (by omega) λa' c' g' u2 hrow2 hg' ho=>⟨_,_,_,rfl,?_,ho,?_,?_⟩
      . refine⟨(⟨a',r.1.n+1,c'⟩,r.2.1++[x],g'),rfl,rfl,hrow2,?_⟩
        rcases hg' with ⟨h1,h2,h3⟩ | h1
        . exact .inl ⟨h1,h2,rfl,h3⟩
        . exact .inr (by show w.heap.size<g';omega)
      . intro h
        rcases hg' with ⟨h1,h2,h3⟩ | h1
        . have:=Row.take hrow2 (m:=r.1.n) (by omega);rw[List.take_left' (by rw[gQ (k:=10) r.2.1 (λx _=>oZ x)];rw[hn])]at this;rw[h1,h2,h3]at this;exact this
        . exact Row.kept h h1.2
      . intro h
        rcases hg' with ⟨h1,h2,h3⟩ | h1
        . unfold Row1;rw[<- h1,<- h2,<- h3];exact hrow2
        . exact Row.kept h h1.2
    . obtain⟨r',hv,hl,hrow,hg⟩:=h9;have hv':Value.slice a9 n9 c9=r'.1.v:=hv;rw[hv'];have hrow':aK 10 jG tA' u r'.1.a r'.1.n r'.1.c r'.2.1 r'.2.2:=by
        unfold aK;rw[hl];simpa using hrow
      have hh:∀R,(∀v,ji (enK .i64) v mb (rP (H.map kvA) x.1.frm r'.1.v)->Only (mb+1) u v->R undef v)->dC prog (do Instr.mapUpdate 144 (.map (some mb)) (enK .i64 x.1.frm) r'.1.v;pure undef) u R:=λR hR=>ji.update WL t147 (hmap u hu.1) hR;refine hh _ λv hmv hov=>aC (by omega) (hk v r' (by rw[hl,hr]) ?_ ?_ ?_)
      . exact hM.put (w1:=u) (by rw[<- hr];exact hu.1) hrow' (by rw[<- hr];rcases hg with h | h;exact .inl h.1;exact .inr h) hB hmv hov
      . exact hu.1.trans hov (λk _ hk=>by have hk':k+1=r.2.2:=hk;have:=hget.2;show B<=k;omega) (λk _ hk=>by have hk':k+1=mb+1:=hk;have:=hM.mB;show B<=k;omega)
      . intro k cur e hb he;refine(hb.mod hu.1 λhk=>dW hget.1 hb (Ne.symm he) hk).mod hov λhk=>?_;have hk':k+1=mb+1:=hk;obtain rfl:k=mb:=by omega
        exact hM.map.lJ hb
end
def XM(x:AE):yh:=⟨⟨x.1.nd.kind,x.1.nd.value,x.1.nd.feature,x.1.nd.thr,x.2,x.1.nd.missing,x.1.nd.left,x.1.nd.right⟩,x.1.frm,x.1.to⟩
def ltA(x y:yh):Bool:=decide (-x.to < -y.to)
def Me(x y:AD):Bool:=decide (-x.to < -y.to)
theorem wkA:Wk ltA:=F7 λx:yh => -x.to
def SG(h:Int×RA):Int×RA:=(h.1,h.2.1,sorted (λa b=>Me a.1 b.1) h.2.2.1,h.2.2.2)
def stA(D:List Int)(h:Int×RA):Int×RA:=if h.1∈D then SG h else h
theorem Xg(D:List Int)(h:Int×RA):kvA (stA D h)=kvA h:=by unfold stA;split <;> rfl
theorem zF(D:List Int)(h:Int×RA):(stA D h).1=h.1:=by unfold stA;split <;> rfl
theorem X6(D:List Int)(h:Int×RA):(stA D h).2.2.2=h.2.2.2:=by unfold stA;split <;> rfl
theorem Nw(l:List AE):(l.map XM).flatMap uM=l.flatMap jG:=by
 induction l with
 |nil=>rfl
 |cons x l ih=>rw[ze0,zd9,zd9,ih];rfl
theorem Gj(l:List AE):sorted ltA (l.map XM)=(sorted (λa b=>Me a.1 b.1) l).map XM:=lH XM l
section
variable{w u w1:World}{a:OA}{n c:Nat}{S:Nat->Prop}{B mb:Nat}{H:List (Int×RA)}{r:RA}{x:AE}
theorem Yr{x y:yh}(hx:0<=x.to/\x.to<=16777216)(hy:0<=y.to/\y.to<=16777216):E.CallsD prog 80 #[qX x,qX y] w λv u=>∃r:Int,v = .int .i64 r/\decide (r<0)=ltA x y/\Kept w u:=by
 refine eQ.calls (R:=λv u=>∃r:Int,v = .int .i64 r/\decide (r<0)=ltA x y/\Kept w u) ?_;unfold eQ eQ.g0;refine yE (cs:=(uM x).toArray) λw1 hA hk1=>yE (cs:=(uM y).toArray) λw2 hB hk2=>?_;refine⟨_,hB 9 _ rfl,_,hA.kept hk2 9 _ rfl,bM (by omega) (by omega) ⟨_,rfl,?_,zg1 hk1 hk2⟩⟩;unfold ltA
 by_cases h:y.to<x.to
 .rw[decide_eq_true (by omega),decide_eq_true (by omega)]
 .rw[decide_eq_false (by omega),decide_eq_false (by omega)]
theorem sortA(h:aK 10 jG tA' w r.1.a r.1.n r.1.c r.2.1 r.2.2)(hl:r.2.1.length<=1048576)(hG:∀x∈r.2.1,0<=x.1.to/\x.1.to<=16777216){K:zg6}
  (hk:∀u,aK 10 jG tA' u r.1.a r.1.n r.1.c (sorted (λa b=>Me a.1 b.1) r.2.1) r.2.2->Only r.2.2 w u->K u) :
  E.CallsD prog 79 #[.slice r.1.a r.1.n r.1.c,.func (.func 80) #[] #[]] w λv u=>v = .tuple #[]/\K u:=by
 have hn:=aK.len oZ (by omega) h;have h0:aK 10 uM tA' w r.1.a r.1.n r.1.c (r.2.1.map XM) r.2.2:=by
  unfold aK at h ⊢;rw[Nw];exact h
 refine zg0 (FN (lt:=ltA) (X:=λ_=>True) (G:=λx=>0<=x.to/\x.to<=16777216) wkA (by omega) (λ_ _ _ _=>trivial) (λu x y _ hx hy=>Yr hx hy) (R:=λv u=>v = .tuple #[]/\K u) h0 trivial (λy hy=>?_) λu h1 _ h3=>⟨rfl,hk u ?_ h3⟩) λv u h=>h
 .obtain⟨z,hz,rfl⟩:=zd4.1 hy;exact hG z hz
 .rw[Gj]at h1;unfold aK at h1 ⊢;rw[<- Nw];exact h1
theorem Oh(h:MZ B w mb H)(hm:Mod S w u)(hS:∀k cur,Blk w k cur tA'->¬ S k)(hmb:¬ S mb):MZ B u mb H :=
 ⟨h.map.mod hm hmb,h.mB,λx hx=>⟨(h.row x hx).1.mod hm λk hk=>by obtain⟨cur,hb⟩:=Row.blk (h.row x hx).1 hk;exact hS _ _ hb,(h.row x hx).2⟩,h.gn,h.nd⟩
theorem Rx{D:List Int}{h y:Int×RA}(hne:y.1≠h.1):stA (D++[h.1]) y=stA D y:=by
 unfold stA
 by_cases hd:y.1∈D
 .rw[if_pos hd,if_pos (by simp[hd])]
 .rw[if_neg hd,if_neg (by simp[hd,hne])]
theorem Sr{D:List Int}{h:Int×RA}(hM:MZ B w mb (H.map (stA D)))(hh:h∈H)(hD:h.1∉D)(hnd:(H.map (·.1)).Nodup)
  (hu:aK 10 jG tA' u h.2.1.a h.2.1.n h.2.1.c (sorted (λa b=>Me a.1 b.1) h.2.2.1) h.2.2.2) (ho:Only h.2.2.2 w u):MZ B u mb (H.map (stA (D++[h.1]))):=by
 have hsame:∀y∈H,y.1=h.1->y=h:=λy hy e=>by
  obtain⟨i,hi⟩:=List.getElem?_of_mem hy;obtain⟨j,hj⟩:=List.getElem?_of_mem hh;have li:=(za1.1 hi).1;have lj:=(za1.1 hj).1;have:i=j:=lD hnd (by simpa using li) (by simpa using lj) (by
   simp only[List.getElem_map];rw[(za1.1 hi).2,(za1.1 hj).2,e])
  subst this;rw[hi]at hj;cases hj;rfl
 have hst:stA D h=h:=by unfold stA;rw[if_neg hD]
 have hrow:=(hM.row _ (ze8 (f:=stA D) hh));rw[hst]at hrow;have kv:∀E:List Int,(H.map (stA E)).map kvA=H.map kvA:=λE=>by rw[ze6];exact List.map_congr_left λy _=>Xg E y
 refine⟨?_,hM.mB,λy' hy'=>?_,λx' hx' y' hy' hne=>?_,?_⟩
 .rw[kv];have:=hM.map;rw[kv]at this;exact this.mod ho λhk=>by obtain⟨cur,hb⟩:=Row.blk hrow.1 hk;exact this.lJ hb
 .obtain⟨y,hy,rfl⟩:=zd4.1 hy'
  by_cases hyh:y.1=h.1
  .obtain rfl:=hsame y hy hyh;have e:stA (D++[y.1]) y=SG y:=by unfold stA;rw[if_pos (by simp)]
   rw[e];exact⟨hu,hrow.2⟩
  .rw[Rx hyh];have hy2:=hM.row _ (ze8 (f:=stA D) hy);have hg:=hM.gn _ (ze8 (f:=stA D) hy) _ (ze8 (f:=stA D) hh) (by rw[zF,zF];exact hyh);rw[hst]at hg;exact⟨hy2.1.mod ho λk hk hS=>by have hS':k+1=h.2.2.2:=hS;omega,hy2.2⟩
 .obtain⟨x,hx,rfl⟩:=zd4.1 hx';obtain⟨y,hy,rfl⟩:=zd4.1 hy';have:=hM.gn _ (ze8 (f:=stA D) hx) _ (ze8 (f:=stA D) hy) (by rw[zF,zF]at hne ⊢;exact hne);rw[X6,X6]at this ⊢;exact this
 .have:=hM.nd;rw[ze6]at this ⊢;have e:H.map ((λx=>x.1)∘stA (D++[h.1]))=H.map ((λx=>x.1)∘stA D):=List.map_congr_left λy _=>by simp[zF]
  rw[e];exact this
def Nv(R:VP)(p3 p4 p6:OA)(X5:World):Prop :=
  nw (X5.alloc (.cells (kU 0 none 0 0) 50)) λw109=>
   nw (w109.alloc (.cells #[.bool false] 4)) λw110=>
   st w110 ((na w109).add 0) (.bool true) λw111=>
   nw (w111.alloc (.cells #[.nilFunc] 147)) λw112=>
   st w112 ((na w111).add 0) (.func (.func 81) #[] #[.pointer (some (na w109)),.pointer (some (na X5)),.pointer p3,.pointer p6,.pointer (some (na w111))]) λw113=>
   cV w113 (na w111) λv114' =>
   aV p3 λq115=>
   cL w113 q115 λa116' n116' c116' =>
   zO prog v114' #[.int .i64 0,.int .i64 (n116':Int)] w113 λv117 u118=>
    v117 = .tuple #[] /\
     (∃wm120:World,CK wm120 u118 /\
      (jF u118 (na X5) λx121'0 a121'1 n121'1 c121'1=>
      cB wm120 (na w109) λb122' =>
      aV p4 λq123=>
      y8 u118 q123 x121'0 a121'1 n121'1 c121'1 λw124=>
      CK wm120 w124 /\
       (aV p4 λq125=>
       jF w124 q125 λx126'0 a126'1 n126'1 c126'1=>
       R (.tuple #[jh x126'0 a126'1 n126'1 c126'1,.bool b122']) w124)))
theorem QX{R:VP}{rg:Nat}{p3 p4 p6:OA}{w0:World}(hG:∀h∈H,h.2.2.1.length<=1048576/\∀x∈h.2.2.1,0<=x.1.to/\x.1.to<=16777216)(hBr:B<=rg)(hnd:(H.map (·.1)).Nodup)
  (hfin:∀u,MZ B u mb (H.map SG)->From B w0 u->(∀k cur e,Blk w0 k cur e->e≠tA'->Blk u k cur e)->Nv R p3 p4 p6 u) :
  ∀(k:Nat) (w:World) (rem O:List (Int×Value)),rem.length=k->MZ B w mb (H.map (stA (O.map (·.1))))->Rng (enK .i64) w mb rg (H.map kvA) rem->(O++rem).Perm (H.map kvA)->From B w0 w->(∀k cur e,Blk w0 k cur e->e≠tA'->Blk w k cur e) ->
   aZ.l33 R (k+1) p3 p4 p6 (some ⟨rg,0,none⟩) w:=by
 intro k
 induction k with
 |zero=>
  intro w rem O hk hM hrng hp hf hb;have hrem:rem=[]:=za9 hk;subst hrem;rw[zc8]at hp;rw[aZ.u33];unfold aZ.g33;refine hrng.next (λ_ => .inl ⟨rfl,?_⟩) (λu r1 x r2 h=>by simp at h);have e:H.map (stA (O.map (·.1)))=H.map SG:=List.map_congr_left λy hy=>by
   unfold stA;rw[if_pos ((hp.map (·.1)).mem_iff.2 (by rw[ze6];exact ze8 (f:=(λx=>x.1)∘kvA) hy))]
  rw[e]at hM;exact hfin w hM hf hb
 |succ k ih=>
  intro w rem O hk hM hrng hp hf hb;rw[aZ.u33];unfold aZ.g33;refine hrng.next (λh=>by rw[h]at hk;cases hk) (λu r1 x r2 hrem hrng' ho hent => .inr ⟨_,_,rfl,dC.of hent ⟨_,_,rfl,?_⟩⟩);have hxm:x∈H.map kvA:=hp.mem_iff.1 (List.mem_append_right _ (by rw[hrem];simp));obtain⟨h,hh,rfl⟩:=zd4.1 hxm;have hD:h.1∉O.map (·.1):=λhmem=>by
   have hnd2:((O++rem).map (·.1)).Nodup:=((hp.map (·.1)).nodup_iff).2 (by rw[ze6];exact hnd);rw[zb8,hrem]at hnd2;exact(List.nodup_append.1 hnd2).2.2 h.1 hmem h.1 (by simp) rfl
  have hst:stA (O.map (·.1)) h=h:=by unfold stA;rw[if_neg hD]
  have hMu:MZ B u mb (H.map (stA (O.map (·.1)))):=Oh hM ho (λk cur hbk hk=>by
   have hk':k+1=rg+1:=hk;obtain rfl:k=rg:=by omega
   exact nV hrng hbk) (λhk=>U8 hrng (by have hk':mb+1=rg+1:=hk;omega))
  have hrow:=hMu.row _ (ze8 (f:=stA (O.map (·.1))) hh);rw[hst]at hrow;obtain⟨g1,g2⟩:=hG h hh;refine sortA hrow.1 g1 g2 λv hv hov=>?_;refine ih v (r1++r2) (O++[kvA h]) (by rw[hrem]at hk;simp at hk ⊢;omega) ?_ (He hrng' hrow.1 hov) ?_ ?_ ?_
  .rw[zb8];exact Sr hMu hh hD hnd hv hov
  .refine List.Perm.trans ?_ hp;rw[hrem,za5];exact List.Perm.append_left _ (show(kvA h::(r1++r2)).Perm (r1++kvA h::r2) from zf7.symm)
  .exact(hf.trans ho (λ_ _ h=>h) (λk _ hk=>by have hk':k+1=rg+1:=hk;show B<=k;omega)).trans hov (λ_ _ h=>h) (λk _ hk=>by have hk':k+1=h.2.2.2:=hk;have:=hrow.2;show B<=k;omega)
  .intro k cur e hbk he;have h1:=hb k cur e hbk he;refine(h1.mod ho λhk=>?_).mod hov λhk=>?_
   .have hk':k+1=rg+1:=hk;obtain rfl:k=rg:=by omega
    exact nV hrng h1
   .have h2:=h1.mod ho λhk=>by
     have hk':k+1=rg+1:=hk;obtain rfl:k=rg:=by omega
     exact nV hrng h1
    exact dW hrow.1 h2 (Ne.symm he) hk
end
def l7:List (Int×List AD)->Int->List AD
 | [],_=>[]
 | (y,l)::S,f=>if y=f then l else l7 S f
def DU:List (Int×List AD)->Int->List AD->List (Int×List AD)
 | [],f,l=>[(f,l)]
 | (y,x)::S,f,l=>if y=f then(y,l)::S else(y,x)::DU S f l
def uk(v:Int):ND:=⟨1,v,0,0,[],0,0,0⟩
def iF(N:List ND)(i:Nat):List ND:=match N[i]? with
 |some x=>N.set i { x with right:=N.length }
 |none=>N
def fB(vals:List Int):Nat->Int->Int->List (Int×List AD)->List ND->Bool×List (Int×List AD)×List ND
 |0,_,_,S,N=>(false,S,N)
 |k+1,f,t,S,N=>
  if t - f=1 then(true,S,N++[uk (vals.getD f.toNat 0)]) else
  match l7 S f with
  | []=>(false,S,N)
  |s::rest=>if s.to>=t then(false,S,N) else
   match fB vals k f s.to (DU S f rest) (N++[{ s.nd with left:=(N.length:Int)+1 }]) with
   | (false,S1,N1)=>(false,S1,iF N1 N.length)
   | (true,S1,N1)=>fB vals k s.to t S1 (iF N1 N.length)
def InS(n:Int)(S:List (Int×List AD)):Prop:=∀f,∀x∈l7 S f,x.frm=f/\f<x.to/\x.to<n
theorem rH:∀(S:List (Int×List AD)) (f:Int) (l:List AD) (g:Int),l7 (DU S f l) g=if g=f then l else l7 S g
 | [],f,l,g=>by
  by_cases h:g=f
  .subst h;simp[DU,l7]
  .simp[DU,l7,h,Ne.symm h]
 | (y,x)::S,f,l,g=>by
  unfold DU
  by_cases hy:y=f
  .subst hy
   by_cases h:g=y
   .subst h;simp[l7]
   .simp[l7,h,Ne.symm h]
  .rw[if_neg hy]
   by_cases h:y=g
   .subst h;simp[l7,hy]
   .simp only[l7,h,if_false];exact rH S f l g
theorem InS.set{n:Int}{S:List (Int×List AD)}(h:InS n S){f:Int}{s:AD}{rest:List AD}(hg:l7 S f=s::rest):InS n (DU S f rest):=λg x hx=>by
 rw[rH]at hx;split at hx
 .rename_i e;subst e;exact h g x (by rw[hg];exact .tail _ hx)
 .exact h g x hx
theorem mP(N:List ND)(i:Nat):(iF N i).length=N.length:=by unfold iF;split <;> simp
theorem oU{vals:List Int}{n:Int}:∀(k:Nat) (f t:Int) (S:List (Int×List AD)) (N:List ND),f<t->InS n S->InS n (fB vals k f t S N).2.1/\N.length<=(fB vals k f t S N).2.2.length/\((fB vals k f t S N).2.2.length:Int)<=N.length+2*(t - f) - 1
 |0,f,t,S,N,hft,hS=>⟨hS,zb4 _,by simp[fB];omega⟩
 |k+1,f,t,S,N,hft,hS=>by
  unfold fB
  by_cases h1:t - f=1
  .rw[if_pos h1];exact⟨hS,by simp,by simp;omega⟩
  rw[if_neg h1]
  cases hg:l7 S f with
  |nil=>exact⟨hS,zb4 _,by simp;omega⟩
  |cons s rest=>
   simp only
   by_cases h2:s.to>=t
   .rw[if_pos h2];exact⟨hS,zb4 _,by simp;omega⟩
   rw[if_neg h2];obtain⟨_,e2,_⟩:=hS f s (by rw[hg];exact .head _);obtain⟨r1,r2,r3⟩:=oU (vals:=vals) k f s.to (DU S f rest) (N++[{ s.nd with left:=(N.length:Int)+1 }]) e2 (hS.set hg)
   cases hb:fB vals k f s.to (DU S f rest) (N++[{ s.nd with left:=(N.length:Int)+1 }]) with
   |mk b p=>
    obtain⟨S1,N1⟩:=p;rw[hb]at r1 r2 r3;simp only[za6,zc5,zc6]at r1 r2 r3
    cases b with
    |false=>exact⟨r1,by simp only[mP];omega,by simp only[mP];omega⟩
    |true=>
     obtain⟨q1,q2,q3⟩:=oU (vals:=vals) k s.to t S1 (iF N1 N.length) (by omega) r1;rw[mP]at q2 q3;exact⟨q1,(show N.length<=(fB vals k s.to t S1 (iF N1 N.length)).2.2.length by omega),(show((fB vals k s.to t S1 (iF N1 N.length)).2.2.length:Int)<=(N.length:Int)+2*(t - f) - 1 by omega)⟩
abbrev YK:Nat:=4
abbrev kvS(x:Int×SH):Int×Value:=(x.1,x.2.v)
def WW(FA:Nat->Prop)(w0:World):List (Int×SH)->List (Int×List AD)->Prop
 | [],[]=>True
 | (y,s)::L,(z,l)::S=>y=z/\Ls tA FA w0 s.a s.n s.c l/\WW FA w0 L S
 |_,_=>False
def EL:List (Int×SH)->Int->SH
 | [],_=>⟨none,0,0⟩
 | (y,s)::L,f=>if y=f then s else EL L f
def Kz:List (Int×SH)->Int->SH->List (Int×SH)
 | [],f,s=>[(f,s)]
 | (y,x)::L,f,s=>if y=f then(y,s)::L else(y,x)::Kz L f s
theorem JK:∀(L:List (Int×SH)) (f:Int),(nI (L.map kvS) f).getD (.slice none 0 0)=(EL L f).v
 | [],f=>rfl
 | (y,s)::L,f=>by
  unfold EL;rw[ze0];unfold nI
  split
  .rfl
  .exact JK L f
theorem IX:∀(L:List (Int×SH)) (f:Int) (s:SH),(Kz L f s).map kvS=rP (L.map kvS) f s.v
 | [],f,s=>rfl
 | (y,x)::L,f,s=>by
  unfold Kz;rw[ze0];unfold rP
  split
  .rename_i h;subst h;simp
  .rename_i h;simp[IX L f s]
theorem Jm{FA:Nat->Prop}{w0:World}:∀ {L:List (Int×SH)} {S:List (Int×List AD)} (f:Int),WW FA w0 L S->Ls tA FA w0 (EL L f).a (EL L f).n (EL L f).c (l7 S f)
 | [],[],f,_=>Ls.nil _ _ _ _ _
 | (y,s)::L,(z,l)::S,f,h=>by
  obtain⟨rfl,h1,h2⟩:=h;unfold EL l7
  by_cases hy:y=f
  .rw[if_pos hy,if_pos hy];exact h1
  .rw[if_neg hy,if_neg hy];exact Jm f h2
 | [],_::_,_,h=>h.elim
 |_::_,[],_,h=>h.elim
theorem IB{FA:Nat->Prop}{w0:World}{s:SH}{l:List AD}(hl:Ls tA FA w0 s.a s.n s.c l):∀ {L:List (Int×SH)} {S:List (Int×List AD)} (f:Int),WW FA w0 L S->WW FA w0 (Kz L f s) (DU S f l)
 | [],[],f,_=>⟨rfl,hl,trivial⟩
 | (y,x)::L,(z,k)::S,f,h=>by
  obtain⟨rfl,h1,h2⟩:=h;unfold Kz DU
  by_cases hy:y=f
  .rw[if_pos hy,if_pos hy];exact⟨rfl,hl,h2⟩
  .rw[if_neg hy,if_neg hy];exact⟨rfl,h1,IB hl f h2⟩
 | [],_::_,_,h=>h.elim
 |_::_,[],_,h=>h.elim
structure SW(w0 w:World)(FA:Nat->Prop)(pk pt mb:Nat)(ok:Bool)(S:List (Int×List AD))(N:List (ND×SH))(sN:SH)(gN:Nat):Prop where
 bk:Blk w pk #[.bool ok] YK
 bt:Blk w pt #[.int .i64 0,sN.v] tT'
 nr:aK 8 enH tN' w sN.a sN.n sN.c N gN
 gB:gN=0\/w0.heap.size<gN
 mp:∃L:List (Int×SH),ji (enK .i64) w mb (L.map kvS)/\WW FA w0 L S
 ct:∀x∈N,LsI FA w0 x.2.a x.2.n x.2.c x.1.aT
 fr:Mod (λk=>k=pk\/k=pt\/k=mb) w0 w
section
variable{w0 w u:World}{a:OA}{n c:Nat}{FA:Nat->Prop}{q:Addr}{pk pt mb:Nat}{ok:Bool}{S:List (Int×List AD)}{N:List (ND×SH)}{sN:SH}{gN:Nat}
theorem a0u:fV prog 48 tN' 8 80:=sliceT (by kernel_rfl)
theorem lg(x:ND×SH):(enH x).length=8:=rfl
theorem JI(x:ND×SH):∀v∈enH x,v.oneCell'=true:=by
 intro v hv;simp only[enH,enN,zb3,zf9,or_false]at hv
 rcases hv with h | h | h | h | h | h | h | h <;> subst h <;> rfl
theorem SW.kept(h:SW w0 w FA pk pt mb ok S N sN gN)(hk:Kept w u):SW w0 u FA pk pt mb ok S N sN gN :=
 ⟨h.bk.keep hk,h.bt.keep hk,h.nr.kept hk,h.gB,by obtain⟨L,h1,h2⟩:=h.mp;exact⟨L,h1.kept hk,h2⟩,h.ct,h.fr.trans (Kept.mod (S:=λ_=>False) hk) (λ_ _ h=>h) (λ_ _ h=>h.elim)⟩
theorem SW.push(h:SW w0 w FA pk pt mb ok S N sN gN)(hpt:pt≠pk)(hlen:N.length<=4194304){nd:ND}{s:SH}(hq:AtL w q (enH (nd,s)))(hs:LsI FA w0 s.a s.n s.c nd.aT){K:zg6}
  (hk:∀u sN' gN',SW w0 u FA pk pt mb ok S (N++[(nd,s)]) sN' gN'->K u) :
  dC prog (Builtin.append_ #[48,48] 48 #[.slice sN.a sN.n sN.c,.slice (some q) 1 1]) w λv u2=>∃a2 n2 c2,v = .slice a2 n2 c2/\(st u2 (((⟨pt,0,none⟩:Addr).add 1).add 0) (.slice a2 n2 c2) K):=by
 have hn:=aK.len lg (by omega) h.nr;refine jJ a0u (by omega) h.nr (news:=enH (nd,s)) (m:=1) rfl (λj v hj=>⟨_,rfl,hq j v hj⟩) (λh=>by cases h) (JI _) (by simp only[maxLen];omega) (by omega) λa' c' g' u2 hrow hg' ho=>⟨_,_,_,rfl,?_⟩;have hbt:=h.bt.mod ho (λhk=>dW h.nr h.bt (by decide) hk);have hbk:=h.bk.mod ho (λhk=>dW h.nr h.bk (by decide) hk);have hset:=hbt.set 1 (.slice a' (sN.n+1) c');have hon:=zg5 u2 pt 1 (.slice a' (sN.n+1) c');have hrow':aK 8 enH tN' u2 a' (sN.n+1) c' (N++[(nd,s)]) g':=by
  unfold aK;simpa using hrow
 have hsz:=h.fr.size;rw[addr_add,addr_add,zd1,zd2];refine⟨hbt.ok (by simp),bZ (hk _ ⟨a',sN.n+1,c'⟩ g' ⟨?_,hset,hrow'.mod hon (eY hbt hrow' (by decide)),by have:=h.gB;omega,?_,λx hx=>?_,?_⟩)⟩
 .exact hbk.mod hon λhk=>hpt (by have hk':pk+1=pt+1:=hk;omega)
 .obtain⟨L,h1,h2⟩:=h.mp;refine⟨L,(h1.mod ho λhk=>by obtain⟨cur,hb⟩:=Row.blk h.nr hk;exact h1.lJ hb).mod hon λhk=>?_,h2⟩;have hk':mb+1=pt+1:=hk;obtain rfl:mb=pt:=by omega
  exact h1.lJ h.bt
 .rcases zb2.1 hx with hx | hx
  .exact h.ct x hx
  .obtain rfl:x=(nd,s):=by simpa using hx
   exact hs
 .exact(h.fr.trans ho (λ_ _ h=>h) (λk hk1 hk=>by have hk':k+1=gN:=hk;have:=h.gB;omega)).trans hon (λ_ _ h=>h) (λk _ hk => .inr (.inl (by have hk':k+1=pt+1:=hk;omega)))
end
section
variable{w0 w u:World}{a a1:OA}{n c n1 c1:Nat}{FA:Nat->Prop}{pk pt pv pm pb mb:Nat}{ok:Bool}{S:List (Int×List AD)}{N:List (ND×SH)}{sN:SH}{gN:Nat}{vals:List Int}
abbrev ptr(b:Nat):Value := .pointer (some ⟨b,0,none⟩)
abbrev BO(pk pt pv pm pb:Nat):Value := .func (.func 81) #[] #[ptr pk,ptr pt,ptr pv,ptr pm,ptr pb]
structure Sta(w0:World)(FA:Nat->Prop)(pk pt pv pm pb mb:Nat)(a1:OA)(n1 c1:Nat)(vals:List Int):Prop where
 v:Blk w0 pv #[.slice a1 n1 c1] 23
 m:Blk w0 pm #[.map (some mb)] 144
 b:Blk w0 pb #[BO pk pt pv pm pb] 147
 vs:∃FV:Nat->Prop,(∀b,FV b->b<w0.heap.size/\b≠pk/\b≠pt/\b≠mb)/\LsI FV w0 a1 n1 c1 vals
 ne:pt≠pk
 old:∀b,FA b->b<w0.heap.size
 away:∀b,(FA b\/b=pv\/b=pm\/b=pb)->b≠pk/\b≠pt/\b≠mb
theorem SW.ls{α:Type}{T:Ty α}{xs:List α}(h:SW w0 w FA pk pt mb ok S N sN gN)(hst:Sta w0 FA pk pt pv pm pb mb a1 n1 c1 vals)(hl:Ls T FA w0 a n c xs):Ls T FA w a n c xs :=
 hl.mod h.fr λb hb hk=>by have:=hst.away b (.inl hb);omega
theorem SW.vls(h:SW w0 w FA pk pt mb ok S N sN gN)(hst:Sta w0 FA pk pt pv pm pb mb a1 n1 c1 vals):∃FV:Nat->Prop,LsI FV w a1 n1 c1 vals:=by
 obtain⟨FV,h1,h2⟩:=hst.vs;exact⟨FV,h2.mod h.fr λb hb hk=>by have:=h1 b hb;omega⟩
theorem SW.blk{b e:Nat}{cs:Array Value}(h:SW w0 w FA pk pt mb ok S N sN gN)(hst:Sta w0 FA pk pt pv pm pb mb a1 n1 c1 vals)(hb:b=pv\/b=pm\/b=pb)(hl:Blk w0 b cs e):Blk w b cs e :=
 hl.mod h.fr λhk=>by have:=hst.away b (.inr hb);omega
theorem SW.get(h:SW w0 w FA pk pt mb ok S N sN gN)(f:Int):∃s:SH,Ls tA FA w0 s.a s.n s.c (l7 S f)/\(∀R:Value->World->Prop,R s.v w->dC prog (Instr.lookup 144 (.map (some mb)) (.int .i64 f) false) w R):=by
 obtain⟨L,h1,h2⟩:=h.mp;refine⟨EL L f,Jm f h2,λR hR=>ji.lookup WL t147 zSl h1 ?_⟩;rw[JK];exact hR
theorem SW.set(h:SW w0 w FA pk pt mb ok S N sN gN)(hpk:pk≠mb)(hpt:pt≠mb)(f:Int){s:SH}{l:List AD}(hl:Ls tA FA w0 s.a s.n s.c l){R:Value->zg6}(hR:∀u,SW w0 u FA pk pt mb ok (DU S f l) N sN gN->R undef u) :
  dC prog (do Instr.mapUpdate 144 (.map (some mb)) (.int .i64 f) s.v;pure undef) w R:=by
 obtain⟨L,h1,h2⟩:=h.mp;have hh:∀R,(∀v,ji (enK .i64) v mb (rP (L.map kvS) f s.v)->Only (mb+1) w v->R undef v)->dC prog (do Instr.mapUpdate 144 (.map (some mb)) (enK .i64 f) s.v;pure undef) w R:=λR hR=>ji.update WL t147 h1 hR;refine hh R λv hv ho=>hR v ⟨h.bk.mod ho (λhk=>hpk (by have hk':pk+1=mb+1:=hk;omega)),h.bt.mod ho (λhk=>hpt (by have hk':pt+1=mb+1:=hk;omega)),h.nr.mod ho (λk hk hS=>?_),h.gB,⟨Kz L f s,by rw[IX];exact hv,IB hl f h2⟩,h.ct,h.fr.trans ho (λ_ _ h=>h) (λk _ hk => .inr (.inr (by have hk':k+1=mb+1:=hk;omega)))⟩;obtain⟨cur,hb⟩:=Row.blk h.nr hk;have hS':k+1=mb+1:=hS;obtain rfl:k=mb:=by omega
 exact h1.lJ hb
theorem SW.no(h:SW w0 w FA pk pt mb ok S N sN gN):pk≠mb/\pt≠mb:=by
 obtain⟨L,h1,_⟩:=h.mp;exact⟨λe=>by subst e;exact h1.lJ h.bk,λe=>by subst e;exact h1.lJ h.bt⟩
theorem SW.fail(h:SW w0 w FA pk pt mb ok S N sN gN)(hne:pt≠pk){K:zg6}(hk:∀u,SW w0 u FA pk pt mb false S N sN gN->K u):st w ((⟨pk,0,none⟩:Addr).add 0) (.bool false) K:=by
 have hset:=h.bk.set 0 (.bool false);have hon:=zg5 w pk 0 (.bool false);obtain⟨n1,n2⟩:=h.no;rw[addr_add,zd1];refine⟨h.bk.ok (by simp),bZ (hk _ ⟨hset,h.bt.mod hon (λhk=>hne (by have hk':pt+1=pk+1:=hk;omega)),h.nr.mod hon (eY h.bk h.nr (by decide)),h.gB,?_,h.ct,h.fr.trans hon (λ_ _ h=>h) (λk _ hk => .inl (by have hk':k+1=pk+1:=hk;omega))⟩)⟩;obtain⟨L,h1,h2⟩:=h.mp;exact⟨L,h1.mod hon (λhk=>n1 (by have hk':mb+1=pk+1:=hk;omega)),h2⟩
theorem Ti{f t:Int}(hbk:Blk w pk #[.bool false] YK):E.CallsD prog 81 #[.int .i64 f,.int .i64 t,ptr pk,ptr pt,ptr pv,ptr pm,ptr pb] w λv u=>v = .tuple #[]/\u=w:=by
 refine dD.calls (R:=λv u=>v = .tuple #[]/\u=w) ?_;unfold dD dD.g0;refine za4 false ⟨by rw[hbk.cell];rfl,?_⟩;exact⟨rfl,rfl⟩
theorem Um:kZ prog 81=true:=by kernel_rfl
theorem UK{f t:Int}{K:Value->zg6}(h:E.CallsD prog 81 #[.int .i64 f,.int .i64 t,ptr pk,ptr pt,ptr pv,ptr pm,ptr pb] w K):Tn prog (BO pk pt pv pm pb) #[.int .i64 f,.int .i64 t] w K:=by
 unfold Tn BO;simp only;rw[if_pos Um];exact h
end
section
variable{w0 w u:World}{a a1:OA}{n c n1 c1:Nat}{FA:Nat->Prop}{p q:Addr}{pk pt pv pm pb mb:Nat}{ok:Bool}{S:List (Int×List AD)}{N:List (ND×SH)}{sN:SH}{gN:Nat}{vals:List Int}
def FNd(x:ND×SH):Nat->Value->World->Prop:=λ_ v u=>∃q,v = .slice (some q) 1 1/\AtL u q (enH x)
theorem FNd.keep{x:ND×SH}(i:Nat)(v:Value)(u u':World)(h:FNd x i v u)(hk:Below u.heap.size u u'):FNd x i v u':=by
 obtain⟨q,h1,h2⟩:=h;exact⟨q,h1,h2.kept hk⟩
theorem SW.right(h:SW w0 w FA pk pt mb ok S N sN gN){i:Nat}(hi:i<N.length){v:Int}{K:zg6}(hk:∀u N',N'.map (·.1)=(match (N.map (·.1))[i]? with | some x=>(N.map (·.1)).set i { x with right:=v } | none=>N.map (·.1))->SW w0 u FA pk pt mb ok S N' sN gN->K u) :
  ix sN.a sN.n (i:Int) λq68=>st w (((q68.add ((i:Int).toNat*8)).add 7).add 0) (.int .i64 v) K:=by
 have hn:=aK.len lg (by omega) h.nr;obtain⟨x,hx⟩:∃x,N[i]?=some x:=⟨N[i]'hi,za2 hi⟩;obtain⟨b,hb,ha,h3,h4,h5⟩:=aK.set (k:=8) (en:=enH) lg h.nr (i:=i) (j:=7) (x:=x) (y:=({ x.1 with right:=v },x.2)) (v := .int .i64 v) hx (by omega) (by omega) rfl;rw[ha];refine dK ⟨by omega,by omega⟩ ?_;rw[za3];simp only[addr_add,zd1,zd2];have hbt:=h.bt.mod h5 (λhk=>dW h.nr h.bt (by decide) hk);have hbk:=h.bk.mod h5 (λhk=>dW h.nr h.bk (by decide) hk);have hgB:=h.gB;refine⟨h3,bZ (hk _ (N.set i ({ x.1 with right:=v },x.2)) ?_ ⟨hbk,hbt,by rw[ha]at h4 ⊢;exact h4,h.gB,?_,λy hy=>?_,h.fr.trans h5 (λ_ _ h=>h) (λk hk1 hk=>by have hk':k+1=gN:=hk;omega)⟩)⟩
 .rw[zc1,hx];simp[List.map_set]
 .obtain⟨L,h1,h2⟩:=h.mp;exact⟨L,h1.mod h5 (λhk=>by obtain⟨cur,hb'⟩:=Row.blk h.nr hk;exact h1.lJ hb'),h2⟩
 .rcases mem_set hy with rfl | ⟨j,_,hj⟩
  .exact h.ct x (za0 hx)
  .exact h.ct y (za0 hj)
theorem SW.other(h:SW w0 w FA pk pt mb ok S N sN gN){b:Nat}(ho:Only (b+1) w u)(h1:b≠pk)(h2:b≠pt)(h3:b≠mb)(h4:b+1≠gN)(h5:w0.heap.size<=b):SW w0 u FA pk pt mb ok S N sN gN:=by
 refine⟨h.bk.mod ho (λhk=>h1 (by have hk':pk+1=b+1:=hk;omega)),h.bt.mod ho (λhk=>h2 (by have hk':pt+1=b+1:=hk;omega)),h.nr.mod ho (λk hk hS=>by have hS':k+1=b+1:=hS;omega),h.gB,?_,h.ct,h.fr.trans ho (λ_ _ h=>h) (λk hk1 hk=>by have hk':k+1=b+1:=hk;omega)⟩;obtain⟨L,g1,g2⟩:=h.mp;exact⟨L,g1.mod ho (λhk=>h3 (by have hk':mb+1=b+1:=hk;omega)),g2⟩
theorem UC(hst:Sta w0 FA pk pt pv pm pb mb a1 n1 c1 vals)(hn1:n1<=1048576) :
  ∀(k:Nat) (f t:Int) (w:World) (S:List (Int×List AD)) (N:List (ND×SH)) (sN:SH) (gN:Nat),0<=f->f<t->t<=n1->t - f<=k->InS n1 S->(N.length:Int)+2*(t - f)<=4194304->SW w0 w FA pk pt mb true S N sN gN ->
   E.CallsD prog 81 #[.int .i64 f,.int .i64 t,ptr pk,ptr pt,ptr pv,ptr pm,ptr pb] w λv u=>v = .tuple #[]/\∃N' sN' gN',SW w0 u FA pk pt mb (fB vals k f t S (N.map (·.1))).1 (fB vals k f t S (N.map (·.1))).2.1 N' sN' gN'/\N'.map (·.1)=(fB vals k f t S (N.map (·.1))).2.2:=by
 intro k
 induction k with
 |zero=>intro f t w S N sN gN h0 h1 h2 h3;omega
 |succ k ih=>
  intro f t w S N sN gN h0 h1 h2 h3 hS hlen hW;refine dD.calls (R:=λv u=>v = .tuple #[]/\∃N' sN' gN',SW w0 u FA pk pt mb (fB vals (k+1) f t S (N.map (·.1))).1 (fB vals (k+1) f t S (N.map (·.1))).2.1 N' sN' gN'/\N'.map (·.1)=(fB vals (k+1) f t S (N.map (·.1))).2.2) ?_;unfold dD dD.g0;obtain⟨FV,hvs⟩:=hW.vls hst;have hvl:=hvs.len;have cell1:∀ {u:World} {b:Nat} {e:Nat} {v:Value},Blk u b #[v] e->u.cell? (⟨b,0,none⟩:Addr)=some v:=λh=>by rw[h.cell];rfl
  have cellT:∀ {u:World} {s:SH},Blk u pt #[.int .i64 0,s.v] tT'->u.cell? ((⟨pt,0,none⟩:Addr).add 1)=some s.v:=λh=>by rw[addr_add,zd1,h.cell];rfl
  have hnl:(N.map (·.1)).length=N.length:=by simp
  refine za4 true ⟨cell1 hW.bk,GG ?_⟩;refine bM (x:=t - f) (by omega) (by omega) ?_;refine nN (λhe=>?_) λhne=>?_
  ·-- a leaf
   have hb:fB vals (k+1) f t S (N.map (·.1))=(true,S,N.map (·.1)++[uk (vals.getD f.toNat 0)]):=by unfold fB;rw[if_pos he]
   rw[hb];refine⟨FNd (uk (vals.getD f.toNat 0),⟨none,0,0⟩),FNd.keep,?_⟩;refine za4 sN.a (za4 sN.n (za4 sN.c ⟨cellT hW.bt,?_⟩));refine za4 a1 (za4 n1 (za4 c1 ⟨cell1 (hW.blk hst (.inl rfl) hst.v),?_⟩));refine Ls.rdI hvs (by omega) (by omega) λx hx=>?_;have hxv:vals.getD f.toNat 0=x:=by rw[za8,hx];rfl
   rw[hxv];refine⟨λu hu=>⟨na u,rfl,AtL.new u (enH (uk x,⟨none,0,0⟩)) tN'⟩,λq _ u hu hF=>?_⟩;obtain⟨q',hv,hA⟩:=hF;cases hv;exact SW.push (hW.kept hu) hst.ne (by omega) hA (Ls.nil _ _ _ _ _) λu2 sN' gN' hW2=>⟨rfl,_,sN',gN',hW2,by simp⟩
  .refine za4 (some mb) ⟨cell1 (hW.blk hst (.inr (.inl rfl)) hst.m),?_⟩;obtain⟨sg,hls,hlk⟩:=hW.get f;refine hlk _ ?_;refine za4 sg.a (za4 sg.n (za4 sg.c ⟨rfl,?_⟩));have hll:=hls.len
   cases hg:l7 S f with
   |nil=>
    rw[hg]at hll;have hb:fB vals (k+1) f t S (N.map (·.1))=(false,S,N.map (·.1)):=by unfold fB;rw[if_neg hne];simp only[hg]
    rw[hb];refine kQ (by simp at hll;omega) ?_;exact hW.fail hst.ne λu hWu=>⟨rfl,N,sN,gN,hWu,rfl⟩
   |cons s rest=>
    rw[hg]at hls hll;simp only[zc5]at hll;refine xN (by omega) ?_;have hlsw:=hW.ls hst hls;obtain⟨e1,e2,e3⟩:=hS f s (by rw[hg];exact .head _);have rd0:∀ {u:World} {K:Addr->Prop},Ls tA FA u sg.a sg.n sg.c (s::rest)->(∀p s',AtL u p (jG (s,s'))->LsI FA u s'.a s'.n s'.c s.nd.aT->K p)->ix sg.a sg.n 0 λq=>K (q.add 0):=fun {u K} hl hK=>by
     refine Ls.at (i:=0) hl (by omega) (by omega) λp x cs hx _ ⟨s',hcs,hcat⟩ hA=>?_;have:x=s:=by simpa using hx.symm
     subst this;subst hcs;exact hK p s' hA hcat
    refine rd0 (K:=λp=>cI w (p.add 9) .i64 _) hlsw λp1 s1 hA1 _=>⟨_,hA1 9 _ rfl,?_⟩;refine fJ (λhge=>?_) λhlt=>?_
    .have hb:fB vals (k+1) f t S (N.map (·.1))=(false,S,N.map (·.1)):=by unfold fB;rw[if_neg hne];simp only[hg];rw[if_pos hge]
     rw[hb];exact hW.fail hst.ne λu hWu=>⟨rfl,N,sN,gN,hWu,rfl⟩
    .refine za4 (some mb) ⟨cell1 (hW.blk hst (.inr (.inl rfl)) hst.m),dK (by omega) ?_⟩;have hlt':s.to<t:=Int.lt_of_not_ge hlt;obtain⟨m1,m2⟩:=hW.no;have hsub:Ls tA FA w0 (slA sg.a sg.c 1 10) (sg.n - 1) (sg.c - 1) rest:=by
      have:=hls.sub (i:=1) (j:=sg.n) (by omega) (zb4 _);rw[zb1 (by simp;omega)]at this;exact this
     refine hW.set m1 m2 f (s:=⟨slA sg.a sg.c 1 10,sg.n - 1,sg.c - 1⟩) hsub λu1 hW1=>?_;refine za4 sN.a (za4 sN.n (za4 sN.c ⟨cellT hW1.bt,?_⟩));have hNn:=aK.len lg (by omega) hW1.nr;refine rd0 (K:=λp=>oh u1 (p.add 0) _) (hW1.ls hst hls) λp2 s2 hA2 hcat2=>?_;rw[add_zero];refine⟨_,hA2 0 _ rfl,_,hA2 1 _ rfl,_,hA2 2 _ rfl,_,hA2 3 _ rfl,_,_,_,hA2 4 _ rfl,_,hA2 5 _ rfl,_,hA2 6 _ rfl,_,hA2 7 _ rfl,?_⟩;refine boxS (zs:=[.int .u8 0,.int .i64 0,.int .i64 0,.float .f64 0,.slice none 0 0,.int .u8 0,.int .i64 0,.int .i64 0]) (vs:=enN s.nd s2.a s2.n s2.c) (e:=tN') rfl λu2 hAn bn hk2=>?_;have ew:IntKind.i64.wrap ((sN.n:Int)+1)=(N.length:Int)+1:=by rw[hNn];exact l9 (by omega) (by omega)
     rw[ew];have hgN:=Row.le hW1.nr;have hz1:w0.heap.size<=u1.heap.size:=hW1.fr.size;have hW2:=hW1.kept hk2;have hpkl:=hW1.bk.lt;have hptl:=hW1.bt.lt;have hmbl:mb<u1.heap.size:=by obtain⟨L,g1,_⟩:=hW1.mp;exact g1.lt
     have hset:=bn.set 6 (.int .i64 ((N.length:Int)+1));have hon:=zg5 u2 u1.heap.size 6 (.int .i64 ((N.length:Int)+1));have hW3:=hW2.other hon (by omega) (by omega) (by omega) (by omega) hz1;have e6:(((na u1:Addr).add 6).add 0)=⟨u1.heap.size,6,none⟩:=by rw[gK,addr_add,zd2]
     rw[e6];refine⟨bn.ok (by simp[enN]),bZ ?_⟩;generalize u2.setCell ⟨u1.heap.size,6,none⟩ (.int .i64 ((N.length:Int)+1))=u3 at hset hon hW3;refine za4 sN.a (za4 sN.n (za4 sN.c ⟨cellT hW3.bt,?_⟩));have hA3:AtL u3 (na u1) (enN { s.nd with left:=(N.length:Int)+1 } s2.a s2.n s2.c):=by
      have:=AtL.blk (b:=u1) hset;simpa[enN] using this
     refine⟨_,hA3 0 _ rfl,_,hA3 1 _ rfl,_,hA3 2 _ rfl,_,hA3 3 _ rfl,_,_,_,hA3 4 _ rfl,_,hA3 5 _ rfl,_,hA3 6 _ rfl,_,hA3 7 _ rfl,bZ ?_⟩;have hq4:=AtL.new u3 (enH ({ s.nd with left:=(N.length:Int)+1 },s2)) tN';have hcat0:LsI FA w0 s2.a s2.n s2.c s.nd.aT:=hcat2.keep λb hb _=>(hW1.fr.block b (hst.old b hb) (λhk=>by have:=hst.away b (.inl hb);omega)).symm;refine SW.push (hW3.kept (zg3 u3 _)) hst.ne (by omega) hq4 hcat0 λu4 sN4 gN4 hW4=>?_;refine za4 _ ⟨cell1 (hW4.blk hst (.inr (.inr rfl)) hst.b),?_⟩;refine rd0 (K:=λp=>cI u4 (p.add 9) .i64 _) (hW4.ls hst hls) λp5 s5 hA5 _=>⟨_,hA5 9 _ rfl,?_⟩;have hmap4:(N++[(({ s.nd with left:=(N.length:Int)+1 }:ND),s2)]).map (·.1)=N.map (·.1)++[{ s.nd with left:=((N.map (·.1)).length:Int)+1 }]:=by simp
     have hS2:=hS.set hg;obtain⟨b1,b2,b3⟩:=oU (vals:=vals) k f s.to (DU S f rest) (N.map (·.1)++[{ s.nd with left:=((N.map (·.1)).length:Int)+1 }]) e2 hS2;obtain⟨RES,hRES⟩:∃r,r=fB vals k f s.to (DU S f rest) (N.map (·.1)++[{ s.nd with left:=((N.map (·.1)).length:Int)+1 }]):=⟨_,rfl⟩;rw[<- hRES]at b1 b2 b3;simp only[za6,za7,zc5,zc6]at b2 b3;refine UK (zg0 (ih f s.to u4 (DU S f rest) _ sN4 gN4 h0 e2 (by omega) (by omega) hS2 (by simp;omega) hW4) λv u5 ⟨hv,N5,sN5,gN5,hW5,hN5⟩=>⟨hv,?_⟩);rw[hmap4,<- hRES]at hW5 hN5;have hN5l:N5.length=RES.2.2.length:=by rw[<- hN5,za7]
     have hn5:=aK.len lg (by omega) hW5.nr;refine za4 sN5.a (za4 sN5.n (za4 sN5.c ⟨cellT hW5.bt,?_⟩));refine za4 sN5.a (za4 sN5.n (za4 sN5.c ⟨cellT hW5.bt,?_⟩));rw[hNn];refine hW5.right (i:=N.length) (by omega) (v:=(sN5.n:Int)) λu6 N6 hN6 hW6=>?_;have hN6':N6.map (·.1)=iF RES.2.2 (N.map (·.1)).length:=by
      rw[hN6,hN5];unfold iF;rw[hnl,hn5,hN5l]
      all_goals (split <;> simp_all)
     refine za4 _ ⟨cell1 (hW6.blk hst (.inr (.inr rfl)) hst.b),?_⟩;refine rd0 (K:=λp=>cI u6 (p.add 9) .i64 _) (hW6.ls hst hls) λp7 s7 hA7 _=>⟨_,hA7 9 _ rfl,?_⟩;obtain⟨bb,S1,N1⟩:=RES
     .skip
      have hB:fB vals (k+1) f t S (N.map (·.1))=(match (bb,S1,N1) with | (false,S1,N1)=>(false,S1,iF N1 (N.map (·.1)).length) | (true,S1,N1)=>fB vals k s.to t S1 (iF N1 (N.map (·.1)).length)):=by
       rw[hRES]
       conv=>lhs;unfold fB
       rw[if_neg hne];simp only[hg];rw[if_neg hlt,<- hRES]
       all_goals (cases bb <;> rfl)
      rw[hB]
      cases bb with
      |false=>
       refine UK (zg0 (Ti hW6.bk) λv u7 ⟨hv,hu7⟩=>⟨hv,rfl,N6,sN5,gN5,?_,hN6'⟩);subst hu7;exact hW6
      |true=>
       refine UK (zg0 (ih s.to t u6 S1 N6 sN5 gN5 (by omega) (by omega) h2 (by omega) b1 (by
        have:N6.length=N1.length:=by have:=congrArg List.length hN6';simpa[mP] using this
        simp only at b3
        omega) hW6) λv u7 ⟨hv,N7,sN7,gN7,hW7,hN7⟩=>⟨hv,rfl,N7,sN7,gN7,?_,?_⟩)
       .rw[hN6']at hW7;exact hW7
       .rw[hN6']at hN7;exact hN7
end
def gY(l:List AD):List (Int×List AD):=l.foldl Jg []
def oI(S:List (Int×List AD)):List (Int×List AD):=S.map λx=>(x.1,sorted Me x.2)
def uj(l:List AD)(vals:List Int):Bool×List ND:=if l.all (okA vals.length) then((fB vals vals.length 0 vals.length (oI (gY l)) []).1,(fB vals vals.length 0 vals.length (oI (gY l)) []).2.2) else(false,[])
theorem yj:∀(S:List (Int×List AD)) (x:AD) (f:Int),l7 (Jg S x) f=if f=x.frm then l7 S f++[x] else l7 S f
 | [],x,f=>by
  by_cases h:x.frm=f
  .subst h;simp[Jg,l7]
  .simp[Jg,l7,h,Ne.symm h]
 | (y,l)::S,x,f=>by
  unfold Jg
  by_cases hy:y=x.frm
  .subst hy
   by_cases h:f=x.frm
   .subst h;simp[l7]
   .simp[l7,h,Ne.symm h]
  .rw[if_neg hy]
   by_cases h:y=f
   .subst h;simp[l7,hy]
   .simp only[l7,h,if_false];exact yj S x f
theorem uI:∀(S:List (Int×List AD)) (f:Int),l7 (oI S) f=sorted Me (l7 S f)
 | [],f=>rfl
 | (y,l)::S,f=>by
  show l7 ((y,sorted Me l)::oI S) f=_;unfold l7
  split
  .rfl
  .exact uI S f
theorem vY{n:Int}:∀(l:List AD) (S:List (Int×List AD)),(∀f,∀x∈l7 S f,x.frm=f/\okA n x=true)->l.all (okA n)=true->∀f,∀x∈l7 (l.foldl Jg S) f,x.frm=f/\okA n x=true
 | [],S,h,_,f,x,hx=>h f x hx
 |y::l,S,h,ha,f,x,hx=>by
  rw[List.all_cons,ze5]at ha;refine vY l (Jg S y) (λg z hz=>?_) ha.2 f x hx;rw[yj]at hz;split at hz
  .rename_i e
   rcases zb2.1 hz with hz | hz
   .exact h g z hz
   .obtain rfl:z=y:=by simpa using hz
    exact⟨e.symm,ha.1⟩
  .exact h g z hz
theorem Dp{n:Int}{x:AD}(h:okA n x=true):0<=x.frm/\x.frm<x.to/\x.to<n:=by
 unfold okA at h;simp only[ze5,decide_eq_true_eq]at h;omega
theorem Jo{n:Int}{l:List AD}(ha:l.all (okA n)=true):InS n (oI (gY l)):=λf x hx=>by
 rw[uI]at hx;have hx':=(sorted_perm Me _).mem_iff.1 hx;obtain⟨h1,h2⟩:=vY l [] (λf x hx=>by cases hx) ha f x hx';have:=Dp h2;omega
section
variable{w u:World}{a a1:OA}{n c n1 c1:Nat}{F S:Nat->Prop}{mb:Nat}{H:List (Int×RA)}{l:List AD}{vals:List Int}
theorem Vq(h:Int×RA):dRA (SG h)=(h.1,sorted Me (dRA h).2):=by
 unfold SG dRA;rw[lH]
theorem Ue:∀ {H:List (Int×RA)},(∀h∈H,aK 10 jG tA' w h.2.1.a h.2.1.n h.2.1.c h.2.2.1 h.2.2.2)->(∀h∈H,∀b,b+1=h.2.2.2->F b)->(∀h∈H,∀x∈h.2.2.1,LsI F w x.2.a x.2.n x.2.c x.1.nd.aT)->WW F w (H.map λh=>(h.1,h.2.1)) (H.map dRA)
 | [],_,_,_=>trivial
 |h::H,hM,hF,hc=>by
  refine⟨rfl,?_,Ue (λx hx=>hM x (.tail _ hx)) (λx hx=>hF x (.tail _ hx)) (λx hx=>hc x (.tail _ hx))⟩;refine aK.lsK (T:=tA) (f:=λx:AE=>x.1) (en:=jG) (k:=10) oZ (by omega) rfl (hM h (.head _)) (λb hb=>hF h (.head _) b hb) λx hx=>⟨x.2,rfl,hc h (.head _) x hx⟩
theorem Xu{pk pt pv pm pb:Nat}{f t:Int}{K:Value->zg6}(h:E.CallsD prog 81 #[.int .i64 f,.int .i64 t,ptr pk,ptr pt,ptr pv,ptr pm,ptr pb] w K):zO prog (BO pk pt pv pm pb) #[.int .i64 f,.int .i64 t] w K:=by
 unfold zO BO;simp only;rw[if_pos Um];exact h
set_option maxHeartbeats 1000000 in
theorem QQ{wB:World}{l:List AD}{pv pr pm:Nat}(hn1:n1<=1048576)(hn0:0<n1)(hM:MZ wB.heap.size w mb (H.map SG))(hd:H.map dRA=gY l)(hall:l.all (okA n1)=true)(hcats:∀h∈H,∀x∈h.2.2.1,LsI F wB x.2.a x.2.n x.2.c x.1.nd.aT)(hF:∀b,F b->b<wB.heap.size){FV:Nat->Prop}(hFV:∀b,FV b->b<wB.heap.size)(hvs:LsI FV wB a1 n1 c1 vals)
  (hf:From wB.heap.size wB w) (bv:Blk w pv #[.slice a1 n1 c1] 23) (br:Blk w pr #[.int .i64 0,.slice none 0 0] tT') (bm:Blk w pm #[.map (some mb)] 144) (hpr:wB.heap.size<=pr) {R:VP}
  (hR:∀u b (o:Int) a' n' c',b=(uj l vals).1->(b=true->o=0/\Ls tN (λb=>F b\/(wB.heap.size<=b/\b<u.heap.size)) u a' n' c' (uj l vals).2)->From wB.heap.size wB u->R (.tuple #[vT o a' n' c',.bool b]) u) :
  Nv R (some ⟨pv,0,none⟩) (some ⟨pr,0,none⟩) (some ⟨pm,0,none⟩) w:=by
 unfold Nv;have hvl:=hvs.len;refine bZ (bZ ?_);have bt0:Blk (w.alloc (.cells (kU 0 none 0 0) 50)) w.heap.size #[.int .i64 0,.slice none 0 0] tT':=Blk.new w _ _;have k1:=zg3 w (.cells (kU 0 none 0 0) 50);have z1:(w.alloc (.cells (kU 0 none 0 0) 50)).heap.size=w.heap.size+1:=by simp
 generalize w.alloc (.cells (kU 0 none 0 0) 50)=W1 at bt0 k1 z1;have bk0:Blk (W1.alloc (.cells #[.bool false] 4)) W1.heap.size #[.bool false] YK:=Blk.new W1 _ _;have k2:=zg3 W1 (.cells #[.bool false] 4);have z2:(W1.alloc (.cells #[.bool false] 4)).heap.size=W1.heap.size+1:=by simp
 generalize W1.alloc (.cells #[.bool false] 4)=W2 at bk0 k2 z2;have bk1:=bk0.set 0 (.bool true);have ho3:=zg5 W2 W1.heap.size 0 (.bool true);have z3:(W2.setCell ⟨W1.heap.size,0,none⟩ (.bool true)).heap.size=W2.heap.size:=gV _ _ _;have e1:((na W1:Addr).add 0)=⟨W1.heap.size,0,none⟩:=by rw[gK]
 rw[e1];refine⟨bk0.ok (by simp),bZ (bZ ?_)⟩;generalize W2.setCell ⟨W1.heap.size,0,none⟩ (.bool true)=W3 at bk1 ho3 z3;have bb0:Blk (W3.alloc (.cells #[.nilFunc] 147)) W3.heap.size #[.nilFunc] 147:=Blk.new W3 _ _;have k4:=zg3 W3 (.cells #[.nilFunc] 147);have z4:(W3.alloc (.cells #[.nilFunc] 147)).heap.size=W3.heap.size+1:=by simp
 generalize W3.alloc (.cells #[.nilFunc] 147)=W4 at bb0 k4 z4;have bb1:=bb0.set 0 (.func (.func 81) #[] #[.pointer (some (na W1)),.pointer (some (na w)),.pointer (some ⟨pv,0,none⟩),.pointer (some ⟨pm,0,none⟩),.pointer (some (na W3))]);have ho5:=zg5 W4 W3.heap.size 0 (.func (.func 81) #[] #[.pointer (some (na W1)),.pointer (some (na w)),.pointer (some ⟨pv,0,none⟩),.pointer (some ⟨pm,0,none⟩),.pointer (some (na W3))]);have z5:(W4.setCell ⟨W3.heap.size,0,none⟩ (.func (.func 81) #[] #[.pointer (some (na W1)),.pointer (some (na w)),.pointer (some ⟨pv,0,none⟩),.pointer (some ⟨pm,0,none⟩),.pointer (some (na W3))])).heap.size=W4.heap.size:=gV _ _ _;have e3:((na W3:Addr).add 0)=⟨W3.heap.size,0,none⟩:=by rw[gK]
 rw[e3];refine⟨bb0.ok (by simp),bZ ?_⟩;show cV (W4.setCell ⟨W3.heap.size,0,none⟩ (.func (.func 81) #[] #[.pointer (some (na W1)),.pointer (some (na w)),.pointer (some ⟨pv,0,none⟩),.pointer (some ⟨pm,0,none⟩),.pointer (some (na W3))])) (na W3) _;generalize W4.setCell ⟨W3.heap.size,0,none⟩ (.func (.func 81) #[] #[.pointer (some (na W1)),.pointer (some (na w)),.pointer (some ⟨pv,0,none⟩),.pointer (some ⟨pm,0,none⟩),.pointer (some (na W3))])=W5 at bb1 ho5 z5
 -- what was there stays
 have fw:From w.heap.size w W5:=by
  have f1:From w.heap.size w W2:=Kept.mod (S:=λk=>w.heap.size<=k) (zg1 k1 k2);have f3:From w.heap.size w W3:=f1.then ho3 (λk _ hk=>by have hk':k+1=W1.heap.size+1:=hk;omega);exact(f3.aG k4).then ho5 (λk _ hk=>by have hk':k+1=W3.heap.size+1:=hk;omega)
 have kw:=zg4 fw;have hM5:=hM.kept kw;have bv5:=bv.keep kw;have br5:=br.keep kw;have bm5:=bm.keep kw;have bt5:Blk W5 w.heap.size #[.int .i64 0,.slice none 0 0] tT':=(((bt0.keep k2).mod ho3 (λhk=>by have hk':w.heap.size+1=W1.heap.size+1:=hk;omega)).keep k4).mod ho5 (λhk=>by have hk':w.heap.size+1=W3.heap.size+1:=hk;omega);have bk5:Blk W5 W1.heap.size #[.bool true] YK:=(bk1.keep k4).mod ho5 (λhk=>by have hk':W1.heap.size+1=W3.heap.size+1:=hk;omega);have bb5:Blk W5 W3.heap.size #[BO W1.heap.size w.heap.size pv pm W3.heap.size] 147:=bb1;have hB5:From wB.heap.size wB W5:=hf.trans fw (λ_ _ h=>h) (λk _ hk=>by have hk':w.heap.size<=k:=hk;have:=hf.size;show wB.heap.size<=k;omega);have hmb:=hM.map.lt;have hpvl:=bv.lt;have hprl:=br.lt;have hpml:=bm.lt;have hbs:=hf.size;obtain⟨FA,hFA⟩:∃FA:Nat->Prop,FA=λb=>F b\/(wB.heap.size<=b/\∃cur,Blk W5 b cur tA'):=⟨_,rfl⟩;have fa1:∀b,F b->FA b:=λb h=>by rw[hFA];exact .inl h
 have keepF:∀ {α:Type} {T:Ty α} {xs:List α} {a:OA} {n c:Nat},Ls T F wB a n c xs->Ls T FA W5 a n c xs:=λh=>(h.mod hB5 λb hb hk=>by have:=hF b hb;have hk':wB.heap.size<=b:=hk;omega).mono fa1;have hst:Sta W5 FA W1.heap.size w.heap.size pv pm W3.heap.size mb a1 n1 c1 vals:=by
  refine⟨bv5,bm5,bb5,⟨FV,λb hb=>by have:=hFV b hb;have:=hM.mB;have:=hB5.size;omega,hvs.mod hB5 λb hb hk=>by have:=hFV b hb;have hk':wB.heap.size<=b:=hk;omega⟩,by omega,λb hb=>?_,λb hb=>?_⟩
  .rw[hFA]at hb
   rcases hb with hb | ⟨_,cur,hb⟩
   .have:=hF b hb;omega
   .exact hb.lt
  .rcases hb with hb | hb | hb | hb
   .rw[hFA]at hb
    rcases hb with hb | ⟨_,cur,hb⟩
    .have:=hF b hb;have:=hM.mB;omega
    .exact⟨λe=>by subst e;exact absurd (hb.ne bk5) (by decide),λe=>by subst e;exact absurd (hb.ne bt5) (by decide),λe=>by subst e;exact hM5.map.lJ hb⟩
   .exact⟨by omega,by omega,λe=>by subst e;subst hb;exact hM5.map.lJ bv5⟩
   .exact⟨by omega,by omega,λe=>by subst e;subst hb;exact hM5.map.lJ bm5⟩
   .exact⟨by omega,by omega,λe=>by subst e;subst hb;exact hM5.map.lJ bb5⟩
 have hS:(H.map SG).map dRA=oI (gY l):=by
  rw[<- hd];unfold oI;rw[ze6,ze6];exact List.map_congr_left λh _=>Vq h
 have hSW:SW W5 W5 FA W1.heap.size w.heap.size mb true (oI (gY l)) [] ⟨none,0,0⟩ 0:=by
  refine⟨bk5,bt5,aK.nil _ _ _ _,.inl rfl,⟨(H.map SG).map λh=>(h.1,h.2.1),?_,?_⟩,(λx hx=>by cases hx),Mod.refl _⟩
  .have:=hM5.map;rw[ze6];exact this
  .rw[<- hS];refine Ue (λh hh=>(hM5.row h hh).1) (λh hh b hb=>?_) λh hh x hx=>?_
   .rw[hFA];obtain⟨cur,hbk⟩:=Row.blk (hM5.row h hh).1 hb;exact .inr ⟨by have:=(hM5.row h hh).2;omega,cur,hbk⟩
   .obtain⟨h',hh',rfl⟩:=zd4.1 hh;have hx':=(sorted_perm _ h'.2.2.1).mem_iff.1 hx;exact keepF (hcats h' hh' x hx')
 refine za4 _ ⟨by show W5.cell? ⟨W3.heap.size,0,none⟩=_;rw[bb5.cell];rfl,?_⟩;refine za4 a1 (za4 n1 (za4 c1 ⟨by rw[bv5.cell];rfl,?_⟩));refine Xu (zg0 (UC hst hn1 n1 0 n1 W5 _ [] ⟨none,0,0⟩ 0 (by omega) (by omega) (by omega) (by omega) (Jo hall) (by simp;omega) hSW) λv u ⟨hv,N',sN',gN',hW,hN⟩=>⟨hv,?_⟩);have hkR:uj l vals=((fB vals n1 0 n1 (oI (gY l)) []).1,(fB vals n1 0 n1 (oI (gY l)) []).2.2):=by
  unfold uj;rw[<- hvl,if_pos hall]
 have bru:Blk u pr #[.int .i64 0,.slice none 0 0] tT':=br5.mod hW.fr λhk=>by
  rcases hk with hk | hk | hk
  .omega
  .omega
  .subst hk;exact hM5.map.lJ br5
 refine⟨u.putObj pr (.deferred none),CK.hide (Mod.refl _),?_⟩;have hbt:=hW.bt;refine za4 0 ⟨by rw[gK,hbt.cell];rfl,za4 sN'.a (za4 sN'.n (za4 sN'.c ⟨by rw[gK,hbt.cell];rfl,?_⟩))⟩;refine za4 (fB vals n1 0 n1 (oI (gY l)) []).1 ⟨OD (by show u.cell? ⟨W1.heap.size,0,none⟩=_;rw[hW.bk.cell];rfl) (show W1.heap.size≠pr by omega),?_⟩;refine wrA (e:=tT') (b:=pr) (vs:=[.int .i64 0,sN'.v]) bru rfl λu2 bru2 ho2=>⟨CK.hide (ho2.weak λk _ hk=>by have hk':k+1=pr+1:=hk;show k=pr;omega),?_⟩;refine za4 0 ⟨by rw[addr_add,bru2.cell];rfl,za4 sN'.a (za4 sN'.n (za4 sN'.c ⟨by rw[addr_add,bru2.cell];rfl,?_⟩))⟩;have hW5u:From wB.heap.size W5 u:=hW.fr.weak λk _ hk=>by have:=hM.mB;show wB.heap.size<=k;omega
 have hfin:From wB.heap.size wB u2:=(hB5.trans hW5u zg7 zg7).trans ho2 (λ_ _ h=>h) (λk _ hk=>by have hk':k+1=pr+1:=hk;show wB.heap.size<=k;omega);refine hR u2 _ 0 _ _ _ (by rw[hkR]) (λ_=>⟨rfl,?_⟩) hfin;rw[hkR];show Ls tN _ u2 sN'.a sN'.n sN'.c (fB vals n1 0 n1 (oI (gY l)) (([]:List (ND×SH)).map λx=>x.1)).2.2;rw[<- hN];have hnr:=hW.nr.mod ho2 (eY bru hW.nr (by decide));have hgl:=Row.le hnr;refine aK.lsK (T:=tN) (f:=λx:ND×SH=>x.1) (en:=enH) (k:=8) lg (by omega) rfl hnr (λb hb => .inr ⟨by have:=hW.gB;have:=hB5.size;omega,by omega⟩) λx hx=>⟨x.2.a,x.2.n,x.2.c,rfl,?_⟩;have hc:=hW.ct x hx;have hcu:LsI FA u2 x.2.a x.2.n x.2.c x.1.aT:=(hc.mod hW.fr λb hb hk=>by have:=hst.away b (.inl hb);omega).mod ho2 λb hb hk=>by
  have hk':b+1=pr+1:=hk;obtain rfl:b=pr:=by omega
  rw[hFA]at hb
  rcases hb with hb | ⟨_,cur,hb⟩
  .have:=hF b hb;omega
  .exact absurd (hb.ne br5) (by decide)
 refine hcu.mono λb hb=>?_;rw[hFA]at hb
 rcases hb with hb | ⟨h1,cur,hb⟩
 .exact .inl hb
 .exact .inr ⟨h1,by have:=hb.lt;have:=hW.fr.size;have:=ho2.size;omega⟩
end
section
variable{w w0 u wB:World}{a a0 a1:OA}{n c n0 c0 n1 c1:Nat}{F S:Nat->Prop}{p q:Addr}{B mb:Nat}{H:List (Int×RA)}{l:List AD}{vals:List Int}{R:VP}{pv pr pm:Nat}
theorem QF{i:Nat}{x:AE}{r':RA}(hr':r'.2.1=(xG H x.1.frm).2.1++[x])(hnd:(H.map (·.1)).Nodup)(h:∀y∈H,y.2.2.1.length<=i):∀y∈Gg H x.1.frm r',y.2.2.1.length<=i+1:=λy hy=>by
 rcases qG hnd hy with rfl | ⟨h1,_⟩
 .show r'.2.1.length<=i+1;rw[hr',za6]
  rcases pG (H:=H) (f:=x.1.frm) with h1 | ⟨h1,_⟩
  .have:=h _ h1;simp at this ⊢;exact this
  .rw[h1];simp
 .have:=h y h1;omega
theorem OH{x:AE}{r':RA}(hr':r'.2.1=(xG H x.1.frm).2.1++[x])(hnd:(H.map (·.1)).Nodup)(hx:LsI F w x.2.a x.2.n x.2.c x.1.nd.aT)(h:JV F w H):JV F w (Gg H x.1.frm r'):=λy hy z hz=>by
 rcases qG hnd hy with rfl | ⟨h1,_⟩
 .have hz':z∈r'.2.1:=hz;rw[hr',zb2]at hz'
  rcases hz' with hz' | hz'
  .rcases pG (H:=H) (f:=x.1.frm) with h1 | ⟨h1,_⟩
   .exact h _ h1 z hz'
   .rw[h1]at hz';cases hz'
  .obtain rfl:z=x:=by simpa using hz'
   exact hx
 .exact h y h1 z hz
theorem UU(H:List (Int×RA)):H.map (stA [])=H:=by
 have:∀h∈H,stA [] h=h:=λh _=>by unfold stA;rw[if_neg (by simp)]
 exact(List.map_congr_left this).trans (by simp)
theorem Jn:∀ {H:List (Int×RA)} {h:Int×RA},(H.map (·.1)).Nodup->h∈H->l7 (H.map dRA) h.1=h.2.2.1.map (·.1)
 |y::H,h,hnd,hh=>by
  rw[ze0];unfold l7;rw[ze0,zf1]at hnd
  rcases zb3.1 hh with rfl | hh
  .rw[if_pos rfl]
  .rw[if_neg λe=>hnd.1 (zd4.2 ⟨h,hh,e.symm⟩)];exact Jn hnd.2 hh
theorem Wn(hn1:n1<=1048576)(hn0:0<n1)(hl:l.length<=1048576){FV:Nat->Prop}(hFV:∀b,FV b->b<wB.heap.size)(hvs:LsI FV wB a1 n1 c1 vals)(hF:∀b,F b->b<wB.heap.size)
  (hM:MZ wB.heap.size w mb H) (hd:H.map dRA=gY l) (hall:l.all (okA n1)=true) (hcats:JV F wB H) (hlen:∀h∈H,h.2.2.1.length<=1048576)
  (hf:From wB.heap.size wB w) (bv:Blk w pv #[.slice a1 n1 c1] 23) (br:Blk w pr #[.int .i64 0,.slice none 0 0] tT') (bm:Blk w pm #[.map (some mb)] 144) (hpr:wB.heap.size<=pr)
  (hR:∀u b (o:Int) a' n' c',b=(uj l vals).1->(b=true->o=0/\Ls tN (λb=>F b\/(wB.heap.size<=b/\b<u.heap.size)) u a' n' c' (uj l vals).2)->From wB.heap.size wB u->R (.tuple #[vT o a' n' c',.bool b]) u) :
  dC prog (Instr.range 144 (.map (some mb))) w λv102 u103=>
   ∃Ub:Addr,v102 = .pointer (some Ub)/\aZ.e33 R (some ⟨pv,0,none⟩) (some ⟨pr,0,none⟩) (some ⟨pm,0,none⟩) (some Ub) u103:=by
 refine ji.range t147 hM.map λu hrng hku=>⟨_,rfl,(H.map kvA).length+1,?_⟩;have hs:=hf.size;have hG:∀h∈H,h.2.2.1.length<=1048576/\∀x∈h.2.2.1,0<=x.1.to/\x.1.to<=16777216:=λh hh=>⟨hlen h hh,λx hx=>by
  have h1:dRA h∈gY l:=by rw[<- hd];exact ze8 hh
  have h2:l7 (H.map dRA) h.1=h.2.2.1.map (·.1):=Jn hM.nd hh;obtain⟨_,h3⟩:=vY l [] (λf x hx=>by cases hx) hall h.1 x.1 (by show x.1∈l7 (gY l) h.1;rw[<- hd,h2];exact ze8 hx);have:=Dp h3
  omega⟩
 refine QX (w0:=u) (B:=wB.heap.size) hG hs hM.nd (λv hMv hfv hbv=>?_) (H.map kvA).length u (H.map kvA) [] rfl (by rw[List.map_nil,UU];exact hM.kept hku) hrng (List.Perm.refl _) (From.refl _ _) (λ_ _ _ h _=>h);refine QQ hn1 hn0 hMv hd hall hcats hF hFV hvs ((hf.aG hku).trans hfv zg7 zg7) (hbv _ _ _ (bv.keep hku) (by decide)) (hbv _ _ _ (br.keep hku) (by decide)) (hbv _ _ _ (bm.keep hku) (by decide)) hpr hR
theorem Xp(hn1:n1<=1048576)(hn0:0<n1)(hl:l.length<=1048576)(ha:Ls tA F wB a0 n0 c0 l){FV:Nat->Prop}(hFV:∀b,FV b->b<wB.heap.size)(hvs:LsI FV wB a1 n1 c1 vals)(hF:∀b,F b->b<wB.heap.size)(hpv:wB.heap.size<=pv)(hpr:wB.heap.size<=pr)(hpm:wB.heap.size<=pm)
  (hR:∀u b (o:Int) a' n' c',b=(uj l vals).1->(b=true->o=0/\Ls tN (λb=>F b\/(wB.heap.size<=b/\b<u.heap.size)) u a' n' c' (uj l vals).2)->From wB.heap.size wB u->R (.tuple #[vT o a' n' c',.bool b]) u) :
  ∀(k i:Nat) (w:World) (H:List (Int×RA)),i+k=n0->MZ wB.heap.size w mb H->H.map dRA=gY (l.take i)->(l.take i).all (okA n1)=true->JV F wB H->(∀h∈H,h.2.2.1.length<=i) ->
   From wB.heap.size wB w->Blk w pv #[.slice a1 n1 c1] 23->Blk w pr #[.int .i64 0,.slice none 0 0] tT'->Blk w pm #[.map (some mb)] 144 ->
   aZ.l8 R (k+1) (some ⟨pv,0,none⟩) (some ⟨pr,0,none⟩) (some ⟨pm,0,none⟩) a0 n0 c0 n0 i w:=by
 intro k;have hla:=ha.len;have hlv:=hvs.len
 induction k with
 |zero=>
  intro i w H hi hM hd hall hcats hlen hf bv br bm;obtain rfl:i=n0:=by omega
  rw[zb1 (by omega)]at hd hall;rw[aZ.u8];unfold aZ.g8;refine aA (by omega) ⟨some mb,by rw[bm.cell];rfl,?_⟩;exact Wn hn1 hn0 hl hFV hvs hF hM hd hall hcats (λh hh=>by have:=hlen h hh;omega) hf bv br bm hpr hR
 |succ k ih=>
  intro i w H hi hM hd hall hcats hlen hf bv br bm;rw[aZ.u8];unfold aZ.g8;refine aH (by omega) ?_;obtain⟨p,x,cs,rfl,hx,hFp,⟨s,e,hcB⟩,hA0⟩:=ha.elem (i:=i) (by omega);subst e;have hA:=hA0.mod (S:=λk=>wB.heap.size<=k) hf (by rw[add_block];have:=hF _ hFp;omega);refine dK ⟨by omega,by omega⟩ ?_;have hxm:=za0 hx;obtain⟨hxl,hxe⟩:=za1.1 hx;have htk:l.take (i+1)=l.take i++[x]:=by rw[List.take_add_one,hx];rfl
  refine⟨_,hA 0 _ rfl,_,hA 1 _ rfl,_,hA 2 _ rfl,_,hA 3 _ rfl,_,_,_,hA 4 _ rfl,_,hA 5 _ rfl,_,hA 6 _ rfl,_,hA 7 _ rfl,_,hA 8 _ rfl,_,hA 9 _ rfl,?_⟩;refine boxS (zs:=(mJ 0 0 0 0 none 0 0 0 0 0 0 0).toList) (vs:=jG (x,s)) rfl λu hAu hbu hku=>?_;have hf1:From wB.heap.size wB u:=hf.aG hku;have bv1:=bv.keep hku;have br1:=br.keep hku;have bm1:=bm.keep hku;have fail:∀hno:¬ okA n1 x=true,aV (some ⟨pr,0,none⟩) λq57=>
   y8 u q57 0 none 0 0 λw58=>
   aV (some ⟨pr,0,none⟩) λq59=>
   jF w58 q59 λx60'0 a60'1 n60'1 c60'1=>
   R (.tuple #[jh x60'0 a60'1 n60'1 c60'1,.bool false]) w58:=λhno=>by
   refine wrA (e:=tT') (b:=pr) (vs:=[.int .i64 0,.slice none 0 0]) br1 rfl λu2 br2 ho2=>?_;refine⟨_,by rw[addr_add,br2.cell];rfl,_,_,_,by rw[addr_add,br2.cell];rfl,?_⟩;have hall':l.all (okA n1)=false:=by
    rw[List.all_eq_false];exact⟨x,hxm,hno⟩
   refine hR u2 false 0 _ _ _ ?_ (λh=>by cases h) ?_
   .unfold uj;rw[<- hlv,if_neg (by rw[hall'];decide)]
   .exact hf1.then ho2 λk _ hk=>by have hk':k+1=pr+1:=hk;omega
  have hnok:∀(h:¬ (0<=x.frm/\x.frm<x.to/\x.to<n1)),¬ okA n1 x=true:=λh h2=>h (Dp h2);refine⟨_,hAu 8 _ rfl,fJ (λ(h:x.frm<0)=>fail (hnok (by omega))) λ(h1:¬ x.frm<0)=>?_⟩;refine⟨_,hAu 9 _ rfl,_,hAu 8 _ rfl,fJ (λ(h:x.to<=x.frm)=>fail (hnok (by omega))) λ(h2:¬ x.to<=x.frm)=>?_⟩;refine⟨_,hAu 9 _ rfl,_,_,_,by rw[bv1.cell];rfl,fJ (λ(h:x.to>=n1)=>fail (hnok (by omega))) λ(h3:¬ x.to>=n1)=>?_⟩;have hok:okA n1 x=true:=by
   unfold okA;simp only[ze5,decide_eq_true_eq];omega
  have hM1:=hM.kept hku;have hqr:((na w:Addr)).block+1≠(xG H x.frm).2.2:=by
   rcases pG (H:=H) (f:=x.frm) with h4 | ⟨h4,_⟩
   .have:(xG H x.frm).2.2<=w.heap.size:=Row.le ((hM.row _ h4).1);show w.heap.size+1≠_;omega
   .rw[h4];show w.heap.size+1≠0;omega
  refine Zb (R:=R) (x:=(x,s)) (q:=na w) (by omega) hM1 hf1.size bm1 hAu hqr (λh hh=>by have:=hlen h hh;omega) λu2 r' hr' hM2 hf2 hb2=>?_;refine ih (i+1) u2 (Gg H x.frm r') (by omega) hM2 ?_ ?_ ?_ ?_ ?_ (hb2 _ _ _ bv1 (by decide)) (hb2 _ _ _ br1 (by decide)) (hb2 _ _ _ bm1 (by decide))
  .rw[Ui H (x,s) r' hr',hd,htk];unfold gY;rw[List.foldl_append];rfl
  .rw[htk,List.all_append,hall];simpa using hok
  .exact OH hr' hM.nd hcB hcats
  .exact QF hr' hM.nd hlen
  .exact hf1.trans hf2 zg7 zg7
theorem NU(hn1:n1<=1048576)(hn0:0<n1)(hl:l.length<=1048576)(ha:Ls tA F w a0 n0 c0 l){FV:Nat->Prop}(hFV:∀b,FV b->b<w.heap.size)(hvs:LsI FV w a1 n1 c1 vals)(hF:∀b,F b->b<w.heap.size) :
  E.CallsD prog 59 #[.slice a0 n0 c0,.slice a1 n1 c1] w λv u=>∃(b:Bool) (o:Int) (a':OA) (n' c':Nat),v = .tuple #[vT o a' n' c',.bool b]/\b=(uj l vals).1/\(b=true->o=0/\Ls tN (λb=>F b\/(w.heap.size<=b/\b<u.heap.size)) u a' n' c' (uj l vals).2)/\From w.heap.size w u:=by
 refine aZ.calls (R:=λv u=>∃(b:Bool) (o:Int) (a':OA) (n' c':Nat),v = .tuple #[vT o a' n' c',.bool b]/\b=(uj l vals).1/\(b=true->o=0/\Ls tN (λb=>F b\/(w.heap.size<=b/\b<u.heap.size)) u a' n' c' (uj l vals).2)/\From w.heap.size w u) ?_;unfold aZ aZ.g0;refine bZ (bZ (bZ (bZ ?_)));have bv0:Blk (w.alloc (.cells #[.slice a1 n1 c1] 23)) w.heap.size #[.slice a1 n1 c1] 23:=Blk.new w _ _;have k1:=zg3 w (.cells #[.slice a1 n1 c1] 23);have z1:(w.alloc (.cells #[.slice a1 n1 c1] 23)).heap.size=w.heap.size+1:=by simp
 generalize w.alloc (.cells #[.slice a1 n1 c1] 23)=W1 at bv0 k1 z1;have br0:Blk (W1.alloc (.cells (kU 0 none 0 0) 50)) W1.heap.size #[.int .i64 0,.slice none 0 0] tT':=Blk.new W1 _ _;have k2:=zg3 W1 (.cells (kU 0 none 0 0) 50);have z2:(W1.alloc (.cells (kU 0 none 0 0) 50)).heap.size=W1.heap.size+1:=by simp
 generalize W1.alloc (.cells (kU 0 none 0 0) 50)=W2 at br0 k2 z2;have hM0:=MOK.nil (B:=w.heap.size) tA' W2 (by omega);have k3:=zg3 W2 (.map #[] 0);have z3:(W2.alloc (.map #[] 0)).heap.size=W2.heap.size+1:=by simp
 generalize W2.alloc (.map #[] 0)=W3 at hM0 k3 z3;have bm0:Blk (W3.alloc (.cells #[.map none] 144)) W3.heap.size #[.map none] 144:=Blk.new W3 _ _;have k4:=zg3 W3 (.cells #[.map none] 144);generalize W3.alloc (.cells #[.map none] 144)=W4 at bm0 k4;have bm1:=bm0.set 0 (.map (some W2.heap.size));have ho5:=zg5 W4 W3.heap.size 0 (.map (some W2.heap.size));have e1:((na W3:Addr).add 0)=⟨W3.heap.size,0,none⟩:=by rw[gK]
 rw[e1];refine⟨bm0.ok (by simp),bZ ?_⟩;generalize W4.setCell ⟨W3.heap.size,0,none⟩ (.map (some W2.heap.size))=W5 at bm1 ho5;have f4:From w.heap.size w W4:=Kept.mod (S:=λk=>w.heap.size<=k) (zg1 (zg1 (zg1 k1 k2) k3) k4);have f5:From w.heap.size w W5:=f4.then ho5 (λk _ hk=>by have hk':k+1=W3.heap.size+1:=hk;omega);have ne5:∀ {b:Nat},b<W3.heap.size->¬ (b+1=W3.heap.size+1):=λh=>by omega
 have hla:=ha.len;refine⟨n0+1,Xp (wB:=w) (l:=l) (vals:=vals) hn1 hn0 hl ha hFV hvs hF (zb4 _) (by omega) (by omega) (λu b o a' n' c' h1 h2 h3=>⟨b,o,a',n',c',rfl,h1,h2,h3⟩) n0 0 W5 [] (by omega) ?_ rfl rfl (λ_ h=>by cases h) (λ_ h=>by cases h) f5 ?_ ?_ bm1⟩
 .have h:=hM0.kept k4;exact⟨h.map.mod ho5 (ne5 (by omega)),h.mB,(λ_ h=>by cases h),(λ_ h=>by cases h),List.nodup_nil⟩
 .exact(((bv0.keep k2).keep k3).keep k4).mod ho5 (ne5 (by omega))
 .exact((br0.keep k3).keep k4).mod ho5 (ne5 (by omega))
end
structure KC where
 (tree frm to feature:Int)
 deriving DecidableEq
def Ah(x:KC):Value:=Lj x.tree x.frm x.to x.feature
theorem a0p : (prog).fieldsOf 111 = #[⟨"tree", 3, 0, false, "", "thicket/blocks", 0⟩, ⟨"from", 3, 1, false, "", "thicket/blocks", 8⟩, ⟨"to", 3, 2, false, "", "thicket/blocks", 16⟩, ⟨"feature", 3, 3, false, "", "thicket/blocks", 24⟩] := by kernel_rfl
theorem ZX:(prog).underlying 111=some (.struct ((prog).fieldsOf 111)):=by kernel_rfl
theorem a1c:(prog).stoodInHeld 111=false:=by kernel_rfl
theorem a0F:(prog).underlying 3=some (.int .i64):=by kernel_rfl
theorem XH:(prog).plainKey 3=true:=by kernel_rfl
theorem VG:Rj prog 111 Ah:=by
 refine NI (by rw[ZX]) (λx y h=>?_) (λe x w=>?_) (λx y w=>?_) λx=>?_
 .unfold Ah at h
  cases x;cases y;cases h;rfl
 .have pt:∀(i:Nat) (v:Value) (w:World),#[Value.int .i64 x.tree,.int .i64 x.frm,.int .i64 x.to,.int .i64 x.feature][i]?=some v->(part 3 #[Value.int .i64 x.tree,.int .i64 x.frm,.int .i64 x.to,.int .i64 x.feature] i).run prog w = .ok v w:=λi v w h=>run_part_plain w XH h;have ck:∀(z:Int) (w:World) (n:Nat),(Instr.checkKey e (n+1) 3 (.int .i64 z)).run prog w = .ok () w:=λz w n=>by simp[Instr.checkKey,run_underlying a0F]
  show(Instr.checkKey e (9999+1) _ (.agg #[Value.int .i64 x.tree,.int .i64 x.frm,.int .i64 x.to,.int .i64 x.feature])).run prog w=_;unfold Instr.checkKey;simp only[Sem.run_bind,run_underlying ZX,Result.andThen_ok,a0p];rw[<- Array.forIn_toList];simp only[List.forIn_cons,List.forIn_nil,ne_eq,String.reduceEq,not_false_eq_true,if_true,Sem.run_bind,Sem.run_pure,Result.andThen_ok,pt 0 (.int .i64 x.tree) _ rfl,pt 1 (.int .i64 x.frm) _ rfl,pt 2 (.int .i64 x.to) _ rfl,pt 3 (.int .i64 x.feature) _ rfl,ck _ _ 9998]
 .have pt:∀(z:KC) (i:Nat) (v:Value) (w:World),#[Value.int .i64 z.tree,.int .i64 z.frm,.int .i64 z.to,.int .i64 z.feature][i]?=some v->(part 3 #[Value.int .i64 z.tree,.int .i64 z.frm,.int .i64 z.to,.int .i64 z.feature] i).run prog w = .ok v w:=λz i v w h=>run_part_plain w XH h;have eq:∀(a b:Int) (w:World) (n:Nat),(Op.equalIn (n+1) 3 (.int .i64 a) (.int .i64 b)).run prog w = .ok (a==b) w:=λa b w n=>run_equalIn_int w n _ .i64 .i64 a b a0F;unfold Ah;show(Op.equalIn (9999+1) _ (.agg _) (.agg _)).run prog w=_;rw[run_equalIn_struct w 9999 _ _ _ ZX a1c,a0p];simp only[Op.eqFields,ne_eq,String.reduceEq,not_false_eq_true,if_true,Sem.run_bind,Sem.run_ite,Sem.run_pure,pt x 0 (.int .i64 x.tree) _ rfl,pt x 1 (.int .i64 x.frm) _ rfl,pt x 2 (.int .i64 x.to) _ rfl,pt x 3 (.int .i64 x.feature) _ rfl,pt y 0 (.int .i64 y.tree) _ rfl,pt y 1 (.int .i64 y.frm) _ rfl,pt y 2 (.int .i64 y.to) _ rfl,pt y 3 (.int .i64 y.feature) _ rfl,Result.andThen_ok,eq _ _ _ 9998];obtain⟨a1,a2,a3,a4⟩:=x;obtain⟨b1,b2,b3,b4⟩:=y
  by_cases h1:a1=b1
  .by_cases h2:a2=b2
   .by_cases h3:a3=b3
    .by_cases h4:a4=b4
     .simp[h1,h2,h3,h4]
     .simp[h1,h2,h3,h4]
    .simp[h1,h2,h3]
   .simp[h1,h2]
  .simp[h1]
 .show Instr.sameBits (9999+1) (.agg #[Value.int .i64 x.tree,.int .i64 x.frm,.int .i64 x.to,.int .i64 x.feature]) (.agg _)=true;simp[Instr.sameBits]
def uO(f:Int)(c:cZ):KC:=⟨c.tree,c.frm,c.to,f⟩
def Cnt(f:Int)(l:List cZ)(L:List (KC×Value)):Prop:=∀k,(nI L k).getD (.int .i64 0) = .int .i64 (l.countP (λc=>decide (uO f c=k)):Nat)
section
variable{w w0 u wB:World}{a:OA}{c:Nat}{F S:Nat->Prop}{p:Addr}{mb:Nat}{L:List (KC×Value)}{f:Int}{l:List cZ}{R:VP}
theorem t120:(prog).underlying 109=some (.map 111 3):=by kernel_rfl
theorem zI(w:World):(zeroValue 3).run prog w = .ok (.int .i64 0) w:=by kernel_rfl
theorem Cnt.nil(f:Int):Cnt f [] []:=λk=>rfl
theorem Cnt.touch(h:Cnt f l L)(k:KC):Cnt f l (rP L k ((nI L k).getD (.int .i64 0))):=λy=>by
 rw[DR]
 split
 .rename_i e;subst e;exact h y
 .exact h y
theorem Cnt.add(h:Cnt f l L)(c:cZ):Cnt f (l++[c]) (rP L (uO f c) (.int .i64 ((l.countP (λx=>decide (uO f x=uO f c))+1:Nat):Int))):=λy=>by
 rw[DR,List.countP_append]
 split
 .rename_i e;subst e;simp
 .rename_i e;rw[h y];simp[Ne.symm e]
theorem Yh{en:KC->Value}(h:ji en w mb L)(ho:Only (mb+1) w u):CK w u:=by
 intro ad v hc
 by_cases hb:ad.block=mb
 .exfalso;obtain⟨es,c,h1,_⟩:=h;unfold World.cell? at hc;rw[hb,h1]at hc;cases hc
 .exact ho.cell (λhk=>hb (by have hk':ad.block+1=mb+1:=hk;omega)) hc
theorem Rw{b16:aF.T16}{p1 a4 a41 a49:OA}{n4 c4 n41 c41 n49 c49 kL:Nat}{x42 x43:Int}{ls:dL}{s1 s2 s3:SH}(hls:Ls tC F wB a49 n49 c49 l)(hF:∀b,F b->b<wB.heap.size)(hsm:l.length<=1073741824)(hB:wB.heap.size<=w0.heap.size)(hmb:wB.heap.size<=mb)(hb0:From wB.heap.size wB w0)
  (hnb:kL≠mb) (hbox:Blk w0 kL (enL ls s1 s2 s3).toArray 74)
  (hk:∀u L,Cnt ls.feature l L->ji Ah u mb L->Mod (λk=>k=mb\/w0.heap.size<=k) w0 u ->
   aV (some (⟨kL,0,none⟩:Addr)) λq122=>
   cL u (q122.add 1) λa123' n123' c123' =>
   aV (some (⟨kL,0,none⟩:Addr)) λq124=>
   cL u (q124.add 2) λa125' n125' c125' =>
   nw (u.alloc (.cells #[.slice a123' n123' c123',.slice a125' n125' c125'] 72)) λw126=>
   aF.e49 R b16 p1 a4 n4 c4 (some ⟨kL,0,none⟩) (some mb) a41 n41 c41 x42 x43 (some (na u)) 2 2 2 0 w126) :
  ∀(k i:Nat) (w:World) (L:List (KC×Value)),i+k=n49->Cnt ls.feature (l.take i) L->ji Ah w mb L->Mod (λk=>k=mb\/w0.heap.size<=k) w0 w ->
   aF.l33 R b16 (k+1) p1 a4 n4 c4 (some ⟨kL,0,none⟩) (some mb) a41 n41 c41 x42 x43 a49 n49 c49 n49 i w:=by
 intro k;have hll:=hls.len
 induction k with
 |zero=>
  intro i w L hi hC hM hm;obtain rfl:i=n49:=by omega
  rw[zb1 (by omega)]at hC;unfold aF.l33 aF.g33;exact aA (by omega) (hk w L hC hM hm)
 |succ k ih=>
  intro i w L hi hC hM hm;unfold aF.l33 aF.g33;refine aH (by omega) ?_;have hfw:From wB.heap.size wB w:=hb0.trans hm (λ_ _ h=>h) (λk _ h=>by rcases h with rfl | h;exact hmb;show wB.heap.size<=k;omega);obtain⟨p,x,cs,rfl,hx,hFp,⟨s,e,hcB⟩,hA0⟩:=hls.elem (i:=i) (by omega);subst e;have hA:=hA0.mod (S:=λk=>wB.heap.size<=k) hfw (by rw[add_block];have:=hF _ hFp;omega);obtain⟨hxl,hxe⟩:=za1.1 hx;have htk:l.take (i+1)=l.take i++[x]:=by rw[List.take_add_one,hx];rfl
  refine dK ⟨by omega,by omega⟩ (AtL.ldC hA ?_);refine boxS (zs:=(oG 0 none 0 0 0 0 0).toList) (vs:=enC x s) rfl λw96 hAu hbu hku=>?_;have hM96:=hM.kept hku;have hm96:Mod (λk=>k=mb\/w0.heap.size<=k) w0 w96:=hm.trans (Kept.mod (S:=λ_=>False) hku) (λ_ _ h=>h) (λ_ _ h=>h.elim);have hbox96:Blk w96 kL (enL ls s1 s2 s3).toArray 74:=hbox.mod hm96 (λh=>by rcases h with h | h;exact hnb h;have:=hbox.lt;omega);have hk0:nI L (uO ls.feature x)=nI L (uO ls.feature x):=rfl;obtain⟨key,hkey⟩:∃key,key=uO ls.feature x:=⟨_,rfl⟩;obtain⟨L',hL'⟩:∃L',L'=rP L key ((nI L key).getD (.int .i64 0)):=⟨_,rfl⟩;have hC':Cnt ls.feature (l.take i) L':=by rw[hL'];exact hC.touch key
  obtain⟨cn,hcn⟩:∃cn:Nat,cn=(l.take i).countP (λc=>decide (uO ls.feature c=key)):=⟨_,rfl⟩;have hcl:cn<=i:=by
   rw[hcn];refine zb5 List.countP_le_length ?_;rw[zb6];omega
  have hL'':rP L' key ((nI L' key).getD (.int .i64 0))=L':=by
   have hh:nI L' key=some ((nI L key).getD (.int .i64 0)):=by rw[hL',DR,if_pos rfl]
   exact Fj (by rw[hh];rfl)
  refine⟨w96,λu=>Only (mb+1) w96 u/\(ji Ah u mb L\/ji Ah u mb L'),λu u'=>Only (mb+1) u u'/\((ji Ah u mb L\/ji Ah u mb L')->(ji Ah u' mb L\/ji Ah u' mb L'))/\(∀s,G8 Ah u mb L' key s->G8 Ah u' mb L' key s),
   λi v u=>match i with
    |10=>v = .int .i64 cn
    |12=>∃v0 s,v = .tuple #[v0,.int .i64 s]/\G8 Ah u mb L' key s
    |_=>True,⟨λu hu=>Yh hM96 hu.1,⟨Mod.refl _,.inl hM96⟩,λu d=>?_,λu u' u'' h k=>⟨h.1.trans k.1 zg7 zg7,λx=>k.2.1 (h.2.1 x),λs x=>k.2.2 s (h.2.2 s x)⟩,λu u' hu h=>⟨hu.1.trans h.1 zg7 zg7,h.2.1 hu.2⟩,λi v u u' hu h k=>?_⟩,?_⟩
  .have hk:=(oV (Below.refl u.heap.size u):Below u.heap.size u (dr u d));exact⟨Kept.mod hk,λh=>by rcases h with h | h;exact .inl (h.kept hk);exact .inr (h.kept hk),λs h=>h.mod (S:=λ_=>False) (Kept.mod hk) (λh=>h)⟩
  .revert h
   show(match i with
    |10=>v = .int .i64 cn
    |12=>∃v0 s,v = .tuple #[v0,.int .i64 s]/\G8 Ah u mb L' key s
    |_=>True)->(match i with
    |10=>v = .int .i64 cn
    |12=>∃v0 s,v = .tuple #[v0,.int .i64 s]/\G8 Ah u' mb L' key s
    |_=>True)
   intro h;split at h
   .exact h
   .obtain⟨v0,s,e1,e2⟩:=h;exact⟨v0,s,e1,k.2.2 s e2⟩
   .trivial
  .refine⟨_,hAu 2 _ rfl,_,hAu 3 _ rfl,_,hAu 4 _ rfl,?_⟩;refine⟨_,by rw[addr_add,hbox96.cell];rfl,λu hu=>?_,?_⟩
   .show dC prog (Instr.lookup 109 (.map (some mb)) (Ah (uO ls.feature x)) false) u _;rw[<- hkey]
    rcases hu.2 with hMu | hMu
    .refine ji.lookup VG t120 zI hMu ⟨cn,by rw[hC key,hcn],rfl,Mod.refl _,λh=>h,λs h=>h⟩
    .refine ji.lookup VG t120 zI hMu ⟨cn,by rw[hC' key,hcn],rfl,Mod.refl _,λh=>h,λs h=>h⟩
   .rintro x10 ⟨_,_,h10⟩;have h10':Value.int .i64 x10 = .int .i64 cn:=h10
    cases h10'
    refine aC (by omega) ⟨λu hu=>?_,λv0 s _ u hu _ h12=>?_⟩
    .show dC prog (Instr.mapEntry 109 (.map (some mb)) (Ah (uO ls.feature x))) u _;rw[<- hkey]
     rcases hu.2 with hMu | hMu
     .refine ji.U7 VG t120 zI hMu λu' s hS ho hh=>⟨_,s,rfl,⟨_,s,rfl,by rw[hL'];exact hS⟩,ho,λ_ => .inr (by rw[hL'];exact hS.map),λs' h'=>?_⟩;obtain rfl:=ji.uniq (λa b h=>VG.inj a b h) hMu h'.map;rw[hL'']at hh;exact hh s' h'
     .refine ji.U7 VG t120 zI hMu λu' s hS ho hh=>?_;rw[hL'']at hS hh;exact⟨_,s,rfl,⟨_,s,rfl,hS⟩,ho,λ_ => .inr hS.map,hh⟩
    .obtain⟨v1,s1',e1,hS⟩:=h12;cases e1;refine G8.store VG hS λu' hMu' ho'=>?_;refine aC (by omega) (ih (i+1) u' _ (by omega) ?_ hMu' ?_)
     .rw[htk,hkey,hcn,hkey]at *;exact hC'.add x
     .exact(hm96.trans hu.1 (λ_ _ h=>h) (λk _ h => .inl (by have h':k+1=mb+1:=h;omega))).trans ho' (λ_ _ h=>h) (λk _ h => .inl (by have h':k+1=mb+1:=h;omega))
end
abbrev tSA:Nat:=113
def Nd(w:World)(k:Nat):Prop:=∃cur e,Blk w k cur e/\(e=tA'\/e=tSA)
def Fr(B:Nat)(w u:World):Prop:=Mod (λk=>B<=k/\Nd w k) w u
section
variable{w u x:World}{a a4:OA}{n c n4 c4 g:Nat}{S:Nat->Prop}{p q:Addr}{B mb:Nat}{L:List (KC×Value)}{rows:List RA}
theorem Fr.refl(B:Nat)(w:World):Fr B w w:=Mod.refl _
theorem Fr.of(h:Kept w u):Fr B w u:=Kept.mod h
theorem Fr.from(h:Fr B w u):From B w u:=h.weak λk _ hk=>hk.1
theorem Fr.blk{b:Nat}{cs:Array Value}{e:Nat}(h:Fr B w u)(hb:Blk w b cs e)(h1:e≠tA')(h2:e≠tSA):Blk u b cs e:=hb.mod h λhk=>by
 obtain⟨_,cur,e',hb',he⟩:=hk;have:=hb.ne hb'
 rcases he with rfl | rfl
 .exact h1 this
 .exact h2 this
theorem Fr.map{κ:Type}[DecidableEq κ]{en:κ->Value}{L:List (κ×Value)}(h:Fr B w u)(hm:ji en w mb L):ji en u mb L:=hm.mod h λhk=>by
 obtain⟨_,cur,e',hb',_⟩:=hk;exact hm.lJ hb'
theorem Fr.trans(h:Fr B w u)(k:Fr B u x):Fr B w x:=zg2 h k (λ_ _ h=>h) λb hb hk=>by
 obtain⟨h1,cur,e,h2,h3⟩:=hk;refine ze4 λhn=>hn ⟨h1,cur,e,?_,h3⟩;have:=h.block b hb hn;unfold Blk at h2 ⊢;rw[<- this];exact h2
theorem Fr.only(hg:∀k,k+1=g->B<=k/\Nd w k)(h:Only g w u):Fr B w u:=h.weak λk _ hk=>hg k hk
abbrev UE(B:Nat)(w:World):Nat->Prop:=λb=>B<=b/\∃cur,Blk w b cur tI'
theorem Fr.aT{xs:List Int}(h:Fr B w u)(hc:LsI (UE B w) w a n c xs):LsI (UE B u) u a n c xs :=
 (hc.mod h λb hb hk=>by
  obtain⟨_,cur,hb⟩:=hb;obtain⟨_,cur',e',hb',he⟩:=hk;have:=hb.ne hb'
  rcases he with rfl | rfl
  .exact absurd this (by decide)
  .exact absurd this (by decide)).mono λb ⟨h1,cur,h2⟩=>⟨h1,cur,h.blk h2 (by decide) (by decide)⟩
structure lQ(B:Nat)(w:World)(a:OA)(n c g:Nat)(rows:List RA):Prop where
 own:G9 10 jG tSA tA' B w a n c rows g
 ct:∀r∈rows,∀x∈r.2.1,LsI (UE B w) w x.2.a x.2.n x.2.c x.1.nd.aT
theorem lQ.kept(h:lQ B w a n c g rows)(hk:Kept w u):lQ B u a n c g rows:=⟨h.own.kept hk,λr hr x hx=>(Fr.of hk).aT (h.ct r hr x hx)⟩
theorem lQ.row(h:lQ B w a n c g rows){r:RA}(hr:r∈rows){k:Nat}(hk:k+1=r.2.2):B<=k/\Nd w k:=by
 obtain⟨cur,hb⟩:=Row.blk (h.own.row r hr).1 hk;exact⟨by have:=(h.own.row r hr).2;omega,cur,tA',hb,.inl rfl⟩
theorem lQ.outer(h:lQ B w a n c g rows){k:Nat}(hk:k+1=g):B<=k/\Nd w k:=by
 obtain⟨cur,hb⟩:=Row.blk h.own.out hk;exact⟨by have:=h.own.fr;omega,cur,tSA,hb,.inr rfl⟩
def YE(a4:OA)(n4:Nat)(pb q147:Addr)(K:zg6)(u157:World):Prop :=
 ∃wm175:World,CK wm175 u157 /\
  (cI wm175 (pb.add 2) .i64 λx176' =>
  cI wm175 (pb.add 2) .i64 λx177' =>
  ix a4 n4 x177' λq178=>
  cL wm175 (q178.add (x177'.toNat*1)) λa179' n179' c179' =>
  oh wm175 q147 λx180'0 x180'1 x180'2 z180'3 a180'4 n180'4 c180'4 x180'5 x180'6 x180'7=>
  cI wm175 (pb.add 3) .i64 λx181' =>
  cI wm175 (pb.add 4) .i64 λx182' =>
  nw (u157.alloc (.cells (mJ x180'0 x180'1 x180'2 z180'3 a180'4 n180'4 c180'4 x180'5 x180'6 x180'7 x181' x182') 115)) λw183=>
  CK wm175 w183 /\
   (dC prog (Builtin.append_ #[113,113] 113 #[.slice a179' n179' c179',.slice (some (na u157)) 1 1]) w183 λv184 u185=>
    ∃a186' n186' c186',v184 = .slice a186' n186' c186' /\
     (CK wm175 u185 /\
      (ix a4 n4 x176' λq187=>
      st u185 ((q187.add (x176'.toNat*1)).add 0) (.slice a186' n186' c186') K))))
theorem U4{K:zg6}{nd:ND}{s sc:SH}{ct:cZ}{t:Nat}(hW:lQ B w a4 n4 c4 g rows)(hB:B<=w.heap.size)(ht:t<rows.length)(htt:ct.tree=t)(hlen:∀r∈rows,r.2.1.length<=549755813888)(hp:AtL w p (enC ct sc))(hpb:¬ Nd w p.block)(hq:AtL w q (enH (nd,s)))(hqb:¬ Nd w q.block)(hcs:LsI (UE B w) w s.a s.n s.c nd.aT)
  (hk:∀u r r',rows[t]?=some r->r'.2.1=r.2.1++[(⟨nd,ct.frm,ct.to⟩,s)]->lQ B u a4 n4 c4 g (rows.set t r')->Fr B w u->K u):YE a4 n4 p q K w:=by
 obtain⟨r,hr⟩:∃r,rows[t]?=some r:=⟨_,za2 ht⟩;have hrm:=za0 hr;obtain⟨hrow,hrB⟩:=hW.own.row r hrm;have hn4:=hW.own.len;have hle:=Row.le hrow;have hn:=aK.len oZ (by omega) hrow;have hrl:=hlen r hrm;have rd:∀ {y:Addr} {v:Value},y.block+1≠r.2.2->w.cell? y=some v->(uG r.1.a w).cell? y=some v:=λh1 h2=>Ag hrow h1 h2;have hpr:p.block+1≠r.2.2:=λh=>hpb (hW.row hrm h).2;have hqr:q.block+1≠r.2.2:=λh=>hqb (hW.row hrm h).2;have hpc:AtL (uG r.1.a w) p (enC ct sc):=λj v hj=>rd (by rw[add_block];exact hpr) (hp j v hj);have hqc:AtL (uG r.1.a w) q (enH (nd,s)):=λj v hj=>rd (by rw[add_block];exact hqr) (hq j v hj);have hgr:=hW.own.rne (by decide) hrm;have hsl:=hW.own.out.sl;obtain⟨p4,hp4,hc4⟩:=hsl.get t r hr;have hgp:p4.block+1=g:=by
  rcases hW.own.out.2 with ⟨_,h2,_⟩ | ⟨b,cur,h1,h2,_⟩
  .rw[hp4]at h2;cases h2
  .rw[hp4]at h2;cases h2;exact h1.symm
 unfold YE;refine⟨uG r.1.a w,pU hrow (Mod.refl _),_,hpc 2 _ rfl,_,hpc 2 _ rfl,?_⟩;rw[htt];subst hp4;refine dK ⟨by omega,by omega⟩ ⟨r.1.a,r.1.n,r.1.c,?_,?_⟩
 .rw[za3,Nat.mul_one];exact rd (by rw[add_block];omega) hc4
 refine⟨_,hqc 0 _ rfl,_,hqc 1 _ rfl,_,hqc 2 _ rfl,_,hqc 3 _ rfl,_,_,_,hqc 4 _ rfl,_,hqc 5 _ rfl,_,hqc 6 _ rfl,_,hqc 7 _ rfl,_,hpc 3 _ rfl,_,hpc 4 _ rfl,?_⟩;have hkn:=zg3 w (.cells (jG (⟨nd,ct.frm,ct.to⟩,s)).toArray 115);have hAn:=AtL.new w (jG (⟨nd,ct.frm,ct.to⟩,s)) tA';show nw (w.alloc (.cells (jG (⟨nd,ct.frm,ct.to⟩,s)).toArray 115)) _;refine bZ ?_;generalize w.alloc (.cells (jG (⟨nd,ct.frm,ct.to⟩,s)).toArray 115)=w2 at hkn hAn;have hz2:=hkn.size;have hcA:CK (uG r.1.a w) w2:=pU hrow (Kept.mod hkn);refine⟨hcA,?_⟩;have hrow2:=hrow.kept hkn;refine FW a07 (by omega) hrow2 (news:=jG (⟨nd,ct.frm,ct.to⟩,s)) (m:=1) rfl (λj v hj=>⟨_,rfl,hAn j v hj⟩) (λh=>by cases h) (CE _) (by simp only[maxLen];omega) (by omega) λa' c' g' u2 hrow3 hg' ho=>⟨_,_,_,rfl,?_,?_⟩
 .exact pU hrow ((Kept.mod (S:=λk=>k+1=r.2.2) hkn).trans ho zg7 zg7)
 have hm1:Only r.2.2 w u2:=(Kept.mod (S:=λk=>k+1=r.2.2) hkn).trans ho zg7 zg7;refine hW.own.putRow (by decide) (j:=(t:Int)) (t:=r) (t':=(⟨a',r.1.n+1,c'⟩,r.2.1++[(⟨nd,ct.frm,ct.to⟩,s)],g')) (by rw[za3];exact hr) hm1 ?_ ?_ hB (by omega) (by omega) λx hx hox=>?_
 .show aK 10 jG tA' u2 a' (r.1.n+1) c' (r.2.1++[(⟨nd,ct.frm,ct.to⟩,s)]) g';unfold aK;rw[List.flatMap_append];simpa using hrow3
 .rcases hg' with h | h
  .exact .inl h.1
  .exact .inr (by show w.heap.size<g';omega)
 .rw[za3]at hx;have f1:Fr B w u2:=Fr.only (λk hk=>hW.row hrm hk) hm1;have f2:Fr B u2 x:=Fr.only (λk hk=>by
   obtain⟨h1,_⟩:=hW.outer hk;obtain⟨cur',h4⟩:=Row.blk hW.own.out hk;exact⟨h1,cur',tSA,h4.mod hm1 (λhS=>by have hS':k+1=r.2.2:=hS;omega),.inr rfl⟩) hox
  have f3:=f1.trans f2;refine hk x r _ hr rfl ⟨hx,λy hy z hz=>?_⟩ f3
  rcases mem_set hy with rfl | ⟨j,_,hj⟩
  .rcases zb2.1 hz with hz | hz
   .exact f3.aT (hW.ct r hrm z hz)
   .obtain rfl:z=(⟨nd,ct.frm,ct.to⟩,s):=by simpa using hz
    exact f3.aT hcs
  .exact f3.aT (hW.ct y (za0 hj) z hz)
end
end Go.Mir
