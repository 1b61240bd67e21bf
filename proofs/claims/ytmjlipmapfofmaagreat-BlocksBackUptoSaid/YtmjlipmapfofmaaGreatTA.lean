/- Part of a proof; no conditions. -/
import Derived.Test.YtmjlipmapfofmaaGreatEC
import Derived.Test.YtmjlipmapfofmaaGreatTMA
set_option linter.unusedVariables false
set_option linter.unusedSimpArgs false
set_option linter.unusedSectionVars false
open Go.Proofs.Tryz (prog)
namespace Go.Mir
open Go Go.E Go.RowKit Go.Tr
theorem fb(w:World)(f:Nat):sJ prog (callFunc 56 #[.float .f64 f]) w (.int .u64 (f:Int)):=λd=>by kernel_rfl
abbrev enI(x:Int):Value := .int .i64 x
section
variable{w:World}{x:ND}{a:Option Addr}{n c:Nat}
theorem Za(w:World)(f:Nat):Pure prog 113 #[.float .f64 f] w (.bool (iC f)):=by
 refine eH.calls (R:=λv' u=>v'=_/\Below w.heap.size w u) ?_;unfold eH eH.g0;exact⟨rfl,Below.refl _ _⟩
theorem yZ(w:World)(x:ND)(a:Option Addr)(n c:Nat):Pure prog 86 #[vN x a n c] w (.bool x.inner):=by
 refine iV.calls (R:=λv' u=>v'=_/\Below w.heap.size w u) ?_;unfold iV iV.g0;refine XU λu _ h8 hk=>⟨_,h8.c0,?_⟩;refine nN (λh=>⟨by simp[ND.inner,h],hk⟩) λh=>⟨_,h8.c0,?_,hk⟩;simp[ND.inner,h]
end
end Go.Mir
set_option maxRecDepth 100000
namespace Go.Mir
open Go Go.E Go.RowKit Go.Tr
section
end
section
variable{w:World}{x:ND}{a:Option Addr}{n c:Nat}{xs:List Int}
theorem drop_cons{α:Type}{xs:List α}{i:Nat}{y:α}(h:xs[i]?=some y):xs.drop i=y::xs.drop (i+1):=by
 obtain⟨hlt,rfl⟩:=za1.1 h;exact zb0 hlt
def prev(xs:List Int)(i:Nat):Int:=if i=0 then -1 else xs.getD (i - 1) (-1)
theorem nU{i:Nat}{y:Int}(h:xs[i]?=some y):prev xs (i+1)=y:=by
 unfold prev;rw[if_neg (by omega),za8,Nat.add_sub_cancel,h];rfl
theorem yU{R:Value->zg6}{w0:World}(hn:n=xs.length)(hm:n<=16777216)(hR:∀u,Kept w0 u->R (.bool (qP xs)) u) :
  ∀(k i:Nat) (w:World),i+k=n->Sl enI w a n xs->Kept w0 w -> -1<=prev xs i->qP xs=(!xs.isEmpty&&fM (prev xs i) (xs.drop i))->bT.l6 R (k+1) a n c a n c n i w
 |0,i,w,hi,hs,hk,hp,he=>by
  rw[bT.u6];unfold bT.g6;refine aA (by omega) ?_;rw[List.drop_eq_nil_of_le (by omega)]at he;have:=hR w hk;rw[he]at this;have e:(decide ((n:Int)>0))=(!xs.isEmpty&&fM (prev xs i) []):=by
   unfold fM
   cases xs with
   |nil=>subst hn;simp
   |cons y l=>subst hn;simp
  rw[e];exact this
 |k+1,i,w,hi,hs,hk,hp,he=>by
  rw[bT.u6];unfold bT.g6;refine aH (by omega) ?_;refine hs.rdI (k := .i64) (by omega) (by omega) λy hy=>?_;have hy':xs[i]?=some y:=by simpa using hy
  rw[drop_cons hy',show∀p l,fM p (y::l)=(decide (p<y)&&decide (y<1024)&&fM y l) from λ_ _=>rfl]at he;have no:(¬ prev xs i<y\/¬ y<1024)->R (.bool false) w:=λh=>by
   have:=hR w hk;rw[he]at this;have e:(decide (prev xs i<y)&&decide (y<1024)&&fM y (xs.drop (i+1)))=false:=by
    rcases h with h | h <;> simp[h]
   rw[e,Bool.and_false]at this;exact this
  have yes:prev xs i<y->y<1024->qP xs=(!xs.isEmpty&&fM (prev xs (i+1)) (xs.drop (i+1))):=λh1 h2=>by
   rw[he,nU hy'];simp[h1,h2]
  refine(aQ _ _ _).2 ⟨λhb=>no (.inl (by have:=of_decide_eq_true hb;omega)),λhb=>?_⟩;have h0:=of_decide_eq_false hb;refine(aQ _ _ _).2 ⟨λhb=>no (.inr (by have:=of_decide_eq_true hb;omega)),λhb=>?_⟩;have h1:=of_decide_eq_false hb;refine(aQ _ _ _).2 ⟨λhb=>?_,λhb=>?_⟩
  .have hi0:=of_decide_eq_true hb;refine bM (by omega) (by omega) ?_;have e:(((i:Int) - 1)).toNat=i - 1:=by omega
   refine hs.rdI (k := .i64) (by omega) (by omega) λz hz=>?_;have hz':prev xs i=z:=by
    unfold prev;rw[if_neg (by omega),za8];rw[e]at hz;rw[hz];rfl
   refine(aQ _ _ _).2 ⟨λhb=>no (.inl (by have:=of_decide_eq_true hb;omega)),λhb=>?_⟩;have h2:=of_decide_eq_false hb;refine aC (by omega) ?_;exact yU hn hm hR k (i+1) w (by omega) hs hk (by rw[nU hy'];omega) (yes (by omega) (by omega))
  .have hi0:=of_decide_eq_false hb;have hp0:prev xs i = -1:=by unfold prev;rw[if_pos (by omega)]
   refine aC (by omega) ?_;exact yU hn hm hR k (i+1) w (by omega) hs hk (by rw[nU hy'];omega) (yes (by omega) (by omega))
theorem Ym(hm:n<=16777216)(hs:Sl enI w a n xs):Pure prog 114 #[.slice a n c] w (.bool (qP xs)):=by
 refine bT.calls (R:=λv' u=>v'=_/\Below w.heap.size w u) ?_;unfold bT bT.g0;exact⟨n+1,yU (w0:=w) hs.len hm (λu hk=>⟨rfl,hk⟩) n 0 w (by omega) hs (Below.refl _ _) (by simp[prev]) rfl⟩
theorem PL{m:Int}(hm:n<=16777216)(hs:Sl enI w a n x.aT):Pure prog 105 #[vN x a n c,.int .i64 m] w (.bool (fD iC x m)):=by
 refine dX.calls (R:=λv' u=>v'=_/\Below w.heap.size w u) ?_;unfold dX dX.g0;refine XU λu _ h8 hk=>⟨_,h8.c0,?_⟩;have hl:x.aT.isEmpty=((n:Int)==0):=by
  rw[hs.len];cases x.aT <;> simp;omega
 have hl':x.aT.isEmpty = !decide ((n:Int)>0):=by
  rw[hs.len];cases x.aT <;> simp
 refine nN (λh1=>?_) λh1=>?_
 .have e:fD iC x m=(x.feature==0&&x.thr==0&&x.aT.isEmpty&&x.missing==0&&x.left==0&&x.right==0):=by unfold fD;rw[if_pos h1]
  rw[e,hl];have ht:(x.thr==0)=((x.thr:Int)==0):=by rw[Bool.eq_iff_iff];simp
  rw[ht];refine⟨_,h8.c2,?_⟩;refine(aQ _ _ _).2 ⟨λhf=>⟨_,h8.c3,_,fb _ _,?_⟩,λhf=>⟨by rw[hf];rfl,hk⟩⟩;rw[hf,Bool.true_and]
  repeat' (first | (refine⟨_,(h8).c0,?_⟩) | (refine⟨_,(h8).c1,?_⟩) | (refine⟨_,(h8).c2,?_⟩) | (refine⟨_,(h8).c3,?_⟩) | (refine⟨_,_,_,(h8).c4,?_⟩) | (refine⟨_,(h8).c5,?_⟩) | (refine⟨_,(h8).c6,?_⟩) | (refine⟨_,(h8).c7,?_⟩) | (refine(aQ _ _ _).2 ⟨λ_=>?_,λ_=>?_⟩))
  all_goals refine⟨congrArg _ ?_,hk⟩
  all_goals (simp_all <;> omega)
 .refine nN (λh2=>?_) λh2=>?_
  .have e:fD iC x m=(!iC x.thr&&x.aT.isEmpty&&jq x m):=by unfold fD;rw[if_neg h1,if_pos h2]
   rw[e,hl'];refine⟨_,h8.c3,?_⟩;refine zg0 (Za u x.thr) λv u2 ⟨hv,k2⟩=>⟨_,hv,?_⟩;have k2':=zg1 hk k2;have h9:=h8.kept k2;unfold jq
   repeat' (first | (refine⟨_,(h9).c0,?_⟩) | (refine⟨_,(h9).c1,?_⟩) | (refine⟨_,(h9).c2,?_⟩) | (refine⟨_,(h9).c3,?_⟩) | (refine⟨_,_,_,(h9).c4,?_⟩) | (refine⟨_,(h9).c5,?_⟩) | (refine⟨_,(h9).c6,?_⟩) | (refine⟨_,(h9).c7,?_⟩) | (refine(aQ _ _ _).2 ⟨λ_=>?_,λ_=>?_⟩))
   all_goals refine⟨congrArg _ ?_,k2'⟩
   all_goals (simp_all <;> omega)
  .refine nN (λh3=>?_) λh3=>⟨by unfold fD;rw[if_neg h1,if_neg h2,if_neg h3],hk⟩;have e:fD iC x m=(x.thr==0&&qP x.aT&&jq x m):=by unfold fD;rw[if_neg h1,if_neg h2,if_pos h3]
   have ht:(x.thr==0)=((x.thr:Int)==0):=by rw[Bool.eq_iff_iff];simp
   rw[e,ht];refine⟨_,h8.c3,_,fb _ _,?_⟩;refine ja (λh4=>⟨by rw[show((x.thr:Int)==0)=false by simpa using h4];rfl,hk⟩) λh4=>⟨_,_,_,h8.c4,?_⟩;refine zg0 (Ym hm (hs.keep hk)) λv u2 ⟨hv,k2⟩=>⟨_,hv,?_⟩;have k2':=zg1 hk k2;have h9:=h8.kept k2;rw[show((x.thr:Int)==0)=true by simp[h4],Bool.true_and];unfold jq
   repeat' (first | (refine⟨_,(h9).c0,?_⟩) | (refine⟨_,(h9).c1,?_⟩) | (refine⟨_,(h9).c2,?_⟩) | (refine⟨_,(h9).c3,?_⟩) | (refine⟨_,_,_,(h9).c4,?_⟩) | (refine⟨_,(h9).c5,?_⟩) | (refine⟨_,(h9).c6,?_⟩) | (refine⟨_,(h9).c7,?_⟩) | (refine(aQ _ _ _).2 ⟨λ_=>?_,λ_=>?_⟩))
   all_goals refine⟨congrArg _ ?_,k2'⟩
   all_goals (simp_all <;> omega)
theorem BL{R:Value->zg6}{w0:World}{b:Bool}(hn:n=xs.length)(hm:n<=16777216)(hR:∀u,Kept w0 u->R (.bool (b&&qP xs)) u) :
  ∀(k i:Nat) (w:World),i+k=n->Sl enI w a n xs->Kept w0 w->(0<i->0<=prev xs i)->qP xs=(!xs.isEmpty&&fM (prev xs i) (xs.drop i))->ed.l34 R (k+1) b (prev xs i) a n c n i w
 |0,i,w,hi,hs,hk,hp,he=>by
  rw[ed.u34];unfold ed.g34;refine aA (by omega) ?_;rw[List.drop_eq_nil_of_le (by omega)]at he;have:=hR w hk;rw[he]at this;have e:(decide (prev xs i>=0))=(!xs.isEmpty&&fM (prev xs i) []):=by
   unfold fM
   cases xs with
   |nil=>
    subst hn;obtain rfl:i=0:=by simp at hi;omega
    rfl
   |cons y l=>have:=hp (by subst hn;simp at hi;omega);simp[this]
  rw[e];refine(aQ _ _ _).2 ⟨λhb=>?_,λhb=>?_⟩
  .subst hb;rwa [Bool.true_and]at this
  .subst hb;rwa [Bool.false_and]at this
 |k+1,i,w,hi,hs,hk,hp,he=>by
  rw[ed.u34];unfold ed.g34;refine aH (by omega) ?_;refine hs.rdI (k := .i64) (by omega) (by omega) λy hy=>?_;have hy':xs[i]?=some y:=by simpa using hy
  rw[drop_cons hy',show∀p l,fM p (y::l)=(decide (p<y)&&decide (y<1024)&&fM y l) from λ_ _=>rfl]at he;have no:(¬ prev xs i<y\/¬ y<1024)->R (.bool false) w:=λh=>by
   have:=hR w hk;rw[he]at this;have e:(decide (prev xs i<y)&&decide (y<1024)&&fM y (xs.drop (i+1)))=false:=by
    rcases h with h | h <;> simp[h]
   rw[e,Bool.and_false,Bool.and_false]at this;exact this
  refine(aQ _ _ _).2 ⟨λhb=>no (.inl (by have:=of_decide_eq_true hb;omega)),λhb=>?_⟩;have h0:=of_decide_eq_false hb;refine(aQ _ _ _).2 ⟨λhb=>no (.inr (by have:=of_decide_eq_true hb;omega)),λhb=>?_⟩;have h1:=of_decide_eq_false hb;refine aC (by omega) ?_;have:=BL hn hm hR k (i+1) w (by omega) hs hk (λ_=>by
   rw[nU hy']
   by_cases h:i=0
   .have:prev xs i = -1:=by unfold prev;rw[if_pos h]
    omega
   .have:=hp (by omega);omega) (by
   rw[he,nU hy'];simp only[Bool.and_assoc,decide_eq_true (show prev xs i<y by omega),decide_eq_true (show y<1024 by omega),Bool.true_and])
  rwa [nU hy']at this
theorem V8{m:Int}(hm:n<=16777216)(hs:Sl enI w a n x.aT):Pure prog 99 #[vN x a n c,.int .i64 m] w (.bool (fD iC x m)):=by
 refine ed.calls (R:=λv' u=>v'=_/\Below w.heap.size w u) ?_;unfold ed ed.g0;refine XU λu _ h8 hk=>⟨_,h8.c3,_,fb _ _,_,h8.c0,?_⟩;have hl:x.aT.isEmpty=((n:Int)==0):=by
  rw[hs.len];cases x.aT <;> simp;omega
 have ht:(x.thr==0)=((x.thr:Int)==0):=by rw[Bool.eq_iff_iff];simp
 refine nN (λh1=>?_) λh1=>?_
 .have e:fD iC x m=(x.feature==0&&x.thr==0&&x.aT.isEmpty&&x.missing==0&&x.left==0&&x.right==0):=by unfold fD;rw[if_pos h1]
  rw[e,hl,ht]
  repeat' (first | (refine⟨_,(h8).c0,?_⟩) | (refine⟨_,(h8).c1,?_⟩) | (refine⟨_,(h8).c2,?_⟩) | (refine⟨_,(h8).c3,?_⟩) | (refine⟨_,_,_,(h8).c4,?_⟩) | (refine⟨_,(h8).c5,?_⟩) | (refine⟨_,(h8).c6,?_⟩) | (refine⟨_,(h8).c7,?_⟩) | (refine(aQ _ _ _).2 ⟨λ_=>?_,λ_=>?_⟩))
  all_goals refine⟨congrArg _ ?_,hk⟩
  all_goals (simp_all <;> omega)
 .refine h8.ld ?_;refine zg0 (yZ u x a n c) λv u2 ⟨hv,k2⟩=>⟨_,hv,?_⟩;have k2':=zg1 hk k2;have h9:=h8.kept k2;have e2:x.kind=2->fD iC x m=(!iC x.thr&&x.aT.isEmpty&&jq x m):=λh2=>by unfold fD;rw[if_neg h1,if_pos h2]
  have e3:x.kind=3->fD iC x m=(x.thr==0&&qP x.aT&&jq x m):=λh3=>by unfold fD;rw[if_neg h1,if_neg (by omega),if_pos h3]
  refine(aQ _ _ _).2 ⟨λhb=>?_,λhb=>?_⟩
  .refine⟨congrArg _ ?_,k2'⟩;have hb':x.inner=false:=by simpa using hb
   unfold ND.inner at hb';simp at hb';unfold fD;rw[if_neg h1,if_neg hb'.1,if_neg hb'.2]
  .have hb':x.inner=true:=by simpa using hb
   have no:jq x m=false->fD iC x m=false:=λh=>by
    unfold ND.inner at hb';simp at hb'
    rcases hb' with h2 | h3
    .rw[e2 h2,h,Bool.and_false]
    .rw[e3 h3,h,Bool.and_false]
   have yes:jq x m=true->af (x.kind==2)
     (∃y:Nat,u2.cell? ((na w).add 3)=some (.float .f64 y)/\(∃z:Nat,u2.cell? ((na w).add 3)=some (.float .f64 z)/\af (FloatKind.f64.format.order y z==some .eq)
      (∃ya:Option Addr,∃yn:Nat,∃yc:Nat,u2.cell? ((na w).add 4)=some (.slice ya yn yc)/\(λv' u=>v'=Value.bool (fD iC x m)/\Below w.heap.size w u) (.bool ((yn:Int)==0)) u2)
      ((λv' u=>v'=Value.bool (fD iC x m)/\Below w.heap.size w u) (.bool false) u2)))
     (∃ya:Option Addr,∃yn:Nat,∃yc:Nat,u2.cell? ((na w).add 4)=some (.slice ya yn yc)/\ed.e34 (λv' u=>v'=Value.bool (fD iC x m)/\Below w.heap.size w u) ((x.thr:Int)==0) (-1) ya yn yc (yn:Int) 0 u2):=by
    intro hi;refine nN (λh2=>⟨_,h9.c3,_,h9.c3,(aQ _ _ _).2 ⟨λhq=>⟨_,_,_,h9.c4,?_,k2'⟩,λhq=>⟨?_,k2'⟩⟩⟩) λh2=>⟨_,_,_,h9.c4,?_⟩
    .rw[e2 h2,hi,<- hl];have:iC x.thr=false:=by unfold iC;simpa using hq
     rw[this];simp
    .rw[e2 h2];have:iC x.thr=true:=by unfold iC;simpa using hq
     rw[this];simp
    .have h3:x.kind=3:=by unfold ND.inner at hb';simp at hb';omega
     rw[e3 h3,hi,Bool.and_true,ht];have:=BL (R:=λv' u=>v'=Value.bool (((x.thr:Int)==0)&&qP x.aT)/\Below w.heap.size w u) (w0:=w) (b:=((x.thr:Int)==0)) (c:=c) hs.len hm (λu hk=>⟨rfl,hk⟩) n 0 u2 (by omega) (hs.keep k2') k2' (λh=>by omega) (by simp[prev,qP]);exact⟨n+1,this⟩
   unfold jq at no yes
   repeat' (first | (refine⟨_,h9.c1,?_⟩) | (refine⟨_,h9.c2,?_⟩) | (refine⟨_,h9.c5,?_⟩) | (refine⟨_,h9.c6,?_⟩) | (refine⟨_,h9.c7,?_⟩) | (refine⟨congrArg _ (no ?_).symm,k2'⟩) | (refine⟨_,h9.c0,yes ?_⟩) | (refine(aQ _ _ _).2 ⟨λ_=>?_,λ_=>?_⟩))
   all_goals (clear no yes;simp_all <;> omega)
end
theorem dE{a:Addr}{K:Addr->Prop}(h:K a):aV (some a) K:=h
theorem S_I:fV prog 53 3 1 8:=sliceT (by kernel_rfl)
abbrev enB(b:Bool):Value := .bool b
section
variable{w1:World}{p:Addr}{o:Int}{a:Option Addr}{n c:Nat}{F:Nat->Prop}{nodes:List ND}
def ve(nodes:List ND)(i:Nat)(_:ND):Bool:=cnt nodes i==min i 1&&(reached nodes).getD i false
theorem Jc{R:Value->zg6}{w:World}{a4 a7:Option Addr}{c4 c7 g4 g7:Nat}(hn:n=nodes.length)(hm:n<=1048576)(h4:Arr enI 3 w a4 n c4 (AP nodes n) g4)(h7:Arr enB 4 w a7 n c7 (reached nodes) g7)
  (hbad:∀i,dS (ve nodes) 0 nodes=some i->R (.tuple #[.int .i64 70,.int .i64 i]) w) (hok:dS (ve nodes) 0 nodes=none->R (.tuple #[.int .i64 0,.int .i64 0]) w) :
  ∀(k i:Nat),i+k=n->dS (ve nodes) 0 nodes=dS (ve nodes) i (nodes.drop i)->bU.l80 R (k+1) a4 n c4 a7 n c7 n i w
 |0,i,hi,he=>by
  rw[bU.u80];unfold bU.g80;refine aA (by omega) ?_;rw[List.drop_eq_nil_of_le (by omega)]at he;exact hok he
 |k+1,i,hi,he=>by
  rw[bU.u80];unfold bU.g80;refine aH (by omega) ?_;have hx:nodes[i]?=some (nodes[i]'(by omega)):=za2 _;rw[drop_cons hx,jL]at he;have hr:(reached nodes)[i]?=some ((reached nodes)[i]'(by rw[kK];omega)):=za2 _;obtain⟨b,hb⟩:∃b,(reached nodes)[i]'(by rw[kK];omega)=b:=⟨_,rfl⟩;rw[hb]at hr;have hlp:ve nodes i (nodes[i]'(by omega))=(cnt nodes i==min i 1&&b):=by unfold ve;rw[za8,hr];rfl
  rw[hlp]at he;refine nH rfl ?_;refine h4.sl.rdI (k := .i64) (by omega) (by omega) λy hy=>?_;obtain rfl:y=(cnt nodes i:Int):=by
   rw[ni nodes (by omega)]at hy;simpa using hy.symm
  have hmin:(if 1<(i:Int) then(1:Int) else(i:Int))=(min i 1:Nat):=by split <;> omega
  rw[hmin];refine ja (λhne=>hbad i ?_) λheq=>?_
  .rw[he,if_neg];simp;intro h;omega
  .refine h7.sl.rd (f:=λb => .bool b) (sel:=λb=>b) (λ_=>rfl) (by omega) (by omega) λy hy=>?_;have hy':y=b:=by simpa[hr] using hy.symm
   subst hy';have hc:(cnt nodes i==min i 1)=true:=by simp;omega
   rw[hc,Bool.true_and]at he;refine(aQ _ _ _).2 ⟨λhb=>hbad i ?_,λhb=>?_⟩
   .have:y=false:=by simpa using hb
    rw[he,this];rfl
   .have:y=true:=by simpa using hb
    rw[this,if_pos rfl]at he;refine aC (by omega) ?_;exact Jc hn hm h4 h7 hbad hok k (i+1) (by omega) he
theorem Sm{R:Value->zg6}{a4 a7:Option Addr}{c4 c7 g4 g7:Nat}(hn:n=nodes.length)(hm:n<=1048576)(hT:At2 w1 p o a n c)(hL:Ls tN F w1 a n c nodes)(hF:∀b,F b->b<w1.heap.size)(hok:∀(i:Nat) x,nodes[i]?=some x->x.inner=true->1<=x.left/\x.left<n/\1<=x.right/\x.right<n)
  (hend:∀w,From w1.heap.size w1 w->Arr enI 3 w a4 n c4 (AP nodes n) g4->Arr enB 4 w a7 n c7 (reached nodes) g7->bU.e80 R a4 n c4 a7 n c7 n 0 w) (hg4:w1.heap.size<g4) (hg7:w1.heap.size<g7) (hg:g4≠g7) :
  ∀(f:Nat) (r:List Bool) (st:List Nat) (w:World) (a8:Option Addr) (c8 g8:Nat),dfs nodes f r st=reached nodes->r.length=n->st.length+3*cf r<=f->(∀i∈st,i<n)->From w1.heap.size w1 w->Arr enI 3 w a4 n c4 (AP nodes n) g4->Arr enB 4 w a7 n c7 r g7->Arr enI 3 w a8 st.length c8 (stk st) g8->(w1.heap.size<g8/\g8≠g4/\g8≠g7)->f<=4194304->bU.l49 R (f+1) (some p) a4 n c4 a7 n c7 a8 st.length c8 w:=by
 intro f
 induction f with
 |zero=>
  intro r st w a8 c8 g8 hd hrl hms hst hw h4 h7 h8 hg8 hf;rw[bU.u49];unfold bU.g49;have hT':=hT.from hw;obtain rfl:st=[]:=za9 (by omega);refine aA (by simp) ?_;rw[yS]at hd;subst hd;exact dE ⟨_,_,_,hT'.c1,hend w hw h4 h7⟩
 |succ f ih=>
  intro r st w a8 c8 g8 hd hrl hms hst hw h4 h7 h8 hg8 hf;rw[bU.u49];unfold bU.g49;have hT':=hT.from hw
  cases st with
  |nil=>
   refine aA (by simp) ?_;rw[yS]at hd;subst hd;exact dE ⟨_,_,_,hT'.c1,hend w hw h4 h7⟩
  |cons i st=>
   have hin:=hst i (by simp);have hlen:(i::st).length=st.length+1:=rfl;rw[hlen]at h8 hms ⊢;have hstl:st.length<=4194304:=by omega
   refine aH (by omega) ?_;refine bM (by omega) (by omega) ?_;have e0:(((st.length+1:Nat):Int) - 1).toNat=st.length:=by omega
   refine h8.sl.rdI (k := .i64) (by omega) (by omega) λy hy=>?_;rw[e0,yF]at hy;obtain rfl:y=(i:Int):=by simpa using hy.symm
   refine bM (by omega) (by omega) ?_;refine dK ⟨by omega,by have:=h8.capLe;omega⟩ ?_;have h8':=h8.take (m:=st.length) (by omega);rw[CQ]at h8';rw[e0,lC];have hr:r[i]?=some (r[i]'(by omega)):=za2 _;obtain⟨b,hb⟩:∃b,r[i]'(by omega)=b:=⟨_,rfl⟩;rw[hb]at hr;refine h7.sl.rd (f:=λb => .bool b) (sel:=λb=>b) (λ_=>rfl) (by omega) (by omega) λy hy=>?_;obtain rfl:y=b:=by simpa[hr] using hy.symm
   refine(aQ _ _ _).2 ⟨λhy=>?_,λhy=>?_⟩
   .subst hy;rw[J3 hr]at hd;exact ih r st w a8 c8 g8 hd hrl (by omega) (λj hj=>hst j (by simp[hj])) hw h4 h7 h8' hg8 (by omega)
   .subst hy;have hx:nodes[i]?=some (nodes[i]'(by omega)):=za2 _;rw[J8 hr hx]at hd;refine h7.wr (by omega) (by omega) (x:=true) rfl λu h7' ho=>?_;rw[za3]at h7';have hu:=hw.only ho (.inr hg7);have h4':=h4.mod ho λk h1 h2=>by omega
    have h8u:=h8'.mod ho λk h1 h2=>by omega
    have hTu:=hT.from hu;have hLu:=From.ls hL hu hF;refine dE ⟨_,_,_,hTu.c1,?_⟩;refine hLu.rdN (by omega) (by omega) λx a' n' c' hx' hcs=>?_;obtain rfl:nodes[i]'(by omega)=x:=by simpa[hx] using hx'
    refine qm λu2 _ hb8 hk=>hb8.ld ?_;refine zg0 (yZ u2 _ a' n' c') λv u3 ⟨hv,hk3⟩=>⟨_,hv,?_⟩;have hk':=zg1 hk hk3;have hu3:=hu.aG hk';have hb3:=hb8.kept hk3;have hmeas:=Pv hr;refine(aQ _ _ _).2 ⟨λhin2=>⟨_,hb3.c6,_,hb3.c7,?_⟩,λhin2=>?_⟩
    .rw[if_pos hin2]at hd;obtain⟨b1,b2,b3,b4⟩:=hok i _ hx hin2;have e1:(nodes[i]'(by omega)).left=((nodes[i]'(by omega)).left.toNat:Int):=by omega
     have e2:(nodes[i]'(by omega)).right=((nodes[i]'(by omega)).right.toNat:Int):=by omega
     refine(h8u.kept hk').pY (m:=2) S_I (λ_=>rfl) (ys:=[((nodes[i]'(by omega)).left.toNat:Int),((nodes[i]'(by omega)).right.toNat:Int)]) (by rw[<- e1,<- e2];rfl) rfl (by omega) (by simp only[maxLen];omega) (by omega) λa' c' g' u4 h8v hg' hg0 ho4=>⟨_,_,_,rfl,?_⟩;rw[yK]at h8v;have z1:=hk'.size;have z2:=ho.size;have z3:=h4.le;have z4:=h7.le;have z5:=hw.size;refine ih _ _ u4 a' c' g' hd (by simpa using hrl) (by simp only[zc5];omega) (λj hj=>?_) (hu3.only ho4 (.inr hg8.1)) ((h4'.kept hk').mod ho4 λk h1 h2=>by omega) ((h7'.kept hk').mod ho4 λk h1 h2=>by omega) h8v (by omega) (by omega);simp only[zb3]at hj
     rcases hj with h | h | h
     .omega
     .omega
     .exact hst j (by simp[h])
    .rw[if_neg (by simp[hin2])]at hd;exact ih _ st u3 a8 c8 g8 hd (by simpa using hrl) (by omega) (λj hj=>hst j (by simp[hj])) hu3 (h4'.kept hk') (h7'.kept hk') (h8u.kept hk') hg8 (by omega)
end
section
variable{w1:World}{p:Addr}{o:Int}{a:Option Addr}{n c:Nat}{F:Nat->Prop}{nodes:List ND}
def okP(nodes:List ND)(_:Nat)(x:ND):Bool:=fD iC x nodes.length
theorem take_snoc{α:Type}{xs:List α}{i:Nat}{y:α}(h:xs[i]?=some y):xs.take (i+1)=xs.take i++[y]:=by
 rw[List.take_add_one,h];rfl
def Short(N:Nat)(nodes:List ND):Prop:=∀x∈nodes,x.aT.length<=N
theorem Ej{R:Value->zg6}{a4:Option Addr}{c4 g4:Nat}(hn:n=nodes.length)(hm:n<=1048576)(hsh:Short 1048576 nodes)(hT:At2 w1 p o a n c)(hL:Ls tN F w1 a n c nodes)(hF:∀b,F b->b<w1.heap.size)
  (hbad:∀i w,dS (okP nodes) 0 nodes=some i->From w1.heap.size w1 w->R (.tuple #[.int .i64 71,.int .i64 i]) w)
  (hend:∀w a7 g7 a8 g8,dS (okP nodes) 0 nodes=none->From w1.heap.size w1 w->Arr enI 3 w a4 n c4 (AP nodes n) g4->Arr enB 4 w a7 n n (List.replicate n false) g7->Arr enI 3 w a8 1 1 [0] g8->g4<g7->g7<g8->bU.e49 R (some p) a4 n c4 a7 n n a8 1 1 w) (hg4:w1.heap.size<g4) :
  ∀(k i:Nat) (w:World),i+k=n->From w1.heap.size w1 w->Arr enI 3 w a4 n c4 (AP (nodes.take i) n) g4->dS (okP nodes) 0 nodes=dS (okP nodes) i (nodes.drop i)->bU.l16 R (k+1) (some p) a4 n c4 a n c n i w
 |0,i,w,hi,hw,h4,he=>by
  rw[bU.u16];unfold bU.g16;refine aA (by omega) ?_;rw[List.drop_eq_nil_of_le (by omega)]at he;rw[zb1 (by omega)]at h4;have hT':=hT.from hw;refine dE ⟨_,_,_,hT'.c1,?_⟩;refine Arr.make (en:=enB) (x:=false) rfl (by omega) (by omega) (by omega) λu h7 hk=>?_;rw[za3]at h7 ⊢;refine bZ ?_;have k2:=zg3 u (.cells #[.int .i64 0] 3);have h8:=Arr.new enI 3 u [0] #[.int .i64 0] rfl (by simp[maxLen]);have z1:=h4.le;have z2:=hk.size;have z3:=h7.le;exact hend _ _ _ _ _ he (hw.aG (zg1 hk k2)) (h4.kept (zg1 hk k2)) (h7.kept k2) h8 (by omega) (by omega)
 |k+1,i,w,hi,hw,h4,he=>by
  rw[bU.u16];unfold bU.g16;refine aH (by omega) ?_;have hT':=hT.from hw;have hx0:nodes[i]?=some (nodes[i]'(by omega)):=za2 _;rw[drop_cons hx0,jL]at he;refine(From.ls hL hw hF).rdN (by omega) (by omega) λx a' n' c' hx hcs=>?_;obtain rfl:nodes[i]'(by omega)=x:=by simpa[hx0] using hx
  have hn':n'<=1048576:=by rw[hcs.len];exact hsh _ (List.getElem_mem _)
  obtain⟨x,hxe⟩:∃x,nodes[i]'(by omega)=x:=⟨_,rfl⟩;rw[hxe]at hx0 he hcs ⊢;clear hx;have hq:okP nodes i x=fD iC x n:=by unfold okP;rw[hn]
  rw[hq]at he;refine qm λu _ hb8 hk=>hb8.ld (dE ⟨_,_,_,(hT'.kept hk).c1,?_⟩);refine zg0 (V8 (m:=n) (by omega) (hcs.kept hk).sl) λv u2 ⟨hv,hk2⟩=>⟨_,hv,?_⟩;have hb2:=hb8.kept hk2;have hw2:=hw.aG (zg1 hk hk2);refine(aQ _ _ _).2 ⟨λhb=>hbad i u2 (by rw[he,if_neg];simpa using hb) hw2,λhb=>?_⟩;have hok:fD iC x n=true:=by simpa using hb
  rw[if_pos hok]at he;refine hb2.ld ?_;refine zg0 (yZ u2 x a' n' c') λv u3 ⟨hv,hk3⟩=>⟨_,hv,?_⟩;have hb3:=hb2.kept hk3;have hw3:=hw2.aG hk3;have h43:=h4.kept (zg1 (zg1 hk hk2) hk3);refine(aQ _ _ _).2 ⟨λhin=>⟨_,hb3.c6,?_⟩,λhin=>?_⟩
  .obtain⟨b1,b2,b3,b4,_⟩:=fH hok hin;obtain⟨lf,hlf⟩:∃lf:Nat,x.left=lf:=⟨x.left.toNat,by omega⟩;obtain⟨rg,hrg⟩:∃rg:Nat,x.right=rg:=⟨x.right.toNat,by omega⟩;obtain⟨y,hy,hy0,hy1,hset⟩:=BI (l:=nodes.take i) hin hlf hrg (n:=n) (by omega) (by omega);have hli:(nodes.take i).length<=n:=by rw[zb6];omega
   have hcl:=cnt_le (nodes.take i) lf;refine h43.sl.rdI (k := .i64) (by omega) (by omega) λz hz=>?_;obtain rfl:z=(cnt (nodes.take i) lf:Int):=by
    rw[hlf,za3,ni _ (by omega)]at hz;simpa using hz.symm
   refine bM (by omega) (by omega) ?_;refine h43.wr (by omega) (by omega) (x:=(cnt (nodes.take i) lf:Int)+1) rfl λu4 h44 ho4=>?_;have hw4:=hw3.only ho4 (.inr hg4);have hpb:(na w).block+1≠g4:=by have:=h4.le;show w.heap.size+1≠g4;omega
   have hb4:=hb3.mod ho4 hpb;refine⟨_,hb4.c7,?_⟩;rw[hlf,za3]at h44;refine h44.sl.rdI (k := .i64) (by omega) (by omega) λz hz=>?_;obtain rfl:z=y:=by
    rw[hrg,za3,hy]at hz;simpa using hz.symm
   refine bM (by omega) (by omega) ?_;refine h44.wr (by omega) (by omega) (x:=z+1) rfl λu5 h45 ho5=>?_;rw[hrg,za3,hset,<- take_snoc hx0]at h45;refine aC (by omega) ?_;exact Ej hn hm hsh hT hL hF hbad hend hg4 k (i+1) u5 (by omega) (hw4.only ho5 (.inr hg4)) h45 he
  .rw[<- Ew hin,<- take_snoc hx0]at h43;refine aC (by omega) ?_;exact Ej hn hm hsh hT hL hF hbad hend hg4 k (i+1) u3 (by omega) hw3 h43 he
theorem Ya{nodes:List ND}(h:dS (okP nodes) 0 nodes=none)(i:Nat)(x:ND)(hx:nodes[i]?=some x):fD iC x nodes.length=true:=by
 have:=lq h i x hx;simpa[okP] using this
theorem xe{nodes:List ND}(h0:nodes≠[]):dY iC nodes=match dS (okP nodes) 0 nodes with
  |some i=>(71,(i:Int))
  |none=>match dS (ve nodes) 0 nodes with
   |some i=>(70,(i:Int))
   |none=>(0,0):=by
 unfold dY;rw[if_neg h0];rfl
theorem Vp{w:World}(hm:n<=1048576)(hsh:Short 1048576 nodes)(hL:Ls tN F w a n c nodes)(hF:∀b,F b->b<w.heap.size) :
  Pure prog 84 #[vT o a n c] w (.tuple #[.int .i64 (dY iC nodes).1,.int .i64 (dY iC nodes).2]):=by
 refine bU.calls (R:=λv' u=>v'=_/\Below w.heap.size w u) ?_;unfold bU bU.g0;refine qc λw1 _ hT hk=>⟨_,_,_,hT.c1,?_⟩;have hL1:=hL.kept hk;have hF1:∀b,F b->b<w1.heap.size:=λb hb=>zf5 (hF b hb) hk.size;have hn:=hL.len;refine nN (λh0=>?_) λh0=>⟨_,_,_,hT.c1,?_⟩
 .have:nodes=[]:=za9 (by omega);subst this;exact⟨rfl,hk⟩
 have hne:nodes≠[]:=by intro h;subst h;simp at hn;omega
 have fin:∀u,From w1.heap.size w1 u->Kept w u:=λu hu=>zg1 hk (zg4 hu);refine Arr.make (en:=enI) (x:=0) rfl (by omega) (by omega) (by omega) λu h4 hk2=>?_;refine⟨_,_,_,(hT.kept hk2).c1,?_⟩;rw[za3]at h4 ⊢;rw[xe hne];refine⟨n+1,Ej (w1:=w1) (o:=o) (g4:=w1.heap.size+1) hn hm hsh hT hL1 hF1 (λi u he hu=>?_) (λu a7 g7 a8 g8 he hu h4 h7 h8 hg1 hg2=>?_) (by have:=hk.size;omega) n 0 u (by omega) (Kept.mod hk2) (by rwa [List.take_zero,Iy]) rfl⟩
 .rw[he];exact⟨rfl,fin u hu⟩
 .rw[he];have hok:=Ya he;have hs:=hk2.size;have h8':Arr enI 3 u a8 [0].length 1 (stk [0]) g8:=h8;refine⟨_,Sm (w1:=w1) (o:=o) (F:=F) hn hm hT hL1 hF1 (λi x hx hin=>by have:=fH (hok i x hx) hin;rw[hn];omega) (λu hu h4 h7=>?_) (by omega) (by omega) (by omega) (3*nodes.length+2) (List.replicate n false) [0] u a8 1 g8 (by rw[hn];rfl) (by simp) (by rw[xH];simp;omega) (λi hi=>by simp at hi;omega) hu h4 h7 h8' (by omega) (by omega)⟩;refine⟨n+1,Jc hn hm h4 h7 (λi hi=>?_) (λhi=>?_) n 0 (by omega) rfl⟩
  .rw[hi];exact⟨rfl,fin u hu⟩
  .rw[hi];exact⟨rfl,fin u hu⟩
end
section
variable{w1:World}{p:Addr}{o:Int}{a:Option Addr}{n c:Nat}{F:Nat->Prop}{nodes:List ND}
theorem qW{x:ND}{m:Int}(h:fD iC x m=true):x.kind≠1↔x.inner=true:=by
 unfold fD at h;unfold ND.inner;split at h
 .rename_i h1;simp[h1]
 .split at h
  .rename_i h2;simp[h2]
  .split at h
   .rename_i h3;simp[h3]
   .cases h
theorem Ad{R:Value->zg6}{w:World}{a4 a7:Option Addr}{c4 c7 g4 g7:Nat}(hn:n=nodes.length)(hm:n<=1048576)(h4:Arr enI 3 w a4 n c4 (AP nodes n) g4)(h7:Arr enB 4 w a7 n c7 (reached nodes) g7)
  (hbad:∀i,dS (ve nodes) 0 nodes=some i->R (.tuple #[.int .i64 70,.int .i64 i]) w) (hok:dS (ve nodes) 0 nodes=none->R (.tuple #[.int .i64 0,.int .i64 0]) w) :
  ∀(k i:Nat),i+k=n->dS (ve nodes) 0 nodes=dS (ve nodes) i (nodes.drop i)->ay.l82 R (k+1) a4 n c4 a7 n c7 n i w
 |0,i,hi,he=>by
  rw[ay.u82];unfold ay.g82;refine aA (by omega) ?_;rw[List.drop_eq_nil_of_le (by omega)]at he;exact hok he
 |k+1,i,hi,he=>by
  rw[ay.u82];unfold ay.g82;refine aH (by omega) ?_;have hx:nodes[i]?=some (nodes[i]'(by omega)):=za2 _;rw[drop_cons hx,jL]at he;have hr:(reached nodes)[i]?=some ((reached nodes)[i]'(by rw[kK];omega)):=za2 _;obtain⟨b,hb⟩:∃b,(reached nodes)[i]'(by rw[kK];omega)=b:=⟨_,rfl⟩;rw[hb]at hr;have hlp:ve nodes i (nodes[i]'(by omega))=(cnt nodes i==min i 1&&b):=by unfold ve;rw[za8,hr];rfl
  rw[hlp]at he;have tail:cnt nodes i=min i 1->(aV a7 λq=>chk ((0:Int)<=i/\(i:Int)<(n:Int)) (∃y:Bool,w.cell? (q.add ((i:Int).toNat*1))=some (.bool y)/\(af (!y) (R (.tuple #[.int .i64 70,.int .i64 i]) w)
    (nv (IntKind.i64.wrap ((i:Int)+1)) λt=>ay.l82 R (k+1) a4 n c4 a7 n c7 n t w)))):=by
   intro heq;refine h7.sl.rd (f:=λb => .bool b) (sel:=λb=>b) (λ_=>rfl) (by omega) (by omega) λy hy=>?_;obtain rfl:y=b:=by simpa[hr] using hy.symm
   have hc:(cnt nodes i==min i 1)=true:=by simp;omega
   rw[hc,Bool.true_and]at he;refine(aQ _ _ _).2 ⟨λhb=>hbad i ?_,λhb=>?_⟩
   .have:y=false:=by simpa using hb
    rw[he,this];rfl
   .have:y=true:=by simpa using hb
    rw[this,if_pos rfl]at he;refine aC (by omega) ?_;exact Ad hn hm h4 h7 hbad hok k (i+1) (by omega) he
  have get:∀ {K:Int->Prop},K (cnt nodes i:Int)->aV a4 λq=>chk ((0:Int)<=i/\(i:Int)<(n:Int)) (∃y:Int,w.cell? (q.add ((i:Int).toNat*1))=some (.int .i64 y)/\K y):=λhK=>by
   refine h4.sl.rdI (k := .i64) (by omega) (by omega) λy hy=>?_;obtain rfl:y=(cnt nodes i:Int):=by
    rw[ni nodes (by omega)]at hy;simpa using hy.symm
   exact hK
  have bad:cnt nodes i≠min i 1->dS (ve nodes) 0 nodes=some i:=λh=>by
   rw[he,if_neg];simp;intro h';omega
  refine nN (λhi0=>get (ja (λhne=>hbad i (bad (by omega))) λheq=>?_)) λhi0=>?_
  .refine aA (by omega) ?_;exact tail (by omega)
  .refine aH (by omega) ?_;exact get (ja (λhne=>hbad i (bad (by omega))) λheq=>tail (by omega))
theorem Gp{R:Value->zg6}{a4 a7:Option Addr}{c4 c7 g4 g7:Nat}(hn:n=nodes.length)(hm:n<=1048576)(hT:At2 w1 p o a n c)(hL:Ls tN F w1 a n c nodes)(hF:∀b,F b->b<w1.heap.size)(hkd:∀(i:Nat) x,nodes[i]?=some x->(x.kind≠1↔x.inner=true))(hok:∀(i:Nat) x,nodes[i]?=some x->x.inner=true->1<=x.left/\x.left<n/\1<=x.right/\x.right<n)
  (hend:∀w,From w1.heap.size w1 w->Arr enI 3 w a4 n c4 (AP nodes n) g4->Arr enB 4 w a7 n c7 (reached nodes) g7->ay.e82 R a4 n c4 a7 n c7 n 0 w) (hg4:w1.heap.size<g4) (hg7:w1.heap.size<g7) (hg:g4≠g7) :
  ∀(f:Nat) (r:List Bool) (st:List Nat) (w:World) (a8:Option Addr) (c8 g8:Nat),dfs nodes f r st=reached nodes->r.length=n->st.length+3*cf r<=f->(∀i∈st,i<n)->From w1.heap.size w1 w->Arr enI 3 w a4 n c4 (AP nodes n) g4->Arr enB 4 w a7 n c7 r g7->Arr enI 3 w a8 st.length c8 (stk st) g8->(w1.heap.size<g8/\g8≠g4/\g8≠g7)->f<=4194304->ay.l51 R (f+1) (some p) a4 n c4 a7 n c7 a8 st.length c8 w:=by
 intro f
 induction f with
 |zero=>
  intro r st w a8 c8 g8 hd hrl hms hst hw h4 h7 h8 hg8 hf;rw[ay.u51];unfold ay.g51;have hT':=hT.from hw;obtain rfl:st=[]:=za9 (by omega);refine aA (by simp) ?_;rw[yS]at hd;subst hd;exact dE ⟨_,_,_,hT'.c1,hend w hw h4 h7⟩
 |succ f ih=>
  intro r st w a8 c8 g8 hd hrl hms hst hw h4 h7 h8 hg8 hf;rw[ay.u51];unfold ay.g51;have hT':=hT.from hw
  cases st with
  |nil=>
   refine aA (by simp) ?_;rw[yS]at hd;subst hd;exact dE ⟨_,_,_,hT'.c1,hend w hw h4 h7⟩
  |cons i st=>
   have hin:=hst i (by simp);have hlen:(i::st).length=st.length+1:=rfl;rw[hlen]at h8 hms ⊢;have hstl:st.length<=4194304:=by omega
   refine aH (by omega) ?_;refine bM (by omega) (by omega) ?_;have e0:(((st.length+1:Nat):Int) - 1).toNat=st.length:=by omega
   refine h8.sl.rdI (k := .i64) (by omega) (by omega) λy hy=>?_;rw[e0,yF]at hy;obtain rfl:y=(i:Int):=by simpa using hy.symm
   refine bM (by omega) (by omega) ?_;refine dK ⟨by omega,by have:=h8.capLe;omega⟩ ?_;have h8':=h8.take (m:=st.length) (by omega);rw[CQ]at h8';rw[e0,lC];have hr:r[i]?=some (r[i]'(by omega)):=za2 _;obtain⟨b,hb⟩:∃b,r[i]'(by omega)=b:=⟨_,rfl⟩;rw[hb]at hr;refine h7.sl.rd (f:=λb => .bool b) (sel:=λb=>b) (λ_=>rfl) (by omega) (by omega) λy hy=>?_;obtain rfl:y=b:=by simpa[hr] using hy.symm
   refine(aQ _ _ _).2 ⟨λhy=>?_,λhy=>?_⟩
   .subst hy;rw[J3 hr]at hd;exact ih r st w a8 c8 g8 hd hrl (by omega) (λj hj=>hst j (by simp[hj])) hw h4 h7 h8' hg8 (by omega)
   .subst hy;have hx:nodes[i]?=some (nodes[i]'(by omega)):=za2 _;rw[J8 hr hx]at hd;refine h7.wr (by omega) (by omega) (x:=true) rfl λu h7' ho=>?_;rw[za3]at h7';have hu:=hw.only ho (.inr hg7);have h4':=h4.mod ho λk h1 h2=>by omega
    have h8u:=h8'.mod ho λk h1 h2=>by omega
    have hTu:=hT.from hu;have hLu:=From.ls hL hu hF;refine dE ⟨_,_,_,hTu.c1,?_⟩;refine hLu.rdN (by omega) (by omega) λx a' n' c' hx' hcs=>?_;obtain rfl:nodes[i]'(by omega)=x:=by simpa[hx] using hx'
    refine qm λu3 _ hb3 hk'=>⟨_,hb3.c0,?_⟩;have hu3:=hu.aG hk';have hmeas:=Pv hr;refine ja (λhin2=>⟨_,hb3.c6,_,hb3.c7,?_⟩) λhin2=>?_
    .have hin2:=(hkd i _ hx).1 hin2;rw[if_pos hin2]at hd;obtain⟨b1,b2,b3,b4⟩:=hok i _ hx hin2;have e1:(nodes[i]'(by omega)).left=((nodes[i]'(by omega)).left.toNat:Int):=by omega
     have e2:(nodes[i]'(by omega)).right=((nodes[i]'(by omega)).right.toNat:Int):=by omega
     refine(h8u.kept hk').pY (m:=2) S_I (λ_=>rfl) (ys:=[((nodes[i]'(by omega)).left.toNat:Int),((nodes[i]'(by omega)).right.toNat:Int)]) (by rw[<- e1,<- e2];rfl) rfl (by omega) (by simp only[maxLen];omega) (by omega) λa' c' g' u4 h8v hg' hg0 ho4=>⟨_,_,_,rfl,?_⟩;rw[yK]at h8v;have z1:=hk'.size;have z2:=ho.size;have z3:=h4.le;have z4:=h7.le;have z5:=hw.size;refine ih _ _ u4 a' c' g' hd (by simpa using hrl) (by simp only[zc5];omega) (λj hj=>?_) (hu3.only ho4 (.inr hg8.1)) ((h4'.kept hk').mod ho4 λk h1 h2=>by omega) ((h7'.kept hk').mod ho4 λk h1 h2=>by omega) h8v (by omega) (by omega);simp only[zb3]at hj
     rcases hj with h | h | h
     .omega
     .omega
     .exact hst j (by simp[h])
    .rw[if_neg (λh=>(hkd i _ hx).2 h hin2)]at hd;exact ih _ st u3 a8 c8 g8 hd (by simpa using hrl) (by omega) (λj hj=>hst j (by simp[hj])) hu3 (h4'.kept hk') (h7'.kept hk') (h8u.kept hk') hg8 (by omega)
theorem tV{R:Value->zg6}{a4:Option Addr}{c4 g4:Nat}(hn:n=nodes.length)(hm:n<=1048576)(hsh:Short 1048576 nodes)(hT:At2 w1 p o a n c)(hL:Ls tN F w1 a n c nodes)(hF:∀b,F b->b<w1.heap.size)
  (hbad:∀i w,dS (okP nodes) 0 nodes=some i->From w1.heap.size w1 w->R (.tuple #[.int .i64 71,.int .i64 i]) w)
  (hend:∀w a7 g7 a8 g8,dS (okP nodes) 0 nodes=none->From w1.heap.size w1 w->Arr enI 3 w a4 n c4 (AP nodes n) g4->Arr enB 4 w a7 n n (List.replicate n false) g7->Arr enI 3 w a8 1 1 [0] g8->g4<g7->g7<g8->ay.e51 R (some p) a4 n c4 a7 n n a8 1 1 w) (hg4:w1.heap.size<g4) :
  ∀(k i:Nat) (w:World),i+k=n->From w1.heap.size w1 w->Arr enI 3 w a4 n c4 (AP (nodes.take i) n) g4->dS (okP nodes) 0 nodes=dS (okP nodes) i (nodes.drop i)->ay.l18 R (k+1) (some p) n a4 n c4 a n c n i w
 |0,i,w,hi,hw,h4,he=>by
  rw[ay.u18];unfold ay.g18;refine aA (by omega) ?_;rw[List.drop_eq_nil_of_le (by omega)]at he;rw[zb1 (by omega)]at h4;refine Arr.make (en:=enB) (x:=false) rfl (by omega) (by omega) (by omega) λu h7 hk=>?_;rw[za3]at h7 ⊢;refine bZ ?_;have k2:=zg3 u (.cells #[.int .i64 0] 3);have h8:=Arr.new enI 3 u [0] #[.int .i64 0] rfl (by simp[maxLen]);have z1:=h4.le;have z2:=hk.size;have z3:=h7.le;exact hend _ _ _ _ _ he (hw.aG (zg1 hk k2)) (h4.kept (zg1 hk k2)) (h7.kept k2) h8 (by omega) (by omega)
 |k+1,i,w,hi,hw,h4,he=>by
  rw[ay.u18];unfold ay.g18;refine aH (by omega) ?_;have hx0:nodes[i]?=some (nodes[i]'(by omega)):=za2 _;rw[drop_cons hx0,jL]at he;refine(From.ls hL hw hF).rdN (by omega) (by omega) λx a' n' c' hx hcs=>?_;obtain rfl:nodes[i]'(by omega)=x:=by simpa[hx0] using hx
  have hn':n'<=1048576:=by rw[hcs.len];exact hsh _ (List.getElem_mem _)
  obtain⟨x,hxe⟩:∃x,nodes[i]'(by omega)=x:=⟨_,rfl⟩;rw[hxe]at hx0 he hcs ⊢;clear hx;have hq:okP nodes i x=fD iC x n:=by unfold okP;rw[hn]
  rw[hq]at he;refine qm λu _ hb8 hk=>hb8.ld ?_;refine zg0 (PL (m:=n) (by omega) (hcs.kept hk).sl) λv u2 ⟨hv,hk2⟩=>⟨_,hv,?_⟩;have hb2:=hb8.kept hk2;have hw2:=hw.aG (zg1 hk hk2);refine(aQ _ _ _).2 ⟨λhb=>hbad i u2 (by rw[he,if_neg];simpa using hb) hw2,λhb=>?_⟩;have hok:fD iC x n=true:=by simpa using hb
  rw[if_pos hok]at he;refine⟨_,hb2.c0,?_⟩;have hb3:=hb2;have hw3:=hw2;have h43:=h4.kept (zg1 hk hk2);refine ja (λhin=>⟨_,hb3.c6,?_⟩) λhin=>?_
  .have hin:=(qW hok).1 hin;obtain⟨b1,b2,b3,b4,_⟩:=fH hok hin;obtain⟨lf,hlf⟩:∃lf:Nat,x.left=lf:=⟨x.left.toNat,by omega⟩;obtain⟨rg,hrg⟩:∃rg:Nat,x.right=rg:=⟨x.right.toNat,by omega⟩;obtain⟨y,hy,hy0,hy1,hset⟩:=BI (l:=nodes.take i) hin hlf hrg (n:=n) (by omega) (by omega);have hli:(nodes.take i).length<=n:=by rw[zb6];omega
   have hcl:=cnt_le (nodes.take i) lf;refine h43.sl.rdI (k := .i64) (by omega) (by omega) λz hz=>?_;obtain rfl:z=(cnt (nodes.take i) lf:Int):=by
    rw[hlf,za3,ni _ (by omega)]at hz;simpa using hz.symm
   refine bM (by omega) (by omega) ?_;refine h43.wr (by omega) (by omega) (x:=(cnt (nodes.take i) lf:Int)+1) rfl λu4 h44 ho4=>?_;have hw4:=hw3.only ho4 (.inr hg4);have hpb:(na w).block+1≠g4:=by have:=h4.le;show w.heap.size+1≠g4;omega
   have hb4:=hb3.mod ho4 hpb;refine⟨_,hb4.c7,?_⟩;rw[hlf,za3]at h44;refine h44.sl.rdI (k := .i64) (by omega) (by omega) λz hz=>?_;obtain rfl:z=y:=by
    rw[hrg,za3,hy]at hz;simpa using hz.symm
   refine bM (by omega) (by omega) ?_;refine h44.wr (by omega) (by omega) (x:=z+1) rfl λu5 h45 ho5=>?_;rw[hrg,za3,hset,<- take_snoc hx0]at h45;refine aC (by omega) ?_;exact tV hn hm hsh hT hL hF hbad hend hg4 k (i+1) u5 (by omega) (hw4.only ho5 (.inr hg4)) h45 he
  .have hin:x.inner=false:=by
    cases h:x.inner with
    |false=>rfl
    |true=>exact absurd hin ((qW hok).2 h)
   rw[<- Ew hin,<- take_snoc hx0]at h43;refine aC (by omega) ?_;exact tV hn hm hsh hT hL hF hbad hend hg4 k (i+1) u2 (by omega) hw3 h43 he
theorem KX{w:World}(hm:n<=1048576)(hsh:Short 1048576 nodes)(hL:Ls tN F w a n c nodes)(hF:∀b,F b->b<w.heap.size) :
  Pure prog 95 #[vT o a n c] w (.tuple #[.int .i64 (dY iC nodes).1,.int .i64 (dY iC nodes).2]):=by
 refine ay.calls (R:=λv' u=>v'=_/\Below w.heap.size w u) ?_;unfold ay ay.g0;refine qc λw1 _ hT hk=>⟨_,_,_,hT.c1,?_⟩;have hL1:=hL.kept hk;have hF1:∀b,F b->b<w1.heap.size:=λb hb=>zf5 (hF b hb) hk.size;have hn:=hL.len;refine nN (λh0=>?_) λh0=>?_
 .have:nodes=[]:=za9 (by omega);subst this;exact⟨rfl,hk⟩
 have hne:nodes≠[]:=by intro h;subst h;simp at hn;omega
 have fin:∀u,From w1.heap.size w1 u->Kept w u:=λu hu=>zg1 hk (zg4 hu);refine Arr.make (en:=enI) (x:=0) rfl (by omega) (by omega) (by omega) λu h4 hk2=>?_;refine⟨_,_,_,(hT.kept hk2).c1,?_⟩;rw[za3]at h4 ⊢;rw[xe hne];refine⟨n+1,tV (w1:=w1) (o:=o) (g4:=w1.heap.size+1) hn hm hsh hT hL1 hF1 (λi u he hu=>?_) (λu a7 g7 a8 g8 he hu h4 h7 h8 hg1 hg2=>?_) (by have:=hk.size;omega) n 0 u (by omega) (Kept.mod hk2) (by rwa [List.take_zero,Iy]) rfl⟩
 .rw[he];exact⟨rfl,fin u hu⟩
 .rw[he];have hok:=Ya he;have hs:=hk2.size;have h8':Arr enI 3 u a8 [0].length 1 (stk [0]) g8:=h8;refine⟨_,Gp (w1:=w1) (o:=o) (F:=F) hn hm hT hL1 hF1 (λi x hx=>qW (hok i x hx)) (λi x hx hin=>by have:=fH (hok i x hx) hin;rw[hn];omega) (λu hu h4 h7=>?_) (by omega) (by omega) (by omega) (3*nodes.length+2) (List.replicate n false) [0] u a8 1 g8 (by rw[hn];rfl) (by simp) (by rw[xH];simp;omega) (λi hi=>by simp at hi;omega) hu h4 h7 h8' (by omega) (by omega)⟩;refine⟨n+1,Ad hn hm h4 h7 (λi hi=>?_) (λhi=>?_) n 0 (by omega) rfl⟩
  .rw[hi];exact⟨rfl,fin u hu⟩
  .rw[hi];exact⟨rfl,fin u hu⟩
end
section
variable{w1:World}{p:Addr}{o:Int}{a:Option Addr}{n c:Nat}{F:Nat->Prop}{nodes:List ND}
structure Good(F:Nat->Prop)(w:World)(a:Option Addr)(n c:Nat)(nodes:List ND):Prop where
 ls:Ls tN F w a n c nodes
 old:∀b,F b->b<w.heap.size
 max:n<=1048576
 short:Short 1048576 nodes
theorem Good.len{w:World}(h:Good F w a n c nodes):n=nodes.length:=h.ls.len
theorem Good.kept{w u:World}(h:Good F w a n c nodes)(hk:Kept w u):Good F u a n c nodes:=⟨h.ls.kept hk,λb hb=>zf5 (h.old b hb) hk.size,h.max,h.short⟩
theorem Good.from{w u:World}(h:Good F w a n c nodes)(hk:From w.heap.size w u):Good F u a n c nodes:=h.kept (zg4 hk)
theorem zi{T:BT}(h:Tree iC nodes T){i:Nat}{x:ND}(hx:nodes[i]?=some x):x.kind≠1↔x.inner=true:=qW (h.right.ok i x hx)
theorem KU{R:Value->zg6}{T:BT}(hG:Good F w1 a n c nodes)(hTr:Tree iC nodes T)(hT:At2 w1 p o a n c)
  (hend:∀w a3 c3 g3,From w1.heap.size w1 w->Arr enI 3 w a3 n c3 (qg T.pre) g3->(g3=0\/w1.heap.size<g3)->R (.slice a3 n c3) w) :
  ∀(m:Nat) (Ts:List BT) (out:List Nat) (w:World) (a3:Option Addr) (c3 g3:Nat) (a4:Option Addr) (c4 g4:Nat),FM Ts<=m->T.pre=out++sQ Ts->(∀U∈Ts,Is nodes U)->From w1.heap.size w1 w->Arr enI 3 w a3 out.length c3 (qg out) g3->Arr enI 3 w a4 Ts.length c4 (stk (Ts.map BT.root)) g4 ->
   (g3=0\/w1.heap.size<g3)->w1.heap.size<g4->g3≠g4->bI.l8 R (m+1) (some p) a3 out.length c3 a4 Ts.length c4 w:=by
 intro m
 induction m with
 |zero=>
  intro Ts out w a3 c3 g3 a4 c4 g4 hm hpre hIs hw h3 h4 hg3 hg4 hne;have:=oQ Ts;obtain rfl:Ts=[]:=za9 (by omega);rw[bI.u8];unfold bI.g8;refine aA (by simp) ?_;simp only[sQ,List.flatMap_nil,zc8]at hpre;have hl:out.length=n:=by rw[<- hpre,hTr.length,hG.len]
  rw[hl]at h3 ⊢;rw[<- hpre]at h3;exact hend w a3 c3 g3 hw h3 hg3
 |succ m ih=>
  intro Ts out w a3 c3 g3 a4 c4 g4 hm hpre hIs hw h3 h4 hg3 hg4 hne;rw[bI.u8];unfold bI.g8
  cases Ts with
  |nil=>
   refine aA (by simp) ?_;simp only[sQ,List.flatMap_nil,zc8]at hpre;have hl:out.length=n:=by rw[<- hpre,hTr.length,hG.len]
   rw[hl]at h3 ⊢;rw[<- hpre]at h3;exact hend w a3 c3 g3 hw h3 hg3
  |cons U Ts=>
   have hIU:=hIs U (by simp);have hroot:=hIU.root_lt;have hn:=hG.len;have hmx:=hG.max;have hlen:=congrArg List.length hpre;rw[hTr.length,za6,Hu,fZ]at hlen;have hpos:=U.size_pos;have hTs:=oQ Ts;have hL:(U::Ts).length=Ts.length+1:=rfl;rw[hL]at h4 ⊢;refine aH (by omega) ?_;refine bM (by omega) (by omega) ?_;have e0:(((Ts.length+1:Nat):Int) - 1).toNat=Ts.length:=by omega
   refine h4.sl.rdI (k := .i64) (by omega) (by omega) λy hy=>?_;rw[e0,ze0,show Ts.length=(Ts.map BT.root).length by simp,yF]at hy;obtain rfl:y=(U.root:Int):=by simpa using hy.symm
   refine bM (by omega) (by omega) ?_;refine dK ⟨by omega,by have:=h4.capLe;omega⟩ ?_;have h4':=h4.take (m:=Ts.length) (by omega);rw[ze0,show(stk (U.root::Ts.map BT.root)).take Ts.length=stk (Ts.map BT.root) from by
    have:=CQ U.root (Ts.map BT.root);rwa [za7]at this]at h4'
   rw[e0,lC];refine h3.push S_I (x:=(U.root:Int)) rfl rfl (by simp only[maxLen];omega) (by omega) λa' c' g' u h3' hg' hg0 ho=>⟨_,_,_,rfl,?_⟩;have hz:=hw.size;have h4z:=h4.le;have hu:From w1.heap.size w1 u:=hw.only ho hg3;have h4u:=h4'.mod ho λk h1 h2=>by omega
   have hGu:=hG.from hu;refine dE ⟨_,_,_,(hT.from hu).c1,?_⟩;refine hGu.ls.rdN (by omega) (by omega) λx a5 n5 c5 hx _=>?_;rw[za3]at hx;refine qm λu2 _ hb hk=>⟨_,hb.c0,?_⟩;have hu2:=hu.aG hk;have hno:qg out++[(U.root:Int)]=qg (out++[U.root]):=by simp[qg]
   rw[hno]at h3';have hol:out.length+1=(out++[U.root]).length:=by simp
   rw[hol]at h3' ⊢
   cases U with
   |leaf i=>
    obtain⟨y,hy,hyi⟩:=hIU;have:x=y:=by have hx':nodes[i]?=some x:=hx;rw[hy]at hx';simpa using hx'.symm
    subst this;refine sH (by
     cases Classical.em (x.kind=1) with
     |inl h=>exact h
     |inr h=>have:=(zi hTr hy).1 h;rw[hyi]at this;cases this) ?_
    exact ih Ts (out++[i]) u2 a' c' g' a4 c4 g4 (by rw[fZ]at hm;simp only[BT.size]at hm;omega) (by rw[hpre];simp[sQ,BT.pre]) (λV hV=>hIs V (by simp[hV])) hu2 (h3'.kept hk) (h4u.kept hk) (by omega) hg4 (by omega)
   |node i l r=>
    obtain⟨y,hy,hyi,hl,hr,hIl,hIr⟩:=hIU;have:x=y:=by have hx':nodes[i]?=some x:=hx;rw[hy]at hx';simpa using hx'.symm
    subst this;refine ja ?_ λh=>absurd hyi (by intro h';exact(zi hTr hy).2 h' h);intro _;refine⟨_,hb.c7,_,hb.c6,?_⟩;simp only[BT.size]at hlen hm;rw[hl,hr];refine(h4u.kept hk).pY (m:=2) S_I (λ_=>rfl) (ys:=[(r.root:Int),(l.root:Int)]) rfl rfl (by omega) (by simp only[maxLen];omega) (by omega) λa6 c6 g6 u3 h6 hg6 hg60 ho3=>⟨_,_,_,rfl,?_⟩;rw[yK]at h6;have z2:=hk.size;have z3:=ho.size;have z5:=h3'.le;refine ih (l::r::Ts) (out++[i]) u3 a' c' g' a6 c6 g6 (by rw[fZ]at hm;simp only[BT.size]at hm;rw[fZ,fZ];omega) (by rw[hpre];simp[sQ,BT.pre]) (λV hV=>?_) (hu2.only ho3 (.inr hg4)) ((h3'.kept hk).mod ho3 λk h1 h2=>by omega) h6 (by omega) (by omega) (by omega);simp only[zb3]at hV
    rcases hV with h | h | h
    .subst h;exact hIl
    .subst h;exact hIr
    .exact hIs V (by simp[h])
theorem Qg{w:World}{T:BT}(hG:Good F w a n c nodes)(hTr:Tree iC nodes T) :
  E.CallsD prog 96 #[vT o a n c] w λv u=>∃a' c',v = .slice a' n c'/\CO enI 3 w u a' n c' (qg T.pre):=by
 refine bI.calls ?_;unfold bI bI.g0;refine qc λw1 _ hT hk=>bZ ?_;have hk2:=zg3 w1 (.cells #[.int .i64 0] 3);have h4:=Arr.new enI 3 w1 [0] #[.int .i64 0] rfl (by simp[maxLen]);have hs:=hk.size;refine⟨_,KU (w1:=w1) (T:=T) (hG.kept hk) hTr hT (λu a3 c3 g3 hu h3 hg=>⟨_,_,rfl,g3,h3,by omega,zg1 hk (zg4 hu)⟩) (FM [T]) [T] [] _ none 0 0 _ 1 (w1.heap.size+1) (zb4 _) (by simp[sQ]) (λU hU=>by simp at hU;subst hU;exact hTr.is) (Kept.mod hk2) (Arr.nil _ _ _) (by simp[hTr.root];exact h4) (.inl rfl) (by omega) (by omega)⟩
end
theorem XD:fV prog 167 166 2 16:=sliceT (by kernel_rfl)
section
variable{W:World}{p:Addr}{o:Int}{a:Option Addr}{n c:Nat}{F:Nat->Prop}{nodes:List ND}
theorem HY{B k g:Nat}{J:Nat->Nat->zg6}{w u:World}(hJ:Stable B J)(h:J k g w)(hk:Kept w u):J k g u:=hJ k g w u h (Kept.mod hk)
theorem LW{t f:Prop}(h:t):af true t f:=h
theorem GG{t f:Prop}(h:f):af false t f:=h
theorem WR(x:Int×Int):∀v∈enR x,v.oneCell'=true:=by
 intro v hv;simp only[zb3,zf9,or_false]at hv
 rcases hv with h | h <;> subst h <;> rfl
theorem SY{R:Value->zg6}{T:BT}{l:Nat}{V:Nat->Prop}{J:Nat->Nat->zg6}{X:List (Int×Int)}(hG:Good F W a n c nodes)(hTr:Tree iC nodes T)(hT:At2 W p o a n c)(hV:∀b,V b->b<l)(hpV:¬ V p.block)(hFV:∀b,F b->¬ V b)(hpl:p.block<l)(hFl:∀b,F b->b<l)(hl:l<W.heap.size)
  (hst:Stable W.heap.size J) (hJg:∀k g u,J k g u->(g=0\/W.heap.size<g)/\g<=u.heap.size/\W.heap.size<=u.heap.size)
  (hrd:∀k g x u,X[k]?=some x->J k g u->xk prog l #[.int .i64 x.1,.int .i64 x.2] u λv u'=>v = .bool true/\∃g',J (k+1) g' u'/\(g'=g\/u.heap.size<g')/\Mod (λb=>V b\/b=l\/b+1=g) u u')
  (hend:∀g u,J X.length g u->R (.tuple #[]) u) (hXn:X.length<=n) :
  ∀(m:Nat) (Ts:List BD) (out:List (Int×Int)) (w:World) (g:Nat) (a3:Option Addr) (c3 g3:Nat),Rl Ts<=m->X=out++EJ (Dw Ts)->(∀U∈Ts,Is nodes U.1/\U.2+U.1.size<=n+1)->J out.length g w->Mod (λb=>V b\/b=l\/W.heap.size<=b) W w->aK 2 enR 166 w a3 Ts.length c3 (Q8 Ts) g3->W.heap.size<g3->g≠g3->eX.l3 R (m+1) l p a3 Ts.length c3 w:=by
 intro m
 induction m with
 |zero=>
  intro Ts out w g a3 c3 g3 hm hX hIs hJ hw h3 hg3 hne;have:=zJ Ts;obtain rfl:Ts=[]:=za9 (by omega);rw[eX.u3];unfold eX.g3;refine aA (by simp) ?_;simp only[Dw,List.flatMap_nil,EJ,List.map_nil,zc8]at hX;rw[<- hX]at hJ;exact hend g w hJ
 |succ m ih=>
  intro Ts out w g a3 c3 g3 hm hX hIs hJ hw h3 hg3 hne;rw[eX.u3];unfold eX.g3
  cases Ts with
  |nil=>
   refine aA (by simp) ?_;simp only[Dw,List.flatMap_nil,EJ,List.map_nil,zc8]at hX;rw[<- hX]at hJ;exact hend g w hJ
  |cons U Ts=>
   obtain⟨U,dp⟩:=U;obtain⟨hIU,hUs⟩:=hIs (U,dp) (by simp);simp only at hIU hUs;have hroot:=hIU.root_lt;have hn:=hG.len;have hmx:=hG.max;have hlen:=congrArg List.length hX;rw[za6,sK,EC,qi]at hlen;have hpos:=U.size_pos;have hTs:=zJ Ts;have hL:((U,dp)::Ts).length=Ts.length+1:=rfl;rw[hL]at h3 ⊢;obtain⟨j1,j2,j3⟩:=hJg _ _ _ hJ;simp only at hlen;refine aH (by omega) ?_;refine bM (by omega) (by omega) ?_;have e0:(((Ts.length+1:Nat):Int) - 1).toNat=Ts.length:=by omega
   refine h3.X0.rd2 (by omega) (by omega) λy hy=>?_;rw[e0,Qp]at hy;obtain rfl:y=((U.root:Int),(dp:Int)):=by simpa using hy.symm
   refine YG λu hb hk=>?_;refine bM (by omega) (by omega) ?_;refine dK ⟨by omega,by have:=h3.capLe;omega⟩ ⟨_,hb.rd rfl,_,hb.rd rfl,?_⟩;have h3':=h3.take (k:=2) (en:=enR) (λ_=>rfl) (m:=Ts.length) (by omega);rw[TU]at h3';rw[e0,lC];have hnext:X[out.length]?=some ((U.root:Int),(dp:Int)):=by
    rw[hX,zc0 (zb4 _),zf8]
    cases U <;> simp[Dw,EJ,BT.Nb,BT.root]
   refine(hrd out.length g _ u hnext (HY hst hJ hk)).mono λv u2 ⟨hv,g',hJ2,hg',hm2⟩=>⟨_,hv,?_⟩;refine GG ?_;have hw2:Mod (λb=>V b\/b=l\/W.heap.size<=b) W u2:=(hw.trans (Kept.mod (S:=λ_=>False) hk) (U:=λb=>V b\/b=l\/W.heap.size<=b) (λ_ _ h=>h) (λ_ _ h=>h.elim)).trans hm2 (λ_ _ h=>h) (λb hb h=>by
    rcases h with h | h | h
    .exact .inl h
    .exact .inr (.inl h)
    .exact .inr (.inr (by omega)))
   have z1:=hk.size;have z2:=hm2.size;have z3:w.heap.size<u.heap.size:=hb.lt;have hpW:=hT.lt;have hT2:=hT.mod hw2 (λh=>h.elim hpV (λh=>by omega));have hL2:=hG.ls.mod hw2 (λb hb h=>h.elim (hFV b hb) (λh=>by have:=hG.old b hb;have:=hFl b hb;omega));have hb2:=hb.mod hm2 (λh=>h.elim (λh=>by have:=hV _ h;omega) (λh=>by omega));have h32:=(h3'.kept hk).mod hm2 (λb h1 h=>h.elim (λh=>by have:=hV _ h;omega) (λh=>by omega));refine⟨_,_,_,hT2.c1,_,hb2.rd rfl,?_⟩;refine hL2.rdN (by omega) (by omega) λx a5 n5 c5 hx _=>?_;rw[za3]at hx;refine qm λu3 _ hb8 hk3=>hb8.ld ?_;refine zg0 (yZ u3 x a5 n5 c5) λv u4 ⟨hv,hk4⟩=>⟨_,hv,?_⟩;have hk24:=zg1 hk3 hk4;have hb4:=hb8.kept hk4;have hbs:=hb2.mod (Kept.mod (S:=λ_=>False) hk24) (λh=>h);have h34:=h32.kept hk24;have hJ4:=HY hst hJ2 hk24;have hw4:Mod (λb=>V b\/b=l\/W.heap.size<=b) W u4:=hw2.trans (Kept.mod (S:=λ_=>False) hk24) (λ_ _ h=>h) (λ_ _ h=>h.elim);have hol:(out++[((U.root:Int),(dp:Int))]).length=out.length+1:=by simp
   cases U with
   |leaf i=>
    obtain⟨y,hy,hyi⟩:=hIU;have:x=y:=by have hx':nodes[i]?=some x:=hx;rw[hy]at hx';simpa using hx'.symm
    subst this;rw[hyi];refine GG ?_;refine ih Ts (out++[(((BT.leaf i).root:Int),(dp:Int))]) u4 g' a3 c3 g3 (by rw[qi]at hm;simp only[BT.size]at hm;omega) (by rw[hX];simp[Dw,BT.Nb,EJ,BT.root]) (λV hV=>hIs V (by simp[hV])) (by rw[hol];exact hJ4) hw4 h34 hg3 (by have:=h3.le;omega)
   |node i lt rt=>
    obtain⟨y,hy,hyi,hlf,hrg,hIl,hIr⟩:=hIU;have:x=y:=by have hx':nodes[i]?=some x:=hx;rw[hy]at hx';simpa using hx'.symm
    subst this;rw[hyi];refine LW ?_;have z5:=lt.size_pos;have z6:=rt.size_pos;simp only[BT.size]at hlen hm hUs;refine⟨_,hb4.c7,_,hbs.rd rfl,?_⟩;refine bM (by omega) (by omega) ?_;refine⟨_,hb4.c6,_,hbs.rd rfl,?_⟩;refine bM (by omega) (by omega) ?_;rw[hlf,hrg];refine h34.pY (m:=2) XD (λ_=>rfl) (by omega) WR (ys:=[((rt.root:Int),((dp+1:Nat):Int)),((lt.root:Int),((dp+1:Nat):Int))]) rfl rfl (by omega) (by simp only[maxLen];omega) (by omega) λa6 c6 g6 u5 h6 hg6 hg60 ho5=>⟨_,_,_,rfl,?_⟩;have h6':=Qy Ts (rt,dp+1) (lt,dp+1);simp only at h6';rw[h6']at h6;have hg3le:=h34.le;obtain⟨j5,j6,j7⟩:=hJg _ _ _ hJ4;have hne':g'≠g3:=by have:=h3.le;omega
    refine ih ((lt,dp+1)::(rt,dp+1)::Ts) (out++[(((BT.node i lt rt).root:Int),(dp:Int))]) u5 g' a6 c6 g6 (by rw[qi]at hm;simp only[BT.size]at hm;rw[qi,qi];simp only;omega) (by rw[hX];simp[Dw,BT.Nb,EJ,BT.root]) (λV hV=>?_) (by rw[hol];exact hst _ _ _ _ hJ4 (ho5.weak λb _ hb=>⟨by omega,by omega⟩)) (hw4.trans ho5 (λ_ _ h=>h) (λb _ h => .inr (.inr (by omega)))) h6 (by omega) (by omega);simp only[zb3]at hV
    rcases hV with h | h | h
    .subst h;exact⟨hIl,by simp only;omega⟩
    .subst h;exact⟨hIr,by simp only;omega⟩
    .exact hIs V (by simp[h])
theorem Pq{T:BT}{V:Nat->Prop}(hG:Good F W a n c nodes)(hTr:Tree iC nodes T)(hT:At2 W p o a n c)(hV:∀b,V b->b<W.heap.size)(hpV:¬ V p.block)(hFV:∀b,F b->¬ V b) :
  Y0 prog 100 #[.pointer (some p)] (EJ (T.Nb 0)) V W:=by
 intro l J u hb hl1 hl2 hst hJg hrd h0;show E.CallsD prog 100 #[.func (.yield l) #[] #[],.pointer (some p)] u _;refine eX.calls ?_;unfold eX eX.g0;have hGu:=hG.kept hb;have hTu:=hT.kept hb;have hlen:(EJ (T.Nb 0)).length=n:=by rw[sK,BT.uh,<- BT.gU,hTr.length,hG.len]
 refine bZ ?_;have hk:=zg3 u (.cells #[.int .i64 0,.int .i64 0] 166);have h3:=aK.new (k:=2) (en:=enR) (λ_=>rfl) 166 u [((0:Int),(0:Int))] #[.int .i64 0,.int .i64 0] rfl (by simp[maxLen]);have h3':[((0:Int),(0:Int))]=Q8 [(T,0)]:=by simp[Q8,EJ,hTr.root]
 rw[h3']at h3;obtain⟨j1,j2,j3⟩:=hJg _ _ _ h0;have hsz:T.size=n:=by rw[<- BT.gU,hTr.length,hG.len]
 refine⟨_,SY (W:=u) (p:=p) (o:=o) (F:=F) (V:=V) hGu hTr hTu (λb hb=>zf5 (hV b hb) hl1) hpV hFV (zf5 hT.lt hl1) (λb hb=>zf5 (hG.old b hb) hl1) hl2 hst hJg hrd (λg u h=>⟨g,h⟩) (by omega) (Rl [(T,0)]) [(T,0)] [] _ 0 (some (na u)) 1 (u.heap.size+1) (zb4 _) (by simp[Dw]) (λU hU=>by simp at hU;subst hU;exact⟨hTr.is,by simp only;omega⟩) (HY hst h0 hk) (Kept.mod hk) h3 (by omega) (by omega)⟩
end
end Go.Mir
