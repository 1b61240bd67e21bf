/- Part of a proof; no conditions. -/
import Derived.Test.YtmjlipmapfofmaaGreatTA
set_option linter.unusedVariables false
set_option linter.unusedSimpArgs false
set_option linter.unusedSectionVars false
set_option maxRecDepth 100000
open Go.Proofs.Tryz (prog)
namespace Go.Mir
open Go Go.E Go.RowKit Go.Tr
section
variable{w:World}{p:Addr}{o:Int}{a:Option Addr}{n c:Nat}{F:Nat->Prop}{nodes:List ND}
noncomputable def gW(nodes:List ND):BT:=open Classical in if h:(dY iC nodes).1=0 then Classical.choose (NK h) else .leaf 0
theorem bW(h:(dY iC nodes).1=0):Tree iC nodes (gW nodes):=by
 unfold gW;rw[dif_pos h];exact Classical.choose_spec (NK h)
def jM(nodes:List ND)(i:Nat):Bool:=(nodes[i]?.map ND.inner).getD false
def pick(nodes:List ND)(b:Bool)(l:List Nat):List Nat:=l.filter λi=>jM nodes i==b
noncomputable def dA(nodes:List ND)(b:Bool):List Nat:=if(dY iC nodes).1=0 then pick nodes b (gW nodes).pre else[]
theorem Zy(hw:At2 w p o a n c):E.CallsD prog 85 #[vT o a n c] w λv u=>v = .func (.func 100) #[] #[.pointer (some (na w))]/\At2 u (na w) o a n c/\Kept w u:=by
 refine jK.calls ?_;unfold jK jK.g0;exact qc λu _ hT hk=>⟨rfl,hT,hk⟩
theorem Qa{S:Nat->Prop}{w u x:World}(h:Kept w u)(k:Mod S u x)(hS:∀b,S b->w.heap.size<=b):Kept w x :=
 ((Kept.mod (S:=λ_=>False) h).trans k (U:=λb=>w.heap.size<=b) (λ_ _ h=>h.elim) (λb _ h=>hS b h)).kept (λb h1 h2=>by omega)
theorem box1{e:Nat}{v:Value}{w:World}{K:zg6}(hk:∀u,Blk u w.heap.size #[v] e->u.cell? (na w)=some v->Kept w u->K u):nw (w.alloc (.cells #[v] e)) K:=by
 have b:=Blk.new w #[v] e;exact bZ (hk _ b (by have:=b.rd (b:=w) (i:=0) (v:=v) rfl;rwa [add_zero]at this) (zg3 w _))
theorem pg{w u:World}{v:Value}{e:Nat}(h:Blk u w.heap.size #[v] e):u.cell? (na w)=some v:=by have:=h.rd (b:=w) (i:=0) (v:=v) rfl;rwa [add_zero]at this
theorem VA(b:Bool)(hG:Good F w a n c nodes):E.CallsD prog 68 #[vT o a n c,.bool b] w λv u=>∃a' n' c',v = .tuple #[.slice a' n' c',.int .i64 (dY iC nodes).1]/\CO enI 3 w u a' n' c' (qg (dA nodes b)):=by
 refine iK.calls ?_;unfold iK iK.g0;refine qc λw1 _ hT1 hk1=>box1 λw2 hb2 _ hk2=>?_;have hT2:=hT1.kept hk2;have hk12:=zg1 hk1 hk2;have hG2:=hG.kept hk12;refine⟨_,hT2.c0,_,_,_,hT2.c1,?_⟩;refine zg0 (Vp (o:=o) hG2.max hG2.short hG2.ls hG2.old) λv w3 ⟨hv,hk3⟩=>⟨_,_,hv,?_⟩;have hk13:=zg1 hk12 hk3;refine ja (λhne=>⟨_,_,_,rfl,0,?_,.inl rfl,hk13⟩) λh0=>?_
 .have:dA nodes b=[]:=by unfold dA;rw[if_neg hne]
  rw[this];exact Arr.nil _ _ _
 have hTr:=bW h0;obtain⟨T,hTe⟩:∃T,gW nodes=T:=⟨_,rfl⟩;rw[hTe]at hTr;have hthose:dA nodes b=pick nodes b T.pre:=by unfold dA;rw[if_pos h0,hTe]
 refine box1 λw4 hb4 _ hk4=>?_;have hT4:=hT2.kept (zg1 hk3 hk4);refine⟨_,hT4.c0,_,_,_,hT4.c1,?_⟩;refine zg0 (Zy hT4) λv w5 ⟨hv,hTit,hk5⟩=>⟨_,rfl,?_⟩;subst hv;have hk25:=zg1 (zg1 hk3 hk4) hk5;have hk15:=zg1 hk12 hk25;have hT5:=hT2.kept hk25;have hb25:=hb2.mod (Kept.mod (S:=λ_=>False) hk25) (λh=>h);have hb45:=hb4.mod (Kept.mod (S:=λ_=>False) hk5) (λh=>h);have hG5:=hG.kept hk15;have s1:=hk1.size;have s2:=hk2.size;have s3:=hk3.size;have s4:=hk4.size;have s5:=hk5.size;have l4:w3.heap.size<w4.heap.size:=hb4.lt;have l2:w1.heap.size<w2.heap.size:=hb2.lt;have l1:w.heap.size<w1.heap.size:=hT1.lt;have hn:=hG.len;have hm:=hG.max;obtain⟨X,hX⟩:∃X,EJ (T.Nb 0)=X:=⟨_,rfl⟩;have hXl:X.length=n:=by rw[<- hX,sK,BT.uh,<- BT.gU,hTr.length,hn]
 have hXf:∀(k:Nat) (x:Int×Int),X[k]?=some x->∃i,T.pre[k]?=some i/\x.1=(i:Int):=by
  intro k x hx;rw[<- hX]at hx;unfold EJ at hx;rw[zc1]at hx;obtain⟨y,hy,rfl⟩:=zd7.1 hx;exact⟨y.1,by rw[<- T.yz 0,zc1,hy];rfl,rfl⟩
 obtain⟨J,hJ⟩:∃J:Nat->Nat->World->Prop,J=λk g u=>(∃a' n' c',Blk u w3.heap.size #[.slice a' n' c'] 53/\Arr enI 3 u a' n' c' (qg (pick nodes b (T.pre.take k))) g)/\(g=0\/w5.heap.size<g)/\Mod (λb=>b=w3.heap.size\/w5.heap.size<=b) w5 u:=⟨_,rfl⟩;refine⟨100,#[.pointer (some (na w4))],X,λb=>b=w3.heap.size,J,rfl,by kernel_rfl,λb hb=>by omega,?_,?_,?_,?_,?_,?_⟩
 .rw[<- hX];refine Pq (o:=o) (F:=F) hG5 hTr hTit (λb hb=>by omega) ?_ (λb hb h=>?_)
  .show¬ (w4.heap.size=w3.heap.size);omega
  .have:=hG.old b hb;omega
 .intro k g u u' h hmod;rw[hJ]at h ⊢;obtain⟨⟨a',n',c',h1,h2⟩,h3,h4⟩:=h;exact⟨⟨a',n',c',h1.mod hmod (λh=>by omega),h2.mod hmod (λk e h=>h.2 e)⟩,h3,h4.trans hmod (λ_ _ h=>h) (λb _ h => .inr h.1)⟩
 .intro k g u h;rw[hJ]at h;obtain⟨⟨a',n',c',h1,h2⟩,h3,h4⟩:=h;exact⟨h3,h2.le,h4.size⟩
 .rw[hJ];exact⟨⟨none,0,0,hb45,Arr.nil _ _ _⟩,.inl rfl,Mod.refl _⟩
 .intro k g x u hx h;obtain⟨i,hi,hxi⟩:=hXf k x hx;rw[hJ]at h ⊢;obtain⟨⟨a',n',c',h1,h2⟩,h3,h4⟩:=h;have hin:i<n:=by rw[hn];exact(hTr.mem i).1 (za0 hi)
  have hTu:=hT5.mod h4 (λh=>by have e:(na w).block=w.heap.size:=rfl;omega);have hLu:=hG5.ls.mod h4 (λb hb h=>by have:=hG.old b hb;omega);have hbu:=hb25.mod h4 (λh=>by omega);have hlen:n'=(pick nodes b (T.pre.take k)).length:=by rw[h2.len,pJ]
  have hle:(pick nodes b (T.pre.take k)).length<=n:=by
   have:=List.length_filter_le (λi=>jM nodes i==b) (T.pre.take k);have h7:(T.pre.take k).length<=T.pre.length:=by rw[zb6];omega
   rw[hTr.length,<- hn]at h7;exact zb5 this h7
  refine⟨_,_,_,hTu.c1,?_⟩;refine hLu.rdN (by omega) (by omega) λy a5 n5 c5 hy hcs=>⟨y.inner,λu1 hu1=>zg0 (yZ u1 y a5 n5 c5) λv u2 ⟨hv,hk⟩=>⟨hv,zg1 hu1 hk⟩,b,pg hbu,λu1 hu1=>?_⟩;rw[hxi,za3]at hy;have hia:jM nodes i=y.inner:=by unfold jM;rw[hy];rfl
  have hts:=take_snoc hi;have z1:=h4.size;have h1':=h1.mod (Kept.mod (S:=λ_=>False) hu1) (λh=>h);refine(aQ _ _ _).2 ⟨λhb=>?_,λhb=>?_⟩
  .refine⟨_,_,_,pg h1',?_⟩;have hp1:pick nodes b (T.pre.take (k+1))=pick nodes b (T.pre.take k)++[i]:=by
    rw[hts];unfold pick;rw[List.filter_append,List.filter_cons_of_pos (by rw[hia];exact hb)];rfl
   rw[hxi];refine(h2.kept hu1).push S_I (x:=(i:Int)) rfl rfl (by simp only[maxLen];omega) (by omega) λa6 c6 g6 u3 h6 hg6 hg60 ho=>⟨_,_,_,rfl,?_⟩;have h13:=h1'.mod ho (λh=>by omega);rw[gK];refine⟨h13.ok (by simp),bZ ?_⟩;have hs:=h13.set 0 (.slice a6 (n'+1) c6);have hz:=hu1.size;have hz3:=ho.size;have ho2:=zg5 u3 w3.heap.size 0 (.slice a6 (n'+1) c6);refine⟨g6,⟨⟨a6,n'+1,c6,hs,?_⟩,by omega,?_⟩,by omega,?_⟩
   .rw[hp1,zx];exact h6.mod ho2 λk e h=>by omega
   .refine((h4.trans (Kept.mod (S:=λ_=>False) hu1) (U:=λb=>b=w3.heap.size\/w5.heap.size<=b) (λ_ _ h=>h) (λ_ _ h=>h.elim)).trans ho (λ_ _ h=>h) (λb _ h => .inr (by omega))).trans ho2 (λ_ _ h=>h) (λb _ h => .inl (by omega))
   .refine((Kept.mod (S:=λ_=>False) hu1).trans ho (U:=λb=>b=w3.heap.size\/b+1=g) (λ_ _ h=>h.elim) (λb _ h => .inr h)).trans ho2 (λ_ _ h=>h) (λb _ h => .inl (by omega))
  .have hp1:pick nodes b (T.pre.take (k+1))=pick nodes b (T.pre.take k):=by
    rw[hts];unfold pick;rw[List.filter_append,List.filter_cons_of_neg (by rw[hia,hb];simp)];simp
   exact⟨g,⟨⟨a',n',c',h1',by rw[hp1];exact h2.kept hu1⟩,h3,h4.trans (Kept.mod (S:=λ_=>False) hu1) (λ_ _ h=>h) (λ_ _ h=>h.elim)⟩,.inl rfl,Kept.mod hu1⟩
 .intro g D u h hD1 hD2 hDg hD;rw[hJ]at h;obtain⟨⟨a',n',c',h1,h2⟩,h3,h4⟩:=h;refine⟨_,_,_,pg h1,hD,bZ ⟨a',n',c',by rw[h0],g,?_,by omega,?_⟩⟩
  .rw[hXl,zb1 (by rw[hTr.length,hn];exact zb4 _),<- hthose]at h2;exact h2.mod (Mod.put (S:=λb=>b=D) u _ rfl) λk e h=>by omega
  .exact Qa hk15 (h4.trans (Mod.put (S:=λb=>b=D) u (.deferred none) rfl) (U:=λb=>w.heap.size<=b) (λb _ h=>by omega) (λb _ h=>by omega)) (λb h=>h)
theorem yB(hG:Good F w a n c nodes):E.CallsD prog 48 #[vT o a n c] w λv u=>∃a' n' c',v = .tuple #[.slice a' n' c',.int .i64 (dY iC nodes).1]/\CO enI 3 w u a' n' c' (qg (dA nodes false)):=by
 refine iE.calls ?_;unfold iE iE.g0;refine qc λw1 _ hT hk=>⟨_,hT.c0,_,_,_,hT.c1,?_⟩;exact zg0 (VA (o:=o) false (hG.kept hk)) λv u ⟨a',n',c',hv,hn⟩=>⟨_,_,_,_,hv,a',n',c',rfl,hn.ahead hk⟩
end
section
variable{w w1:World}{p:Addr}{o:Int}{a:Option Addr}{n c:Nat}{F:Nat->Prop}{nodes:List ND}
theorem OW{T:BT}{k i:Nat}{b:Bool}(hi:T.pre[k]?=some i):pick nodes b (T.pre.take (k+1))=if jM nodes i==b then pick nodes b (T.pre.take k)++[i] else pick nodes b (T.pre.take k):=by
 rw[take_snoc hi];unfold pick;rw[List.filter_append]
 split
 .rename_i h;simp[h]
 .rename_i h;simp[h]
theorem NS(b:Bool)(l:List Nat):(pick nodes b l).length<=l.length:=List.length_filter_le _ _
theorem Jl{l:List Nat}{k i:Nat}(h:l[k]?=some i):(qg l)[k]?=some (i:Int):=by simp[qg,h]
theorem Af{R:Value->zg6}{T:BT}{lf:Bool}(hG:Good F w1 a n c nodes)(hTr:Tree iC nodes T)(hT:At2 w1 p o a n c){a2:Option Addr}{c2:Nat}
  (hend:∀w a' n' c' g,From w1.heap.size w1 w->Arr enI 3 w a' n' c' (qg (pick nodes (!lf) T.pre)) g->(g=0\/w1.heap.size<g)->R (.tuple #[.slice a' n' c',.int .i64 0]) w) :
  ∀(m k:Nat) (w:World) (a8:Option Addr) (n8 c8 g8:Nat),k+m=n->From w1.heap.size w1 w->Sl enI w a2 n (qg T.pre)->Arr enI 3 w a8 n8 c8 (qg (pick nodes (!lf) (T.pre.take k))) g8->(g8=0\/w1.heap.size<g8)->(∀b,(∃i,a2=some ⟨b,i,none⟩)->b+1≠g8)->Sl enI w1 a2 n (qg T.pre)->bP.l18 R (m+1) lf (some p) a8 n8 c8 a2 n c2 n k w
 |0,k,w,a8,n8,c8,g8,hk,hw,h2,h8,hg8,hd,h21=>by
  rw[bP.u18];unfold bP.g18;refine aA (by omega) ?_;rw[zb1 (by rw[hTr.length,<- hG.len];omega)]at h8;exact hend w a8 n8 c8 g8 hw h8 hg8
 |m+1,k,w,a8,n8,c8,g8,hk,hw,h2,h8,hg8,hd,h21=>by
  rw[bP.u18];unfold bP.g18;refine aH (by omega) ?_;have hn:=hG.len;have hmx:=hG.max;have hkl:k<T.pre.length:=by rw[hTr.length,<- hn];omega
  have hi:T.pre[k]?=some (T.pre[k]'hkl):=za2 _;obtain⟨i,hie⟩:∃i,T.pre[k]'hkl=i:=⟨_,rfl⟩;rw[hie]at hi;have hin:i<n:=by rw[hn];exact(hTr.mem i).1 (za0 hi)
  refine h2.rdI (k := .i64) (by omega) (by omega) λy hy=>?_;rw[za3,Jl hi]at hy;obtain rfl:y=(i:Int):=by simpa using hy.symm
  refine dE ⟨_,_,_,(hT.from hw).c1,?_⟩;have hGw:=hG.from hw;refine hGw.ls.rdF (by omega) (by omega) λq x a' n' c' hx _ h8x=>⟨_,h8x.c0,?_⟩;rw[za3]at hx;have hia:jM nodes i=x.inner:=by unfold jM;rw[hx];rfl
  have hki:(x.kind==1) = !x.inner:=by
   have:=zi hTr hx
   cases hxi:x.inner with
   |true=>have:=this.2 hxi;simpa using this
   |false=>
    have h1:x.kind=1:=ze4 λh=>by have:=this.1 h;rw[hxi]at this;cases this
    simp[h1]
  have hp:=OW (nodes:=nodes) (b := !lf) hi;rw[hia]at hp;have hc:((x.kind==1)==lf)=(x.inner == !lf):=by rw[hki];cases x.inner <;> cases lf <;> rfl
  have h8l:n8=(pick nodes (!lf) (T.pre.take k)).length:=by rw[h8.len,pJ]
  have hple:=NS (nodes:=nodes) (!lf) (T.pre.take k);rw[zb6]at hple;rw[hc];refine(aQ _ _ _).2 ⟨λhb=>?_,λhb=>?_⟩
  .rw[if_pos hb]at hp;refine h8.push S_I (x:=(i:Int)) rfl rfl (by simp only[maxLen];omega) (by omega) λa6 c6 g6 u3 h6 hg6 hg60 ho=>⟨_,_,_,rfl,?_⟩;refine aC (by omega) ?_;have hu:=hw.only ho hg8;have hz:=hw.size;refine Af hG hTr hT hend m (k+1) u3 a6 (n8+1) c6 g6 (by omega) hu (h21.from hu) (by rw[hp,zx];exact h6) (by omega) (λb hb=>?_) h21;obtain⟨i0,rfl⟩:=hb;have hlt:b<w1.heap.size:=by
    obtain⟨q,hq,hcq⟩:=h21.at (i:=k) (by omega);cases hq;have:=block_lt_of_cell hcq
    rwa [add_block]at this
   omega
  .rw[if_neg (by simp[hb])]at hp;refine aC (by omega) ?_;rw[<- hp]at h8;exact Af hG hTr hT hend m (k+1) w a8 n8 c8 g8 (by omega) hw h2 h8 hg8 hd h21
theorem OE(lf:Bool)(hG:Good F w a n c nodes):E.CallsD prog 77 #[vT o a n c,.bool lf] w λv u=>∃a' n' c',v = .tuple #[.slice a' n' c',.int .i64 (dY iC nodes).1]/\CO enI 3 w u a' n' c' (qg (dA nodes (!lf))):=by
 refine bP.calls ?_;unfold bP bP.g0;refine qc λw1 _ hT1 hk1=>⟨_,hT1.c0,_,_,_,hT1.c1,?_⟩;have hG1:=hG.kept hk1;refine zg0 (KX (o:=o) hG1.max hG1.short hG1.ls hG1.old) λv w2 ⟨hv,hk2⟩=>⟨_,_,hv,?_⟩;have hk12:=zg1 hk1 hk2;refine ja (λhne=>⟨_,_,_,rfl,0,?_,.inl rfl,hk12⟩) λh0=>?_
 .have:dA nodes (!lf)=[]:=by unfold dA;rw[if_neg hne]
  rw[this];exact Arr.nil _ _ _
 have hTr:=bW h0;have hT2:=hT1.kept hk2;have hG2:=hG.kept hk12;refine⟨_,hT2.c0,_,_,_,hT2.c1,?_⟩;refine zg0 (Qg (o:=o) hG2 hTr) λv w3 ⟨a3,c3,hv,hn3⟩=>⟨_,_,_,hv,?_⟩;have hk13:=zg1 hk12 hn3.kept;have hs3:=hn3.sl;have s:=hk13.size;refine⟨n+1,Af (w1:=w3) (p:=na w) (o:=o) (F:=F) (hG.kept hk13) hTr (hT2.kept hn3.kept) (λu a' n' c' g hu h hg=>⟨_,_,_,by rw[h0],g,?_,by omega,zg1 hk13 (zg4 hu)⟩) n 0 w3 none 0 0 0 (by omega) (From.refl _ _) hs3 (Arr.nil _ _ _) (.inl rfl) (λb _=>by omega) hs3⟩;unfold dA;rw[if_pos h0];exact h
theorem zo(hG:Good F w a n c nodes):E.CallsD prog 52 #[vT o a n c] w λv u=>∃a' n' c',v = .tuple #[.slice a' n' c',.int .i64 (dY iC nodes).1]/\CO enI 3 w u a' n' c' (qg (dA nodes false)):=by
 refine dI.calls ?_;unfold dI dI.g0;refine qc λw1 _ hT hk=>⟨_,hT.c0,_,_,_,hT.c1,?_⟩;exact zg0 (OE (o:=o) true (hG.kept hk)) λv u ⟨a',n',c',hv,hn⟩=>⟨_,_,_,_,hv,a',n',c',rfl,hn.ahead hk⟩
end
abbrev enF(f:Nat):Value := .float .f64 f
def uF(d:Int)(x:ND):Bool := !x.inner||decide (x.feature<d)
def pF(nodes:List ND)(d:Int):Bool:=nodes.all (uF d)
section
variable{w:World}{a1:Option Addr}{n1:Nat}{nodes:List ND}{xs:List Nat}
theorem fits_all{d:Int}(h:pF nodes d=true){i:Nat}{x:ND}(hx:nodes[i]?=some x)(hi:x.inner=true):x.feature<d:=by
 have:=zd8.1 h x (za0 hx);unfold uF at this;rw[hi]at this;simpa using this
theorem rdX(hx:Sl enF w a1 n1 xs){i:Int}{K:Nat->Prop}(h0:0<=i)(hi:i<n1)(hk:K (xs.getD i.toNat 0)) :
  aV a1 λq=>chk (0<=i/\i<(n1:Int)) (∃y:Nat,w.cell? (q.add (i.toNat*1))=some (.float .f64 y)/\K y):=by
 refine hx.rd (f:=λy => .float .f64 y) (sel:=λx=>x) (λ_=>rfl) h0 hi λy hy=>?_;rw[za8,hy]at hk;exact hk
end
section
variable{w w1:World}{o:Int}{a:Option Addr}{n c c1:Nat}{F:Nat->Prop}{nodes:List ND}
theorem qA{R:Value->zg6}{d:Int}(hG:Good F w1 a n c nodes)(hkd:∀(i:Nat) x,nodes[i]?=some x->(x.kind≠1↔x.inner=true))(hend:∀u,From w1.heap.size w1 u->R (.bool (pF nodes d)) u) :
  ∀(k i:Nat) (w:World),i+k=n->From w1.heap.size w1 w->pF nodes d=(nodes.drop i).all (uF d)->bQ.l6 R (k+1) d a n c n i w
 |0,i,w,hi,hw,he=>by
  rw[bQ.u6];unfold bQ.g6;refine aA (by omega) ?_;rw[List.drop_eq_nil_of_le (by rw[<- hG.len];omega)]at he;have:=hend w hw;rw[he]at this;exact this
 |k+1,i,w,hi,hw,he=>by
  rw[bQ.u6];unfold bQ.g6;refine aH (by omega) ?_;have hn:=hG.len;have hmx:=hG.max;refine(hG.from hw).ls.rdN (by omega) (by omega) λx a' n' c' hx _=>?_;rw[za3]at hx;rw[drop_cons hx,List.all_cons]at he;refine qm λu _ hb hk=>⟨_,hb.c0,?_⟩;have hu:=hw.aG hk;unfold uF at he;refine ja (λhin=>⟨_,hb.c2,?_⟩) λhin=>?_
  .rw[(hkd i x hx).1 hin]at he;refine(aQ _ _ _).2 ⟨λhge=>?_,λhge=>?_⟩
   .have:=of_decide_eq_true hge;have h2:=hend u hu;rw[he,decide_eq_false (by omega)]at h2;exact h2
   .have:=of_decide_eq_false hge;rw[decide_eq_true (by omega),Bool.or_true,Bool.true_and]at he;refine aC (by omega) ?_;exact qA hG hkd hend k (i+1) u (by omega) hu he
  .have hf:x.inner=false:=by
    cases h:x.inner with
    |false=>rfl
    |true=>exact absurd hin ((hkd i x hx).2 h)
   rw[hf]at he;simp only[Bool.not_false,Bool.true_or,Bool.true_and]at he;refine aC (by omega) ?_;exact qA hG hkd hend k (i+1) u (by omega) hu he
theorem Ph{d:Int}(hG:Good F w a n c nodes)(hkd:∀(i:Nat) x,nodes[i]?=some x->(x.kind≠1↔x.inner=true)):Pure prog 51 #[vT o a n c,.int .i64 d] w (.bool (pF nodes d)):=by
 refine bQ.calls (R:=λv' u=>v'=_/\Below w.heap.size w u) ?_;unfold bQ bQ.g0;refine qc λw1 _ hT hk=>⟨_,_,_,hT.c1,n+1,?_⟩;exact qA (w1:=w1) (F:=F) (hG.kept hk) hkd (λu hu=>⟨rfl,zg1 hk (zg4 hu)⟩) n 0 w1 (by omega) (From.refl _ _) rfl
end
section
variable{nodes:List ND}
theorem QP(b:Bool):(dA nodes b).length<=nodes.length:=by
 unfold dA
 split
 .rename_i h;rw[<- (bW h).length];exact NS _ _
 .simp
theorem Hf{T:BT}(hI:Is nodes T):T.leaves=pick nodes false T.pre:=by
 rw[hI.leaves];unfold pick jM;congr 1;funext i
 cases (Option.map ND.inner nodes[i]?).getD false <;> rfl
end
end Go.Mir
