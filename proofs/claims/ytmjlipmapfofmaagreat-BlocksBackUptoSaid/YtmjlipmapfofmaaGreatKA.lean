/- Part of a proof; no conditions. -/
import Derived.Test.YtmjlipmapfofmaaGreatTE
import Derived.Test.YtmjlipmapfofmaaGreatEC
set_option linter.unusedVariables false
set_option linter.unusedSimpArgs false
set_option linter.unusedSectionVars false
set_option maxRecDepth 100000
open Go.Proofs.Tryz (prog)
namespace Go.Mir
open Go Go.E Go.RowKit Go.Tr
section
variable{w W:World}{p2:Addr}{o:Int}{a:Option Addr}{n c:Nat}{F:Nat->Prop}{nodes:List ND}
noncomputable def lvE(nodes:List ND):Int:=if(dY iC nodes).1=0 then(if 4096<(dA nodes false).length then 3 else 0) else(dY iC nodes).1
noncomputable def lvN(nodes:List ND):Nat:=if lvE nodes=0 then(dA nodes false).length else 0
theorem ER(h:(dY iC nodes).1≠0):lvE nodes=(dY iC nodes).1/\lvN nodes=0:=by
 have e:lvE nodes=(dY iC nodes).1:=by unfold lvE;rw[if_neg h]
 refine⟨e,?_⟩;unfold lvN;rw[if_neg (by rw[e];exact h)]
theorem zW(h:(dY iC nodes).1=0)(hm:4096<(dA nodes false).length):lvE nodes=3/\lvN nodes=0:=by
 have e:lvE nodes=3:=by unfold lvE;rw[if_pos h,if_pos hm]
 refine⟨e,?_⟩;unfold lvN;rw[if_neg (by rw[e];decide)]
theorem UH(h:(dY iC nodes).1=0)(hm:¬ 4096<(dA nodes false).length):lvE nodes=0/\lvN nodes=(dA nodes false).length:=by
 have e:lvE nodes=0:=by unfold lvE;rw[if_pos h,if_neg hm]
 refine⟨e,?_⟩;unfold lvN;rw[if_pos e]
theorem Rt(hG:Good F w a n c nodes):Pure prog 87 #[vT o a n c] w (.tuple #[.int .i64 (lvN nodes),.int .i64 (lvE nodes)]):=by
 refine iw.calls (R:=λv' u=>v'=_/\Below w.heap.size w u) ?_;unfold iw iw.g0;refine qc λw1 _ hT hk=>⟨_,hT.c0,_,_,_,hT.c1,?_⟩;refine zg0 (yB (o:=o) (hG.kept hk)) λv u ⟨a',n',c',hv,hn⟩=>⟨_,_,_,_,hv,?_⟩;have hl:=hn.len;rw[pJ]at hl;have hku:=zg1 hk hn.kept
 by_cases h0:(dY iC nodes).1=0
 .rw[h0];refine LW ?_;refine fJ (λh1=>?_) λh1=>?_
  .obtain⟨e1,e2⟩:=zW h0 (by omega);rw[e1,e2];exact⟨rfl,hku⟩
  .obtain⟨e1,e2⟩:=UH h0 (by omega);rw[e1,e2,hl];exact⟨rfl,hku⟩
 .obtain⟨e1,e2⟩:=ER h0;refine xN h0 ?_;have:n'=0:=by rw[hl];unfold dA;rw[if_neg h0];rfl
  rw[e1,e2,this];exact⟨rfl,hku⟩
theorem AZ(hG:Good F w a n c nodes):Pure prog 50 #[vT o a n c] w (.tuple #[.int .i64 (lvN nodes),.int .i64 (lvE nodes)]):=by
 refine dO.calls (R:=λv' u=>v'=_/\Below w.heap.size w u) ?_;unfold dO dO.g0;refine qc λw1 _ hT hk=>⟨_,hT.c0,_,_,_,hT.c1,?_⟩;refine zg0 (zo (o:=o) (hG.kept hk)) λv u ⟨a',n',c',hv,hn⟩=>⟨_,_,_,_,hv,?_⟩;have hl:=hn.len;rw[pJ]at hl;have hku:=zg1 hk hn.kept
 by_cases h0:(dY iC nodes).1=0
 .rw[h0];refine sH rfl ?_;refine fJ (λh1=>?_) λh1=>?_
  .obtain⟨e1,e2⟩:=zW h0 (by omega);rw[e1,e2];exact⟨rfl,hku⟩
  .obtain⟨e1,e2⟩:=UH h0 (by omega);rw[e1,e2,hl];exact⟨rfl,hku⟩
 .obtain⟨e1,e2⟩:=ER h0;refine IP h0 ?_;rw[e1,e2];exact⟨rfl,hku⟩
theorem S_M:fV prog 131 135 3 24:=sliceT (by kernel_rfl)
def NJ(p2 p3 p4:Addr):Value := .func (.func 88) #[] #[.pointer (some p2),.pointer (some p3),.pointer (some p4)]
structure MSt(p2:Addr)(u b3 b4:World)(out:List MkD)(g:Nat):Prop where
 h3:∃a c,Blk u b3.heap.size #[.slice a out.length c] 131/\aK 3 enM 135 u a out.length c out g
 h4:u.cell? (na b4)=some (NJ p2 (na b3) (na b4))
 hg:g=0\/b4.heap.size+1<g
theorem Ri{P:Program}{f:FuncId}{args cap:Array Value}{w:World}{K:Value->zg6}(hb:kZ P f=true)(h:E.CallsD P f (args++cap) w K):zO P (.func (.func f) #[] cap) args w K:=by
 show(if kZ P f=true then E.CallsD P f (#[]++args++cap) w K else False);rw[if_pos hb];simpa using h
theorem VE:kZ prog 88=true:=by kernel_rfl
theorem wW{x y:Int}{p3 p4:Addr}{K:Value->zg6}(h:E.CallsD prog 88 #[.int .i64 x,.int .i64 y,.pointer (some p2),.pointer (some p3),.pointer (some p4)] w K):zO prog (NJ p2 p3 p4) #[.int .i64 x,.int .i64 y] w K :=
 Ri VE h
theorem TW{b3 b4:World}(hG:Good F W a n c nodes)(hT:At2 W p2 o a n c)(hW3:W.heap.size<=b3.heap.size)(hW4:b3.heap.size<b4.heap.size)(hkd:∀(i:Nat) x,nodes[i]?=some x->(x.kind≠1↔x.inner=true)) :
  ∀(T:BT) (k:Nat) (out:List MkD) (g:Nat) (w:World),Is nodes T->k+T.nl<=2097152->out.length+T.nl<=2097152->From W.heap.size W w->MSt p2 w b3 b4 out g ->
   E.CallsD prog 88 #[.int .i64 (T.root:Nat),.int .i64 (k:Nat),.pointer (some p2),.pointer (some (na b3)),.pointer (some (na b4))] w λv u=>
    v = .int .i64 (k+T.nl:Nat)/\∃g',MSt p2 u b3 b4 (out++T.marks k) g'/\(g'=g\/w.heap.size<g')/\Mod (λb=>b=b3.heap.size\/b+1=g) w u:=by
 intro T
 induction T with
 |leaf i=>
  intro k out g w hIs hk1 hk2 hw hst;have hroot:=hIs.root_lt;obtain⟨y,hy,hyi⟩:=hIs;have hn:=hG.len;simp only[BT.root]at hroot;refine eP.calls ?_;unfold eP eP.g0;refine⟨_,_,_,(hT.from hw).c1,?_⟩;simp only[BT.root];refine(hG.from hw).ls.rdN (by omega) (by omega) λx a5 n5 c5 hx _=>?_;rw[za3,hy]at hx;obtain rfl:y=x:=by simpa using hx
  have hkx:y.kind=1:=ze4 λh=>by have:=(hkd i y hy).1 h;rw[hyi]at this;cases this
  refine qm λu3 _ hb8 hk3=>⟨_,hb8.c0,?_⟩;refine kQ hkx ?_;rw[BT.tK]at hk1;refine bM (by omega) (by omega) ?_;obtain⟨⟨a3,c3,h3,h3'⟩,h4,hg⟩:=hst;refine⟨by rw[BT.tK];norm_cast,g,⟨⟨a3,c3,?_,?_⟩,Ff hk3 h4,hg⟩,.inl rfl,Kept.mod hk3⟩
  .simpa[BT.marks] using h3.keep hk3
  .simpa[BT.marks] using h3'.kept hk3
 |node i l r ihl ihr=>
  intro k out g w hIs hk1 hk2 hw hst;have hroot:=hIs.root_lt;obtain⟨y,hy,hyi,hlf,hrg,hIl,hIr⟩:=hIs;have hn:=hG.len;simp only[BT.root]at hroot;rw[BT.jR]at hk1 hk2;have p1:=l.mg;have p2':=r.mg;have l1:=l.kT k;refine eP.calls ?_;unfold eP eP.g0;refine⟨_,_,_,(hT.from hw).c1,?_⟩;simp only[BT.root];refine(hG.from hw).ls.rdN (by omega) (by omega) λx a5 n5 c5 hx _=>?_;rw[za3,hy]at hx;obtain rfl:y=x:=by simpa using hx
  have hkx:y.kind≠1:=(hkd i y hy).2 hyi;refine qm λu3 _ hb8 hk3=>⟨_,hb8.c0,?_⟩;refine xN hkx ?_;have hz0:=hw.size;have hz3:=hk3.size;have hblk:w.heap.size<u3.heap.size:=by have:=block_lt_of_cell hb8.c0;rwa [add_block]at this
  obtain⟨⟨a3,c3,h3,h3'⟩,h4,hg⟩:=hst;have hgw:=h3'.le;have h3lt:=h3.lt;have h4lt:=block_lt_of_cell h4;simp only[na]at h4lt;have h3k:=h3.keep hk3;have h4k:=Ff hk3 h4;refine⟨_,_,_,pg h3k,_,_,_,pg h3k,?_⟩;refine(h3'.kept hk3).push S_M wE (by omega) (x:=⟨(i:Nat),(k:Nat),0⟩) rfl (Qx _) (by simp only[maxLen];omega) (by omega) λa6 c6 g6 u5 h6 hg6 hg60 ho5=>⟨_,_,_,rfl,?_⟩;have h35:=h3k.mod ho5 (λh=>by omega);have h45:u5.cell? (na b4)=_:=ho5.cell (by simp only[na];omega) h4k;have hb85:=hb8.mod ho5 (by simp only[na];omega);refine h35.wr (i:=0) (v := .slice a6 (out.length+1) c6) (by simp) λu6 h36 ho6=>?_;have h46:u6.cell? (na b4)=_:=ho6.cell (by simp only[na];omega) h45;have hb86:=hb85.mod ho6 (by simp only[na];omega);have h66:=h6.mod ho6 (λb hb h=>by omega);have hz5:=ho5.size;have hz6:=ho6.size;refine⟨_,h46,_,hb86.c6,?_⟩;rw[hlf];refine wW ?_;have hw3:From W.heap.size W u3:=hw.aG hk3;have hw5:From W.heap.size W u5:=hw3.only ho5 (by omega);have hw6:From W.heap.size W u6:=hw5.only ho6 (.inr (by omega));have hl1:(out++[(⟨(i:Nat),(k:Nat),0⟩:MkD)]).length=out.length+1:=by simp
  refine zg0 (ihl k (out++[⟨(i:Nat),(k:Nat),0⟩]) g6 u6 hIl (by omega) (by rw[hl1];omega) hw6 ⟨⟨a6,c6,by rw[hl1];exact h36,by rw[hl1];exact h66⟩,h46,by omega⟩) λv u7 ⟨hv,g7,hst7,hg7,hm7⟩=>⟨_,hv,?_⟩;obtain⟨⟨a7,c7,h37,h77⟩,h47,hgg7⟩:=hst7;refine⟨_,_,_,pg h37,?_⟩;have hz7:=hm7.size;have hb87:=hb86.mod hm7 (λh=>by simp only[na]at h;omega);have hget:(out++[(⟨(i:Nat),(k:Nat),0⟩:MkD)]++l.marks k)[((out.length:Nat):Int).toNat]?=some ⟨(i:Nat),(k:Nat),0⟩:=by
   rw[za3,za5,zc0 (zb4 _),zf8];rfl
  have hset:(out++[(⟨(i:Nat),(k:Nat),0⟩:MkD)]++l.marks k).set ((out.length:Nat):Int).toNat ⟨(i:Nat),(k:Nat),(k+l.nl:Nat)⟩=out++(⟨(i:Nat),(k:Nat),(k+l.nl:Nat)⟩::l.marks k):=by
   rw[za3,za5,List.set_append_right _ _ (zb4 _),zf8];rfl
  have hl7:(out++[(⟨(i:Nat),(k:Nat),0⟩:MkD)]++l.marks k).length=out.length+1+(l.marks k).length:=by simp;omega
  have hl8:(out++((⟨(i:Nat),(k:Nat),(k+l.nl:Nat)⟩:MkD)::l.marks k)).length=out.length+1+(l.marks k).length:=by simp;omega
  refine aK.a1j h77 (by omega) (by rw[hl7];omega) hget λu8 h88 ho8=>?_;rw[hset,hl7,<- hl8]at h88;have hz8:=ho8.size;have h38:Blk u8 b3.heap.size _ _:=h37.mod ho8 (λh=>by omega);have h48:u8.cell? (na b4)=_:=ho8.cell (by simp only[na];omega) h47;have hb88:=hb87.mod ho8 (by simp only[na];omega);refine⟨_,h48,_,hb88.c7,?_⟩;rw[hrg];refine wW ?_;have hw7:From W.heap.size W u7:=hw6.then hm7 (λb hb h=>by omega);have hw8:From W.heap.size W u8:=hw7.only ho8 (by omega);refine zg0 (ihr (k+l.nl) (out++(⟨(i:Nat),(k:Nat),(k+l.nl:Nat)⟩::l.marks k)) g7 u8 hIr (by omega) (by rw[hl8];omega) hw8 ⟨⟨a7,c7,by rw[hl8,<- hl7];exact h38,h88⟩,h48,by omega⟩) λv u9 ⟨hv,g9,hst9,hg9,hm9⟩=>⟨_,hv,?_⟩;have eM:out++(⟨(i:Nat),(k:Nat),(k+l.nl:Nat)⟩::l.marks k)++r.marks (k+l.nl)=out++(BT.node i l r).marks k:=by simp[BT.marks]
  rw[eM]at hst9;refine⟨by rw[BT.jR,Nat.add_assoc],g9,hst9,by omega,?_⟩;have m1:Mod (λb=>b=b3.heap.size\/b+1=g) w u6:=((Kept.mod hk3:Mod (λb=>b=b3.heap.size\/b+1=g) w u3).trans ho5 (λ_ _ h=>h) (λb _ h => .inr h)).trans ho6 (λ_ _ h=>h) (λb _ h => .inl (by omega));have m2:Mod (λb=>b=b3.heap.size\/b+1=g) w u7:=m1.trans hm7 (λ_ _ h=>h) (λb hb h=>by omega);have m3:Mod (λb=>b=b3.heap.size\/b+1=g) w u8:=m2.trans ho8 (λ_ _ h=>h) (λb hb h=>by omega);exact m3.trans hm9 (λ_ _ h=>h) (λb hb h=>by omega)
end
section
variable{w w1 W:World}{o:Int}{a:Option Addr}{n c c1:Nat}{F:Nat->Prop}{nodes:List ND}{xs:List Nat}
def MV(w u:World)(a:Option Addr)(n c:Nat)(xs:List MkD):Prop:=∃g,aK 3 enM 135 u a n c xs g/\(g=0\/w.heap.size<g)/\Kept w u
theorem MV.kept{u:World}{xs:List MkD}(h:MV w u a n c xs):Kept w u:=by obtain⟨_,_,_,h⟩:=h;exact h
theorem MV.slk{u:World}{xs:List MkD}(h:MV w u a n c xs):SlK 3 enM u a n xs:=by obtain⟨_,h,_⟩:=h;exact h.slk wE (by omega)
theorem MV.len{u:World}{xs:List MkD}(h:MV w u a n c xs):n=xs.length:=h.slk.len
theorem MV.none(h:Kept w w1):MV w w1 none 0 0 []:=⟨0,aK.nil _ _ _ _,.inl rfl,h⟩
noncomputable def iq(nodes:List ND):List MkD:=if lvE nodes=0 then(gW nodes).marks 0 else[]
theorem gz(h:lvE nodes=0):(dY iC nodes).1=0/\(dA nodes false).length<=4096:=by
 by_cases h0:(dY iC nodes).1=0
 .refine⟨h0,?_⟩
  by_cases hm:4096<(dA nodes false).length
  .have:=(zW h0 hm).1;omega
  .omega
 .have:=(ER h0).1;omega
theorem RG(h:(dY iC nodes).1=0):(gW nodes).nl=(dA nodes false).length:=by
 have hTr:=bW h;unfold dA BT.nl;rw[if_pos h,Hf hTr.is]
theorem Vs(h:lvE nodes=0):lvN nodes=(gW nodes).nl/\(gW nodes).nl<=4096:=by
 obtain⟨h0,hm⟩:=gz h;have:=(UH h0 (by omega)).2;rw[this,RG h0];omega
theorem WI(hG:Good F w a n c nodes):E.CallsD prog 70 #[vT o a n c] w λv u=>∃a' n' c',v = .tuple #[.slice a' n' c',.int .i64 (lvE nodes)]/\MV w u a' n' c' (iq nodes):=by
 refine iT.calls ?_;unfold iT iT.g0;refine qc λw1 _ hT hk=>⟨_,hT.c0,_,_,_,hT.c1,?_⟩;refine zg0 (Rt (o:=o) (hG.kept hk)) λv u ⟨hv,hku⟩=>⟨_,_,hv,?_⟩;have hk1u:=zg1 hk hku;refine ja (λhne=>⟨_,_,_,rfl,?_⟩) λh0=>?_
 .have:iq nodes=[]:=by unfold iq;rw[if_neg hne]
  rw[this];exact MV.none hk1u
 obtain⟨hsh,_⟩:=gz h0;obtain⟨_,hnl⟩:=Vs h0;have hTr:=bW hsh;have hM:iq nodes=(gW nodes).marks 0:=by unfold iq;rw[if_pos h0]
 have hGu:=hG.kept hk1u;have hTu:=hT.kept hku;have z0:=hk1u.size;have z2:=hTu.lt;refine box1 λw2 h3 _ hk2=>box1 λw3 h4 _ hk3=>?_;have h33:=h3.keep hk3;have z3:=h33.lt;have z4:=h4.lt;have z5:=hk2.size;have e2:u.heap.size<w2.heap.size:=h3.lt;refine h4.wr (i:=0) (v:=NJ (na w) (na u) (na w2)) (by simp) λw4 h44 ho4=>?_;have h34:=h33.mod ho4 (λh=>by omega);refine⟨_,pg h44,?_⟩;refine wW ?_;have hw4:From u.heap.size u w4:=((Kept.fr hk2).aG hk3).only ho4 (.inr (by omega));have hc:=TW (W:=u) (b3:=u) (b4:=w2) hGu hTu (by omega) e2 (λi x hx=>zi hTr hx) (gW nodes) 0 [] 0 w4 hTr.is (by omega) (by simp;omega) hw4 ⟨⟨_,_,h34,aK.nil _ _ _ _⟩,pg h44,.inl rfl⟩;rw[hTr.root]at hc;refine zg0 hc λv w5 ⟨hv,g5,hst,hg5,hm5⟩=>⟨_,hv,?_⟩;obtain⟨⟨a5,c5,h35,h55⟩,_,hgg⟩:=hst;refine⟨_,_,_,pg h35,_,_,_,by rw[h0],g5,?_,?_,?_⟩
 .rw[hM];exact h55
 .omega
 .exact zg1 hk1u (zg4 (hw4.then hm5 (λb hb h=>by omega)))
end
section
variable{nodes:List ND}
theorem tZ:∀(T:BT) (k:Nat),Is nodes T->(T.marks k).map MkD.node=qg (pick nodes true T.pre)
 | .leaf i,k,⟨x,hx,hi⟩=>by
  have:jM nodes i=false:=by unfold jM;rw[hx];exact hi
  simp[BT.marks,BT.pre,pick,this,qg]
 | .node i l r,k,⟨x,hx,hi,_,_,hl,hr⟩=>by
  have:jM nodes i=true:=by unfold jM;rw[hx];exact hi
  have h1:=tZ l k hl;have h2:=tZ r (k+l.nl) hr;unfold pick at h1 h2 ⊢;simp only[BT.marks,BT.pre,ze0,zb8,h1,h2,List.filter_cons,this,List.filter_append];simp[qg]
theorem NG{T:BT}{k:Nat}(hI:Is nodes T){m:MkD}(hm:m∈T.marks k):∃(i:Nat) (x:ND),m.node=(i:Int)/\nodes[i]?=some x/\x.inner=true:=by
 have h:m.node∈(T.marks k).map MkD.node:=ze8 hm;rw[tZ T k hI]at h;obtain⟨i,hi,he⟩:=zd4.1 h;unfold pick at hi;have h2:=(ze3.1 hi).2;unfold jM at h2
 cases hx:nodes[i]? with
 |none=>rw[hx]at h2;cases h2
 |some x=>rw[hx]at h2;exact⟨i,x,he.symm,hx,by simpa using h2⟩
theorem Ed(h0:lvE nodes=0){d:Int}(hf:pF nodes d=true):∀m∈iq nodes,∃(i:Nat) (x:ND),m.node=(i:Int)/\nodes[i]?=some x/\x.inner=true/\0<=x.feature/\x.feature<d:=by
 intro m hm;obtain⟨hsh,_⟩:=gz h0;have hTr:=bW hsh;unfold iq at hm;rw[if_pos h0]at hm;obtain⟨i,x,h1,h2,h3⟩:=NG hTr.is hm;obtain⟨_,_,_,_,b5,_⟩:=fH (hTr.right.ok i x h2) h3;exact⟨i,x,h1,h2,h3,b5,fits_all hf h2 h3⟩
end
section
variable{w w1:World}{p:Addr}{o:Int}{a:Option Addr}{n c c1:Nat}{F:Nat->Prop}{nodes:List ND}
def nlS(Ts:List BT):Nat:=(Ts.map BT.nl).sum
theorem Di(T:BT)(Ts:List BT):nlS (T::Ts)=T.nl+nlS Ts:=by simp[nlS]
def NF(w:World):Nat->Value->World->Prop:=λ_ v u=>∃b:World,v = .pointer (some (na b))/\w.heap.size<=b.heap.size/\Blk u b.heap.size #[.int .u8 0,.int .i64 0,.int .i64 0,.float .f64 0,.slice none 0 0,.int .u8 0,.int .i64 0,.int .i64 0] 56
theorem NF.keep{w:World}(i:Nat)(v:Value)(u u':World)(h:NF w i v u)(hk:Below u.heap.size u u'):NF w i v u':=by
 obtain⟨b,h1,h2,h3⟩:=h;exact⟨b,h1,h2,h3.keep hk⟩
theorem KA{R:Value->zg6}{tot:Nat}(hG:Good F w1 a n c nodes)(hT:At2 w1 p o a n c)(hkd:∀(i:Nat) x,nodes[i]?=some x->(x.kind≠1↔x.inner=true))
  (hend:∀u,From w1.heap.size w1 u->R (.int .i64 (tot:Nat)) u) :
  ∀(m:Nat) (Ts:List BT) (k:Nat) (w:World) (a4:Option Addr) (c4 g4:Nat),FM Ts<=m->k+nlS Ts=tot->k+FM Ts<=2097152->(∀U∈Ts,Is nodes U)->From w1.heap.size w1 w->Arr enI 3 w a4 Ts.length c4 (stk (Ts.map BT.root)) g4->w1.heap.size<g4->bD.l8 R (m+1) (some p) (k:Nat) a4 Ts.length c4 w:=by
 intro m
 induction m with
 |zero=>
  intro Ts k w a4 c4 g4 hm hk hb hIs hw h4 hg4;have:=oQ Ts;obtain rfl:Ts=[]:=za9 (by omega);rw[bD.u8];unfold bD.g8;refine aA (by simp) ?_;simp only[nlS,List.map_nil,List.sum_nil,zd2]at hk;rw[hk];exact hend w hw
 |succ m ih=>
  intro Ts k w a4 c4 g4 hm hk hb hIs hw h4 hg4;rw[bD.u8];unfold bD.g8
  cases Ts with
  |nil=>
   refine aA (by simp) ?_;simp only[nlS,List.map_nil,List.sum_nil,zd2]at hk;rw[hk];exact hend w hw
  |cons U Ts=>
   have hIU:=hIs U (by simp);have hroot:=hIU.root_lt;have hn:=hG.len;have hmx:=hG.max;have hpos:=U.size_pos;have hTs:=oQ Ts;rw[fZ]at hb hm;rw[Di]at hk;have hL:(U::Ts).length=Ts.length+1:=rfl;rw[hL]at h4 ⊢;refine aH (by omega) ?_;refine⟨NF w,NF.keep,dE ⟨_,_,_,(hT.from hw).c1,?_⟩⟩;refine bM (by omega) (by omega) ?_;have e0:(((Ts.length+1:Nat):Int) - 1).toNat=Ts.length:=by omega
   refine h4.sl.rdI (k := .i64) (by omega) (by omega) λy hy=>?_;rw[e0,ze0,show Ts.length=(Ts.map BT.root).length by simp,yF]at hy;obtain rfl:y=(U.root:Int):=by simpa using hy.symm
   refine(hG.from hw).ls.rdN (by omega) (by omega) λx a5 n5 c5 hx _=>?_;rw[za3]at hx;refine⟨λu hu=>⟨u,rfl,hu.size,Blk.new u _ _⟩,λq _ u hku hF=>?_⟩;obtain⟨b,hq,hbw,hblk⟩:=hF;simp only[Value.pointer.injEq,Option.some.injEq]at hq;subst hq;refine Zl hblk λu2 _ h8 ho2=>?_;have hu:=hw.aG hku;have hz:=hw.size;have hu2:=hu.only ho2 (.inr (by omega));refine bM (by omega) (by omega) ?_;refine dK ⟨by omega,by have:=h4.capLe;omega⟩ ⟨_,h8.c0,?_⟩;have h4':=(h4.take (m:=Ts.length) (by omega)).kept hku;have h4le:=h4.le;have h42:=h4'.mod ho2 (λb' h1 h2=>by omega);rw[ze0,show(stk (U.root::Ts.map BT.root)).take Ts.length=stk (Ts.map BT.root) from by
    have:=CQ U.root (Ts.map BT.root);rwa [za7]at this]at h42
   rw[e0,lC]
   cases U with
   |leaf i=>
    obtain⟨y,hy,hyi⟩:=hIU;obtain rfl:x=y:=by have hx':nodes[i]?=some x:=hx;rw[hy]at hx';simpa using hx'.symm
    have hkx:x.kind=1:=ze4 λh=>by have:=(hkd i x hy).1 h;rw[hyi]at this;cases this
    refine kQ hkx ?_;refine aC (by omega) ?_;rw[BT.tK]at hk;simp only[BT.size]at hb hm;exact ih Ts (k+1) u2 a4 c4 g4 (by omega) (by omega) (by omega) (λV hV=>hIs V (by simp[hV])) hu2 h42 hg4
   |node i l r=>
    obtain⟨y,hy,hyi,hl,hr,hIl,hIr⟩:=hIU;obtain rfl:x=y:=by have hx':nodes[i]?=some x:=hx;rw[hy]at hx';simpa using hx'.symm
    refine xN ((hkd i x hy).2 hyi) ⟨_,h8.c6,_,h8.c7,?_⟩;rw[hl,hr];simp only[BT.size]at hb hm;rw[BT.jR]at hk;refine h42.pY (m:=2) S_I (λ_=>rfl) (ys:=[(l.root:Int),(r.root:Int)]) rfl rfl (by omega) (by simp only[maxLen];omega) (by omega) λa6 c6 g6 u3 h6 hg6 hg60 ho3=>⟨_,_,_,rfl,?_⟩;rw[yK]at h6;have z2:=hku.size;have z3:=ho2.size;refine ih (r::l::Ts) k u3 a6 c6 g6 (by rw[fZ,fZ];omega) (by rw[Di,Di];omega) (by rw[fZ,fZ];omega) (λV hV=>?_) (hu2.only ho3 (.inr hg4)) h6 (by omega);simp only[zb3]at hV
    rcases hV with h | h | h
    .subst h;exact hIr
    .subst h;exact hIl
    .exact hIs V (by simp[h])
theorem MJ(hG:Good F w a n c nodes)(hkd:∀(i:Nat) x,nodes[i]?=some x->(x.kind≠1↔x.inner=true)){U:BT}(hI:Is nodes U)(hs:U.size<=2097152) :
  Pure prog 106 #[vT o a n c,.int .i64 (U.root:Nat)] w (.int .i64 (U.nl:Nat)):=by
 refine bD.calls (R:=λv' u=>v'=_/\Below w.heap.size w u) ?_;unfold bD bD.g0;refine qc λw1 _ hT hk=>bZ ?_;have hk2:=zg3 w1 (.cells #[.int .i64 (U.root:Nat)] 3);have h4:=Arr.new enI 3 w1 [(U.root:Int)] #[.int .i64 (U.root:Nat)] rfl (by simp[maxLen]);exact⟨_,KA (w1:=w1) (F:=F) (hG.kept hk) hT hkd (λu hu=>⟨rfl,zg1 hk (zg4 hu)⟩) (FM [U]) [U] 0 _ _ 1 (w1.heap.size+1) (zb4 _) (by simp[nlS]) (by simp[FM];omega) (λV hV=>by simp at hV;subst hV;exact hI) (Kept.mod hk2) h4 (by omega)⟩
end
section
variable{w W:World}{p:Addr}{o:Int}{a:Option Addr}{n c n1 c1:Nat}{F:Nat->Prop}{nodes:List ND}{xs:List Nat}
def BV(Ts:List (BT×Nat)):List MkD:=Ts.flatMap λx=>x.1.marks x.2
def QD(Ts:List (BT×Nat)):List Nat:=Ts.flatMap λx=>x.1.pre
def MF(x:MkD):Nat->Value->World->Prop:=λ_ v u=>∃q,v = .slice (some q) 1 1/\∀j y,(enM x)[j]?=some y->u.cell? (q.add j)=some y
theorem MF.keep{x:MkD}(i:Nat)(v:Value)(u u':World)(h:MF x i v u)(hk:Below u.heap.size u u'):MF x i v u':=by
 obtain⟨q,h1,h2⟩:=h;exact⟨q,h1,λj y hj=>Ff hk (h2 j y hj)⟩
theorem aK.Ze{e:Nat}{P:Program}{t ty by_ j:Nat}{a:Option Addr}{n c g:Nat}{xs:List MkD}(hT:fV P t e 3 by_)(h:aK 3 enM e w a n c xs g){x:MkD}{cs:Array Value}(hcs:cs.toList=enM x)(h63:n+1<=maxLen)(hb:(n+1)*by_<=140737488355328){K:Value->zg6}
  (hk:∀a' c' g' u u',Kept w u->aK 3 enM e u' a' (n+1) c' (xs++[x]) g'->(g'=g\/w.heap.size<g')->g'≠0->Only g u u'->K (.slice a' (n+1) c') u') :
  (∀u:World,Below w.heap.size w u->MF x j (.slice (some (na u)) 1 1) (u.alloc (.cells cs e))) /\
   (∀q:Addr,(∃u,Below w.heap.size w u/\MF x j (.slice (some q) 1 1) u)->∀u:World,Below w.heap.size w u->MF x j (.slice (some q) 1 1) u->dC P (Builtin.append_ #[t,t] ty #[.slice a n c,.slice (some q) 1 1]) u K):=by
 refine⟨λu hu=>⟨_,rfl,λj y hj=>by rw[uz,<- Array.getElem?_toList,hcs];exact hj⟩,λq _ u hu hF=>?_⟩;obtain⟨q',hq,hc⟩:=hF;simp only[Value.slice.injEq,Option.some.injEq]at hq;obtain⟨rfl,_⟩:=hq;refine aK.mY hT wE (by omega) (aK.kept h hu) hc (Qx _) h63 hb λa' c' g' u' h1 h2 h3 h4=>?_;exact hk a' c' g' u u' hu h1 (by have:=hu.size;omega) h3 h4
set_option maxHeartbeats 1000000 in
theorem oW{R:Value->zg6}{T:BT}{B:Nat}{a2 a6:Option Addr}{c2 g2 c6 g6:Nat}(hG:Good F W a n c nodes)(hTr:Tree iC nodes T)(hT:At2 W p o a n c)(h6B:g6<=B)(h2B:g2<=B)(h26:g2≠g6)(hW6:W.heap.size<g6)
  (hend:∀w a' n' c' g,From W.heap.size W w->aK 3 enM 135 w a' n' c' (T.marks 0) g->(g=0\/B<g)->R (.tuple #[.slice a' n' c',.int .i64 0]) w) :
  ∀(m k:Nat) (Ts:List (BT×Nat)) (out:List MkD) (first:List Int) (w:World) (a7:Option Addr) (c7 g7:Nat),k+m=n->T.pre.drop k=QD Ts->(∀x∈Ts,Is nodes x.1/\first[x.1.root]?=some (x.2:Int)/\x.2+x.1.nl<=2097152)->T.marks 0=out++BV Ts->From W.heap.size W w->W.heap.size<=B->B<=w.heap.size ->
   Arr enI 3 w a6 n c6 first g6->Arr enI 3 w a2 n c2 (qg T.pre) g2->aK 3 enM 135 w a7 out.length c7 out g7->(g7=0\/B<g7)->bK.l20 R (m+1) (some p) a6 n c6 a7 out.length c7 a2 n c2 n k w
 |0,k,Ts,out,first,w,a7,c7,g7,hk,hpre,hTs,hout,hw,hWB,hBw,h6,h2,h7,hg7=>by
  rw[bK.u20];unfold bK.g20;refine aA (by omega) ?_;have hTl:=hTr.length;have hn:=hG.len;rw[List.drop_eq_nil_of_le (by omega)]at hpre;have:Ts=[]:=by
   cases Ts with
   |nil=>rfl
   |cons x l=>
    exfalso;have h1:=congrArg List.length hpre;have h2:=x.1.size_pos;rw[<- BT.gU]at h2;simp only[QD,zd9,za6,zc6]at h1;omega
  subst this;simp only[BV,List.flatMap_nil,zc8]at hout;rw[<- hout]at h7;exact hend w a7 _ c7 g7 hw (by rw[<- hout];exact h7) hg7
 |m+1,k,Ts,out,first,w,a7,c7,g7,hk,hpre,hTs,hout,hw,hWB,hBw,h6,h2,h7,hg7=>by
  rw[bK.u20];unfold bK.g20;refine aH (by omega) ?_;have hTl:=hTr.length;have hn:=hG.len;have hmx:=hG.max;have hml:=T.kT 0;have hns:=T.DK;have hpl:=T.gU;have hol:out.length<=(T.marks 0).length:=by rw[hout,za6];omega
  have hkl:k<T.pre.length:=by omega
  cases Ts with
  |nil=>
   exfalso;have h1:=congrArg List.length hpre;simp only[QD,List.flatMap_nil,zc6,zb7]at h1;omega
  |cons x Ts=>
   obtain⟨U,f⟩:=x;obtain⟨hIU,hfU,hfb⟩:=hTs (U,f) (by simp);simp only at hIU hfU hfb;have hroot:=hIU.root_lt;have hpc:QD ((U,f)::Ts)=U.pre++QD Ts:=rfl;have hmc:BV ((U,f)::Ts)=U.marks f++BV Ts:=rfl;have hUpre:∃l,U.pre=U.root::l:=by cases U <;> exact⟨_,rfl⟩
   obtain⟨lp,hlp⟩:=hUpre;have hi:T.pre[k]?=some U.root:=by
    have:=congrArg (λl=>l[0]?) hpre;simp only[List.getElem?_drop,zd2]at this;rw[this,hpc,hlp];rfl
   have hd:T.pre.drop (k+1)=lp++QD Ts:=by
    have:=drop_cons hi;rw[hpre,hpc,hlp]at this;simpa using this.symm
   have hnd:(U.pre++QD Ts).Nodup:=by rw[<- hpc,<- hpre];exact hTr.nodup.sublist (List.drop_sublist _ _)
   refine h2.sl.rdI (k := .i64) (by omega) (by omega) λy hy=>?_;rw[za3,Jl hi]at hy;obtain rfl:y=(U.root:Int):=by simpa using hy.symm
   refine dE ⟨_,_,_,(hT.from hw).c1,?_⟩;refine(hG.from hw).ls.rdN (by omega) (by omega) λx a5 n5 c5 hx _=>?_;rw[za3]at hx;refine qm λu _ hb hk1=>⟨_,hb.c0,?_⟩;have hu:=hw.aG hk1;have z1:=hk1.size;have zb:w.heap.size<u.heap.size:=by have:=block_lt_of_cell hb.c0;rwa [add_block]at this
   cases U with
   |leaf i=>
    obtain⟨y,hy,hyi⟩:=hIU;obtain rfl:x=y:=by have hx':nodes[i]?=some x:=hx;rw[hy]at hx';simpa using hx'.symm
    have hkx:x.kind=1:=ze4 λh=>by have:=(zi hTr hy).1 h;rw[hyi]at this;cases this
    refine kQ hkx ?_;refine aC (by omega) ?_;obtain rfl:lp=[]:=by simpa[BT.pre,BT.root] using hlp.symm
    exact oW hG hTr hT h6B h2B h26 hW6 hend m (k+1) Ts out first u a7 c7 g7 (by omega) hd (λx hx=>hTs x (by simp[hx])) (by rw[hout,hmc];rfl) hu hWB (by omega) (h6.kept hk1) (h2.kept hk1) (h7.kept hk1) hg7
   |node i l r=>
    obtain⟨y,hy,hyi,hl,hr,hIl,hIr⟩:=hIU;obtain rfl:x=y:=by have hx':nodes[i]?=some x:=hx;rw[hy]at hx';simpa using hx'.symm
    simp only[BT.root]at hroot hfU;have hrl:=hIl.root_lt;have hrr:=hIr.root_lt;have hf6:=h6.sl.len;obtain rfl:l.pre++r.pre=lp:=by simpa[BT.pre,BT.root] using hlp
    have hsz:(BT.node i l r).size<=T.size:=by
     have h1:=congrArg List.length hpre;rw[hpc,za6,zb7]at h1;have h2:=(BT.node i l r).gU;omega
    simp only[BT.size]at hsz;rw[BT.jR]at hfb;have p1:=l.mg;have p2':=r.mg;refine xN ((zi hTr hy).2 hyi) (dE ⟨_,(hT.from hu).c0,_,_,_,(hT.from hu).c1,_,hb.c6,?_⟩);rw[hl];refine zg0 (MJ (o:=o) (hG.from hu) (λi x hx=>zi hTr hx) hIl (by omega)) λv u2 ⟨hv,hk2⟩=>⟨_,hv,?_⟩;have hu2:=hu.aG hk2;have z2:=hk2.size;have hb2:=hb.kept hk2;have h62:=(h6.kept hk1).kept hk2;have h22:=(h2.kept hk1).kept hk2;have h72:=(h7.kept hk1).kept hk2;have h7le:=h7.le;refine⟨MF ⟨(i:Nat),(f:Nat),(f+l.nl:Nat)⟩,MF.keep,?_⟩;have rd:∀ {v:World} {K:Int->Prop} {fs:List Int},Arr enI 3 v a6 n c6 fs g6->fs[i]?=some (f:Int)->K (f:Int)->aV a6 λq=>chk ((0:Int)<=((BT.node i l r).root:Nat)/\(((BT.node i l r).root:Nat):Int)<(n:Int)) (∃y:Int,v.cell? (q.add ((((BT.node i l r).root:Nat):Int).toNat*1))=some (.int .i64 y)/\K y):=λh hf hK=>
     h.sl.rdI (k := .i64) (by simp only[BT.root];omega) (by simp only[BT.root];omega) λy hy=>by
      rw[za3]at hy;simp only[BT.root]at hy;rw[hf]at hy;obtain rfl:(f:Int)=y:=by simpa using hy
      exact hK
    refine rd h62 hfU (rd h62 hfU ?_);refine nH (y:=((f+l.nl:Nat):Int)) (by rw[l9 (by omega) (by omega)];omega) ?_;refine aK.Ze (j:=13) S_M h72 rfl (by simp only[maxLen];omega) (by omega) λa8 c8 g8 u3 u4 hk3 h8 hg8 hg80 ho4=>⟨_,_,_,rfl,?_⟩;have hu3:=hu2.aG hk3;have z3:=hk3.size;have z4:=ho4.size;have hu4:=hu3.only ho4 (by omega);have hb4:=(hb2.kept hk3).mod ho4 (by simp only[na];omega);have h64:=(h62.kept hk3).mod ho4 (λb h1 h2=>by omega);have h24:=(h22.kept hk3).mod ho4 (λb h1 h2=>by omega);refine⟨_,hb4.c6,?_⟩;rw[hl];refine rd h64 hfU ?_;refine h64.wr (by omega) (by omega) (x:=(f:Int)) rfl λu5 h65 ho5=>?_;rw[za3]at h65;have z5:=ho5.size;have h8le:=h8.le;have h2le:=h24.le;have hu5:=hu4.only ho5 (.inr hW6);have hb5:=hb4.mod ho5 (by simp only[na];omega);have h25:=h24.mod ho5 (λb h1 h2=>by omega);have h85:=h8.mod ho5 (λb h1 h2=>by omega);obtain⟨nd1,nd2,nd3⟩:=List.nodup_append.1 hnd;have nd4:(i::(l.pre++r.pre)).Nodup:=nd1;obtain⟨nd5,nd6⟩:=zf1.1 nd4;obtain⟨_,_,nd7⟩:=List.nodup_append.1 nd6;have hil:i≠l.root:=λh=>nd5 (by rw[h];exact List.mem_append_left _ l.jP);have hir:i≠r.root:=λh=>nd5 (by rw[h];exact List.mem_append_right _ r.jP);have hlr:l.root≠r.root:=nd7 _ l.jP _ r.jP;have hfs:(first.set l.root (f:Int))[i]?=some (f:Int):=by rw[List.getElem?_set_ne (λh=>hil h.symm)];exact hfU
    refine⟨_,hb5.c7,?_⟩;rw[hr];refine rd h65 hfs ?_;refine nH (y:=((f+l.nl:Nat):Int)) (by rw[l9 (by omega) (by omega)];omega) ?_;refine h65.wr (by omega) (by omega) (x:=((f+l.nl:Nat):Int)) rfl λu6 h66 ho6=>?_;rw[za3]at h66;have z6:=ho6.size;have hu6:=hu5.only ho6 (.inr hW6);have h26':=h25.mod ho6 (λb h1 h2=>by omega);have h86:=h85.mod ho6 (λb h1 h2=>by omega);refine aC (by omega) ?_;have hol1:(out++[(⟨(i:Nat),(f:Nat),(f+l.nl:Nat)⟩:MkD)]).length=out.length+1:=by simp
    have:=oW hG hTr hT h6B h2B h26 hW6 hend m (k+1) ((l,f)::(r,f+l.nl)::Ts) (out++[⟨(i:Nat),(f:Nat),(f+l.nl:Nat)⟩]) _ u6 a8 c8 g8 (by omega) (by rw[hd];simp[QD]) (λx hx=>?_) (by rw[hout,hmc];simp[BT.marks,BV]) hu6 hWB (by omega) h66 h26' (by rw[hol1];exact h86) (by omega)
    .rw[hol1]at this;exact this
    .simp only[zb3]at hx
     rcases hx with h | h | h
     .subst h;refine⟨hIl,?_,by simp only;omega⟩;simp only;rw[List.getElem?_set_ne (λh=>hlr h.symm),List.getElem?_set_self (by omega)]
     .subst h;refine⟨hIr,?_,by simp only;omega⟩;simp only;rw[List.getElem?_set_self (by rw[zf6];omega)]
     .obtain⟨g1,g2',g3⟩:=hTs x (by simp[h]);have hxm:x.1.root∈QD Ts:=List.mem_flatMap.2 ⟨x,h,x.1.jP⟩;have n1:l.root≠x.1.root:=nd3 _ (by simp[BT.pre,l.jP]) _ hxm;have n2:r.root≠x.1.root:=nd3 _ (by simp[BT.pre,r.jP]) _ hxm;refine⟨g1,?_,g3⟩;rw[List.getElem?_set_ne n2,List.getElem?_set_ne n1];exact g2'
end
section
variable{w w1 W:World}{o:Int}{a:Option Addr}{n c c1:Nat}{F:Nat->Prop}{nodes:List ND}
theorem Lt(hG:Good F w a n c nodes):E.CallsD prog 97 #[vT o a n c] w λv u=>∃a' n' c',v = .tuple #[.slice a' n' c',.int .i64 (lvE nodes)]/\MV w u a' n' c' (iq nodes):=by
 refine bK.calls ?_;unfold bK bK.g0;refine qc λw1 _ hT hk=>⟨_,hT.c0,_,_,_,hT.c1,?_⟩;refine zg0 (AZ (o:=o) (hG.kept hk)) λv u ⟨hv,hku⟩=>⟨_,_,hv,?_⟩;have hk1u:=zg1 hk hku;refine ja (λhne=>⟨_,_,_,rfl,?_⟩) λh0=>?_
 .have:iq nodes=[]:=by unfold iq;rw[if_neg hne]
  rw[this];exact MV.none hk1u
 obtain⟨hsh,_⟩:=gz h0;obtain⟨_,hnl⟩:=Vs h0;have hTr:=bW hsh;have hM:iq nodes=(gW nodes).marks 0:=by unfold iq;rw[if_pos h0]
 have hGu:=hG.kept hk1u;have hTu:=hT.kept hku;have hn:=hG.len;have hmx:=hG.max;refine⟨_,_,_,hTu.c1,?_⟩;refine Arr.make (en:=enI) (x:=0) rfl (by omega) (by omega) (by omega) λu2 h6 hk2=>?_;rw[za3]at h6 ⊢;have hTu2:=hTu.kept hk2;refine⟨_,hTu2.c0,_,_,_,hTu2.c1,?_⟩;have hGu2:=hGu.kept hk2;refine zg0 (Qg (o:=o) hGu2 hTr) λv u3 ⟨a3,c3,hv,hn3⟩=>⟨_,_,_,hv,?_⟩;obtain⟨g3,h3,hg3,hk3⟩:=hn3;have z1:=hk1u.size;have z2:=hk2.size;have z3:=hk3.size;have h3le:=h3.le;have h6le:=h6.le;have hpos:=(gW nodes).size_pos;have hpl:=(gW nodes).gU;have hsz:=hTr.length;have hns:=(gW nodes).DK;have hg3':u2.heap.size<g3:=by
  rcases hg3 with h | h
  .have:=h3.pos (by omega);omega
  .exact h
 have hk03:=zg1 (zg1 hk1u hk2) hk3;have hkt:=zg1 hk2 hk3;refine⟨_,oW (W:=u) (B:=u3.heap.size) (first:=List.replicate n 0) hGu hTr hTu (by omega) (by omega) (by omega) (by omega) (λw4 a' n' c' g hw hr hg=>⟨_,_,_,by rw[h0],g,by rw[hM];exact hr,by omega,zg1 hk1u (zg4 hw)⟩) n 0 [(gW nodes,0)] [] u3 none 0 0 (by omega) (by simp[QD]) (λx hx=>?_) (by simp[BV]) (Kept.fr hkt) (by omega) (zb4 _) (h6.kept hk3) h3 (aK.nil _ _ _ _) (.inl rfl)⟩;simp only[zd0]at hx;subst hx;refine⟨hTr.is,?_,by simp only;omega⟩;simp only[hTr.root];rw[List.getElem?_replicate,if_pos (by omega)];rfl
end
end Go.Mir
