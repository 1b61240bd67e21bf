/- Part of a proof; no conditions. -/
import Derived.Test.YtmjlipmapfofmaaGreatFD
import Derived.Test.YtmjlipmapfofmaaGreatTE
set_option linter.unusedVariables false
set_option linter.unusedSimpArgs false
set_option linter.unusedSectionVars false
set_option maxRecDepth 100000
open Go.Proofs.Tryz (prog)
namespace Go.Mir
open Go Go.E Go.RowKit Go.Tr Go.Ss Go.ChangeShapes
def headB(f:fC)(n:Nat):fC:=⟨f.features,f.outputs,f.base,f.blocks.take n⟩
noncomputable def xK(f:fC):Nat->Nat->Int×Int
 |0,_=>(0,0)
 |k+1,i=>match gJ (headB f (i+1)) with
  |none=>(150,(i:Int))
  |some _=>xK f k (i+1)
noncomputable def lM(f:fC):Int×Int:=match gJ f with
 |some _=>(0,0)
 |none=>match gJ (headB f 0) with
  |none=>(150,0)
  |some _=>xK f f.blocks.length 0
theorem SmF.cut{f:fC}(h:SmF f)(n:Nat):SmF (headB f n):=by
 refine⟨⟨h.sm.1,by show(f.blocks.take n).length<=_;rw[zb6];have:=h.sm.2.1;omega,λb hb=>h.sm.2.2 b (zf3 hb)⟩,λb hb=>h.tot b (zf3 hb),zb5 ?_ h.trs⟩;show trT (f.blocks.take n)<=trT f.blocks;have h0:=congrArg trT (List.take_append_drop n f.blocks);unfold trT at h0 ⊢;rw[zb8,List.sum_append]at h0;omega
section
variable{w w0 u w1 x:World}{a:OA}{n c:Nat}{F:Nat->Prop}{R:VP}{f:fC}{s t:SH}
theorem Ie{K:Int->zg6}(hG:jr F w f s t)(hS:SmF f)(hF:∀b,F b->b<w.heap.size)(h0:gJ f=none->∀u,Kept w u->K 150 u)(h1:∀ts,gJ f=some ts->∀u,Kept w u->K 0 u) :
  E.CallsD prog 15 #[vF f s t] w λv u=>∃a n c x,v = .tuple #[.slice a n c,.int .i64 x]/\K x u:=by
 refine zg0 (PX hG hS hF) λv u hh=>?_;obtain⟨a,n,c,why,hv,k0,k1,hfr⟩:=hh;refine⟨a,n,c,why,hv,?_⟩;have hk:=zg4 hfr
 cases hb:gJ f with
 |none=>rw[(k0 hb).1];exact h0 hb u hk
 |some ts=>rw[(k1 ts hb).1];exact h1 ts hb u hk
abbrev CkA(w:World)(r:Int×Int):VP:=λv u=>v = .tuple #[.int .i64 r.1,.int .i64 r.2]/\Kept w u
theorem IU(hG:jr F w f s t)(hS:SmF f){i:Nat}(hi:i<=t.n):jr F w (headB f i) s ⟨t.a,i,t.c⟩:=by
 refine⟨hG.bs,?_,(hS.cut i).sm⟩;have:=hG.ks.sub (i:=0) (j:=i) (Nat.zero_le _) hi;rw[lC]at this;show Ls tB F w t.a i t.c (f.blocks.take i);simpa using this
theorem O3{kf k6:Nat}{r:Int×Int}(hG:jr F w0 f s t)(hS:SmF f)(hF:∀b,F b->b<w0.heap.size)(h06:w0.heap.size<=k6)(h0f:w0.heap.size<=kf)(hne:kf≠k6) :
  ∀(k i:Nat) (w:World) (s6:SH),i+k=t.n->From w0.heap.size w0 w->Blk w kf (jo f s t).toArray jb->Blk w k6 (jo f s s6).toArray jb->xK f k i=r ->
   dV.l30 (CkA w0 r) (k+1) (some ⟨kf,0,none⟩) (some ⟨k6,0,none⟩) t.n i w:=by
 intro k;have hl:=hG.ks.len;have hsm2:=hG.sm.2.1
 induction k with
 |zero=>
  intro i w s6 hi hfr hbf hb6 hr;obtain rfl:i=t.n:=by omega
  rw[dV.u30];unfold dV.g30;refine aA (by omega) ?_;rw[<- hr];exact⟨rfl,zg4 hfr⟩
 |succ k ih=>
  intro i w s6 hi hfr hbf hb6 hr;rw[dV.u30];unfold dV.g30;refine aH (by omega) ?_;have hA:AtL w (⟨kf,0,none⟩:Addr) (jo f s t):=λj v hj=>by rw[addr_add,zd1,hbf.cell];simpa using hj
  refine⟨_,_,_,hA 3 _ rfl,aC (by omega) (dK ⟨by omega,by have:=hG.ks.cap;omega⟩ ?_)⟩;rw[lC,za3];have bs:=hb6.set 3 (.slice t.a (i+1) t.c);have hos:=zg5 w k6 3 (.slice t.a (i+1) t.c);have e1:(((⟨k6,0,none⟩:Addr).add 3).add 0)=⟨k6,3,none⟩:=by rw[addr_add,addr_add]
  show st w (((⟨k6,0,none⟩:Addr).add 3).add 0) _ _;rw[e1];refine⟨hb6.ok (by simp),bZ ?_⟩;generalize w.setCell ⟨k6,3,none⟩ (.slice t.a (i+1) t.c)=w2 at bs hos;have bs':Blk w2 k6 (jo (headB f (i+1)) s ⟨t.a,i+1,t.c⟩).toArray jb:=bs;have hbf2:=hbf.mod hos (λhk=>by have hk':kf+1=k6+1:=hk;omega);have hfr2:From w0.heap.size w0 w2:=From.then hfr hos λk _ h2=>by have h2':k+1=k6+1:=h2;omega
  have hA6:AtL w2 (⟨k6,0,none⟩:Addr) (jo (headB f (i+1)) s ⟨t.a,i+1,t.c⟩):=λj v hj=>by rw[addr_add,zd1,bs'.cell];simpa using hj
  refine⟨_,hA6 0 _ rfl,_,hA6 1 _ rfl,s.a,s.n,s.c,hA6 2 _ rfl,t.a,i+1,t.c,hA6 3 _ rfl,?_⟩;have hG0:jr F w2 f s t:=⟨From.ls hG.bs hfr2 hF,From.ls hG.ks hfr2 hF,hG.sm⟩;have hF2:∀b,F b->b<w2.heap.size:=λb hb=>by have:=hF b hb;have:=hfr2.size;omega
  refine Ie (s:=s) (t:=⟨t.a,i+1,t.c⟩) (IU hG0 hS (by omega)) (hS.cut (i+1)) hF2 (λhb u hk=>?_) λts hb u hk=>?_
  .refine IP (by omega) ?_;rw[<- hr];unfold xK;rw[hb];exact⟨rfl,zg4 (hfr2.aG hk)⟩
  .refine sH (by omega) ?_;refine aC (by omega) ?_;refine ih (i+1) u ⟨t.a,i+1,t.c⟩ (by omega) (hfr2.aG hk) (hbf2.keep hk) (bs'.keep hk) ?_;rw[<- hr]
   conv=>rhs;unfold xK
   rw[hb]
theorem Ql(hG:jr F w f s t)(hS:SmF f)(hF:∀b,F b->b<w.heap.size):E.CallsD prog 17 #[vF f s t] w (CkA w (lM f)):=by
 refine dV.calls (R:=CkA w (lM f)) ?_;unfold dV dV.g0;refine bZ ?_;have hbk:Blk (w.alloc (.cells (jo f s t).toArray jb)) w.heap.size (jo f s t).toArray jb:=Blk.new w _ _;have hk1:=zg3 w (.cells (jo f s t).toArray jb);change mV (w.alloc (.cells (jo f s t).toArray jb)) _ _;have hz:(w.alloc (.cells (jo f s t).toArray jb)).heap.size=w.heap.size+1:=by simp
 generalize w.alloc (.cells (jo f s t).toArray jb)=w1 at hbk hk1 hz;have A1:AtL w1 (na w) (jo f s t):=by simpa using AtL.blk (b:=w) hbk
 have hF1:∀ {u:World},Kept w u->∀b,F b->b<u.heap.size:=λhk b hb=>by have:=hF b hb;have:=hk.size;omega
 refine⟨_,A1 0 _ rfl,_,A1 1 _ rfl,s.a,s.n,s.c,A1 2 _ rfl,t.a,t.n,t.c,A1 3 _ rfl,?_⟩;refine Ie (hG.kept hk1) hS (hF1 hk1) (λhb u hk=>?_) λts hb u hk=>?_
 .refine xN (by omega) ?_;have hk2:=zg1 hk1 hk;have A2:=A1.kept hk;refine⟨_,A2 0 _ rfl,_,A2 1 _ rfl,s.a,s.n,s.c,A2 2 _ rfl,t.a,t.n,t.c,A2 3 _ rfl,?_⟩;refine boxS (zs:=(mr 0 0 none 0 0 none 0 0).toList) (vs:=jo f s t) rfl λw3 hA3 be3 hk3=>?_;have bs:=be3.set 3 (.slice none 0 0);have hos:=zg5 w3 u.heap.size 3 (.slice none 0 0);have e1:(((na u:Addr).add 3).add 0)=⟨u.heap.size,3,none⟩:=by rw[gK,addr_add]
  show st w3 (((na u).add 3).add 0) _ _;rw[e1];refine⟨be3.ok (by simp),bZ ?_⟩;generalize w3.setCell ⟨u.heap.size,3,none⟩ (.slice none 0 0)=w4 at bs hos;have bs':Blk w4 u.heap.size (jo (headB f 0) s ⟨none,0,0⟩).toArray jb:=bs;have hk4:Kept u w4:=zg4 (From.then (Kept.mod hk3) hos λk _ h2=>by have h2':k+1=u.heap.size+1:=h2;omega);have hk14:=zg1 hk2 hk4;have hA6:AtL w4 (na u) (jo (headB f 0) s ⟨none,0,0⟩):=by simpa using AtL.blk (b:=u) bs'
  refine⟨_,hA6 0 _ rfl,_,hA6 1 _ rfl,s.a,s.n,s.c,hA6 2 _ rfl,none,0,0,hA6 3 _ rfl,?_⟩;have hG4:=hG.kept hk14;refine Ie (s:=s) (t:=⟨none,0,0⟩) (f:=headB f 0) ⟨hG4.bs,by show Ls tB F w4 none 0 0 (f.blocks.take 0);rw[List.take_zero];exact Ls.nil _ _ _ _ _,(hS.cut 0).sm⟩ (hS.cut 0) (hF1 hk14) (λhb0 u2 hku=>?_) λts hb0 u2 hku=>?_
  .refine IP (by omega) ?_;unfold lM;rw[hb,hb0];exact⟨rfl,zg1 hk14 hku⟩
  .refine sH (by omega) ?_;have A5:=(A2.kept hk4).kept hku;refine⟨_,_,_,A5 3 _ rfl,?_⟩;have hlt:=hbk.lt;have hks:=hk.size;have hks2:=hk2.size;refine za4 (t.n+1) (O3 (r:=lM f) hG hS hF (k6:=u.heap.size) (kf:=w.heap.size) (by omega) (zb4 _) (by omega) t.n 0 u2 ⟨none,0,0⟩ (by omega) (Kept.mod (zg1 hk14 hku)) (hbk.keep (zg1 (zg1 hk hk4) hku)) (bs'.keep hku) ?_);unfold lM;rw[hb,hb0,<- hG.ks.len]
 .refine kQ (by omega) ?_;unfold lM;rw[hb];exact⟨rfl,zg1 hk1 hk⟩
end
def yN:TD:=⟨0,[⟨2,0,1,4611686018427387904,[],2,1,2⟩,⟨1,10,0,0,[],0,0,0⟩,⟨1,20,0,0,[],0,0,0⟩]⟩
def nO:TD:=⟨0,[⟨2,0,1,4607182418800017408,[],1,1,4⟩,⟨3,0,0,0,[4],2,2,3⟩,⟨1,1,0,0,[],0,0,0⟩,⟨1,2,0,0,[],0,0,0⟩,⟨1,3,0,0,[],0,0,0⟩]⟩
def exE:ED:=⟨⟨#[]⟩,[⟨#[97]⟩,⟨#[98]⟩],1,[0],[yN,nO]⟩
def exC:cZ:=⟨0,[4],1,0,1⟩
def QE:cZ:=⟨4611686018427387904,[],0,0,1⟩
def exB:kJ:=⟨0,[2,3],[[10,20],[1,2,3]],[0,0],[⟨0,[],[exC],[exC]⟩,⟨1,[⟨4607182418800017408,[],1,0,2⟩,QE],[],[QE]⟩]⟩
def exF:fC:=⟨2,1,[0],[exB]⟩
theorem Np{nodes:List ND}{T:BT}(h:(dY iC nodes).1=0)(hI:Is nodes T)(h0:T.root=0):gW nodes=T :=
 Is.uniq (bW h).is hI (by rw[(bW h).root,h0])
theorem VN:(dY iC yN.nodes).1=0:=by kernel_rfl
theorem VX:(dY iC nO.nodes).1=0:=by kernel_rfl
theorem Xm:gW yN.nodes = .node 0 (.leaf 1) (.leaf 2):=Np VN ⟨_,rfl,rfl,rfl,rfl,⟨_,rfl,rfl⟩,⟨_,rfl,rfl⟩⟩ rfl
theorem Xr:gW nO.nodes = .node 0 (.node 1 (.leaf 2) (.leaf 3)) (.leaf 4):=Np VX ⟨_,rfl,rfl,rfl,rfl,⟨_,rfl,rfl,rfl,rfl,⟨_,rfl,rfl⟩,⟨_,rfl,rfl⟩⟩,⟨_,rfl,rfl⟩⟩ rfl
theorem Yg:dA yN.nodes false=[1,2]:=by unfold dA;rw[if_pos VN,Xm];rfl
theorem Xw:dA nO.nodes false=[2,3,4]:=by unfold dA;rw[if_pos VX,Xr];rfl
theorem Yi:lvE yN.nodes=0:=by unfold lvE;rw[if_pos VN,Yg];rfl
theorem Xx:lvE nO.nodes=0:=by unfold lvE;rw[if_pos VX,Xw];rfl
theorem a00:iq yN.nodes=[⟨0,0,1⟩]:=by unfold iq;rw[if_pos Yi,Xm];rfl
theorem ZO:iq nO.nodes=[⟨0,0,2⟩,⟨1,0,1⟩]:=by unfold iq;rw[if_pos Xx,Xr];rfl
theorem ZR:iI 2 1 [yN,nO]=0:=by
 have h0:mF yN 2 1=0:=zD Yi (by decide) (by kernel_rfl);have h1:mF nO 2 1=0:=zD Xx (by decide) (by kernel_rfl);simp[iI,h0,h1]
theorem Xe{nm:ByteArray}{fs:List ByteArray}(hf:fs.length=2):rO ⟨nm,fs,1,[0],[yN,nO]⟩=0:=by
 unfold rO;show(if(1:Int)<1 then(6:Int) else if(1:Int)>64 then 6 else if((1:Nat):Int)≠1 then 6 else if fs.length>65536 then 6 else if 2>65536 then 3 else iI fs.length 1 [yN,nO])=0;rw[hf,if_neg (by decide),if_neg (by decide),if_neg (by decide),if_neg (by decide),if_neg (by decide)];exact ZR
theorem ZP:dm [yN,nO] 0=exB:=by
 have hl:dN [yN,nO]=exB.lists:=by
  unfold dN dH dH dH kP;rw[a00,ZO]
  kernel_rfl
 unfold dm;rw[hl];simp only[ze0,List.map_nil,eF,Yg,Xw];rfl
theorem Yy{nm:ByteArray}{fs:List ByteArray}(hf:fs.length=2):ofE ⟨nm,fs,1,[0],[yN,nO]⟩ [(0,2)]=0/\ofP ⟨nm,fs,1,[0],[yN,nO]⟩ [(0,2)]=exF:=by
 have h0:ofE ⟨nm,fs,1,[0],[yN,nO]⟩ [(0,2)]=0:=by
  unfold ofE;rw[if_neg (by rw[Xe hf];decide),if_pos (by show jc 2 [(0,2)] 0=true;decide)]
 refine⟨h0,?_⟩;unfold ofP;rw[if_pos h0];unfold rW;show fC.mk (fs.length:Int) 1 [0] [dm [yN,nO] 0]=exF;rw[ZP,hf];rfl
theorem Z7:AU exE 2=0/\vX exE 2=exF:=by
 have h0:rO exE=0:=Xe rfl;have h1:kN exE.trees.length 2=0:=by decide
 have h2:mO exE.trees.length 2=[(0,2)]:=by decide
 obtain⟨h3,h4⟩:=Yy (nm:=⟨#[]⟩) (fs:=[⟨#[97]⟩,⟨#[98]⟩]) rfl;refine⟨?_,?_⟩
 .unfold AU;rw[if_neg (by rw[h0];decide),if_neg (by rw[h1];decide),h2];exact h3
 .unfold vX;rw[if_neg (by rw[h0];decide),if_neg (by rw[h1];decide),h2];exact h4
theorem a0i:gJ exF=some [yN,nO]:=by
 unfold gJ;rw[if_neg (by decide),show pW exF.blocks [] []=some ([yN,nO],[(0,2)]) from by kernel_rfl];simp only[Option.bind_some];exact if_pos (Yy rfl)
theorem a1n:lM exF=(0,0):=by unfold lM;rw[a0i]
instance(x:cZ):Decidable x.sm:=by unfold cZ.sm;infer_instance
theorem Wv:SmF exF:=by
 refine⟨⟨by decide,by decide,λb hb=>?_⟩,λb hb=>?_,by decide⟩
 .obtain rfl:b=exB:=by simpa[exF] using hb
  refine⟨by decide,by decide,by decide,by decide,by decide,λl hl=>?_⟩;have hl':l=⟨0,[],[exC],[exC]⟩\/l=⟨1,[⟨4607182418800017408,[],1,0,2⟩,QE],[],[QE]⟩:=by simpa[exB] using hl
  rcases hl' with rfl | rfl
  .exact⟨⟨by decide,by decide⟩,⟨by decide,by decide⟩,⟨by decide,by decide⟩⟩
  .exact⟨⟨by decide,by decide⟩,⟨by decide,by decide⟩,⟨by decide,by decide⟩⟩
 .obtain rfl:b=exB:=by simpa[exF] using hb
  decide
section
variable{w u x:World}{F S:Nat->Prop}{R:VP}{f:fC}{t:SH}
theorem Hl{α:Type}{k e:Nat}{en:α->List Value}(xs:List α){cs:Array Value}{K:zg6}(hc:cs.toList=xs.flatMap en)(hl:cs.size=xs.length*k)(hn:xs.length<=maxLen)
  (hk:∀u,aK k en e u (some (na w)) xs.length xs.length xs (w.heap.size+1)->Kept w u->u.heap.size=w.heap.size+1->K u):nw (w.alloc (.cells cs e)) K:=by
 refine bZ (hk _ ?_ (zg3 w _) (by simp));have:=Row.new w e k xs.length cs hl hn;rw[hc]at this;exact this
theorem PZ{α:Type}{e:Nat}{en:α->Value}(xs:List α){cs:Array Value}{K:zg6}(hc:cs.toList=xs.map en)(hn:xs.length<=maxLen)
  (hk:∀u,Arr en e u (some (na w)) xs.length xs.length xs (w.heap.size+1)->Kept w u->u.heap.size=w.heap.size+1->K u):nw (w.alloc (.cells cs e)) K :=
 bZ (hk _ (Arr.new en e w xs cs hc hn) (zg3 w _) (by simp))
abbrev nwB(w u:World):Nat->Prop:=λb=>w.heap.size<=b/\b<u.heap.size
set_option maxHeartbeats 1000000 in
theorem JP:E.CallsD prog 31 #[] w λv u=>∃f b t:SH,v=vE exE f b t/\rZ (nwB w u) u exE f b t/\Kept w u:=by
 refine dJ.calls (R:=λv u=>∃f b t:SH,v=vE exE f b t/\rZ (nwB w u) u exE f b t/\Kept w u) ?_;unfold dJ dJ.g0;refine bZ ?_;have hb0:=Blk.new w (wO ⟨#[]⟩ none 0 0 0 none 0 0 none 0 0) 26;have k0:=zg3 w (.cells (wO ⟨#[]⟩ none 0 0 0 none 0 0 none 0 0) 26);have z0:(w.alloc (.cells (wO ⟨#[]⟩ none 0 0 0 none 0 0 none 0 0) 26)).heap.size=w.heap.size+1:=by simp
 generalize w.alloc (.cells (wO ⟨#[]⟩ none 0 0 0 none 0 0 none 0 0) 26)=v0 at hb0 k0 z0;refine PZ (en:=λx => .string x) [⟨#[97]⟩,⟨#[98]⟩] rfl (by decide) λv1 r1 k1 z1=>?_;refine PZ (en:=λx => .int .i64 x) [0] rfl (by decide) λv2 r2 k2 z2=>?_;refine Hl (k:=8) (en:=enH) (yN.nodes.map λx=>(x,⟨none,0,0⟩)) rfl rfl (by decide) λv3 r3 k3 z3=>?_;refine PZ (en:=λx => .int .i64 x) [4] rfl (by decide) λv4 r4 k4 z4=>?_;refine Hl (k:=8) (en:=enH) [((nO.nodes.getD 0 ⟨0,0,0,0,[],0,0,0⟩),(⟨none,0,0⟩:SH)),((nO.nodes.getD 1 ⟨0,0,0,0,[],0,0,0⟩),⟨some (na v3),1,1⟩),((nO.nodes.getD 2 ⟨0,0,0,0,[],0,0,0⟩),⟨none,0,0⟩),((nO.nodes.getD 3 ⟨0,0,0,0,[],0,0,0⟩),⟨none,0,0⟩),((nO.nodes.getD 4 ⟨0,0,0,0,[],0,0,0⟩),⟨none,0,0⟩)] rfl rfl (by show 5<=maxLen;decide) λv5 r5 k5 z5=>?_;refine Hl (k:=2) (en:=Aj) [(yN,(⟨some (na v2),3,3⟩:SH)),(nO,⟨some (na v4),5,5⟩)] rfl rfl (by show 2<=maxLen;decide) λv6 r6 k6 z6=>?_;have k56:=zg1 k5 k6;have k46:=zg1 k4 k56;have k36:=zg1 k3 k46;have k26:=zg1 k2 k36;have k16:=zg1 k1 k26;have kw6:=zg1 k0 k16;have hb6:=hb0.keep k16;refine wrA (e:=26) (b:=w.heap.size) (zs:=(wO ⟨#[]⟩ none 0 0 0 none 0 0 none 0 0).toList) (vs:=[.string ⟨#[]⟩,.slice (some (na v0)) 2 2,.int .i64 1,.slice (some (na v1)) 1 1,.slice (some (na v5)) 2 2]) (by simpa using hb6) rfl λu hb' ho=>?_;have hA:AtL u (na w) [.string ⟨#[]⟩,.slice (some (na v0)) 2 2,.int .i64 1,.slice (some (na v1)) 1 1,.slice (some (na v5)) 2 2]:=by simpa using AtL.blk (b:=w) hb'
 have no:∀ {k m:Nat},k+1=m->w.heap.size+1<m->¬ (k+1=w.heap.size+1):=λh1 h2 h3=>by omega
 have R1:=(r1.kept k26).mod ho λk hk=>no hk (by omega);have R2:=(r2.kept k36).mod ho λk hk=>no hk (by omega);have R3:=(r3.kept k46).mod ho λk hk=>no hk (by omega);have R4:=(r4.kept k56).mod ho λk hk=>no hk (by omega);have R5:=(r5.kept k6).mod ho λk hk=>no hk (by omega);have R6:=r6.mod ho λk hk=>no hk (by omega);have zu:=ho.size;refine⟨_,hA 0 _ rfl,_,_,_,hA 1 _ rfl,_,hA 2 _ rfl,_,_,_,hA 3 _ rfl,_,_,_,hA 4 _ rfl,⟨some (na v0),2,2⟩,⟨some (na v1),1,1⟩,⟨some (na v5),2,2⟩,rfl,?_,?_⟩
 .refine⟨?_,?_,?_,λb hb=>hb.2,by show 2<=1048576;decide,by show 1<=1048576;decide,by show 2<=1048576;decide,λx hx=>?_⟩
  .exact(Arr.ls (h1:=λ_=>rfl) R1).mono λb hb=>⟨by omega,by omega⟩
  .exact(Arr.ls (h1:=λ_=>rfl) R2).mono λb hb=>⟨by omega,by omega⟩
  .have hnil:LsI (nwB w u) u none 0 0 []:=Ls.nil _ _ _ _ _;have h4:LsI (nwB w u) u (some (na v3)) 1 1 [4]:=(Arr.ls (h1:=λ_=>rfl) R4).mono λb hb=>⟨by omega,by omega⟩;have hN3:Ls tN (nwB w u) u (some (na v2)) 3 3 yN.nodes:=by
    have:=aK.lsN (F:=nwB w u) R3 (λb hb=>⟨by omega,by omega⟩) λx hx=>(by
     simp only[yN,ze0,List.map_nil,zb3,zf9,or_false]at hx
     rcases hx with rfl | rfl | rfl <;> exact hnil)
    exact this
   have hN5:Ls tN (nwB w u) u (some (na v4)) 5 5 nO.nodes:=by
    have:=aK.lsN (F:=nwB w u) R5 (λb hb=>⟨by omega,by omega⟩) λx hx=>(by
     simp only[nO,List.getD_cons_zero,List.getD_cons_succ,zb3,zf9,or_false]at hx
     rcases hx with rfl | rfl | rfl | rfl | rfl
     .exact hnil
     .exact h4
     .exact hnil
     .exact hnil
     .exact hnil)
    exact this
   have:=aK.lsT (F:=nwB w u) R6 (λb hb=>⟨by omega,by omega⟩) λx hx=>(by
    simp only[zb3,zf9,or_false]at hx
    rcases hx with rfl | rfl
    .exact hN3
    .exact hN5)
   exact this
  .have hx':x=yN\/x=nO:=by simpa[exE] using hx
   rcases hx' with rfl | rfl
   .exact⟨by decide,by unfold Short;decide⟩
   .exact⟨by decide,by unfold Short;decide⟩
 .exact zg4 ((Kept.mod (S:=λk=>w.heap.size<=k) kw6).trans ho (λ_ _ h=>h) (λk _ hk=>by have hk':k+1=w.heap.size+1:=hk;show w.heap.size<=k;omega))
end
def oH(att:Nat->ND):BT->Nat->List AD
 | .leaf _,_=>[]
 | .node i l r,k=>⟨att i,(k:Nat),(k+l.nl:Nat)⟩::(oH att l k++oH att r (k+l.nl))
def outT(att:Nat->ND)(vals:List Int):BT->Nat->Nat->List ND
 | .leaf _,_,k=>[uk (vals.getD k 0)]
 | .node i l r,b,k=>{ att i with left:=(b+1:Nat),right:=(b+1+l.size:Nat) }::(outT att vals l (b+1) k++outT att vals r (b+1+l.size) (k+l.nl))
section
variable{att:Nat->ND}{vals:List Int}
theorem uN:∀(T:BT) (b k:Nat),(outT att vals T b k).length=T.size
 | .leaf _,_,_=>rfl
 | .node i l r,b,k=>by
  unfold outT;rw[zc5,za6,uN l,uN r];simp only[BT.size];omega
theorem oN:∀(T:BT) (k:Nat) (x:AD),x∈oH att T k->(k:Int)<=x.frm/\x.frm<x.to/\x.to<(k+T.nl:Nat)
 | .leaf _,_,_,h=>by cases h
 | .node i l r,k,x,h=>by
  have p1:=l.mg;have p2:=r.mg;rw[BT.jR]
  rcases zb3.1 (show x∈_::(oH att l k++oH att r (k+l.nl)) from h) with rfl | h
  .simp only;omega
  .rcases zb2.1 h with h | h
   .have:=oN l k x h;omega
   .have:=oN r (k+l.nl) x h;omega
theorem yf:∀(T:BT) (k:Nat),(oH att T k).length+1=T.nl
 | .leaf _,_=>rfl
 | .node _ l r,k=>by
  have h1:=yf l k;have h2:=yf r (k+l.nl);rw[BT.jR];simp only[oH,zc5,za6];omega
def ltK(a b:AD):Prop:=a.frm<b.frm\/(a.frm=b.frm/\b.to<a.to)
theorem zS:∀(T:BT) (k:Nat),(oH att T k).Pairwise ltK
 | .leaf _,_ => .nil
 | .node i l r,k=>by
  have p1:=l.mg;show(_::(oH att l k++oH att r (k+l.nl))).Pairwise ltK;refine List.pairwise_cons.2 ⟨λx hx=>?_,List.pairwise_append.2 ⟨zS l k,zS r (k+l.nl),λx hx y hy=>?_⟩⟩
  .rcases zb2.1 hx with hx | hx
   .have:=oN l k x hx;unfold ltK;simp only;omega
   .have:=oN r (k+l.nl) x hx;refine .inl ?_;simp only;omega
  .have h1:=oN l k x hx;have h2:=oN r (k+l.nl) y hy;exact .inl (by omega)
def atG(l:List AD)(g:Int):List AD:=l.filter λx=>x.frm==g
theorem Oi{l:List AD}{g:Int}(h:∀x∈l,x.frm≠g):atG l g=[]:=by
 unfold atG;rw[List.filter_eq_nil_iff];intro x hx;simpa using h x hx
theorem MM(a b:List AD)(g:Int):atG (a++b) g=atG a g++atG b g:=List.filter_append ..
theorem EW{N L:List ND}{x:ND}:iF (N++[x]++L) N.length=N++[{ x with right:=((N++[x]++L).length:Int) }]++L:=by
 unfold iF;have h:(N++[x]++L)[N.length]?=some x:=by simp
 rw[h];simp only;rw[za5,List.set_append_right _ _ (zb4 _),zf8,za5];rfl
theorem zL:∀(T:BT) (m k:Nat) (S:List (Int×List AD)) (N:List ND),T.nl<=m->(∀g:Int,(k:Int)<=g->g<(k+T.nl:Nat)->l7 S g=atG (oH att T k) g) ->
  ∃S',fB vals m k (k+T.nl:Nat) S N=(true,S',N++outT att vals T N.length k)/\∀g:Int,l7 S' g=if(k:Int)<=g/\g<(k+T.nl:Nat) then[] else l7 S g
 | .leaf i,m,k,S,N,hm,hS=>by
  rw[BT.tK]at hm hS ⊢;obtain⟨m,rfl⟩:∃m',m=m'+1:=⟨m - 1,by omega⟩;refine⟨S,?_,λg=>?_⟩
  .unfold fB;rw[if_pos (by omega),za3];rfl
  .split
   .rename_i h;exact hS g h.1 h.2
   .rfl
 | .node i l r,m,k,S,N,hm,hS=>by
  have p1:=l.mg;have p2:=r.mg;rw[BT.jR]at hm hS ⊢;obtain⟨m,rfl⟩:∃m',m=m'+1:=⟨m - 1,by omega⟩;have hr0:∀g:Int,g<(k+l.nl:Nat)->atG (oH att r (k+l.nl)) g=[]:=λg hg=>Oi λx hx e=>by have:=oN r (k+l.nl) x hx;omega
  have hl0:∀g:Int,(k+l.nl:Nat)<=g->atG (oH att l k) g=[]:=λg hg=>Oi λx hx e=>by have:=oN l k x hx;omega
  have hcons:∀g:Int,atG (oH att (.node i l r) k) g=(if(k:Int)=g then[(⟨att i,(k:Nat),(k+l.nl:Nat)⟩:AD)] else[])++(atG (oH att l k) g++atG (oH att r (k+l.nl)) g):=λg=>by
   rw[<- MM];show(_::(oH att l k++oH att r (k+l.nl))).filter _=_;rw[List.filter_cons]
   by_cases h:(k:Int)=g
   .simp[h,atG]
   .simp[h,atG]
  have hk:=hS k (by omega) (by omega);rw[hcons,if_pos rfl,hr0 k (by omega),zc8]at hk;have hk':l7 S k=(⟨att i,(k:Nat),(k+l.nl:Nat)⟩:AD)::atG (oH att l k) k:=hk;obtain⟨S1,hb1,hS1⟩:=zL l m k (DU S k (atG (oH att l k) k)) (N++[{ att i with left:=(N.length:Int)+1 }]) (by omega) λg h1 h2=>by
   rw[rH]
   split
   .rename_i h;rw[h]
   .rename_i h;rw[hS g h1 (by omega),hcons,if_neg (λe=>h e.symm),hr0 g h2];simp
  obtain⟨S2,hb2,hS2⟩:=zL r m (k+l.nl) S1 (iF (N++[{ att i with left:=(N.length:Int)+1 }]++outT att vals l (N++[{ att i with left:=(N.length:Int)+1 }]).length k) N.length) (by omega) λg h1 h2=>by
   rw[hS1,if_neg (by omega),rH,if_neg (by omega),hS g (by omega) (by omega),hcons,if_neg (by omega),hl0 g h1];simp
  refine⟨S2,?_,λg=>?_⟩
  .unfold fB;rw[if_neg (by omega),hk'];simp only;rw[if_neg (by omega),hb1];simp only;have e2:((k+l.nl+r.nl:Nat):Int)=((k+(l.nl+r.nl):Nat):Int):=by omega
   rw[e2]at hb2;rw[hb2,EW];have hlen:(N++[{ att i with left:=(N.length:Int)+1 }]).length=N.length+1:=by simp
   simp only[hlen,za6,zc5,zc6,uN,outT,za5,ze1,zc9,List.singleton_append];simp only[zd1,Nat.add_assoc,Int.natCast_add,Int.cast_ofNat_Int,Nat.add_comm,Nat.add_left_comm]
  .rw[hS2,hS1,rH]
   by_cases h1:((k+l.nl:Nat):Int)<=g/\g<((k+l.nl+r.nl:Nat):Int)
   .rw[if_pos h1,if_pos (by omega)]
   .rw[if_neg h1]
    by_cases h2:(k:Int)<=g/\g<(k+l.nl:Nat)
    .rw[if_pos h2,if_pos (by omega)]
    .rw[if_neg h2,if_neg (by omega),if_neg (by omega)]
end
theorem Ox{α:Type}{R:α->α->Prop}:∀ {l:List α},l.Pairwise R->∀a∈l,∀b∈l,a=b\/R a b\/R b a
 | [],_,a,h,_,_=>by cases h
 |x::l,hp,a,ha,b,hb=>by
  obtain⟨h1,h2⟩:=List.pairwise_cons.1 hp
  rcases zb3.1 ha with e1 | k1
  .rcases zb3.1 hb with e2 | k2
   .exact .inl (e1.trans e2.symm)
   .exact .inr (.inl (e1 ▸ h1 b k2))
  .rcases zb3.1 hb with e2 | k2
   .exact .inr (.inr (e2 ▸ h1 a k1))
   .exact Ox h2 a k1 b k2
theorem wK{α:Type}{lt:α->α->Bool}(hw:Wk lt){xs ys:List α}(hp:xs.Perm ys)(hy:ys.Pairwise λa b=>lt a b=true):sorted lt xs=ys:=by
 have asym:∀ {a b:α},lt a b=true->lt b a=false:=fun {a b} h=>by
  cases hb:lt b a with
  |false=>rfl
  |true=>have:=hw.trans a b a h hb;rw[hw.irrefl]at this;cases this
 refine List.Perm.eq_of_pairwise (le:=λa b=>lt b a=false) ?_ (A7 hw xs) (hy.imp λh=>asym h) ((sorted_perm lt xs).trans hp);intro a b ha hb h1 h2;have ha':a∈ys:=hp.mem_iff.1 ((sorted_perm lt xs).mem_iff.1 ha)
 rcases Ox hy a ha' b hb with h | h | h
 .exact h
 .rw[h]at h2;cases h2
 .rw[h]at h1;cases h1
theorem a14:Wk Me:=F7 λx:AD => -x.to
theorem Bl:∀(l:List AD) (S:List (Int×List AD)) (g:Int),l7 (l.foldl Jg S) g=l7 S g++atG l g
 | [],S,g=>by simp[atG]
 |x::l,S,g=>by
  rw[ze9,Bl l,yj];unfold atG;rw[List.filter_cons]
  by_cases h:g=x.frm
  .simp[h]
  .have h':¬ x.frm=g:=λe=>h e.symm;simp[h,h']
section
variable{att:Nat->ND}{vals:List Int}
theorem UO{T:BT}{l:List AD}(hp:l.Perm (oH att T 0))(hv:vals.length=T.nl):uj l vals=(true,outT att vals T 0 0):=by
 have hall:l.all (okA vals.length)=true:=by
  rw[zd8];intro x hx;have:=oN T 0 x (hp.mem_iff.1 hx);unfold okA;simp only[ze5,decide_eq_true_eq];rw[hv];omega
 have hS:∀g:Int,l7 (oI (gY l)) g=atG (oH att T 0) g:=λg=>by
  rw[uI];unfold gY;rw[Bl];show sorted Me ([]++atG l g)=_;rw[zc9];refine wK a14 (hp.filter _) ?_;refine List.Pairwise.imp_of_mem ?_ (List.Pairwise.filter _ (zS T 0));intro a b ha hb h;have h1:a.frm=g:=by simpa using(ze3.1 ha).2
  have h2:b.frm=g:=by simpa using(ze3.1 hb).2
  unfold ltK at h;unfold Me;simp only[decide_eq_true_eq];omega
 obtain⟨S',hb,_⟩:=zL (att:=att) (vals:=vals) T vals.length 0 (oI (gY l)) [] (by omega) λg _ _=>hS g;unfold uj;rw[if_pos hall];have e:((0+T.nl:Nat):Int)=(vals.length:Int):=by omega
 rw[e]at hb;have hb':fB vals vals.length 0 vals.length (oI (gY l)) []=(true,S',outT att vals T 0 0):=by simpa using hb
 rw[hb']
end
def GN(nodes:List ND)(i:Nat):ND:={ nodes.getD i default with left:=0,right:=0 }
def vM(nodes:List ND)(i:Nat):Int:=(nodes.getD i default).value
theorem BT.Jj:∀T:BT,∃t,T.pre=T.root::t
 | .leaf i=>⟨[],rfl⟩
 | .node i l r=>⟨l.pre++r.pre,rfl⟩
section
variable{nodes:List ND}{T:BT}
theorem VW(hR:Right iC nodes){i:Nat}{x:ND}(hx:nodes[i]?=some x)(hi:x.inner=false):x=uk x.value:=by
 have h:=hR.ok i x hx;unfold fD at h;unfold ND.inner at hi;split at h
 .rename_i hk;simp only[ze5,beq_iff_eq,List.isEmpty_iff]at h;obtain⟨⟨⟨⟨⟨h1,h2⟩,h3⟩,h4⟩,h5⟩,h6⟩:=h;unfold uk;cases x
  simp_all
 .rename_i hk;exfalso;split at h
  .rename_i h2;rw[h2]at hi;cases hi
  .split at h
   .rename_i h3;rw[h3]at hi;cases hi
   .cases h
theorem Q5{p s:List Nat}{x:Nat}(h:(p++x::s).Nodup):(p++x::s).idxOf x=p.length:=by
 have hn:x∉p:=λhx=>by
  have:=(List.nodup_append.1 h).2.2 x hx x (.head _);exact this rfl
 rw[List.idxOf_append,if_neg hn];simp
theorem wL(hT:Tree iC nodes T){vals:List Int}:∀(U:BT) (k:Nat) (pf sf:List Nat) (vp vs:List Int),T.pre=pf++U.pre++sf->Is nodes U->vals=vp++U.leaves.map (vM nodes)++vs->k=vp.length ->
  outT (GN nodes) vals U pf.length k=U.pre.map λi=>lS T.pre (nodes.getD i default)
 | .leaf i,k,pf,sf,vp,vs,hp,⟨x,hx,hi⟩,hv,hk=>by
  have hg:nodes.getD i default=x:=by rw[za8,hx];rfl
  have hl:=VW hT.right hx hi;have hval:vals.getD k 0=x.value:=by
   rw[hv,hk,za8];simp[BT.leaves,vM,hx]
  show[uk (vals.getD k 0)]=[lS T.pre (nodes.getD i default)];rw[hval,hg,<- hl];unfold lS;rw[hi];rfl
 | .node i l r,k,pf,sf,vp,vs,hp,⟨x,hx,hi,hxl,hxr,hIl,hIr⟩,hv,hk=>by
  have hg:nodes.getD i default=x:=by rw[za8,hx];rfl
  have hnd:=hT.nodup;have hlen:l.pre.length=l.size:=l.gU;have h1:=wL hT (vals:=vals) l k (pf++[i]) (r.pre++sf) vp (r.leaves.map (vM nodes)++vs) (by rw[hp];simp[BT.pre]) hIl (by rw[hv];simp[BT.leaves]) hk;have h2:=wL hT (vals:=vals) r (k+l.nl) (pf++[i]++l.pre) sf (vp++l.leaves.map (vM nodes)) vs (by rw[hp];simp[BT.pre]) hIr (by rw[hv];simp[BT.leaves]) (by simp[hk,BT.nl]);obtain⟨tl,htl⟩:=BT.Jj l;obtain⟨tr,htr⟩:=BT.Jj r;have e1:T.pre.idxOf l.root=pf.length+1:=by
   have hp1:T.pre=(pf++[i])++l.root::(tl++r.pre++sf):=by rw[hp];simp[BT.pre,htl]
   have:=Q5 (p:=pf++[i]) (x:=l.root) (s:=tl++r.pre++sf) (by rw[<- hp1];exact hnd);rw[<- hp1]at this;simpa using this
  have e2:T.pre.idxOf r.root=pf.length+1+l.size:=by
   have hp1:T.pre=(pf++[i]++l.pre)++r.root::(tr++sf):=by rw[hp];simp[BT.pre,htr]
   have:=Q5 (p:=pf++[i]++l.pre) (x:=r.root) (s:=tr++sf) (by rw[<- hp1];exact hnd);rw[<- hp1]at this;rw[this];simp[hlen];omega
  show { GN nodes i with left:=((pf.length+1:Nat):Int),right:=((pf.length+1+l.size:Nat):Int) }::(outT (GN nodes) vals l (pf.length+1) k++outT (GN nodes) vals r (pf.length+1+l.size) (k+l.nl))=lS T.pre (nodes.getD i default)::(l.pre++r.pre).map _;have f1:(pf++[i]).length=pf.length+1:=by simp
  have f2:(pf++[i]++l.pre).length=pf.length+1+l.size:=by simp[hlen];omega
  rw[f1]at h1;rw[f2]at h2;rw[h1,h2,zb8];congr 1;unfold GN lS;rw[hg,hi,hxl,hxr,za3,za3,e1,e2];rfl
theorem zH(h:(dY iC nodes).1=0):outT (GN nodes) ((gW nodes).leaves.map (vM nodes)) (gW nodes) 0 0=lY nodes:=by
 have hT:=bW h;rw[nP h];exact wL hT (gW nodes) 0 [] [] [] [] (by simp) hT.is (by simp) rfl
end
def Au(mis:Int->cZ->Int)(f kd:Int)(c:cZ):Int×AD:=(c.tree,⟨⟨kd,0,f,c.thr,c.aT,mis f c,0,0⟩,c.frm,c.to⟩)
def zN(mis:Int->cZ->Int)(e:dL):List (Int×AD):=e.numbers.map (Au mis e.feature 2)++e.aT.map (Au mis e.feature 3)
def jB(mis:Int->cZ->Int)(L:List dL):List (Int×AD):=L.flatMap (zN mis)
def EK(mis:Int->cZ->Int)(p:ND×cZ):Int×AD:=Au mis p.1.feature (if p.1.kind=3 then 3 else 2) p.2
theorem iJ(x:ND)(c:cZ)(e:dL):(vI x c e).feature=e.feature:=by
 unfold vI
 split <;> split <;> rfl
theorem Po(x:ND)(c:cZ)(e:dL):(vI x c e).numbers=if x.kind=3 then e.numbers else e.numbers++[c]:=by
 unfold vI
 split <;> split <;> rfl
theorem PK(x:ND)(c:cZ)(e:dL):(vI x c e).aT=if x.kind=3 then e.aT++[c] else e.aT:=by
 unfold vI
 split <;> split <;> rfl
theorem yQ(x:ND)(c:cZ)(e:dL):(vI x c e).lost=if x.missing=2 then e.lost++[c] else e.lost:=by
 unfold vI
 split <;> split <;> rfl
theorem rM{f:Int}{L:List dL}(h:(L.map dL.feature).Nodup):((xX f L).map dL.feature).Nodup:=by
 unfold xX
 split
 .exact h
 .rename_i hf;rw[zb8];refine List.nodup_append.2 ⟨h,by simp,λa ha b hb e=>?_⟩;obtain rfl:b=f:=by simpa using hb
  subst e;exact hf ha
theorem Df(f:Int)(L:List dL):f∈(xX f L).map dL.feature:=by
 unfold xX
 split
 .rename_i h;exact h
 .simp
theorem uw(L:List dL)(p:ND×cZ):(nM L p).map dL.feature=(xX p.1.feature L).map dL.feature:=by
 unfold nM;rw[ze6];refine List.map_congr_left λe _=>?_;simp only[Function.comp]
 split
 .exact iJ _ _ _
 .rfl
section
variable{mis:Int->cZ->Int}
theorem SV{x:ND}{c:cZ}{e:dL}(hf:e.feature=x.feature):(zN mis (vI x c e)).Perm (zN mis e++[EK mis (x,c)]):=by
 unfold zN EK;rw[iJ,Po,PK,hf]
 by_cases hk:x.kind=3
 .simp only[if_pos hk,zb8,za5];exact List.Perm.refl _
 .simp only[if_neg hk,zb8,za5];exact List.Perm.append_left _ List.perm_append_comm
theorem JM{x:ND}{c:cZ}:∀ {L:List dL},(L.map dL.feature).Nodup->x.feature∈L.map dL.feature ->
  (jB mis (L.map λe=>if e.feature=x.feature then vI x c e else e)).Perm (jB mis L++[EK mis (x,c)])
 | [],_,h=>by cases h
 |e::L,hn,hm=>by
  obtain⟨h1,h2⟩:=zf1.1 hn;unfold jB;rw[ze0,zd9,zd9]
  by_cases he:e.feature=x.feature
  .rw[if_pos he];have hrest:L.map (λe=>if e.feature=x.feature then vI x c e else e)=L:=by
    conv=>rhs;rw[<- List.map_id L]
    refine List.map_congr_left λy hy=>?_;rw[if_neg (λe'=>h1 (by rw[he,<- e'];exact ze8 hy))];rfl
   rw[hrest];refine((SV he).append_right _).trans ?_;rw[za5,za5];exact List.Perm.append_left _ List.perm_append_comm
  .rw[if_neg he,za5];refine List.Perm.append_left _ (JM h2 ?_)
   rcases zb3.1 hm with h | h
   .exact absurd h.symm he
   .exact h
theorem TV(f:Int)(L:List dL):jB mis (xX f L)=jB mis L:=by
 unfold xX
 split
 .rfl
 .unfold jB;rw[List.flatMap_append];simp[zN]
theorem SN{L:List dL}(hn:(L.map dL.feature).Nodup)(p:ND×cZ):(jB mis (nM L p)).Perm (jB mis L++[EK mis p]):=by
 unfold nM;have:=JM (mis:=mis) (x:=p.1) (c:=p.2) (rM hn (f:=p.1.feature)) (Df _ _);rw[TV]at this;exact this
theorem wV:∀(A:List (ND×cZ)) (L:List dL),(L.map dL.feature).Nodup->((A.foldl nM L).map dL.feature).Nodup
 | [],L,h=>h
 |p::A,L,h=>wV A (nM L p) (by rw[uw];exact rM h)
theorem FQ:∀(A:List (ND×cZ)) (L:List dL),(L.map dL.feature).Nodup->(jB mis (A.foldl nM L)).Perm (jB mis L++A.map (EK mis))
 | [],L,_=>by rw[List.map_nil,zc8];exact List.Perm.refl _
 |p::A,L,h=>by
  refine(FQ A (nM L p) (by rw[uw];exact rM h)).trans ?_;refine((SN h p).append_right _).trans ?_;rw[za5];exact List.Perm.refl _
noncomputable abbrev XJ(ts:List TD):List dL:=(dH ts 0).foldl nM []
theorem oq(ts:List TD):(jB mis (dN ts)).Perm ((dH ts 0).map (EK mis)):=by
 have h1:(jB mis (dN ts)).Perm (jB mis ((XJ ts).map Az)):=(sorted_perm ltF _).flatMap_right _;have h2:(jB mis ((XJ ts).map Az)).Perm (jB mis (XJ ts)):=by
  unfold jB;generalize XJ ts=L
  induction L with
  |nil=>exact .refl _
  |cons e L ih=>
   rw[ze0,zd9,zd9];refine List.Perm.append ?_ ih;unfold zN Az;exact((sorted_perm ltD e.numbers).map _).append_right _
 have h3:=FQ (mis:=mis) (dH ts 0) [] (by simp);exact h1.trans (h2.trans (by simpa[jB] using h3))
end
theorem vg:∀ {L:List dL},(L.map dL.feature).Nodup->∀l∈L,(L.find? λx=>x.feature==l.feature)=some l
 | [],_,l,h=>by cases h
 |x::L,hn,l,h=>by
  obtain⟨h1,h2⟩:=zf1.1 hn;rw[List.find?_cons]
  rcases zb3.1 h with rfl | h
  .simp
  .have:¬ x.feature=l.feature:=λe=>h1 (by rw[e];exact ze8 h);rw[show(x.feature==l.feature)=false from by simpa using this];exact vg h2 l h
theorem EZ:∀(A:List (ND×cZ)) (L:List dL),(L.map dL.feature).Nodup->∀e∈A.foldl nM L,∀c,c∈e.lost↔(∃e0∈L,e0.feature=e.feature/\c∈e0.lost)\/∃p∈A,p.1.feature=e.feature/\p.1.missing=2/\p.2=c
 | [],L,hn,e,he,c=>by
  constructor
  .intro h;exact .inl ⟨e,he,rfl,h⟩
  .rintro(⟨e0,h1,h2,h3⟩ | ⟨p,hp,_⟩)
   .have f1:=vg hn e0 h1;have f2:=vg hn e (show e∈L from he);rw[h2]at f1;rw[f1]at f2;obtain rfl:=zc2 f2;exact h3
   .cases hp
 |p::A,L,hn,e,he,c=>by
  rw[EZ A (nM L p) (by rw[uw];exact rM hn) e he c];have hens:∀f:Int,(∃e1∈xX p.1.feature L,e1.feature=f/\c∈e1.lost)↔∃e0∈L,e0.feature=f/\c∈e0.lost:=λf=>by
   unfold xX
   split
   .exact Iff.rfl
   .constructor
    .rintro⟨e1,h1,h2,h3⟩
     rcases zb2.1 h1 with h | h
     .exact⟨e1,h,h2,h3⟩
     .obtain rfl:e1=_:=by simpa using h
      cases h3
    .rintro⟨e1,h1,h2,h3⟩;exact⟨e1,List.mem_append_left _ h1,h2,h3⟩
  have hadd:(∃e0∈nM L p,e0.feature=e.feature/\c∈e0.lost)↔(∃e0∈L,e0.feature=e.feature/\c∈e0.lost)\/(p.1.feature=e.feature/\p.1.missing=2/\p.2=c):=by
   rw[<- hens];unfold nM;constructor
   .rintro⟨e0,h1,h2,h3⟩;obtain⟨e1,h4,rfl⟩:=zd4.1 h1
    by_cases hf:e1.feature=p.1.feature
    .rw[if_pos hf]at h2 h3;rw[iJ]at h2;rw[yQ]at h3;split at h3
     .rename_i hm
      rcases zb2.1 h3 with h | h
      .exact .inl ⟨e1,h4,h2,h⟩
      .exact .inr ⟨by rw[<- hf,h2],hm,by simpa using Eq.symm (by simpa using h)⟩
     .exact .inl ⟨e1,h4,h2,h3⟩
    .rw[if_neg hf]at h2 h3;exact .inl ⟨e1,h4,h2,h3⟩
   .rintro(⟨e1,h1,h2,h3⟩ | ⟨h1,h2,h3⟩)
    .refine⟨_,ze8 h1,?_,?_⟩
     .split
      .rw[iJ];exact h2
      .exact h2
     .split
      .rw[yQ]
       split
       .exact List.mem_append_left _ h3
       .exact h3
      .exact h3
    .obtain⟨e1,h4,h5⟩:=zd4.1 (Df p.1.feature L);refine⟨_,ze8 h4,?_,?_⟩
     .rw[if_pos h5,iJ,h5,h1]
     .rw[if_pos h5,yQ,if_pos h2,h3];simp
  rw[hadd];constructor
  .rintro((h | h) | ⟨q,h1,h2⟩)
   .exact .inl h
   .exact .inr ⟨p,.head _,h⟩
   .exact .inr ⟨q,.tail _ h1,h2⟩
  .rintro(h | ⟨q,h1,h2⟩)
   .exact .inl (.inl h)
   .rcases zb3.1 h1 with rfl | h1
    .exact .inl (.inr h2)
    .exact .inr ⟨q,h1,h2⟩
theorem sZ(ts:List TD):((dN ts).map dL.feature).Nodup:=by
 have h:((dN ts).map dL.feature).Perm ((XJ ts).map dL.feature):=by
  refine((sorted_perm ltF _).map _).trans ?_;rw[ze6];exact .refl _
 exact h.nodup_iff.2 (wV _ _ (by simp))
theorem Be{ts:List TD}{e:dL}(he:e∈dN ts)(c:cZ):c∈e.lost↔∃p∈dH ts 0,p.1.feature=e.feature/\p.1.missing=2/\p.2=c:=by
 obtain⟨e1,h1,rfl⟩:=zd4.1 ((sorted_perm ltF _).mem_iff.1 he);show c∈e1.lost↔_;rw[EZ _ _ (by simp) e1 h1 c];constructor
 .rintro(⟨_,h,_⟩ | h)
  .cases h
  .exact h
 .exact .inr
def rowsOf(A:List (Int×AD))(k:Nat):List AD:=(A.filter λp=>p.1==(k:Int)).map (·.2)
theorem jQ(A B:List (Int×AD))(k:Nat):rowsOf (A++B) k=rowsOf A k++rowsOf B k:=by unfold rowsOf;rw[List.filter_append,zb8]
theorem zU(p:Int×AD)(A:List (Int×AD))(k:Nat):rowsOf (p::A) k=(if p.1=(k:Int) then[p.2] else[])++rowsOf A k:=by
 unfold rowsOf;rw[List.filter_cons]
 by_cases h:p.1=(k:Int)
 .simp[h]
 .simp[h]
theorem zK{A B:List (Int×AD)}(h:A.Perm B)(k:Nat):(rowsOf A k).Perm (rowsOf B k):=(h.filter _).map _
theorem wF{ask:cZ->AD}:∀(cs:List cZ) (N:List (List AD)),(∀c∈cs,0<=c.tree/\c.tree<N.length) ->
  ∃N',sW ask cs N=some N'/\N'.length=N.length/\∀k,k<N.length->N'.getD k []=N.getD k []++rowsOf (cs.map λc=>(c.tree,ask c)) k
 | [],N,_=>⟨N,rfl,rfl,λk _=>by simp[rowsOf]⟩
 |c::cs,N,h=>by
  have hc:=h c (.head _);obtain⟨N',h1,h2,h3⟩:=wF cs (N.set c.tree.toNat (N.getD c.tree.toNat []++[ask c])) λx hx=>by rw[zf6];exact h x (.tail _ hx)
  rw[zf6]at h2 h3;refine⟨N',by rw[qR,if_pos hc];exact h1,h2,λk hk=>?_⟩;rw[h3 k hk,ze0,zU,<- List.append_assoc];congr 1;simp only[za8,zf4]
  by_cases e:c.tree=(k:Int)
  .have e':c.tree.toNat=k:=by omega
   rw[if_pos e',if_pos (by omega),if_pos e];simp[e']
  .rw[if_neg (by omega),if_neg e];simp
section
variable{mis:Int->cZ->Int}
theorem Bg:∀(L:List dL) (N:List (List AD)),(∀p∈jB mis L,0<=p.1/\p.1<N.length) ->
  (∀l∈L,(∀c∈l.numbers,(c.tree,qF l.feature false l.lost c)=Au mis l.feature 2 c)/\(∀c∈l.aT,(c.tree,qF l.feature true l.lost c)=Au mis l.feature 3 c)) ->
  ∃N',vP L N=some N'/\N'.length=N.length/\∀k,k<N.length->N'.getD k []=N.getD k []++rowsOf (jB mis L) k
 | [],N,_,_=>⟨N,rfl,rfl,λk _=>by simp[rowsOf,jB]⟩
 |l::L,N,h,hq=>by
  have hin:∀p∈zN mis l,0<=p.1/\p.1<N.length:=λp hp=>h p (by unfold jB;rw[zd9];exact List.mem_append_left _ hp);have hin2:∀p∈jB mis L,0<=p.1/\p.1<N.length:=λp hp=>h p (by unfold jB;rw[zd9];exact List.mem_append_right _ hp);obtain⟨q1,q2⟩:=hq l (.head _);obtain⟨N1,a1,a2,a3⟩:=wF (ask:=qF l.feature false l.lost) l.numbers N λc hc=>hin (Au mis l.feature 2 c) (List.mem_append_left _ (ze8 hc));obtain⟨N2,b1,b2,b3⟩:=wF (ask:=qF l.feature true l.lost) l.aT N1 λc hc=>by rw[a2];exact hin (Au mis l.feature 3 c) (List.mem_append_right _ (ze8 hc))
  obtain⟨N3,c1,c2,c3⟩:=Bg L N2 (by rw[b2,a2];exact hin2) λx hx=>hq x (.tail _ hx);refine⟨N3,?_,by rw[c2,b2,a2],λk hk=>?_⟩
  .show(QK l N).bind _=_;unfold QK;rw[a1];simp only[Option.bind_some];rw[b1];exact c1
  .rw[c3 k (by omega),b3 k (by omega),a3 k hk];unfold jB;rw[zd9,jQ];unfold zN;rw[jQ,List.map_congr_left q1,List.map_congr_left q2];simp only[za5]
end
def yg(L:List dL)(f:Int)(c:cZ):Int:=match L.find? λl=>l.feature==f with
 |some l=>if 0<l.lost.countP (λx=>decide (uO f x=uO f c)) then 2 else 1
 |none=>1
theorem DN{L:List dL}(hn:(L.map dL.feature).Nodup){l:dL}(hl:l∈L)(c:cZ):yg L l.feature c=if 0<l.lost.countP (λx=>decide (uO l.feature x=uO l.feature c)) then 2 else 1:=by
 unfold yg;rw[vg hn l hl]
theorem Vr{L:List dL}(hn:(L.map dL.feature).Nodup)(l:dL)(hl:l∈L):(∀c∈l.numbers,(c.tree,qF l.feature false l.lost c)=Au (yg L) l.feature 2 c)/\(∀c∈l.aT,(c.tree,qF l.feature true l.lost c)=Au (yg L) l.feature 3 c):=by
 constructor
 .intro c _;unfold qF Au;rw[DN hn hl];rfl
 .intro c _;unfold qF Au;rw[DN hn hl];rfl
theorem rq(att:Nat->ND):∀(T:BT) (k:Nat),oH att T k=(T.marks k).map λm=>⟨att m.node.toNat,m.frm,m.to⟩
 | .leaf _,_=>rfl
 | .node i l r,k=>by
  unfold oH BT.marks;rw[rq att l,rq att r,ze0,zb8,za3]
theorem lG{nodes:List ND}:∀ {T:BT} {k:Nat},Is nodes T->∀m∈T.marks k,∃(i:Nat) (x:ND),m.node=(i:Int)/\nodes[i]?=some x/\x.inner=true
 | .leaf _,_,_,m,h=>by cases h
 | .node i l r,k,⟨x,hx,hi,_,_,hl,hr⟩,m,h=>by
  rcases zb3.1 (show m∈_::(l.marks k++r.marks (k+l.nl)) from h) with rfl | h
  .exact⟨i,x,rfl,hx,hi⟩
  .rcases zb2.1 h with h | h
   .exact lG hl m h
   .exact lG hr m h
def MG(k:Nat)(nodes:List ND)(m:MkD):ND×cZ:=(nodes.getD m.node.toNat default,⟨(nodes.getD m.node.toNat default).thr,(nodes.getD m.node.toNat default).aT,(k:Int),m.frm,m.to⟩)
theorem vG{α β:Type}{f:α->Option β}{g:α->β}:∀ {l:List α},(∀x∈l,f x=some (g x))->l.filterMap f=l.map g
 | [],_=>rfl
 |x::l,h=>by
  rw[List.filterMap_cons,h x (.head _),ze0];simp only;rw[vG λy hy=>h y (.tail _ hy)]
theorem uK{nodes:List ND}(h:lvE nodes=0)(k:Nat):kP k nodes=((gW nodes).marks 0).map (MG k nodes):=by
 unfold kP iq;rw[if_pos h];refine vG λm hm=>?_;obtain⟨i,x,h1,h2,_⟩:=lG (bW (gz h).1).is m hm;unfold sU MG;rw[h1,za3,za8,h2];rfl
theorem ny:∀ {ts:List TD} {k0:Nat} {p:ND×cZ},(∀t∈ts,lvE t.nodes=0)->p∈dH ts k0->∃j t,ts[j]?=some t/\p∈kP (k0+j) t.nodes
 | [],_,_,_,h=>by cases h
 |t::ts,k0,p,hl,h=>by
  rcases zb2.1 (show p∈kP k0 t.nodes++dH ts (k0+1) from h) with h | h
  .exact⟨0,t,rfl,h⟩
  .obtain⟨j,t',h1,h2⟩:=ny (λx hx=>hl x (.tail _ hx)) h;exact⟨j+1,t',h1,by rw[show k0+(j+1)=k0+1+j by omega];exact h2⟩
theorem kM{k:Nat}{nodes:List ND}(h:lvE nodes=0){p:ND×cZ}(hp:p∈kP k nodes):∃m∈(gW nodes).marks 0,p=MG k nodes m:=by
 rw[uK h]at hp;obtain⟨m,h1,h2⟩:=zd4.1 hp;exact⟨m,h1,h2.symm⟩
theorem QZ{ts:List TD}(hl:∀t∈ts,lvE t.nodes=0){p q:ND×cZ}(hp:p∈dH ts 0)(hq:q∈dH ts 0)(h1:p.2.tree=q.2.tree)(h2:p.2.frm=q.2.frm)(h3:p.2.to=q.2.to):p=q:=by
 obtain⟨i,t,ht,hp'⟩:=ny hl hp;obtain⟨j,t',ht',hq'⟩:=ny hl hq;have hv:=hl t (za0 ht);obtain⟨m,hm,rfl⟩:=kM hv hp';obtain⟨m',hm',rfl⟩:=kM (hl t' (za0 ht')) hq';have hij:i=j:=by
  have:(((0+i:Nat):Int))=((0+j:Nat):Int):=h1;omega
 subst hij;obtain rfl:t=t':=by rw[ht]at ht';exact zc2 ht'
 have hpw:=zS (att:=GN t.nodes) (gW t.nodes) 0;rw[rq]at hpw;rw[List.pairwise_map]at hpw
 rcases Ox hpw m hm m' hm' with h | h | h
 .rw[h]
 .exfalso;have h2':m.frm=m'.frm:=h2;have h3':m.to=m'.to:=h3;unfold ltK at h;simp only at h;omega
 .exfalso;have h2':m.frm=m'.frm:=h2;have h3':m.to=m'.to:=h3;unfold ltK at h;simp only at h;omega
theorem wC{ts:List TD}(hl:∀t∈ts,lvE t.nodes=0){p:ND×cZ}(hp:p∈dH ts 0):(p.1.missing=1\/p.1.missing=2)/\(p.1.kind=2\/p.1.kind=3)/\p.1.value=0/\p.2.thr=p.1.thr/\p.2.aT=p.1.aT/\0<=p.1.feature:=by
 obtain⟨i,t,ht,hp'⟩:=ny hl hp;have hv:=hl t (za0 ht);obtain⟨m,hm,rfl⟩:=kM hv hp';have hT:=bW (gz hv).1;obtain⟨n,x,h1,h2,h3⟩:=lG hT.is m hm;have e:t.nodes.getD m.node.toNat default=x:=by rw[h1,za3,za8,h2];rfl
 have hok:=fH (hT.right.ok n x h2) h3;have hk:x.kind=2\/x.kind=3:=by unfold ND.inner at h3;simpa using h3
 unfold MG;simp only[e];exact⟨hok.2.2.2.2.2.2.1,hk,hok.2.2.2.2.2.2.2,trivial,trivial,hok.2.2.2.2.1⟩
theorem Lr{ts:List TD}{p:ND×cZ}(hp:p∈dH ts 0):∃e∈dN ts,e.feature=p.1.feature:=by
 have h:=(oq (mis:=λ_ _=>0) ts).mem_iff.2 (ze8 (f:=EK λ_ _=>0) hp);obtain⟨e,he,h2⟩:=List.mem_flatMap.1 h;refine⟨e,he,?_⟩;have key:∀ {f g kd kd':Int} {c c':cZ},Au (λ_ _=>0) f kd c=Au (λ_ _=>0) g kd' c'->f=g:=λh=>congrArg (λz:Int×AD=>z.2.nd.feature) h
 rcases zb2.1 (show _∈e.numbers.map _++e.aT.map _ from h2) with h3 | h3
 .obtain⟨c,_,hc⟩:=zd4.1 h3;exact key hc
 .obtain⟨c,_,hc⟩:=zd4.1 h3;exact key hc
theorem Yl{ts:List TD}(hl:∀t∈ts,lvE t.nodes=0){p:ND×cZ}(hp:p∈dH ts 0):yg (dN ts) p.1.feature p.2=p.1.missing:=by
 obtain⟨e,he,hf⟩:=Lr hp;have hm:=(wC hl hp).1;rw[<- hf,DN (sZ ts) he]
 by_cases h2:p.1.missing=2
 .rw[if_pos,h2];rw[List.countP_pos_iff];exact⟨p.2,(Be he p.2).2 ⟨p,hp,hf.symm,h2,rfl⟩,by simp⟩
 .rw[if_neg]
  .omega
  .intro h;obtain⟨c,hc,hk⟩:=List.countP_pos_iff.1 h;obtain⟨q,hq,_,hq2,rfl⟩:=(Be he c).1 hc;have hk':uO e.feature q.2=uO e.feature p.2:=by simpa using hk
   have:=QZ hl hq hp (congrArg KC.tree hk') (congrArg KC.frm hk') (congrArg KC.to hk');rw[this]at hq2;exact h2 hq2
theorem yT{ts:List TD}(hl:∀t∈ts,lvE t.nodes=0):∀ {us:List TD} {k0 k:Nat} {t:TD},(∀x∈us,lvE x.nodes=0)->(∀p∈dH us k0,p∈dH ts 0)->us[k]?=some t ->
  rowsOf ((dH us k0).map (EK (yg (dN ts)))) (k0+k)=oH (GN t.nodes) (gW t.nodes) 0
 | [],_,_,_,_,_,h=>by cases h
 |u::us,k0,k,t,hu,hs,ht=>by
  have hother:∀ {us:List TD} {k1 j:Nat},(∀x∈us,lvE x.nodes=0)->j<k1->rowsOf ((dH us k1).map (EK (yg (dN ts)))) j=[]:=fun {us k1 j} hus hj=>by
   unfold rowsOf;rw[List.filter_eq_nil_iff.2]
   .rfl
   .intro q hq;obtain⟨p,hp,rfl⟩:=zd4.1 hq;obtain⟨i,x,hx,hp'⟩:=ny hus hp;obtain⟨m,_,rfl⟩:=kM (hus x (za0 hx)) hp';have e:(EK (yg (dN ts)) (MG (k1+i) x.nodes m)).1=((k1+i:Nat):Int):=rfl;rw[e];simp only[beq_iff_eq];omega
  have hself:∀ {j:Nat} {x:TD},lvE x.nodes=0->(∀p∈kP j x.nodes,p∈dH ts 0)->rowsOf ((kP j x.nodes).map (EK (yg (dN ts)))) j=oH (GN x.nodes) (gW x.nodes) 0:=fun {j x} hx hin=>by
   rw[rq];unfold rowsOf;rw[List.filter_eq_self.2,ze6]
   .rw[uK hx,ze6];refine List.map_congr_left λm hm=>?_;have hp:MG j x.nodes m∈dH ts 0:=hin _ (by rw[uK hx];exact ze8 hm);obtain⟨_,h2,h3,_⟩:=wC hl hp;have h4:=Yl hl hp;simp only[Function.comp];unfold EK Au GN;simp only;rw[h4];have hk:(if(MG j x.nodes m).1.kind=3 then(3:Int) else 2)=(MG j x.nodes m).1.kind:=by
     rcases h2 with h | h
     .rw[h];rfl
     .rw[h];rfl
    rw[hk,<- h3];rfl
   .intro q hq;obtain⟨p,hp,rfl⟩:=zd4.1 hq;obtain⟨m,_,rfl⟩:=kM hx hp;have e:(EK (yg (dN ts)) (MG j x.nodes m)).1=(j:Int):=rfl;rw[e];simp
  have hcons:dH (u::us) k0=kP k0 u.nodes++dH us (k0+1):=rfl;rw[hcons,zb8,jQ];have hin1:∀p∈kP k0 u.nodes,p∈dH ts 0:=λp hp=>hs p (by rw[hcons];exact List.mem_append_left _ hp);have hin2:∀p∈dH us (k0+1),p∈dH ts 0:=λp hp=>hs p (by rw[hcons];exact List.mem_append_right _ hp)
  cases k with
  |zero=>
   obtain rfl:u=t:=by simpa using ht
   rw[zd2,hself (hu u (.head _)) hin1,hother (λx hx=>hu x (.tail _ hx)) (by omega),zc8]
  |succ k=>
   rw[show k0+(k+1)=k0+1+k by omega,yT hl (λx hx=>hu x (.tail _ hx)) hin2 (by simpa using ht)];have:rowsOf ((kP k0 u.nodes).map (EK (yg (dN ts)))) (k0+1+k)=[]:=by
    unfold rowsOf;rw[List.filter_eq_nil_iff.2]
    .rfl
    .intro q hq;obtain⟨p,hp,rfl⟩:=zd4.1 hq;obtain⟨m,_,rfl⟩:=kM (hu u (.head _)) hp;have e:(EK (yg (dN ts)) (MG k0 u.nodes m)).1=(k0:Int):=rfl;rw[e];simp only[beq_iff_eq];omega
   rw[this,zc9]
theorem getD_map{α β:Type}{f:α->β}{l:List α}{k:Nat}{x:α}(h:l[k]?=some x)(d:β):(l.map f).getD k d=f x:=by
 rw[za8,zc1,h];rfl
theorem lF{t:TD}(h:(dY iC t.nodes).1=0):eF t=(gW t.nodes).leaves.map (vM t.nodes):=by
 unfold eF;rw[iR h];refine List.map_congr_left λi _=>?_;unfold vM;rw[za8]
 cases t.nodes[i]? <;> rfl
theorem PS{ts:List TD}{first:Int}{k:Nat}{t:TD}{l:List AD}(ht:ts[k]?=some t)(hv:lvE t.nodes=0)(hp:l.Perm (oH (GN t.nodes) (gW t.nodes) 0)):ng (dm ts first) l k=some (dQ t):=by
 obtain⟨hs,h4⟩:=gz hv;have hnl:(dA t.nodes false).length=(gW t.nodes).nl:=by rw[iR hs];rfl
 have e1:(dm ts first).leaves.getD k 0=((gW t.nodes).nl:Int):=by
  rw[<- hnl];exact getD_map (f:=λt:TD=>((dA t.nodes false).length:Int)) ht 0
 have e2:(dm ts first).values.getD k []=eF t:=getD_map ht [];have e3:(dm ts first).outputs.getD k 0=t.output:=getD_map ht 0;have hvl:(eF t).length=(gW t.nodes).nl:=by rw[lF hs,za7];rfl
 have hlen:l.length+1=(gW t.nodes).nl:=by rw[hp.length_eq];exact yf _ _
 have hpos:=(gW t.nodes).mg;have hr:=UO hp hvl;unfold ng;rw[e1,e2,e3,if_neg (by omega),hr,if_pos rfl];rw[lF hs,zH hs];rfl
theorem JE{ts:List TD}{first:Int}:∀(us:List TD) (N:List (List AD)) (i:Nat),N.length=us.length->(∀j t,us[j]?=some t->ts[i+j]?=some t)->(∀t∈us,lvE t.nodes=0) ->
  (∀j t,us[j]?=some t->(N.getD j []).Perm (oH (GN t.nodes) (gW t.nodes) 0))->wU (dm ts first) N i=some (us.map dQ)
 | [],N,i,hl,_,_,_=>by
  obtain rfl:N=[]:=za9 hl;rfl
 |u::us,[],i,hl,_,_,_=>by simp at hl
 |u::us,r::N,i,hl,h1,h2,h3=>by
  have ht:=PS (first:=first) (h1 0 u rfl) (h2 u (.head _)) (h3 0 u rfl);unfold wU;rw[zd2]at ht;have ht':ng (dm ts first) r i=some (dQ u):=ht;rw[ht'];simp only[Option.bind_some];rw[JE us N (i+1) (by simpa using hl) (λj t hj=>by rw[show i+1+j=i+(j+1) by omega];exact h1 (j+1) t (by simpa using hj)) (λt ht=>h2 t (.tail _ ht)) (λj t hj=>h3 (j+1) t (by simpa using hj))];rfl
theorem SQ{ts:List TD}{first:Int}(hl:∀t∈ts,lvE t.nodes=0):rV (dm ts first)=some (ts.map dQ):=by
 unfold rV;rw[if_neg (by unfold dm;simp)];have hlen:(dm ts first).leaves.length=ts.length:=by unfold dm;simp
 rw[hlen];have hin:∀p∈jB (yg (dN ts)) (dN ts),0<=p.1/\p.1<(List.replicate ts.length ([]:List AD)).length:=λp hp=>by
  have h:=(oq ts).mem_iff.1 hp;obtain⟨q,hq,rfl⟩:=zd4.1 h;obtain⟨j,t,hj,hq'⟩:=ny hl hq;obtain⟨m,_,rfl⟩:=kM (hl t (za0 hj)) hq';have:=(za1.1 hj).1;have e:(EK (yg (dN ts)) (MG (0+j) t.nodes m)).1=((0+j:Nat):Int):=rfl;rw[e,zd5];omega
 obtain⟨N',h1,h2,h3⟩:=Bg (mis:=yg (dN ts)) (dN ts) (List.replicate ts.length []) hin (Vr (sZ ts));have h1':vP (dm ts first).lists (List.replicate ts.length [])=some N':=h1;rw[h1'];simp only[Option.bind_some];rw[zd5]at h2 h3;refine JE ts N' 0 h2 (λj t hj=>by rw[zd1];exact hj) hl λj t hj=>?_;have hj':=(za1.1 hj).1;rw[h3 j hj',za8,List.getElem?_replicate,if_pos hj'];have:=yT hl (us:=ts) (k0:=0) (k:=j) (t:=t) hl (λ_ h=>h) hj;rw[zd1]at this;rw[<- this];exact zK (oq ts) j
section
variable{nodes:List ND}
theorem Jy(h:lvE nodes=0):lvE (lY nodes)=0:=by
 obtain⟨hs,h4⟩:=gz h;have hc:=mZ hs;unfold lvE;rw[if_pos (by rw[hc]),iR (by rw[hc]),oM hs,BT.jZ,za7,if_neg];rw[iR hs]at h4;omega
theorem LX(h:(dY iC nodes).1=0){d:Int}(hf:pF nodes d=true):pF (lY nodes) d=true:=by
 rw[nP h];unfold pF pO;rw[zd8];intro y hy;obtain⟨i,hi,rfl⟩:=zd4.1 hy;have hlt:=((bW h).mem i).1 hi;unfold uF;rw[tq,D9,za8,za2 hlt];exact zd8.1 hf _ (List.getElem_mem hlt)
theorem H5{t:TD}{d out:Int}(h:mF t d out=0):mF (dQ t) d out=0:=by
 obtain⟨h1,h2,h3,h4⟩:=Dh h;refine zD (Jy h1) ?_ (LX (gz h1).1 h4);show¬ (t.output<0\/out<=t.output);omega
theorem xw{d out:Int}:∀ {ts:List TD},iI d out ts=0->iI d out (ts.map dQ)=0
 | [],_=>rfl
 |t::ts,h=>by
  have h0:=rG h;have h1:=H5 (h0 t (.head _));unfold iI at h;rw[if_neg (by rw[h0 t (.head _)];decide)]at h;rw[ze0];unfold iI;rw[if_neg (by rw[h1];decide)];exact xw h
theorem wM{f:Nat->Nat}:∀(T:BT) (k:Nat),(T.KO f).marks k=(T.marks k).map λm=>⟨(f m.node.toNat:Nat),m.frm,m.to⟩
 | .leaf _,_=>rfl
 | .node i l r,k=>by
  have hl:(l.KO f).nl=l.nl:=by unfold BT.nl;rw[BT.jZ,za7]
  unfold BT.KO BT.marks;rw[wM l,wM r,hl,ze0,zb8,za3]
def xJ(p:ND×cZ):ND×cZ:=({ p.1 with left:=0,right:=0 },p.2)
theorem Ho(pre:List Nat)(x:ND):({ lS pre x with left:=0,right:=0 }:ND)={ x with left:=0,right:=0 }:=by
 unfold lS
 split <;> rfl
theorem Ha(h:lvE nodes=0)(k:Nat):(kP k (lY nodes)).map xJ=(kP k nodes).map xJ:=by
 have hs:=(gz h).1;rw[uK (Jy h),uK h,oM hs,wM,ze6,ze6,ze6];refine List.map_congr_left λm hm=>?_;obtain⟨i,x,h1,h2,_⟩:=lG (bW hs).is m hm;have hg:=(bW hs).uS h2;rw[<- nP hs]at hg;simp only[Function.comp];unfold MG xJ;simp only[h1,za3];rw[za8,za8,hg,h2];simp only[Option.getD_some];rw[Ho,OY,MH]
end
theorem zQ:∀(ts:List TD) (k:Nat),(∀t∈ts,lvE t.nodes=0)->(dH (ts.map dQ) k).map xJ=(dH ts k).map xJ
 | [],_,_=>rfl
 |t::ts,k,h=>by
  show(kP k (lY t.nodes)++dH (ts.map dQ) (k+1)).map xJ=(kP k t.nodes++dH ts (k+1)).map xJ;rw[zb8,zb8,Ha (h t (.head _)),zQ ts (k+1) λx hx=>h x (.tail _ hx)]
theorem Bj(A:List (ND×cZ))(L:List dL):(A.map xJ).foldl nM L=A.foldl nM L:=by
 rw[List.foldl_map];rfl
theorem GY{ts:List TD}(h:∀t∈ts,lvE t.nodes=0):dN (ts.map dQ)=dN ts:=by
 unfold dN;rw[<- Bj (dH (ts.map dQ) 0),zQ ts 0 h,Bj]
theorem Ee{t:TD}(h:lvE t.nodes=0):eF (dQ t)=eF t:=by
 have hs:=(gz h).1;have hc:=mZ hs;rw[lF (t:=dQ t) (by show(dY iC (lY t.nodes)).1=0;rw[hc]),lF hs];show((gW (lY t.nodes)).leaves).map (vM (lY t.nodes))=_;rw[oM hs,BT.jZ,ze6];refine List.map_congr_left λi hi=>?_;have hlt:i<t.nodes.length:=by
  rw[(bW hs).is.leaves]at hi;exact((bW hs).mem i).1 (ze3.1 hi).1
 have hg:=(bW hs).uS (za2 hlt);rw[<- nP hs]at hg;simp only[Function.comp];unfold vM;rw[za8,hg,za8,za2 hlt];exact H6 _ _
theorem Gv{ts:List TD}(h:∀t∈ts,lvE t.nodes=0)(first:Int):dm (ts.map dQ) first=dm ts first:=by
 unfold dm;rw[GY h,ze6,ze6,ze6];have e1:ts.map ((λt:TD=>((dA t.nodes false).length:Int))∘dQ)=ts.map λt=>((dA t.nodes false).length:Int):=List.map_congr_left λt ht=>by
  have hs:=(gz (h t ht)).1;simp only[Function.comp];show((dA (lY t.nodes) false).length:Int)=_;rw[iR (by rw[mZ hs]),oM hs,BT.jZ,za7,iR hs]
 have e2:ts.map (eF∘dQ)=ts.map eF:=List.map_congr_left λt ht=>Ee (h t ht);have e3:ts.map (TD.output∘dQ)=ts.map TD.output:=List.map_congr_left λt _=>rfl;rw[e1,e2,e3]
theorem NQ{e:ED}(h:rO e=0):∀t∈e.trees,lvE t.nodes=0:=λt ht=>(Dh (rG (qw h).2.2.2.2.2 t ht)).1
theorem zk{ts:List TD}(hl:∀t∈ts,lvE t.nodes=0):∀(rs:List (Int×Int)) (at_:Nat) (acc:List (Int×Int)),at_<=ts.length->jc ts.length rs at_=true ->
  pW (rs.map λr=>dm ((ts.take r.2.toNat).drop r.1.toNat) r.1) ((ts.take at_).map dQ) acc=some (ts.map dQ,acc++rs)
 | [],at_,acc,h0,h=>by
  unfold jc at h;have h':(at_:Int)=(ts.length:Int):=by simpa using h
  have e:at_=ts.length:=by omega
  show some ((ts.take at_).map dQ,acc)=_;rw[e,zd3,zc8]
 |r::rs,at_,acc,h0,h=>by
  unfold jc at h;simp only[ze5,decide_eq_true_eq]at h;obtain⟨⟨⟨h1,h2⟩,h3⟩,h4⟩:=h;have hb:=SQ (ts:=(ts.take r.2.toNat).drop r.1.toNat) (first:=r.1) λt ht=>hl t (zf3 (List.mem_of_mem_drop ht));have e1:r.1.toNat=at_:=by omega
  have hlen:((ts.take at_).map dQ).length=at_:=by rw[za7,zb6];omega
  have hcat:(ts.take at_).map dQ++((ts.take r.2.toNat).drop r.1.toNat).map dQ=(ts.take r.2.toNat).map dQ:=by
   rw[<- List.map_append,e1];congr 1;have:ts.take at_=(ts.take r.2.toNat).take at_:=by rw[List.take_take,Nat.min_eq_left (by omega)]
   rw[this,List.take_append_drop]
  have hlen2:(((ts.take r.2.toNat).map dQ).length:Int)=r.2:=by rw[za7,zb6];omega
  rw[ze0];unfold pW;rw[hb];simp only;rw[if_neg (by rw[hlen];show¬ r.1≠(at_:Int);omega),hcat,hlen2];have:=zk hl rs r.2.toNat (acc++[(r.1,r.2)]) (by omega) (by rw[show((r.2.toNat:Nat):Int)=r.2 by omega];exact h4);show pW _ _ (acc++[(r.1,r.2)])=_;rw[this,za5];rfl
theorem JU{e:ED}{rs:List (Int×Int)}(h0:ofE e rs=0):gJ (ofP e rs)=some (e.trees.map dQ):=by
 obtain⟨he,hr⟩:=Td h0;have hl:=NQ he;obtain⟨q1,q2,q3,q4,q5,q6⟩:=qw he;have hP:ofP e rs=rW e rs:=by unfold ofP;rw[if_pos h0]
 rw[hP];have hb:=zk hl rs 0 [] (Nat.zero_le _) hr;rw[List.take_zero,List.map_nil,zc9]at hb;unfold gJ;rw[if_neg (by show¬ ((e.features.length:Int)<0\/(e.features.length:Int)>65536);omega)];have hb':pW (rW e rs).blocks [] []=some (e.trees.map dQ,rs):=hb;rw[hb'];simp only[Option.bind_some];have hen:rO (ig (rW e rs) (e.trees.map dQ))=0:=by
  have hf:(ig (rW e rs) (e.trees.map dQ)).features.length=e.features.length:=by
   show(List.replicate ((e.features.length:Int)).toNat _).length=_;rw[zd5];omega
  unfold rO;rw[hf];show(if e.outputs<1 then(6:Int) else if e.outputs>64 then 6 else if(e.base.length:Int)≠e.outputs then 6 else if e.features.length>65536 then 6 else if(e.trees.map dQ).length>65536 then 3 else iI e.features.length e.outputs (e.trees.map dQ))=0;rw[if_neg (by omega),if_neg (by omega),if_neg (by omega),if_neg (by omega),if_neg (by rw[za7];omega)];exact xw q6
 have hof:ofE (ig (rW e rs) (e.trees.map dQ)) rs=0:=by
  unfold ofE;rw[if_neg (by rw[hen];decide),if_pos];show jc ((e.trees.map dQ).length:Nat) rs 0=true;rw[za7];exact hr
 rw[if_pos];refine⟨hof,?_⟩;unfold ofP;rw[if_pos hof];have hf:((ig (rW e rs) (e.trees.map dQ)).features.length:Int)=e.features.length:=by
  show((List.replicate ((e.features.length:Int)).toNat _).length:Int)=_;rw[zd5];omega
 have hbl:(rs.map λr=>dm (((ig (rW e rs) (e.trees.map dQ)).trees.take r.2.toNat).drop r.1.toNat) r.1)=rs.map λr=>dm ((e.trees.take r.2.toNat).drop r.1.toNat) r.1:=by
  refine List.map_congr_left λr _=>?_;show dm (((e.trees.map dQ).take r.2.toNat).drop r.1.toNat) r.1=_;rw[<- List.map_take,<- List.map_drop];exact Gv (λt ht=>hl t (zf3 (List.mem_of_mem_drop ht))) r.1
 exact I7 hf rfl rfl hbl
section
variable{w u w1 x:World}{a a1:OA}{n c n1 c1:Nat}{F:Nat->Prop}{p q:Addr}{R:VP}{f:fC}{s t:SH}
theorem ixc{α:Type}{T:Ty α}{xs:List α}(h:Ls T F w a n c xs)(i:Nat)(hi:i<n){K:Addr->Prop}(hk:∀p x cs,a=some p->xs[i]?=some x->T.rd F w x cs->AtL w (p.add (i*T.k)) cs->K p):ix a n (i:Int) K:=by
 obtain⟨p,x,cs,h1,h2,_,h4,h5⟩:=h.elem hi;rw[h1];exact dK ⟨by omega,by omega⟩ (hk p x cs h1 h2 h4 h5)
def WZ:Nat->Value->World->Prop:=λi v u=>match i with
 |39=>∃(F:Nat->Prop) (f b t:SH),v=vE exE f b t/\rZ F u exE f b t
 |42=>∃(F:Nat->Prop) (a:OA) (n c:Nat),v=vT nO.output a n c/\Good F u a n c nO.nodes
 |_=>v = .bool true
theorem WZ.keep(i:Nat)(v:Value)(u u':World)(h:WZ i v u)(hk:Below u.heap.size u u'):WZ i v u':=by
 unfold WZ at h ⊢;split at h
 .obtain⟨F,f,b,t,h1,h2⟩:=h;exact⟨F,f,b,t,h1,h2.kept hk⟩
 .obtain⟨F,a,n,c,h1,h2⟩:=h;exact⟨F,a,n,c,h1,h2.kept hk⟩
 .exact h
theorem Va:exE.trees[1]?=some nO:=rfl
set_option maxHeartbeats 2000000 in
theorem UL:Pure prog 11 #[] w (.bool true):=by
 refine dP.calls (R:=λv u=>v = .bool true/\Below w.heap.size w u) ?_;unfold dP dP.g0;refine zg0 JP λv w1 ⟨f,b,t,hv,hG,hk1⟩=>?_;refine⟨_,f.a,f.n,f.c,_,b.a,b.n,b.c,t.a,t.n,t.c,hv,?_⟩;refine zg0 (OV (k:=2) hG) λv w2 ⟨s,z,hv,hin,hk2⟩=>?_;rw[Z7.2]at hv;rw[Z7.2]at hin;have hbl:=hin.b;have hkl:=hin.k;refine⟨_,_,s.a,s.n,s.c,z.a,z.n,z.c,_,hv,?_⟩;refine boxS (zs:=(mr 0 0 none 0 0 none 0 0).toList) (vs:=jo exF s z) rfl λw3 hA3 hb3 hk3=>?_;have hkl3:=hkl.kept hk3;have hzn:z.n=1:=hkl.len;refine sH Z7.1 ?_;refine⟨_,_,_,hA3 3 _ rfl,?_⟩;refine sH (by omega) ?_;refine⟨_,_,_,hA3 3 _ rfl,?_⟩;refine ixc hkl3 0 (by omega) λp0 x0 cs0 hp0 hx0 hrd hAt=>?_;obtain rfl:x0=exB:=by
  have h:exF.blocks[0]?=some exB:=rfl;rw[h]at hx0;exact(zc2 hx0).symm
 obtain⟨s1,s2,s3,s4,rfl,h1,h2,h3,h4⟩:=hrd;have hl4:s4.n=2:=h4.len;have hAb:AtL w3 (p0.add 0) (mG exB s1 s2 s3 s4):=by simpa using hAt
 refine⟨_,_,_,hAb 4 _ rfl,?_⟩;refine sH (by omega) ?_;refine⟨_,_,_,hA3 3 _ rfl,?_⟩;refine ixc hkl3 0 (by omega) λp1 x1 cs1 hp1 _ _ _=>?_;obtain rfl:p0=p1:=by rw[hp0]at hp1;exact zc2 hp1
 refine⟨_,_,_,hAb 4 _ rfl,?_⟩;refine ixc h4 1 (by omega) λp2 x2 cs2 hp2 hx2 hrd2 hAt2=>?_;obtain⟨l1,l2,l3,rfl,g1,g2,g3⟩:=hrd2;obtain rfl:x2=⟨1,[⟨4607182418800017408,[],1,0,2⟩,QE],[],[QE]⟩:=by
  have h:exB.lists[1]?=some ⟨1,[⟨4607182418800017408,[],1,0,2⟩,QE],[],[QE]⟩:=rfl;rw[h]at hx2;exact(zc2 hx2).symm
 have hAl:AtL w3 (p2.add 4) _:=hAt2;refine⟨_,hAl 0 _ rfl,_,_,_,hAl 1 _ rfl,_,_,_,hAl 2 _ rfl,_,_,_,hAl 3 _ rfl,?_⟩;refine boxS (zs:=(uf 0 none 0 0 none 0 0 none 0 0).toList) (vs:=enL ⟨1,[⟨4607182418800017408,[],1,0,2⟩,QE],[],[QE]⟩ l1 l2 l3) rfl λw4 hA4 hb4 hk4=>?_;have hA34:=hA3.kept hk4;refine⟨_,hA34 0 _ rfl,_,hA34 1 _ rfl,s.a,s.n,s.c,hA34 2 _ rfl,z.a,z.n,z.c,hA34 3 _ rfl,?_⟩;have hz2:∀b,nwB w1 w2 b->b<w2.heap.size:=λb hb=>hb.2;have hk34:=zg1 hk3 hk4;have hGf:jr (nwB w1 w2) w4 exF s z:=⟨hbl.kept hk34,hkl.kept hk34,Wv.sm⟩;have hold:∀ {u:World},Kept w2 u->∀b,nwB w1 w2 b->b<u.heap.size:=λhk b hb=>by have:=hb.2;have:=hk.size;omega
 refine zg0 (PX hGf Wv (hold hk34)) λv w5 hh=>?_;obtain⟨a',n',c',why,hv,_,hsome,hfr⟩:=hh;obtain⟨rfl,hts⟩:=hsome _ a0i;have hk5:=zg4 hfr;refine⟨a',n',c',_,hv,?_⟩;have hA35:=hA34.kept hk5;refine⟨_,hA35 0 _ rfl,_,hA35 1 _ rfl,s.a,s.n,s.c,hA35 2 _ rfl,z.a,z.n,z.c,hA35 3 _ rfl,?_⟩;refine zg0 (Ql (hGf.kept hk5) Wv (hold (zg1 hk34 hk5))) λv w6 ⟨hv,hk6⟩=>?_;rw[a1n]at hv;refine⟨_,_,hv,WZ,WZ.keep,?_⟩;have hk456:=zg1 hk5 hk6;have hA6:=hA4.kept hk456;have g1':=(g1.kept hk4).kept hk456;have n1:l1.n=2:=g1.len;have n3:l3.n=1:=g3.len;have hts6:=hts.kept hk6;have nt:n'=2:=hts.len;refine⟨_,_,_,hA6 1 _ rfl,?_⟩;refine kQ (by omega) ?_;refine⟨_,_,_,hA6 1 _ rfl,?_⟩;refine ixc g1' 0 (by omega) λq1 y1 cs1 _ hy1 hrd3 hAt3=>?_;obtain⟨m1,rfl,_⟩:=hrd3;obtain rfl:y1=⟨4607182418800017408,[],1,0,2⟩:=(zc2 hy1).symm;have hAc:AtL w6 (q1.add 0) (enC ⟨4607182418800017408,[],1,0,2⟩ m1):=by simpa using hAt3
 refine⟨_,hAc 2 _ rfl,?_⟩;refine kQ rfl ?_;refine⟨_,_,_,hA6 1 _ rfl,?_⟩;refine ixc g1' 0 (by omega) λq2 y2 cs2 _ hy2 hrd4 hAt4=>?_;obtain⟨m2,rfl,_⟩:=hrd4;obtain rfl:y2=⟨4607182418800017408,[],1,0,2⟩:=(zc2 hy2).symm;have hAc2:AtL w6 (q2.add 0) (enC ⟨4607182418800017408,[],1,0,2⟩ m2):=by simpa using hAt4
 refine⟨_,hAc2 4 _ rfl,?_⟩;refine kQ rfl ?_;refine⟨_,_,_,hA6 3 _ rfl,?_⟩;refine kQ (by omega) ?_;refine kQ rfl ?_;refine kQ (by omega) ?_;have hkw6:Kept w w6:=zg1 hk1 (zg1 hk2 (zg1 hk34 hk456));refine ixc hts6 1 (by omega) λp3 t3 cs3 _ ht3 hrd5 hAt5=>?_;obtain rfl:t3=nO:=(zc2 ht3).symm;obtain⟨ta,tn,tc,rfl,htn⟩:=hrd5;have hAt5':AtL w6 (p3.add 2) [.int .i64 nO.output,.slice ta tn tc]:=hAt5;refine⟨_,hAt5' 0 _ rfl,_,_,_,hAt5' 1 _ rfl,?_⟩;have hG3:Good (λk=>w4.heap.size<=k/\k<w5.heap.size) w6 ta tn tc nO.nodes:=⟨htn,λb hb=>by have:=hb.2;have:=hk6.size;omega,by have:=htn.len;have e:nO.nodes.length=5:=rfl;omega,by unfold Short;decide⟩;refine⟨λu hu=>zg0 JP λv u2 ⟨f',b',t',hv',hG',hk'⟩=>⟨_,f'.a,f'.n,f'.c,_,b'.a,b'.n,b'.c,t'.a,t'.n,t'.c,hv',⟨_,f',b',t',rfl,hG'⟩,hk'⟩,?_⟩;intro i j k l m n o p q r s' hex;obtain⟨u0,hu0,F0,f0,b0,t0,hv0,hG0⟩:=hex;have inj:∀ {f1 b1 t1:SH},yl i j k l m n o p q r s'=vE exE f1 b1 t1->q=t1.a/\r=t1.n/\s'=t1.c:=λh=>by
  simp[vE]at h;exact h.2.2.2.2
 obtain⟨rfl,rfl,rfl⟩:=inj hv0;have nt0:t0.n=2:=hG0.ts.len;refine ixc hG0.ts 1 (by omega) λp4 x4 cs4 hp4 _ _ _=>⟨λu hu h39=>?_,?_⟩
 .obtain⟨F1,f1,b1,t1,hv1,hG1⟩:=h39;obtain⟨e1,e2,e3⟩:=inj hv1;have nt1:t1.n=2:=hG1.ts.len;obtain⟨p5,x5,cs5,k1,k2,_,k4,k5⟩:=hG1.ts.elem (i:=1) (by omega);obtain rfl:p4=p5:=by rw[<- e1,hp4]at k1;exact zc2 k1
  obtain rfl:x5=nO:=by rw[Va]at k2;exact(zc2 k2).symm
  obtain⟨xa,xn,xc,rfl,hxn⟩:=k4;have k5':AtL u (p4.add 2) [.int .i64 nO.output,.slice xa xn xc]:=k5;exact⟨_,k5' 0 _ rfl,_,_,_,k5' 1 _ rfl,F1,xa,xn,xc,rfl,hxn,hG1.old,by have:=hxn.len;have e:nO.nodes.length=5:=rfl;omega,by unfold Short;decide⟩
 .intro t u v w' hex2;obtain⟨x,hx,F2,a2,n2,c2,hv2,hG2⟩:=hex2;have inj2:∀ {a1:OA} {n1 c1:Nat},jh t u v w'=vT nO.output a1 n1 c1->t=nO.output/\u=a1/\v=n1/\w'=c1:=λh=>by
   simp[vT]at h;exact h
  refine⟨λy hy _ h42=>?_,λa hb=>?_⟩
  .obtain⟨F3,a3,n3,c3,hv3,hG3'⟩:=h42;obtain⟨rfl,rfl,rfl,rfl⟩:=inj2 hv3;refine zg0 (UW (o:=nO.output) (o1:=nO.output) (hG3.kept hy) hG3') λv' u' ⟨hv',hk'⟩=>⟨_,hv',?_,hk'⟩;show Value.bool _ = .bool true;rw[iG ⟨rfl,rfl⟩]
  .obtain⟨y,hy,hb'⟩:=hb;obtain rfl:a=true:=Value.bool.inj hb';exact LW (kQ rfl λd hd _ _ _=>⟨rfl,zg1 hkw6 hd⟩)
end
section
variable{w u x:World}{a a1:OA}{n c n1 c1:Nat}{F F':Nat->Prop}{p q:Addr}{R:VP}{t:SH}
theorem a0b{xs:List TD}{i:Int}(h:Ls tT F w a n c xs)(h0:0<=i)(hi:i<n){K:Int->OA->Nat->Nat->Prop}(hk:∀x a' n' c',xs[i.toNat]?=some x->Ls tN F w a' n' c' x.nodes->K x.output a' n' c') :
  ix a n i λq=>jF w (q.add (i.toNat*2)) K :=
 h.at (K:=λq=>jF w q K) h0 hi λp x cs hx _ ⟨a',n',c',e,h1⟩ h2=>by subst e;exact⟨_,h2 0 _ rfl,_,_,_,h2 1 _ rfl,hk x _ _ _ hx h1⟩
theorem Z8{x y:TD}(h:x.output=y.output/\x.nodes=y.nodes):x=y:=by cases x;cases y;simp_all
theorem Qs{xs ys:List TD}(hs:Ls tT F w a n c xs)(ht:Ls tT F' w a1 n1 c1 ys)(hF:∀b,F b->b<w.heap.size)(hF':∀b,F' b->b<w.heap.size)(hm:n<=1048576)
  (hx:∀t∈xs,t.nodes.length<=1048576/\Short 1048576 t.nodes) (hy:∀t∈ys,t.nodes.length<=1048576/\Short 1048576 t.nodes):Pure prog 19 #[.slice a n c,.slice a1 n1 c1] w (.bool (jW (xs=ys))):=by
 refine bF.calls (R:=λv' u=>v'=_/\Below w.heap.size w u) ?_;unfold bF bF.g0;have hl:=hs.len;have hl2:=ht.len;refine ja (λh=>⟨by rw[dG];intro e;subst e;omega,Below.refl _ _⟩) λh=>?_;refine za4 (n+1) (eqS (xs:=xs) (ys:=ys) (L:=λk i w=>bF.l14 _ k a n c a1 n1 c1 n i w) hl (by omega) (W:=Kept w) (T:=λu=>Value.bool true = .bool (jW (xs=ys))/\Kept w u) (Fl:=λu=>Value.bool false = .bool (jW (xs=ys))/\Kept w u) ?_ (λk u hu hT=>?_) (λe u hu=>⟨by rw[iG e],hu⟩) (λe u hu=>⟨by rw[dG e],hu⟩) n 0 w (by omega) rfl (Kept.refl w))
 .intro k i u x y hu hi hx' hy' hN hF2;rw[bF.u14];unfold bF.g14;refine aH (by omega) ?_;refine a0b (hs.kept hu) (by omega) (by omega) λx2 a' n' c' h1 h2=>?_;rw[za3,hx']at h1;obtain rfl:=zc2 h1;refine a0b (ht.kept hu) (by omega) (by omega) λy2 a2 n2 c2 h3 h4=>?_;rw[za3,hy']at h3;obtain rfl:=zc2 h3;have q1:=hx x (za0 hx');have q2:=hy y (za0 hy');have hlen:∀b,b<w.heap.size->b<u.heap.size:=λb hb=>by have:=hu.size;omega
  refine uT (La (o:=x.output) (o1:=y.output) ⟨h2,λb hb=>hlen b (hF b hb),by rw[h2.len];exact q1.1,q1.2⟩ ⟨h4,λb hb=>hlen b (hF' b hb),by rw[h4.len];exact q2.1,q2.2⟩) (λhne v hv=>hF2 (λe=>hne (by rw[e];exact⟨rfl,rfl⟩)) v (zg1 hu hv)) λhe v hv=>aC (by omega) (hN (Z8 he) v (zg1 hu hv))
 .rw[bF.u14];unfold bF.g14;refine aA (by omega) ?_;exact hT
end
end Go.Mir
