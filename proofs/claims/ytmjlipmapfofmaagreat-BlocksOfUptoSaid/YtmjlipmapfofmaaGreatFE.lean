/- Part of a proof of laws of the seat YtmjlipmapfofmaaGreat: functions' weakest preconditions, each checked by the kernel, contracts out of them, plain lemmas; no conditions. -/
import Derived.Test.YtmjlipmapfofmaaGreatFD
import Derived.Test.YtmjlipmapfofmaaGreatTE
set_option linter.unusedVariables false
set_option linter.unusedSimpArgs false
set_option linter.unusedSectionVars false
set_option maxRecDepth 100000
namespace Go.Mir
open Go Go.E Go.RowKit Go.Tr Go.Ss Go.ChangeShapes
def headB (f:fV) (n:Nat):fV:=⟨f.features,f.outputs,f.base,f.blocks.take n⟩
noncomputable def Aw (f:fV):Nat→Nat→Int×Int
 | 0,_=>(0,0)
 | k+1,i=>match pK (headB f (i+1)) with
  | none=>(150,(i:Int))
  | some _=>Aw f k (i+1)
noncomputable def tV (f:fV):Int×Int:=match pK f with
 | some _=>(0,0)
 | none=>match pK (headB f 0) with
  | none=>(150,0)
  | some _=>Aw f f.blocks.length 0
theorem SmF.cut {f:fV} (h:SmF f) (n:Nat):SmF (headB f n):=by
 refine ⟨⟨h.sm.1,by show (f.blocks.take n).length≤_; rw [List.length_take]; have:=h.sm.2.1; omega,fun b hb=>h.sm.2.2 b (List.mem_of_mem_take hb)⟩,fun b hb=>h.tot b (List.mem_of_mem_take hb),Nat.le_trans ?_ h.trs⟩
 show trT (f.blocks.take n)≤trT f.blocks
 have h0:=congrArg trT (List.take_append_drop n f.blocks)
 unfold trT at h0 ⊢
 rw [List.map_append,List.sum_append] at h0
 omega
section
variable {w w0 u w1 wB x:World} {a a0 a1 a4:OA} {n c n0 c0 n1 c1 n4 c4 g:Nat} {F F' S:Nat→Prop} {p q:Addr} {B mb:Nat} {R:VP} {f:fV} {s t:SH}
theorem DI {K:Int→World→Prop} (hG:lH F w f s t) (hS:SmF f) (hF:∀ b,F b→b<w.heap.size) (h0:pK f=none→∀ u,Kept w u→K 150 u) (h1:∀ ts,pK f=some ts→∀ u,Kept w u→K 0 u) :
  E.CallsD Go.Proofs.Tryz.prog 15 #[vF f s t] w fun v u=>∃ a n c x,v = .tuple #[.slice a n c,.int .i64 x]∧K x u:=by
 refine E.CallsD.mono (OO hG hS hF) fun v u hh=>?_
 obtain ⟨a,n,c,why,hv,k0,k1,hfr⟩:=hh
 refine ⟨a,n,c,why,hv,?_⟩
 have hk:=From.kept hfr
 cases hb:pK f with
 | none=>rw [(k0 hb).1]; exact h0 hb u hk
 | some ts=>rw [(k1 ts hb).1]; exact h1 ts hb u hk
abbrev CkA (w:World) (r:Int×Int):VP:=fun v u=>v = .tuple #[.int .i64 r.1,.int .i64 r.2]∧Kept w u
theorem NI (hG:lH F w f s t) (hS:SmF f) {i:Nat} (hi:i≤t.n):lH F w (headB f i) s ⟨t.a,i,t.c⟩:=by
 refine ⟨hG.bs,?_,(hS.cut i).sm⟩
 have:=hG.ks.sub (i:=0) (j:=i) (Nat.zero_le _) hi
 rw [mg] at this
 show Ls tB F w t.a i t.c (f.blocks.take i)
 simpa using this
theorem Il {kf k6:Nat} {r:Int×Int} (hG:lH F w0 f s t) (hS:SmF f) (hF:∀ b,F b→b<w0.heap.size) (h06:w0.heap.size≤k6) (h0f:w0.heap.size≤kf) (hne:kf≠k6) :
  ∀ (k i:Nat) (w:World) (s6:SH),i+k=t.n→From w0.heap.size w0 w→Blk w kf (nG f s t).toArray lW→Blk w k6 (nG f s s6).toArray lW→Aw f k i=r →
   dE.l30 (CkA w0 r) (k+1) (some ⟨kf,0,none⟩) (some ⟨k6,0,none⟩) t.n i w:=by
 intro k
 have hl:=hG.ks.len
 have hsm2:=hG.sm.2.1
 induction k with
 | zero =>
  intro i w s6 hi hfr hbf hb6 hr
  obtain rfl:i=t.n:=by omega
  rw [dE.u30]; unfold dE.g30
  refine az (by omega) ?_
  rw [← hr]
  exact ⟨rfl,From.kept hfr⟩
 | succ k ih =>
  intro i w s6 hi hfr hbf hb6 hr
  rw [dE.u30]; unfold dE.g30
  refine aI (by omega) ?_
  have hA:AtL w (⟨kf,0,none⟩:Addr) (nG f s t):=fun j v hj=>by rw [addr_add,Nat.zero_add,hbf.cell]; simpa using hj
  refine ⟨_,_,_,hA 3 _ rfl,aA (by omega) (dJ ⟨by omega,by have:=hG.ks.cap; omega⟩ ?_)⟩
  rw [mg,Int.toNat_natCast]
  have bs:=hb6.set 3 (.slice t.a (i+1) t.c)
  have hos:=Only.set w k6 3 (.slice t.a (i+1) t.c)
  have e1:(((⟨k6,0,none⟩:Addr).add 3).add 0)=⟨k6,3,none⟩:=by rw [addr_add,addr_add]
  show st w (((⟨k6,0,none⟩:Addr).add 3).add 0) _ _
  rw [e1]
  refine ⟨hb6.ok (by simp),bU ?_⟩
  generalize w.setCell ⟨k6,3,none⟩ (.slice t.a (i+1) t.c)=w2 at bs hos
  have bs':Blk w2 k6 (nG (headB f (i+1)) s ⟨t.a,i+1,t.c⟩).toArray lW:=bs
  have hbf2:=hbf.mod hos (fun hk=>by have hk':kf+1=k6+1:=hk; omega)
  have hfr2:From w0.heap.size w0 w2:=From.then hfr hos fun k _ h2=>by have h2':k+1=k6+1:=h2; omega
  have hA6:AtL w2 (⟨k6,0,none⟩:Addr) (nG (headB f (i+1)) s ⟨t.a,i+1,t.c⟩):=fun j v hj=>by rw [addr_add,Nat.zero_add,bs'.cell]; simpa using hj
  refine ⟨_,hA6 0 _ rfl,_,hA6 1 _ rfl,s.a,s.n,s.c,hA6 2 _ rfl,t.a,i+1,t.c,hA6 3 _ rfl,?_⟩
  have hG0:lH F w2 f s t:=⟨From.ls hG.bs hfr2 hF,From.ls hG.ks hfr2 hF,hG.sm⟩
  have hF2:∀ b,F b→b<w2.heap.size:=fun b hb=>by have:=hF b hb; have:=hfr2.size; omega
  refine DI (s:=s) (t:=⟨t.a,i+1,t.c⟩) (NI hG0 hS (by omega)) (hS.cut (i+1)) hF2 (fun hb u hk=>?_) fun ts hb u hk=>?_
  ·refine Iw (by omega) ?_
   rw [← hr]
   unfold Aw
   rw [hb]
   exact ⟨rfl,From.kept (hfr2.aF hk)⟩
  ·refine qP (by omega) ?_
   refine aA (by omega) ?_
   refine ih (i+1) u ⟨t.a,i+1,t.c⟩ (by omega) (hfr2.aF hk) (hbf2.keep hk) (bs'.keep hk) ?_
   rw [← hr]
   conv=>rhs; unfold Aw
   rw [hb]
theorem QG (hG:lH F w f s t) (hS:SmF f) (hF:∀ b,F b→b<w.heap.size):E.CallsD Go.Proofs.Tryz.prog 17 #[vF f s t] w (CkA w (tV f)):=by
 refine dE.calls (R:=CkA w (tV f)) ?_
 unfold dE dE.g0
 refine bU ?_
 have hbk:Blk (w.alloc (.cells (nG f s t).toArray lW)) w.heap.size (nG f s t).toArray lW:=Blk.new w _ _
 have hk1:=Kept.new w (.cells (nG f s t).toArray lW)
 change lV (w.alloc (.cells (nG f s t).toArray lW)) _ _
 have hz:(w.alloc (.cells (nG f s t).toArray lW)).heap.size=w.heap.size+1:=by simp
 generalize w.alloc (.cells (nG f s t).toArray lW)=w1 at hbk hk1 hz
 have A1:AtL w1 (na w) (nG f s t):=by simpa using AtL.blk (b:=w) hbk
 have hF1:∀ {u:World},Kept w u→∀ b,F b→b<u.heap.size:=fun hk b hb=>by have:=hF b hb; have:=hk.size; omega
 refine ⟨_,A1 0 _ rfl,_,A1 1 _ rfl,s.a,s.n,s.c,A1 2 _ rfl,t.a,t.n,t.c,A1 3 _ rfl,?_⟩
 refine DI (hG.kept hk1) hS (hF1 hk1) (fun hb u hk=>?_) fun ts hb u hk=>?_
 ·refine xP (by omega) ?_
  have hk2:=Kept.trans hk1 hk
  have A2:=A1.kept hk
  refine ⟨_,A2 0 _ rfl,_,A2 1 _ rfl,s.a,s.n,s.c,A2 2 _ rfl,t.a,t.n,t.c,A2 3 _ rfl,?_⟩
  refine boxS (zs:=(lq 0 0 none 0 0 none 0 0).toList) (vs:=nG f s t) rfl fun w3 hA3 be3 hk3=>?_
  have bs:=be3.set 3 (.slice none 0 0)
  have hos:=Only.set w3 u.heap.size 3 (.slice none 0 0)
  have e1:(((na u:Addr).add 3).add 0)=⟨u.heap.size,3,none⟩:=by rw [fQ,addr_add]
  show st w3 (((na u).add 3).add 0) _ _
  rw [e1]
  refine ⟨be3.ok (by simp),bU ?_⟩
  generalize w3.setCell ⟨u.heap.size,3,none⟩ (.slice none 0 0)=w4 at bs hos
  have bs':Blk w4 u.heap.size (nG (headB f 0) s ⟨none,0,0⟩).toArray lW:=bs
  have hk4:Kept u w4:=From.kept (From.then (Kept.mod hk3) hos fun k _ h2=>by have h2':k+1=u.heap.size+1:=h2; omega)
  have hk14:=Kept.trans hk2 hk4
  have hA6:AtL w4 (na u) (nG (headB f 0) s ⟨none,0,0⟩):=by simpa using AtL.blk (b:=u) bs'
  refine ⟨_,hA6 0 _ rfl,_,hA6 1 _ rfl,s.a,s.n,s.c,hA6 2 _ rfl,none,0,0,hA6 3 _ rfl,?_⟩
  have hG4:=hG.kept hk14
  refine DI (s:=s) (t:=⟨none,0,0⟩) (f:=headB f 0) ⟨hG4.bs,by show Ls tB F w4 none 0 0 (f.blocks.take 0); rw [List.take_zero]; exact Ls.nil _ _ _ _ _,(hS.cut 0).sm⟩ (hS.cut 0) (hF1 hk14) (fun hb0 u2 hku=>?_) fun ts hb0 u2 hku=>?_
  ·refine Iw (by omega) ?_
   unfold tV
   rw [hb,hb0]
   exact ⟨rfl,Kept.trans hk14 hku⟩
  ·refine qP (by omega) ?_
   have A5:=(A2.kept hk4).kept hku
   refine ⟨_,_,_,A5 3 _ rfl,?_⟩
   have hlt:=hbk.lt
   have hks:=hk.size
   have hks2:=hk2.size
   refine Exists.intro (t.n+1) (Il (r:=tV f) hG hS hF (k6:=u.heap.size) (kf:=w.heap.size) (by omega) (Nat.le_refl _) (by omega) t.n 0 u2 ⟨none,0,0⟩ (by omega) (Kept.mod (Kept.trans hk14 hku)) (hbk.keep (Kept.trans (Kept.trans hk hk4) hku)) (bs'.keep hku) ?_)
   unfold tV
   rw [hb,hb0,← hG.ks.len]
 ·refine kV (by omega) ?_
  unfold tV
  rw [hb]
  exact ⟨rfl,Kept.trans hk1 hk⟩
end
end Go.Mir
set_option maxRecDepth 100000
namespace Go.Mir
open Go Go.E Go.RowKit Go.Tr Go.Ss Go.ChangeShapes
def wP:TD:=⟨0,[⟨2,0,1,4611686018427387904,[],2,1,2⟩,⟨1,10,0,0,[],0,0,0⟩,⟨1,20,0,0,[],0,0,0⟩]⟩
def lN:TD:=⟨0,[⟨2,0,1,4607182418800017408,[],1,1,4⟩,⟨3,0,0,0,[4],2,2,3⟩,⟨1,1,0,0,[],0,0,0⟩,⟨1,2,0,0,[],0,0,0⟩,⟨1,3,0,0,[],0,0,0⟩]⟩
def exE:ED:=⟨⟨#[]⟩,[⟨#[97]⟩,⟨#[98]⟩],1,[0],[wP,lN]⟩
def exC:dF:=⟨0,[4],1,0,1⟩
def Lj:dF:=⟨4611686018427387904,[],0,0,1⟩
def exB:lD:=⟨0,[2,3],[[10,20],[1,2,3]],[0,0],[⟨0,[],[exC],[exC]⟩,⟨1,[⟨4607182418800017408,[],1,0,2⟩,Lj],[],[Lj]⟩]⟩
def exF:fV:=⟨2,1,[0],[exB]⟩
theorem JP {nodes:List ND} {T:BT} (h:(fM iG nodes).1=0) (hI:Is nodes T) (h0:T.root=0):mZ nodes=T :=
 Is.uniq (dY h).is hI (by rw [(dY h).root,h0])
theorem Qw:(fM iG wP.nodes).1=0:=by kernel_rfl
theorem PK:(fM iG lN.nodes).1=0:=by kernel_rfl
theorem SK:mZ wP.nodes = .node 0 (.leaf 1) (.leaf 2):=JP Qw ⟨_,rfl,rfl,rfl,rfl,⟨_,rfl,rfl⟩,⟨_,rfl,rfl⟩⟩ rfl
theorem U6:mZ lN.nodes = .node 0 (.node 1 (.leaf 2) (.leaf 3)) (.leaf 4):=JP PK ⟨_,rfl,rfl,rfl,rfl,⟨_,rfl,rfl,rfl,rfl,⟨_,rfl,rfl⟩,⟨_,rfl,rfl⟩⟩,⟨_,rfl,rfl⟩⟩ rfl
theorem Ua:dw wP.nodes false=[1,2]:=by unfold dw; rw [if_pos Qw,SK]; rfl
theorem TZ:dw lN.nodes false=[2,3,4]:=by unfold dw; rw [if_pos PK,U6]; rfl
theorem TV:lvE wP.nodes=0:=by unfold lvE; rw [if_pos Qw,Ua]; rfl
theorem Uk:lvE lN.nodes=0:=by unfold lvE; rw [if_pos PK,TZ]; rfl
theorem VX:gV wP.nodes=[⟨0,0,1⟩]:=by unfold gV; rw [if_pos TV,SK]; rfl
theorem VY:gV lN.nodes=[⟨0,0,2⟩,⟨1,0,1⟩]:=by unfold gV; rw [if_pos Uk,U6]; rfl
theorem V7:iW 2 1 [wP,lN]=0:=by
 have h0:lT wP 2 1=0:=yT TV (by decide) (by kernel_rfl)
 have h1:lT lN 2 1=0:=yT Uk (by decide) (by kernel_rfl)
 simp [iW,h0,h1]
theorem Uc {nm:ByteArray} {fs:List ByteArray} (hf:fs.length=2):pF ⟨nm,fs,1,[0],[wP,lN]⟩=0:=by
 unfold pF
 show (if (1:Int)<1 then (6:Int) else if (1:Int)>64 then 6 else if ((1:Nat):Int)≠1 then 6 else if fs.length>65536 then 6 else if 2>65536 then 3 else iW fs.length 1 [wP,lN])=0
 rw [hf,if_neg (by decide),if_neg (by decide),if_neg (by decide),if_neg (by decide),if_neg (by decide)]
 exact V7
theorem Vl:eU [wP,lN] 0=exB:=by
 have hl:jr [wP,lN]=exB.lists:=by
  unfold jr dZ dZ dZ qJ
  rw [VX,VY]
  kernel_rfl
 unfold eU
 rw [hl]
 simp only [List.map_cons,List.map_nil,gp,Ua,TZ]
 rfl
theorem TS {nm:ByteArray} {fs:List ByteArray} (hf:fs.length=2):ofE ⟨nm,fs,1,[0],[wP,lN]⟩ [(0,2)]=0∧ofP ⟨nm,fs,1,[0],[wP,lN]⟩ [(0,2)]=exF:=by
 have h0:ofE ⟨nm,fs,1,[0],[wP,lN]⟩ [(0,2)]=0:=by
  unfold ofE
  rw [if_neg (by rw [Uc hf]; decide),if_pos (by show iL 2 [(0,2)] 0=true; decide)]
 refine ⟨h0,?_⟩
 unfold ofP
 rw [if_pos h0]
 unfold Bq
 show fV.mk (fs.length:Int) 1 [0] [eU [wP,lN] 0]=exF
 rw [Vl,hf]
 rfl
theorem V5:jY exE 2=0∧iY exE 2=exF:=by
 have h0:pF exE=0:=Uc rfl
 have h1:fB exE.trees.length 2=0:=by decide
 have h2:gz exE.trees.length 2=[(0,2)]:=by decide
 obtain ⟨h3,h4⟩:=TS (nm:=⟨#[]⟩) (fs:=[⟨#[97]⟩,⟨#[98]⟩]) rfl
 refine ⟨?_,?_⟩
 ·unfold jY; rw [if_neg (by rw [h0]; decide),if_neg (by rw [h1]; decide),h2]; exact h3
 ·unfold iY; rw [if_neg (by rw [h0]; decide),if_neg (by rw [h1]; decide),h2]; exact h4
theorem WJ:pK exF=some [wP,lN]:=by
 unfold pK
 rw [if_neg (by decide),show xU exF.blocks [] []=some ([wP,lN],[(0,2)]) from by kernel_rfl]
 simp only [Option.bind_some]
 exact if_pos (TS rfl)
theorem Xc:tV exF=(0,0):=by unfold tV; rw [WJ]
instance (x:dF):Decidable x.sm:=by unfold dF.sm; infer_instance
theorem Q7:SmF exF:=by
 refine ⟨⟨by decide,by decide,fun b hb=>?_⟩,fun b hb=>?_,by decide⟩
 ·obtain rfl:b=exB:=by simpa [exF] using hb
  refine ⟨by decide,by decide,by decide,by decide,by decide,fun l hl=>?_⟩
  have hl':l=⟨0,[],[exC],[exC]⟩∨l=⟨1,[⟨4607182418800017408,[],1,0,2⟩,Lj],[],[Lj]⟩:=by simpa [exB] using hl
  rcases hl' with rfl | rfl
  ·exact ⟨⟨by decide,by decide⟩,⟨by decide,by decide⟩,⟨by decide,by decide⟩⟩
  ·exact ⟨⟨by decide,by decide⟩,⟨by decide,by decide⟩,⟨by decide,by decide⟩⟩
 ·obtain rfl:b=exB:=by simpa [exF] using hb
  decide
end Go.Mir
set_option maxRecDepth 100000
namespace Go.Mir
open Go Go.E Go.RowKit Go.Tr Go.Ss Go.ChangeShapes
section
variable {w w0 u w1 wB x:World} {a a0 a1 a4:OA} {n c n0 c0 n1 c1 n4 c4 g:Nat} {F F' S:Nat→Prop} {p q:Addr} {B mb:Nat} {R:VP} {f:fV} {s t:SH}
theorem Dz {α:Type} {k e:Nat} {en:α→List Value} (xs:List α) {cs:Array Value} {K:World→Prop} (hc:cs.toList=xs.flatMap en) (hl:cs.size=xs.length*k) (hn:xs.length≤maxLen)
  (hk:∀ u,aO k en e u (some (na w)) xs.length xs.length xs (w.heap.size+1)→Kept w u→u.heap.size=w.heap.size+1→K u):nw (w.alloc (.cells cs e)) K:=by
 refine bU (hk _ ?_ (Kept.new w _) (by simp))
 have:=Row.new w e k xs.length cs hl hn
 rw [hc] at this
 exact this
theorem JI {α:Type} {e:Nat} {en:α→Value} (xs:List α) {cs:Array Value} {K:World→Prop} (hc:cs.toList=xs.map en) (hn:xs.length≤maxLen)
  (hk:∀ u,Arr en e u (some (na w)) xs.length xs.length xs (w.heap.size+1)→Kept w u→u.heap.size=w.heap.size+1→K u):nw (w.alloc (.cells cs e)) K :=
 bU (hk _ (Arr.new en e w xs cs hc hn) (Kept.new w _) (by simp))
abbrev nwB (w u:World):Nat→Prop:=fun b=>w.heap.size≤b∧b<u.heap.size
set_option maxHeartbeats 1000000 in
theorem EC:E.CallsD Go.Proofs.Tryz.prog 31 #[] w fun v u=>∃ f b t:SH,v=vE exE f b t∧iH (nwB w u) u exE f b t∧Kept w u:=by
 refine di.calls (R:=fun v u=>∃ f b t:SH,v=vE exE f b t∧iH (nwB w u) u exE f b t∧Kept w u) ?_
 unfold di di.g0
 refine bU ?_
 have hb0:=Blk.new w (mD ⟨#[]⟩ none 0 0 0 none 0 0 none 0 0) 26
 have k0:=Kept.new w (.cells (mD ⟨#[]⟩ none 0 0 0 none 0 0 none 0 0) 26)
 have z0:(w.alloc (.cells (mD ⟨#[]⟩ none 0 0 0 none 0 0 none 0 0) 26)).heap.size=w.heap.size+1:=by simp
 generalize w.alloc (.cells (mD ⟨#[]⟩ none 0 0 0 none 0 0 none 0 0) 26)=v0 at hb0 k0 z0
 refine JI (en:=fun x => .string x) [⟨#[97]⟩,⟨#[98]⟩] rfl (by decide) fun v1 r1 k1 z1=>?_
 refine JI (en:=fun x => .int .i64 x) [0] rfl (by decide) fun v2 r2 k2 z2=>?_
 refine Dz (k:=8) (en:=enH) (wP.nodes.map fun x=>(x,⟨none,0,0⟩)) rfl rfl (by decide) fun v3 r3 k3 z3=>?_
 refine JI (en:=fun x => .int .i64 x) [4] rfl (by decide) fun v4 r4 k4 z4=>?_
 refine Dz (k:=8) (en:=enH) [((lN.nodes.getD 0 ⟨0,0,0,0,[],0,0,0⟩),(⟨none,0,0⟩:SH)),((lN.nodes.getD 1 ⟨0,0,0,0,[],0,0,0⟩),⟨some (na v3),1,1⟩),((lN.nodes.getD 2 ⟨0,0,0,0,[],0,0,0⟩),⟨none,0,0⟩),((lN.nodes.getD 3 ⟨0,0,0,0,[],0,0,0⟩),⟨none,0,0⟩),((lN.nodes.getD 4 ⟨0,0,0,0,[],0,0,0⟩),⟨none,0,0⟩)] rfl rfl (by show 5≤maxLen; decide) fun v5 r5 k5 z5=>?_
 refine Dz (k:=2) (en:=xu) [(wP,(⟨some (na v2),3,3⟩:SH)),(lN,⟨some (na v4),5,5⟩)] rfl rfl (by show 2≤maxLen; decide) fun v6 r6 k6 z6=>?_
 have k56:=Kept.trans k5 k6
 have k46:=Kept.trans k4 k56
 have k36:=Kept.trans k3 k46
 have k26:=Kept.trans k2 k36
 have k16:=Kept.trans k1 k26
 have kw6:=Kept.trans k0 k16
 have hb6:=hb0.keep k16
 refine wrA (e:=26) (b:=w.heap.size) (zs:=(mD ⟨#[]⟩ none 0 0 0 none 0 0 none 0 0).toList) (vs:=[.string ⟨#[]⟩,.slice (some (na v0)) 2 2,.int .i64 1,.slice (some (na v1)) 1 1,.slice (some (na v5)) 2 2]) (by simpa using hb6) rfl fun u hb' ho=>?_
 have hA:AtL u (na w) [.string ⟨#[]⟩,.slice (some (na v0)) 2 2,.int .i64 1,.slice (some (na v1)) 1 1,.slice (some (na v5)) 2 2]:=by simpa using AtL.blk (b:=w) hb'
 have no:∀ {k m:Nat},k+1=m→w.heap.size+1<m→¬ (k+1=w.heap.size+1):=fun h1 h2 h3=>by omega
 have R1:=(r1.kept k26).mod ho fun k hk=>no hk (by omega)
 have R2:=(r2.kept k36).mod ho fun k hk=>no hk (by omega)
 have R3:=(r3.kept k46).mod ho fun k hk=>no hk (by omega)
 have R4:=(r4.kept k56).mod ho fun k hk=>no hk (by omega)
 have R5:=(r5.kept k6).mod ho fun k hk=>no hk (by omega)
 have R6:=r6.mod ho fun k hk=>no hk (by omega)
 have zu:=ho.size
 refine ⟨_,hA 0 _ rfl,_,_,_,hA 1 _ rfl,_,hA 2 _ rfl,_,_,_,hA 3 _ rfl,_,_,_,hA 4 _ rfl,⟨some (na v0),2,2⟩,⟨some (na v1),1,1⟩,⟨some (na v5),2,2⟩,rfl,?_,?_⟩
 ·refine ⟨?_,?_,?_,fun b hb=>hb.2,by show 2≤1048576; decide,by show 1≤1048576; decide,by show 2≤1048576; decide,fun x hx=>?_⟩
  ·exact (Arr.ls (h1:=fun _=>rfl) R1).mono fun b hb=>⟨by omega,by omega⟩
  ·exact (Arr.ls (h1:=fun _=>rfl) R2).mono fun b hb=>⟨by omega,by omega⟩
  ·have hnil:LsI (nwB w u) u none 0 0 []:=Ls.nil _ _ _ _ _
   have h4:LsI (nwB w u) u (some (na v3)) 1 1 [4]:=(Arr.ls (h1:=fun _=>rfl) R4).mono fun b hb=>⟨by omega,by omega⟩
   have hN3:Ls tN (nwB w u) u (some (na v2)) 3 3 wP.nodes:=by
    have:=aO.lsN (F:=nwB w u) R3 (fun b hb=>⟨by omega,by omega⟩) fun x hx=>(by
     simp only [wP,List.map_cons,List.map_nil,List.mem_cons,List.not_mem_nil,or_false] at hx
     rcases hx with rfl | rfl | rfl <;> exact hnil)
    exact this
   have hN5:Ls tN (nwB w u) u (some (na v4)) 5 5 lN.nodes:=by
    have:=aO.lsN (F:=nwB w u) R5 (fun b hb=>⟨by omega,by omega⟩) fun x hx=>(by
     simp only [lN,List.getD_cons_zero,List.getD_cons_succ,List.mem_cons,List.not_mem_nil,or_false] at hx
     rcases hx with rfl | rfl | rfl | rfl | rfl
     ·exact hnil
     ·exact h4
     ·exact hnil
     ·exact hnil
     ·exact hnil)
    exact this
   have:=aO.lsT (F:=nwB w u) R6 (fun b hb=>⟨by omega,by omega⟩) fun x hx=>(by
    simp only [List.mem_cons,List.not_mem_nil,or_false] at hx
    rcases hx with rfl | rfl
    ·exact hN3
    ·exact hN5)
   exact this
  ·have hx':x=wP∨x=lN:=by simpa [exE] using hx
   rcases hx' with rfl | rfl
   ·exact ⟨by decide,by unfold Short; decide⟩
   ·exact ⟨by decide,by unfold Short; decide⟩
 ·exact From.kept ((Kept.mod (S:=fun k=>w.heap.size≤k) kw6).trans ho (fun _ _ h=>h) (fun k _ hk=>by have hk':k+1=w.heap.size+1:=hk; show w.heap.size≤k; omega))
end
end Go.Mir
set_option maxRecDepth 100000
namespace Go.Mir
open Go Go.E Go.RowKit Go.Tr Go.Ss Go.ChangeShapes
section
variable {att:Nat→ND} {vals:List Int}
end
end Go.Mir
set_option maxRecDepth 100000
namespace Go.Mir
open Go Go.E Go.RowKit Go.Tr Go.Ss Go.ChangeShapes
theorem Pj {α:Type} {R:α→α→Prop}:∀ {l:List α},l.Pairwise R→∀ a∈l,∀ b∈l,a=b∨R a b∨R b a
 | [],_,a,h,_,_=>by cases h
 | x::l,hp,a,ha,b,hb=>by
  obtain ⟨h1,h2⟩:=List.pairwise_cons.1 hp
  rcases List.mem_cons.1 ha with e1 | k1
  ·rcases List.mem_cons.1 hb with e2 | k2
   ·exact .inl (e1.trans e2.symm)
   ·exact .inr (.inl (e1 ▸ h1 b k2))
  ·rcases List.mem_cons.1 hb with e2 | k2
   ·exact .inr (.inr (e2 ▸ h1 a k1))
   ·exact Pj h2 a k1 b k2
theorem Gz {α:Type} {lt:α→α→Bool} (hw:Wk lt) {xs ys:List α} (hp:xs.Perm ys) (hy:ys.Pairwise fun a b=>lt a b=true):sorted lt xs=ys:=by
 have asym:∀ {a b:α},lt a b=true→lt b a=false:=fun {a b} h=>by
  cases hb:lt b a with
  | false=>rfl
  | true=>have:=hw.trans a b a h hb; rw [hw.irrefl] at this; cases this
 refine List.Perm.eq_of_pairwise (le:=fun a b=>lt b a=false) ?_ (wM hw xs) (hy.imp fun h=>asym h) ((sorted_perm lt xs).trans hp)
 intro a b ha hb h1 h2
 have ha':a∈ys:=hp.mem_iff.1 ((sorted_perm lt xs).mem_iff.1 ha)
 rcases Pj hy a ha' b hb with h | h | h
 ·exact h
 ·rw [h] at h2; cases h2
 ·rw [h] at h1; cases h1
section
variable {att:Nat→ND} {vals:List Int}
end
def Aq (nodes:List ND) (i:Nat):Int:=(nodes.getD i default).value
section
variable {nodes:List ND} {T:BT}
end
end Go.Mir
set_option maxRecDepth 100000
namespace Go.Mir
open Go Go.E Go.RowKit Go.Tr Go.Ss Go.ChangeShapes
def VV (mis:Int→dF→Int) (f kd:Int) (c:dF):Int×AD:=(c.tree,⟨⟨kd,0,f,c.thr,c.bH,mis f c,0,0⟩,c.frm,c.to⟩)
def DL (mis:Int→dF→Int) (e:ed):List (Int×AD):=e.numbers.map (VV mis e.feature 2)++e.bH.map (VV mis e.feature 3)
def mQ (mis:Int→dF→Int) (L:List ed):List (Int×AD):=L.flatMap (DL mis)
def RI (mis:Int→dF→Int) (p:ND×dF):Int×AD:=VV mis p.1.feature (if p.1.kind=3 then 3 else 2) p.2
theorem jL (x:ND) (c:dF) (e:ed):(uo x c e).feature=e.feature:=by
 unfold uo
 split <;> split <;> rfl
theorem Jq (x:ND) (c:dF) (e:ed):(uo x c e).numbers=if x.kind=3 then e.numbers else e.numbers++[c]:=by
 unfold uo
 split <;> split <;> rfl
theorem Jt (x:ND) (c:dF) (e:ed):(uo x c e).bH=if x.kind=3 then e.bH++[c] else e.bH:=by
 unfold uo
 split <;> split <;> rfl
theorem sJ {f:Int} {L:List ed} (h:(L.map ed.feature).Nodup):((vK f L).map ed.feature).Nodup:=by
 unfold vK
 split
 ·exact h
 ·rename_i hf
  rw [List.map_append]
  refine List.nodup_append.2 ⟨h,by simp,fun a ha b hb e=>?_⟩
  obtain rfl:b=f:=by simpa using hb
  subst e
  exact hf ha
theorem EG (f:Int) (L:List ed):f∈(vK f L).map ed.feature:=by
 unfold vK
 split
 ·rename_i h; exact h
 ·simp
theorem wZ (L:List ed) (p:ND×dF):(nI L p).map ed.feature=(vK p.1.feature L).map ed.feature:=by
 unfold nI
 rw [List.map_map]
 refine List.map_congr_left fun e _=>?_
 simp only [Function.comp]
 split
 ·exact jL _ _ _
 ·rfl
section
variable {mis:Int→dF→Int}
theorem MC {x:ND} {c:dF} {e:ed} (hf:e.feature=x.feature):(DL mis (uo x c e)).Perm (DL mis e++[RI mis (x,c)]):=by
 unfold DL RI
 rw [jL,Jq,Jt,hf]
 by_cases hk:x.kind=3
 ·simp only [if_pos hk,List.map_append,List.append_assoc]
  exact List.Perm.refl _
 ·simp only [if_neg hk,List.map_append,List.append_assoc]
  exact List.Perm.append_left _ List.perm_append_comm
theorem Fj {x:ND} {c:dF}:∀ {L:List ed},(L.map ed.feature).Nodup→x.feature∈L.map ed.feature →
  (mQ mis (L.map fun e=>if e.feature=x.feature then uo x c e else e)).Perm (mQ mis L++[RI mis (x,c)])
 | [],_,h=>by cases h
 | e::L,hn,hm=>by
  obtain ⟨h1,h2⟩:=List.nodup_cons.1 hn
  unfold mQ
  rw [List.map_cons,List.flatMap_cons,List.flatMap_cons]
  by_cases he:e.feature=x.feature
  ·rw [if_pos he]
   have hrest:L.map (fun e=>if e.feature=x.feature then uo x c e else e)=L:=by
    conv=>rhs; rw [← List.map_id L]
    refine List.map_congr_left fun y hy=>?_
    rw [if_neg (fun e'=>h1 (by rw [he,← e']; exact List.mem_map_of_mem hy))]
    rfl
   rw [hrest]
   refine ((MC he).append_right _).trans ?_
   rw [List.append_assoc,List.append_assoc]
   exact List.Perm.append_left _ List.perm_append_comm
  ·rw [if_neg he,List.append_assoc]
   refine List.Perm.append_left _ (Fj h2 ?_)
   rcases List.mem_cons.1 hm with h | h
   ·exact absurd h.symm he
   ·exact h
theorem Lt (f:Int) (L:List ed):mQ mis (vK f L)=mQ mis L:=by
 unfold vK
 split
 ·rfl
 ·unfold mQ
  rw [List.flatMap_append]
  simp [DL]
theorem NG {L:List ed} (hn:(L.map ed.feature).Nodup) (p:ND×dF):(mQ mis (nI L p)).Perm (mQ mis L++[RI mis p]):=by
 unfold nI
 have:=Fj (mis:=mis) (x:=p.1) (c:=p.2) (sJ hn (f:=p.1.feature)) (EG _ _)
 rw [Lt] at this
 exact this
theorem yP:∀ (A:List (ND×dF)) (L:List ed),(L.map ed.feature).Nodup→((A.foldl nI L).map ed.feature).Nodup
 | [],L,h=>h
 | p::A,L,h=>yP A (nI L p) (by rw [wZ]; exact sJ h)
theorem AO:∀ (A:List (ND×dF)) (L:List ed),(L.map ed.feature).Nodup→(mQ mis (A.foldl nI L)).Perm (mQ mis L++A.map (RI mis))
 | [],L,_=>by rw [List.map_nil,List.append_nil]; exact List.Perm.refl _
 | p::A,L,h=>by
  refine (AO A (nI L p) (by rw [wZ]; exact sJ h)).trans ?_
  refine ((NG h p).append_right _).trans ?_
  rw [List.append_assoc]
  exact List.Perm.refl _
noncomputable abbrev Uu (ts:List TD):List ed:=(dZ ts 0).foldl nI []
theorem GK (ts:List TD):(mQ mis (jr ts)).Perm ((dZ ts 0).map (RI mis)):=by
 have h1:(mQ mis (jr ts)).Perm (mQ mis ((Uu ts).map xH)):=(sorted_perm ltF _).flatMap_right _
 have h2:(mQ mis ((Uu ts).map xH)).Perm (mQ mis (Uu ts)):=by
  unfold mQ
  generalize Uu ts=L
  induction L with
  | nil=>exact .refl _
  | cons e L ih =>
   rw [List.map_cons,List.flatMap_cons,List.flatMap_cons]
   refine List.Perm.append ?_ ih
   unfold DL xH
   exact ((sorted_perm ltD e.numbers).map _).append_right _
 have h3:=AO (mis:=mis) (dZ ts 0) [] (by simp)
 exact h1.trans (h2.trans (by simpa [mQ] using h3))
end
end Go.Mir
set_option maxRecDepth 100000
namespace Go.Mir
open Go Go.E Go.RowKit Go.Tr Go.Ss Go.ChangeShapes
section
variable {mis:Int→dF→Int}
end
theorem Et:∀ {ts:List TD} {k0:Nat} {p:ND×dF},(∀ t∈ts,lvE t.nodes=0)→p∈dZ ts k0→∃ j t,ts[j]?=some t∧p∈qJ (k0+j) t.nodes
 | [],_,_,_,h=>by cases h
 | t::ts,k0,p,hl,h=>by
  rcases List.mem_append.1 (show p∈qJ k0 t.nodes++dZ ts (k0+1) from h) with h | h
  ·exact ⟨0,t,rfl,h⟩
  ·obtain ⟨j,t',h1,h2⟩:=Et (fun x hx=>hl x (.tail _ hx)) h
   exact ⟨j+1,t',h1,by rw [show k0+(j+1)=k0+1+j by omega]; exact h2⟩
end Go.Mir
set_option maxRecDepth 100000
namespace Go.Mir
open Go Go.E Go.RowKit Go.Tr Go.Ss Go.ChangeShapes
section
variable {nodes:List ND}
end
end Go.Mir
set_option maxRecDepth 100000
namespace Go.Mir
open Go Go.E Go.RowKit Go.Tr Go.Ss Go.ChangeShapes
section
variable {w w0 u w1 wB x:World} {a a0 a1 a4:OA} {n c n0 c0 n1 c1 n4 c4 g:Nat} {F F' S:Nat→Prop} {p q:Addr} {B mb:Nat} {R:VP} {f:fV} {s t:SH}
theorem ixc {α:Type} {T:Ty α} {xs:List α} (h:Ls T F w a n c xs) (i:Nat) (hi:i<n) {K:Addr→Prop} (hk:∀ p x cs,a=some p→xs[i]?=some x→T.rd F w x cs→AtL w (p.add (i*T.k)) cs→K p):ix a n (i:Int) K:=by
 obtain ⟨p,x,cs,h1,h2,_,h4,h5⟩:=h.elem hi
 rw [h1]
 exact dJ ⟨by omega,by omega⟩ (hk p x cs h1 h2 h4 h5)
def RD:Nat→Value→World→Prop:=fun i v u=>match i with
 | 39=>∃ (F:Nat→Prop) (f b t:SH),v=vE exE f b t∧iH F u exE f b t
 | 42=>∃ (F:Nat→Prop) (a:OA) (n c:Nat),v=vT lN.output a n c∧Good F u a n c lN.nodes
 | _=>v = .bool true
theorem RD.keep (i:Nat) (v:Value) (u u':World) (h:RD i v u) (hk:Below u.heap.size u u'):RD i v u':=by
 unfold RD at h ⊢
 split at h
 ·obtain ⟨F,f,b,t,h1,h2⟩:=h
  exact ⟨F,f,b,t,h1,h2.kept hk⟩
 ·obtain ⟨F,a,n,c,h1,h2⟩:=h
  exact ⟨F,a,n,c,h1,h2.kept hk⟩
 ·exact h
theorem Qa:exE.trees[1]?=some lN:=rfl
set_option maxHeartbeats 2000000 in
theorem QL:Pure Go.Proofs.Tryz.prog 11 #[] w (.bool true):=by
 refine dB.calls (R:=fun v u=>v = .bool true∧Below w.heap.size w u) ?_
 unfold dB dB.g0
 refine E.CallsD.mono EC fun v w1 ⟨f,b,t,hv,hG,hk1⟩=>?_
 refine ⟨_,f.a,f.n,f.c,_,b.a,b.n,b.c,t.a,t.n,t.c,hv,?_⟩
 refine E.CallsD.mono (BB (k:=2) hG) fun v w2 ⟨s,z,hv,hin,hk2⟩=>?_
 rw [V5.2] at hv
 rw [V5.2] at hin
 have hbl:=hin.b
 have hkl:=hin.k
 refine ⟨_,_,s.a,s.n,s.c,z.a,z.n,z.c,_,hv,?_⟩
 refine boxS (zs:=(lq 0 0 none 0 0 none 0 0).toList) (vs:=nG exF s z) rfl fun w3 hA3 hb3 hk3=>?_
 have hkl3:=hkl.kept hk3
 have hzn:z.n=1:=hkl.len
 refine qP V5.1 ?_
 refine ⟨_,_,_,hA3 3 _ rfl,?_⟩
 refine qP (by omega) ?_
 refine ⟨_,_,_,hA3 3 _ rfl,?_⟩
 refine ixc hkl3 0 (by omega) fun p0 x0 cs0 hp0 hx0 hrd hAt=>?_
 obtain rfl:x0=exB:=by
  have h:exF.blocks[0]?=some exB:=rfl
  rw [h] at hx0; exact (Option.some.inj hx0).symm
 obtain ⟨s1,s2,s3,s4,rfl,h1,h2,h3,h4⟩:=hrd
 have hl4:s4.n=2:=h4.len
 have hAb:AtL w3 (p0.add 0) (rG exB s1 s2 s3 s4):=by simpa using hAt
 refine ⟨_,_,_,hAb 4 _ rfl,?_⟩
 refine qP (by omega) ?_
 refine ⟨_,_,_,hA3 3 _ rfl,?_⟩
 refine ixc hkl3 0 (by omega) fun p1 x1 cs1 hp1 _ _ _=>?_
 obtain rfl:p0=p1:=by rw [hp0] at hp1; exact Option.some.inj hp1
 refine ⟨_,_,_,hAb 4 _ rfl,?_⟩
 refine ixc h4 1 (by omega) fun p2 x2 cs2 hp2 hx2 hrd2 hAt2=>?_
 obtain ⟨l1,l2,l3,rfl,g1,g2,g3⟩:=hrd2
 obtain rfl:x2=⟨1,[⟨4607182418800017408,[],1,0,2⟩,Lj],[],[Lj]⟩:=by
  have h:exB.lists[1]?=some ⟨1,[⟨4607182418800017408,[],1,0,2⟩,Lj],[],[Lj]⟩:=rfl
  rw [h] at hx2; exact (Option.some.inj hx2).symm
 have hAl:AtL w3 (p2.add 4) _:=hAt2
 refine ⟨_,hAl 0 _ rfl,_,_,_,hAl 1 _ rfl,_,_,_,hAl 2 _ rfl,_,_,_,hAl 3 _ rfl,?_⟩
 refine boxS (zs:=(uk 0 none 0 0 none 0 0 none 0 0).toList) (vs:=enL ⟨1,[⟨4607182418800017408,[],1,0,2⟩,Lj],[],[Lj]⟩ l1 l2 l3) rfl fun w4 hA4 hb4 hk4=>?_
 have hA34:=hA3.kept hk4
 refine ⟨_,hA34 0 _ rfl,_,hA34 1 _ rfl,s.a,s.n,s.c,hA34 2 _ rfl,z.a,z.n,z.c,hA34 3 _ rfl,?_⟩
 have hz2:∀ b,nwB w1 w2 b→b<w2.heap.size:=fun b hb=>hb.2
 have hk34:=Kept.trans hk3 hk4
 have hGf:lH (nwB w1 w2) w4 exF s z:=⟨hbl.kept hk34,hkl.kept hk34,Q7.sm⟩
 have hold:∀ {u:World},Kept w2 u→∀ b,nwB w1 w2 b→b<u.heap.size:=fun hk b hb=>by have:=hb.2; have:=hk.size; omega
 refine E.CallsD.mono (OO hGf Q7 (hold hk34)) fun v w5 hh=>?_
 obtain ⟨a',n',c',why,hv,_,hsome,hfr⟩:=hh
 obtain ⟨rfl,hts⟩:=hsome _ WJ
 have hk5:=From.kept hfr
 refine ⟨a',n',c',_,hv,?_⟩
 have hA35:=hA34.kept hk5
 refine ⟨_,hA35 0 _ rfl,_,hA35 1 _ rfl,s.a,s.n,s.c,hA35 2 _ rfl,z.a,z.n,z.c,hA35 3 _ rfl,?_⟩
 refine E.CallsD.mono (QG (hGf.kept hk5) Q7 (hold (Kept.trans hk34 hk5))) fun v w6 ⟨hv,hk6⟩=>?_
 rw [Xc] at hv
 refine ⟨_,_,hv,RD,RD.keep,?_⟩
 have hk456:=Kept.trans hk5 hk6
 have hA6:=hA4.kept hk456
 have g1':=(g1.kept hk4).kept hk456
 have n1:l1.n=2:=g1.len
 have n3:l3.n=1:=g3.len
 have hts6:=hts.kept hk6
 have nt:n'=2:=hts.len
 refine ⟨_,_,_,hA6 1 _ rfl,?_⟩
 refine kV (by omega) ?_
 refine ⟨_,_,_,hA6 1 _ rfl,?_⟩
 refine ixc g1' 0 (by omega) fun q1 y1 cs1 _ hy1 hrd3 hAt3=>?_
 obtain ⟨m1,rfl,_⟩:=hrd3
 obtain rfl:y1=⟨4607182418800017408,[],1,0,2⟩:=(Option.some.inj hy1).symm
 have hAc:AtL w6 (q1.add 0) (enC ⟨4607182418800017408,[],1,0,2⟩ m1):=by simpa using hAt3
 refine ⟨_,hAc 2 _ rfl,?_⟩
 refine kV rfl ?_
 refine ⟨_,_,_,hA6 1 _ rfl,?_⟩
 refine ixc g1' 0 (by omega) fun q2 y2 cs2 _ hy2 hrd4 hAt4=>?_
 obtain ⟨m2,rfl,_⟩:=hrd4
 obtain rfl:y2=⟨4607182418800017408,[],1,0,2⟩:=(Option.some.inj hy2).symm
 have hAc2:AtL w6 (q2.add 0) (enC ⟨4607182418800017408,[],1,0,2⟩ m2):=by simpa using hAt4
 refine ⟨_,hAc2 4 _ rfl,?_⟩
 refine kV rfl ?_
 refine ⟨_,_,_,hA6 3 _ rfl,?_⟩
 refine kV (by omega) ?_
 refine kV rfl ?_
 refine kV (by omega) ?_
 have hkw6:Kept w w6:=Kept.trans hk1 (Kept.trans hk2 (Kept.trans hk34 hk456))
 refine ixc hts6 1 (by omega) fun p3 t3 cs3 _ ht3 hrd5 hAt5=>?_
 obtain rfl:t3=lN:=(Option.some.inj ht3).symm
 obtain ⟨ta,tn,tc,rfl,htn⟩:=hrd5
 have hAt5':AtL w6 (p3.add 2) [.int .i64 lN.output,.slice ta tn tc]:=hAt5
 refine ⟨_,hAt5' 0 _ rfl,_,_,_,hAt5' 1 _ rfl,?_⟩
 have hG3:Good (fun k=>w4.heap.size≤k∧k<w5.heap.size) w6 ta tn tc lN.nodes:=⟨htn,fun b hb=>by have:=hb.2; have:=hk6.size; omega,by have:=htn.len; have e:lN.nodes.length=5:=rfl; omega,by unfold Short; decide⟩
 refine ⟨fun u hu=>E.CallsD.mono EC fun v u2 ⟨f',b',t',hv',hG',hk'⟩=>⟨_,f'.a,f'.n,f'.c,_,b'.a,b'.n,b'.c,t'.a,t'.n,t'.c,hv',⟨_,f',b',t',rfl,hG'⟩,hk'⟩,?_⟩
 intro i j k l m n o p q r s' hex
 obtain ⟨u0,hu0,F0,f0,b0,t0,hv0,hG0⟩:=hex
 have inj:∀ {f1 b1 t1:SH},mf i j k l m n o p q r s'=vE exE f1 b1 t1→q=t1.a∧r=t1.n∧s'=t1.c:=fun h=>by
  simp [vE] at h
  exact h.2.2.2.2
 obtain ⟨rfl,rfl,rfl⟩:=inj hv0
 have nt0:t0.n=2:=hG0.ts.len
 refine ixc hG0.ts 1 (by omega) fun p4 x4 cs4 hp4 _ _ _=>⟨fun u hu h39=>?_,?_⟩
 ·obtain ⟨F1,f1,b1,t1,hv1,hG1⟩:=h39
  obtain ⟨e1,e2,e3⟩:=inj hv1
  have nt1:t1.n=2:=hG1.ts.len
  obtain ⟨p5,x5,cs5,k1,k2,_,k4,k5⟩:=hG1.ts.elem (i:=1) (by omega)
  obtain rfl:p4=p5:=by rw [← e1,hp4] at k1; exact Option.some.inj k1
  obtain rfl:x5=lN:=by rw [Qa] at k2; exact (Option.some.inj k2).symm
  obtain ⟨xa,xn,xc,rfl,hxn⟩:=k4
  have k5':AtL u (p4.add 2) [.int .i64 lN.output,.slice xa xn xc]:=k5
  exact ⟨_,k5' 0 _ rfl,_,_,_,k5' 1 _ rfl,F1,xa,xn,xc,rfl,hxn,hG1.old,by have:=hxn.len; have e:lN.nodes.length=5:=rfl; omega,by unfold Short; decide⟩
 ·intro t u v w' hex2
  obtain ⟨x,hx,F2,a2,n2,c2,hv2,hG2⟩:=hex2
  have inj2:∀ {a1:OA} {n1 c1:Nat},jv t u v w'=vT lN.output a1 n1 c1→t=lN.output∧u=a1∧v=n1∧w'=c1:=fun h=>by
   simp [vT] at h
   exact h
  refine ⟨fun y hy _ h42=>?_,fun a hb=>?_⟩
  ·obtain ⟨F3,a3,n3,c3,hv3,hG3'⟩:=h42
   obtain ⟨rfl,rfl,rfl,rfl⟩:=inj2 hv3
   refine E.CallsD.mono (QI (o:=lN.output) (o1:=lN.output) (hG3.kept hy) hG3') fun v' u' ⟨hv',hk'⟩=>⟨_,hv',?_,hk'⟩
   show Value.bool _ = .bool true
   rw [gm ⟨rfl,rfl⟩]
  ·obtain ⟨y,hy,hb'⟩:=hb
   obtain rfl:a=true:=Value.bool.inj hb'
   exact F7 (kV rfl fun d hd _ _ _=>⟨rfl,Kept.trans hkw6 hd⟩)
end
end Go.Mir
set_option maxRecDepth 100000
namespace Go.Mir
open Go Go.E Go.RowKit Go.Tr Go.Ss Go.ChangeShapes
theorem DY (mis:Int→dF→Int):∀ L:List ed,(mQ mis L).length=Ci L
 | []=>rfl
 | l::L=>by
  have ih:=DY mis L
  unfold mQ Ci at ih ⊢
  rw [List.flatMap_cons,List.length_append,ih]
  unfold DL
  simp
theorem JB (ts:List TD):Ci (jr ts)=(dZ ts 0).length:=by
 have h:=(GK (mis:=fun _ _=>0) ts).length_eq
 rw [DY,List.length_map] at h
 exact h
theorem F8 {ts:List TD}:∀ (rs:List (Int×Int)) (at_:Nat),at_≤ts.length→iL ts.length rs at_=true→trT (rs.map fun r=>eU ((ts.take r.2.toNat).drop r.1.toNat) r.1)+at_=ts.length
 | [],at_,h0,h=>by
  unfold iL at h
  have h':(at_:Int)=(ts.length:Int):=by simpa using h
  simp only [trT,List.map_nil,List.sum_nil]
  omega
 | r::rs,at_,h0,h=>by
  unfold iL at h
  simp only [Bool.and_eq_true,decide_eq_true_eq] at h
  obtain ⟨⟨⟨h1,h2⟩,h3⟩,h4⟩:=h
  have ih:=F8 (ts:=ts) rs r.2.toNat (by omega) (by rw [show ((r.2.toNat:Nat):Int)=r.2 by omega]; exact h4)
  have e:(eU ((ts.take r.2.toNat).drop r.1.toNat) r.1).leaves.length=r.2.toNat - at_:=by
   show (((ts.take r.2.toNat).drop r.1.toNat).map _).length=_
   rw [List.length_map,List.length_drop,List.length_take]
   omega
  unfold trT at ih ⊢
  rw [List.map_cons,List.map_cons,List.sum_cons,e]
  omega
theorem Tt {e:ED} {rs:List (Int×Int)} (h0:ofE e rs=0) (hg:∀ t∈e.trees,t.nodes.length≤1048576∧Short 1048576 t.nodes):SmF (ofP e rs):=by
 obtain ⟨he,hr⟩:=SC h0
 obtain ⟨q1,q2,q3,q4,q5,q6⟩:=qw he
 have hP:ofP e rs=Bq e rs:=by unfold ofP; rw [if_pos h0]
 refine ⟨Po h0 (fun t ht=>(hg t ht).1) (fun t ht=>(hg t ht).2),fun b hb=>?_,?_⟩
 ·rw [hP] at hb
  obtain ⟨r,_,rfl⟩:=List.mem_map.1 hb
  show Ci (jr _)≤_
  rw [JB]
  have h1:=wO ((e.trees.take r.2.toNat).drop r.1.toNat) 0
  have h2:((e.trees.take r.2.toNat).drop r.1.toNat).length≤65536:=by rw [List.length_drop,List.length_take]; omega
  omega
 ·rw [hP]
  have:=F8 (ts:=e.trees) rs 0 (Nat.zero_le _) hr
  show trT (rs.map fun r=>eU ((e.trees.take r.2.toNat).drop r.1.toNat) r.1)≤_
  omega
section
variable {w w0 u w1 wB x:World} {a a0 a1 a4:OA} {n c n0 c0 n1 c1 n4 c4 g:Nat} {F F' S:Nat→Prop} {p q:Addr} {B mb:Nat} {R:VP} {f:fV} {s t:SH}
end
end Go.Mir
