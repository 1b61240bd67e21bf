/- Part of a proof of laws of the seat Ytmjlipmapfofmaa: functions' weakest preconditions, each checked by the kernel, contracts out of them, plain lemmas; no conditions. -/
import Derived.Test.YtmjlipmapfofmaaFD
import Derived.Test.YtmjlipmapfofmaaTE
set_option linter.unusedVariables false
set_option linter.unusedSimpArgs false
set_option linter.unusedSectionVars false
set_option maxRecDepth 100000
namespace Go.Mir
open Go Go.E Go.RowKit Go.Tr Go.Ss Go.ChangeShapes
def headB (f:fZ) (n:Nat):fZ:=⟨f.features,f.outputs,f.base,f.blocks.take n⟩
noncomputable def Ak (f:fZ):Nat→Nat→Int×Int
 | 0,_=>(0,0)
 | k+1,i=>match lF (headB f (i+1)) with
  | none=>(150,(i:Int))
  | some _=>Ak f k (i+1)
noncomputable def oD (f:fZ):Int×Int:=match lF f with
 | some _=>(0,0)
 | none=>match lF (headB f 0) with
  | none=>(150,0)
  | some _=>Ak f f.blocks.length 0
theorem SmF.cut {f:fZ} (h:SmF f) (n:Nat):SmF (headB f n):=by
 refine ⟨⟨h.sm.1,by show (f.blocks.take n).length≤_; rw [List.length_take]; have:=h.sm.2.1; omega,fun b hb=>h.sm.2.2 b (List.mem_of_mem_take hb)⟩,fun b hb=>h.tot b (List.mem_of_mem_take hb),Nat.le_trans ?_ h.trs⟩
 show trT (f.blocks.take n)≤trT f.blocks
 have h0:=congrArg trT (List.take_append_drop n f.blocks)
 unfold trT at h0 ⊢
 rw [List.map_append,List.sum_append] at h0
 omega
section
variable {w w0 u w1 wB x:World} {a a0 a1 a4:OA} {n c n0 c0 n1 c1 n4 c4 g:Nat} {F F' S:Nat→Prop} {p q:Addr} {B mb:Nat} {R:VP} {f:fZ} {s t:SH}
theorem Cm {K:Int→World→Prop} (hG:mf F w f s t) (hS:SmF f) (hF:∀ b,F b→b<w.heap.size) (h0:lF f=none→∀ u,Kept w u→K 150 u) (h1:∀ ts,lF f=some ts→∀ u,Kept w u→K 0 u) :
  E.CallsD Go.Proofs.Try.prog 21 #[vF f s t] w fun v u=>∃ a n c x,v = .tuple #[.slice a n c,.int .i64 x]∧K x u:=by
 refine E.CallsD.mono (EI hG hS hF) fun v u hh=>?_
 obtain ⟨a,n,c,why,hv,k0,k1,hfr⟩:=hh
 refine ⟨a,n,c,why,hv,?_⟩
 have hk:=From.kept hfr
 cases hb:lF f with
 | none=>rw [(k0 hb).1]; exact h0 hb u hk
 | some ts=>rw [(k1 ts hb).1]; exact h1 ts hb u hk
abbrev CkA (w:World) (r:Int×Int):VP:=fun v u=>v = .tuple #[.int .i64 r.1,.int .i64 r.2]∧Kept w u
theorem Me (hG:mf F w f s t) (hS:SmF f) {i:Nat} (hi:i≤t.n):mf F w (headB f i) s ⟨t.a,i,t.c⟩:=by
 refine ⟨hG.bs,?_,(hS.cut i).sm⟩
 have:=hG.ks.sub (i:=0) (j:=i) (Nat.zero_le _) hi
 rw [tY] at this
 show Ls tB F w t.a i t.c (f.blocks.take i)
 simpa using this
theorem I5 {kf k6:Nat} {r:Int×Int} (hG:mf F w0 f s t) (hS:SmF f) (hF:∀ b,F b→b<w0.heap.size) (h06:w0.heap.size≤k6) (h0f:w0.heap.size≤kf) (hne:kf≠k6) :
  ∀ (k i:Nat) (w:World) (s6:SH),i+k=t.n→From w0.heap.size w0 w→Blk w kf (o7 f s t).toArray pF→Blk w k6 (o7 f s s6).toArray pF→Ak f k i=r →
   WJ.l30 (CkA w0 r) (k+1) (some ⟨kf,0,none⟩) (some ⟨k6,0,none⟩) t.n i w:=by
 intro k
 have hl:=hG.ks.len
 have hsm2:=hG.sm.2.1
 induction k with
 | zero =>
  intro i w s6 hi hfr hbf hb6 hr
  obtain rfl:i=t.n:=by omega
  rw [WJ.u30]; unfold WJ.g30
  refine ai (by omega) ?_
  rw [← hr]
  exact ⟨rfl,From.kept hfr⟩
 | succ k ih =>
  intro i w s6 hi hfr hbf hb6 hr
  rw [WJ.u30]; unfold WJ.g30
  refine aN (by omega) ?_
  have hA:AtL w (⟨kf,0,none⟩:Addr) (o7 f s t):=fun j v hj=>by rw [addr_add,Nat.zero_add,hbf.cell]; simpa using hj
  refine ⟨_,_,_,hA 3 _ rfl,WE (by omega) (dA ⟨by omega,by have:=hG.ks.cap; omega⟩ ?_)⟩
  rw [tY,Int.toNat_natCast]
  have bs:=hb6.set 3 (.slice t.a (i+1) t.c)
  have hos:=Only.set w k6 3 (.slice t.a (i+1) t.c)
  have e1:(((⟨k6,0,none⟩:Addr).add 3).add 0)=⟨k6,3,none⟩:=by rw [addr_add,addr_add]
  show st w (((⟨k6,0,none⟩:Addr).add 3).add 0) _ _
  rw [e1]
  refine ⟨hb6.ok (by simp),aT ?_⟩
  generalize w.setCell ⟨k6,3,none⟩ (.slice t.a (i+1) t.c)=w2 at bs hos
  have bs':Blk w2 k6 (o7 (headB f (i+1)) s ⟨t.a,i+1,t.c⟩).toArray pF:=bs
  have hbf2:=hbf.mod hos (fun hk=>by have hk':kf+1=k6+1:=hk; omega)
  have hfr2:From w0.heap.size w0 w2:=From.then hfr hos fun k _ h2=>by have h2':k+1=k6+1:=h2; omega
  have hA6:AtL w2 (⟨k6,0,none⟩:Addr) (o7 (headB f (i+1)) s ⟨t.a,i+1,t.c⟩):=fun j v hj=>by rw [addr_add,Nat.zero_add,bs'.cell]; simpa using hj
  refine ⟨_,hA6 0 _ rfl,_,hA6 1 _ rfl,s.a,s.n,s.c,hA6 2 _ rfl,t.a,i+1,t.c,hA6 3 _ rfl,?_⟩
  have hG0:mf F w2 f s t:=⟨From.ls hG.bs hfr2 hF,From.ls hG.ks hfr2 hF,hG.sm⟩
  have hF2:∀ b,F b→b<w2.heap.size:=fun b hb=>by have:=hF b hb; have:=hfr2.size; omega
  refine Cm (s:=s) (t:=⟨t.a,i+1,t.c⟩) (Me hG0 hS (by omega)) (hS.cut (i+1)) hF2 (fun hb u hk=>?_) fun ts hb u hk=>?_
  ·refine Ov (by omega) ?_
   rw [← hr]
   unfold Ak
   rw [hb]
   exact ⟨rfl,From.kept (hfr2.aA hk)⟩
  ·refine lW (by omega) ?_
   refine WE (by omega) ?_
   refine ih (i+1) u ⟨t.a,i+1,t.c⟩ (by omega) (hfr2.aA hk) (hbf2.keep hk) (bs'.keep hk) ?_
   rw [← hr]
   conv=>rhs; unfold Ak
   rw [hb]
theorem Jl (hG:mf F w f s t) (hS:SmF f) (hF:∀ b,F b→b<w.heap.size):E.CallsD Go.Proofs.Try.prog 22 #[vF f s t] w (CkA w (oD f)):=by
 refine WJ.calls (R:=CkA w (oD f)) ?_
 unfold WJ WJ.g0
 refine aT ?_
 have hbk:Blk (w.alloc (.cells (o7 f s t).toArray pF)) w.heap.size (o7 f s t).toArray pF:=Blk.new w _ _
 have hk1:=Kept.new w (.cells (o7 f s t).toArray pF)
 change qc (w.alloc (.cells (o7 f s t).toArray pF)) _ _
 have hz:(w.alloc (.cells (o7 f s t).toArray pF)).heap.size=w.heap.size+1:=by simp
 generalize w.alloc (.cells (o7 f s t).toArray pF)=w1 at hbk hk1 hz
 have A1:AtL w1 (na w) (o7 f s t):=by simpa using AtL.blk (b:=w) hbk
 have hF1:∀ {u:World},Kept w u→∀ b,F b→b<u.heap.size:=fun hk b hb=>by have:=hF b hb; have:=hk.size; omega
 refine ⟨_,A1 0 _ rfl,_,A1 1 _ rfl,s.a,s.n,s.c,A1 2 _ rfl,t.a,t.n,t.c,A1 3 _ rfl,?_⟩
 refine Cm (hG.kept hk1) hS (hF1 hk1) (fun hb u hk=>?_) fun ts hb u hk=>?_
 ·refine ET (by omega) ?_
  have hk2:=Kept.trans hk1 hk
  have A2:=A1.kept hk
  refine ⟨_,A2 0 _ rfl,_,A2 1 _ rfl,s.a,s.n,s.c,A2 2 _ rfl,t.a,t.n,t.c,A2 3 _ rfl,?_⟩
  refine boxS (zs:=(sZ 0 0 none 0 0 none 0 0).toList) (vs:=o7 f s t) rfl fun w3 hA3 be3 hk3=>?_
  have bs:=be3.set 3 (.slice none 0 0)
  have hos:=Only.set w3 u.heap.size 3 (.slice none 0 0)
  have e1:(((na u:Addr).add 3).add 0)=⟨u.heap.size,3,none⟩:=by rw [eP,addr_add]
  show st w3 (((na u).add 3).add 0) _ _
  rw [e1]
  refine ⟨be3.ok (by simp),aT ?_⟩
  generalize w3.setCell ⟨u.heap.size,3,none⟩ (.slice none 0 0)=w4 at bs hos
  have bs':Blk w4 u.heap.size (o7 (headB f 0) s ⟨none,0,0⟩).toArray pF:=bs
  have hk4:Kept u w4:=From.kept (From.then (Kept.mod hk3) hos fun k _ h2=>by have h2':k+1=u.heap.size+1:=h2; omega)
  have hk14:=Kept.trans hk2 hk4
  have hA6:AtL w4 (na u) (o7 (headB f 0) s ⟨none,0,0⟩):=by simpa using AtL.blk (b:=u) bs'
  refine ⟨_,hA6 0 _ rfl,_,hA6 1 _ rfl,s.a,s.n,s.c,hA6 2 _ rfl,none,0,0,hA6 3 _ rfl,?_⟩
  have hG4:=hG.kept hk14
  refine Cm (s:=s) (t:=⟨none,0,0⟩) (f:=headB f 0) ⟨hG4.bs,by show Ls tB F w4 none 0 0 (f.blocks.take 0); rw [List.take_zero]; exact Ls.nil _ _ _ _ _,(hS.cut 0).sm⟩ (hS.cut 0) (hF1 hk14) (fun hb0 u2 hku=>?_) fun ts hb0 u2 hku=>?_
  ·refine Ov (by omega) ?_
   unfold oD
   rw [hb,hb0]
   exact ⟨rfl,Kept.trans hk14 hku⟩
  ·refine lW (by omega) ?_
   have A5:=(A2.kept hk4).kept hku
   refine ⟨_,_,_,A5 3 _ rfl,?_⟩
   have hlt:=hbk.lt
   have hks:=hk.size
   have hks2:=hk2.size
   refine Exists.intro (t.n+1) (I5 (r:=oD f) hG hS hF (k6:=u.heap.size) (kf:=w.heap.size) (by omega) (Nat.le_refl _) (by omega) t.n 0 u2 ⟨none,0,0⟩ (by omega) (Kept.mod (Kept.trans hk14 hku)) (hbk.keep (Kept.trans (Kept.trans hk hk4) hku)) (bs'.keep hku) ?_)
   unfold oD
   rw [hb,hb0,← hG.ks.len]
 ·refine lZ (by omega) ?_
  unfold oD
  rw [hb]
  exact ⟨rfl,Kept.trans hk1 hk⟩
end
end Go.Mir
set_option maxRecDepth 100000
namespace Go.Mir
open Go Go.E Go.RowKit Go.Tr Go.Ss Go.ChangeShapes
def vM:TD:=⟨0,[⟨2,0,1,4611686018427387904,[],2,1,2⟩,⟨1,10,0,0,[],0,0,0⟩,⟨1,20,0,0,[],0,0,0⟩]⟩
def kQ:TD:=⟨0,[⟨2,0,1,4607182418800017408,[],1,1,4⟩,⟨3,0,0,0,[4],2,2,3⟩,⟨1,1,0,0,[],0,0,0⟩,⟨1,2,0,0,[],0,0,0⟩,⟨1,3,0,0,[],0,0,0⟩]⟩
def exE:ED:=⟨⟨#[]⟩,[⟨#[97]⟩,⟨#[98]⟩],1,[0],[vM,kQ]⟩
def exC:dU:=⟨0,[4],1,0,1⟩
def KI:dU:=⟨4611686018427387904,[],0,0,1⟩
def exB:mr:=⟨0,[2,3],[[10,20],[1,2,3]],[0,0],[⟨0,[],[exC],[exC]⟩,⟨1,[⟨4607182418800017408,[],1,0,2⟩,KI],[],[KI]⟩]⟩
def exF:fZ:=⟨2,1,[0],[exB]⟩
theorem JC {nodes:List ND} {T:BT} (h:(bu fQ nodes).1=0) (hI:Is nodes T) (h0:T.root=0):fK nodes=T :=
 Is.uniq (aJ h).is hI (by rw [(aJ h).root,h0])
theorem Pj:(bu fQ vM.nodes).1=0:=by kernel_rfl
theorem PS:(bu fQ kQ.nodes).1=0:=by kernel_rfl
theorem RS:fK vM.nodes = .node 0 (.leaf 1) (.leaf 2):=JC Pj ⟨_,rfl,rfl,rfl,rfl,⟨_,rfl,rfl⟩,⟨_,rfl,rfl⟩⟩ rfl
theorem RD:fK kQ.nodes = .node 0 (.node 1 (.leaf 2) (.leaf 3)) (.leaf 4):=JC PS ⟨_,rfl,rfl,rfl,rfl,⟨_,rfl,rfl,rfl,rfl,⟨_,rfl,rfl⟩,⟨_,rfl,rfl⟩⟩,⟨_,rfl,rfl⟩⟩ rfl
theorem Td:bG vM.nodes false=[1,2]:=by unfold bG; rw [if_pos Pj,RS]; rfl
theorem Ri:bG kQ.nodes false=[2,3,4]:=by unfold bG; rw [if_pos PS,RD]; rfl
theorem Rz:lvE vM.nodes=0:=by unfold lvE; rw [if_pos Pj,Td]; rfl
theorem Su:lvE kQ.nodes=0:=by unfold lvE; rw [if_pos PS,Ri]; rfl
theorem UC:jq vM.nodes=[⟨0,0,1⟩]:=by unfold jq; rw [if_pos Rz,RS]; rfl
theorem UT:jq kQ.nodes=[⟨0,0,2⟩,⟨1,0,1⟩]:=by unfold jq; rw [if_pos Su,RD]; rfl
theorem UX:gW 2 1 [vM,kQ]=0:=by
 have h0:kE vM 2 1=0:=yx Rz (by decide) (by kernel_rfl)
 have h1:kE kQ 2 1=0:=yx Su (by decide) (by kernel_rfl)
 simp [gW,h0,h1]
theorem Sr {nm:ByteArray} {fs:List ByteArray} (hf:fs.length=2):oU ⟨nm,fs,1,[0],[vM,kQ]⟩=0:=by
 unfold oU
 show (if (1:Int)<1 then (6:Int) else if (1:Int)>64 then 6 else if ((1:Nat):Int)≠1 then 6 else if fs.length>65536 then 6 else if 2>65536 then 3 else gW fs.length 1 [vM,kQ])=0
 rw [hf,if_neg (by decide),if_neg (by decide),if_neg (by decide),if_neg (by decide),if_neg (by decide)]
 exact UX
theorem V4:bZ [vM,kQ] 0=exB:=by
 have hl:dF [vM,kQ]=exB.lists:=by
  unfold dF dC dC dC kD
  rw [UC,UT]
  kernel_rfl
 unfold bZ
 rw [hl]
 simp only [List.map_cons,List.map_nil,eU,Td,Ri]
 rfl
theorem RZ {nm:ByteArray} {fs:List ByteArray} (hf:fs.length=2):ofE ⟨nm,fs,1,[0],[vM,kQ]⟩ [(0,2)]=0∧ofP ⟨nm,fs,1,[0],[vM,kQ]⟩ [(0,2)]=exF:=by
 have h0:ofE ⟨nm,fs,1,[0],[vM,kQ]⟩ [(0,2)]=0:=by
  unfold ofE
  rw [if_neg (by rw [Sr hf]; decide),if_pos (by show iw 2 [(0,2)] 0=true; decide)]
 refine ⟨h0,?_⟩
 unfold ofP
 rw [if_pos h0]
 unfold qo
 show fZ.mk (fs.length:Int) 1 [0] [bZ [vM,kQ] 0]=exF
 rw [V4,hf]
 rfl
theorem V9:kU exE 2=0∧lh exE 2=exF:=by
 have h0:oU exE=0:=Sr rfl
 have h1:gZ exE.trees.length 2=0:=by decide
 have h2:iM exE.trees.length 2=[(0,2)]:=by decide
 obtain ⟨h3,h4⟩:=RZ (nm:=⟨#[]⟩) (fs:=[⟨#[97]⟩,⟨#[98]⟩]) rfl
 refine ⟨?_,?_⟩
 ·unfold kU; rw [if_neg (by rw [h0]; decide),if_neg (by rw [h1]; decide),h2]; exact h3
 ·unfold lh; rw [if_neg (by rw [h0]; decide),if_neg (by rw [h1]; decide),h2]; exact h4
theorem VK:lF exF=some [vM,kQ]:=by
 unfold lF
 rw [if_neg (by decide),show oq exF.blocks [] []=some ([vM,kQ],[(0,2)]) from by kernel_rfl]
 simp only [Option.bind_some]
 exact if_pos (RZ rfl)
theorem WA:oD exF=(0,0):=by unfold oD; rw [VK]
instance (x:dU):Decidable x.sm:=by unfold dU.sm; infer_instance
theorem Qc:SmF exF:=by
 refine ⟨⟨by decide,by decide,fun b hb=>?_⟩,fun b hb=>?_,by decide⟩
 ·obtain rfl:b=exB:=by simpa [exF] using hb
  refine ⟨by decide,by decide,by decide,by decide,by decide,fun l hl=>?_⟩
  have hl':l=⟨0,[],[exC],[exC]⟩∨l=⟨1,[⟨4607182418800017408,[],1,0,2⟩,KI],[],[KI]⟩:=by simpa [exB] using hl
  rcases hl' with rfl | rfl
  ·exact ⟨⟨by decide,by decide⟩,⟨by decide,by decide⟩,⟨by decide,by decide⟩⟩
  ·exact ⟨⟨by decide,by decide⟩,⟨by decide,by decide⟩,⟨by decide,by decide⟩⟩
 ·obtain rfl:b=exB:=by simpa [exF] using hb
  decide
end Go.Mir
set_option maxRecDepth 100000
namespace Go.Mir
open Go Go.E Go.RowKit Go.Tr Go.Ss Go.ChangeShapes
section
variable {w w0 u w1 wB x:World} {a a0 a1 a4:OA} {n c n0 c0 n1 c1 n4 c4 g:Nat} {F F' S:Nat→Prop} {p q:Addr} {B mb:Nat} {R:VP} {f:fZ} {s t:SH}
theorem D6 {α:Type} {k e:Nat} {en:α→List Value} (xs:List α) {cs:Array Value} {K:World→Prop} (hc:cs.toList=xs.flatMap en) (hl:cs.size=xs.length*k) (hn:xs.length≤maxLen)
  (hk:∀ u,au k en e u (some (na w)) xs.length xs.length xs (w.heap.size+1)→Kept w u→u.heap.size=w.heap.size+1→K u):nw (w.alloc (.cells cs e)) K:=by
 refine aT (hk _ ?_ (Kept.new w _) (by simp))
 have:=Row.new w e k xs.length cs hl hn
 rw [hc] at this
 exact this
theorem IY {α:Type} {e:Nat} {en:α→Value} (xs:List α) {cs:Array Value} {K:World→Prop} (hc:cs.toList=xs.map en) (hn:xs.length≤maxLen)
  (hk:∀ u,Arr en e u (some (na w)) xs.length xs.length xs (w.heap.size+1)→Kept w u→u.heap.size=w.heap.size+1→K u):nw (w.alloc (.cells cs e)) K :=
 aT (hk _ (Arr.new en e w xs cs hc hn) (Kept.new w _) (by simp))
abbrev nwB (w u:World):Nat→Prop:=fun b=>w.heap.size≤b∧b<u.heap.size
set_option maxHeartbeats 1000000 in
theorem Eg:E.CallsD Go.Proofs.Try.prog 27 #[] w fun v u=>∃ f b t:SH,v=vE exE f b t∧gV (nwB w u) u exE f b t∧Kept w u:=by
 refine aV.calls (R:=fun v u=>∃ f b t:SH,v=vE exE f b t∧gV (nwB w u) u exE f b t∧Kept w u) ?_
 unfold aV aV.g0
 refine aT ?_
 have hb0:=Blk.new w (qB ⟨#[]⟩ none 0 0 0 none 0 0 none 0 0) 26
 have k0:=Kept.new w (.cells (qB ⟨#[]⟩ none 0 0 0 none 0 0 none 0 0) 26)
 have z0:(w.alloc (.cells (qB ⟨#[]⟩ none 0 0 0 none 0 0 none 0 0) 26)).heap.size=w.heap.size+1:=by simp
 generalize w.alloc (.cells (qB ⟨#[]⟩ none 0 0 0 none 0 0 none 0 0) 26)=v0 at hb0 k0 z0
 refine IY (en:=fun x => .string x) [⟨#[97]⟩,⟨#[98]⟩] rfl (by decide) fun v1 r1 k1 z1=>?_
 refine IY (en:=fun x => .int .i64 x) [0] rfl (by decide) fun v2 r2 k2 z2=>?_
 refine D6 (k:=8) (en:=enH) (vM.nodes.map fun x=>(x,⟨none,0,0⟩)) rfl rfl (by decide) fun v3 r3 k3 z3=>?_
 refine IY (en:=fun x => .int .i64 x) [4] rfl (by decide) fun v4 r4 k4 z4=>?_
 refine D6 (k:=8) (en:=enH) [((kQ.nodes.getD 0 ⟨0,0,0,0,[],0,0,0⟩),(⟨none,0,0⟩:SH)),((kQ.nodes.getD 1 ⟨0,0,0,0,[],0,0,0⟩),⟨some (na v3),1,1⟩),((kQ.nodes.getD 2 ⟨0,0,0,0,[],0,0,0⟩),⟨none,0,0⟩),((kQ.nodes.getD 3 ⟨0,0,0,0,[],0,0,0⟩),⟨none,0,0⟩),((kQ.nodes.getD 4 ⟨0,0,0,0,[],0,0,0⟩),⟨none,0,0⟩)] rfl rfl (by show 5≤maxLen; decide) fun v5 r5 k5 z5=>?_
 refine D6 (k:=2) (en:=qP) [(vM,(⟨some (na v2),3,3⟩:SH)),(kQ,⟨some (na v4),5,5⟩)] rfl rfl (by show 2≤maxLen; decide) fun v6 r6 k6 z6=>?_
 have k56:=Kept.trans k5 k6
 have k46:=Kept.trans k4 k56
 have k36:=Kept.trans k3 k46
 have k26:=Kept.trans k2 k36
 have k16:=Kept.trans k1 k26
 have kw6:=Kept.trans k0 k16
 have hb6:=hb0.keep k16
 refine wrA (e:=26) (b:=w.heap.size) (zs:=(qB ⟨#[]⟩ none 0 0 0 none 0 0 none 0 0).toList) (vs:=[.string ⟨#[]⟩,.slice (some (na v0)) 2 2,.int .i64 1,.slice (some (na v1)) 1 1,.slice (some (na v5)) 2 2]) (by simpa using hb6) rfl fun u hb' ho=>?_
 have hA:AtL u (na w) [.string ⟨#[]⟩,.slice (some (na v0)) 2 2,.int .i64 1,.slice (some (na v1)) 1 1,.slice (some (na v5)) 2 2]:=by simpa using AtL.blk (b:=w) hb'
 have no:∀ {k m:Nat},k+1=m→w.heap.size+1<m→¬ (k+1=w.heap.size+1):=fun h1 h2 h3=>by omega
 have R1:=(r1.kept k26).mod ho fun k hk=>no hk (by omega)
 have R2:=(r2.kept k36).mod ho fun k hk=>no hk (by omega)
 have R3:=(r3.kept k46).mod ho fun k hk=>no hk (by omega)
 have R4:=(r4.kept k56).mod ho fun k hk=>no hk (by omega)
 have R5:=(r5.kept k6).mod ho fun k hk=>no hk (by omega)
 have R6:=r6.mod ho fun k hk=>no hk (by omega)
 have zu:=ho.size
 refine ⟨_,hA 0 _ rfl,_,_,_,hA 1 _ rfl,_,hA 2 _ rfl,_,_,_,hA 3 _ rfl,_,_,_,hA 4 _ rfl,⟨some (na v0),2,2⟩,⟨some (na v1),1,1⟩,⟨some (na v5),2,2⟩,rfl,?_,?_⟩
 ·refine ⟨?_,?_,?_,fun b hb=>hb.2,by show 2≤1048576; decide,by show 1≤1048576; decide,by show 2≤1048576; decide,fun x hx=>?_⟩
  ·exact (Arr.ls (h1:=fun _=>rfl) R1).mono fun b hb=>⟨by omega,by omega⟩
  ·exact (Arr.ls (h1:=fun _=>rfl) R2).mono fun b hb=>⟨by omega,by omega⟩
  ·have hnil:LsI (nwB w u) u none 0 0 []:=Ls.nil _ _ _ _ _
   have h4:LsI (nwB w u) u (some (na v3)) 1 1 [4]:=(Arr.ls (h1:=fun _=>rfl) R4).mono fun b hb=>⟨by omega,by omega⟩
   have hN3:Ls tN (nwB w u) u (some (na v2)) 3 3 vM.nodes:=by
    have:=au.lsN (F:=nwB w u) R3 (fun b hb=>⟨by omega,by omega⟩) fun x hx=>(by
     simp only [vM,List.map_cons,List.map_nil,List.mem_cons,List.not_mem_nil,or_false] at hx
     rcases hx with rfl | rfl | rfl <;> exact hnil)
    exact this
   have hN5:Ls tN (nwB w u) u (some (na v4)) 5 5 kQ.nodes:=by
    have:=au.lsN (F:=nwB w u) R5 (fun b hb=>⟨by omega,by omega⟩) fun x hx=>(by
     simp only [kQ,List.getD_cons_zero,List.getD_cons_succ,List.mem_cons,List.not_mem_nil,or_false] at hx
     rcases hx with rfl | rfl | rfl | rfl | rfl
     ·exact hnil
     ·exact h4
     ·exact hnil
     ·exact hnil
     ·exact hnil)
    exact this
   have:=au.lsT (F:=nwB w u) R6 (fun b hb=>⟨by omega,by omega⟩) fun x hx=>(by
    simp only [List.mem_cons,List.not_mem_nil,or_false] at hx
    rcases hx with rfl | rfl
    ·exact hN3
    ·exact hN5)
   exact this
  ·have hx':x=vM∨x=kQ:=by simpa [exE] using hx
   rcases hx' with rfl | rfl
   ·exact ⟨by decide,by unfold Short; decide⟩
   ·exact ⟨by decide,by unfold Short; decide⟩
 ·exact From.kept ((Kept.mod (S:=fun k=>w.heap.size≤k) kw6).trans ho (fun _ _ h=>h) (fun k _ hk=>by have hk':k+1=w.heap.size+1:=hk; show w.heap.size≤k; omega))
end
end Go.Mir
set_option maxRecDepth 100000
namespace Go.Mir
open Go Go.E Go.RowKit Go.Tr Go.Ss Go.ChangeShapes
section
variable {att:Nat→ND} {vals:List Int}
end
end Go.Mir
set_option maxRecDepth 100000
namespace Go.Mir
open Go Go.E Go.RowKit Go.Tr Go.Ss Go.ChangeShapes
section
variable {att:Nat→ND} {vals:List Int}
end
def qJ (nodes:List ND) (i:Nat):Int:=(nodes.getD i default).value
section
variable {nodes:List ND} {T:BT}
end
end Go.Mir
set_option maxRecDepth 100000
namespace Go.Mir
open Go Go.E Go.RowKit Go.Tr Go.Ss Go.ChangeShapes
section
variable {mis:Int→dU→Int}
end
end Go.Mir
set_option maxRecDepth 100000
namespace Go.Mir
open Go Go.E Go.RowKit Go.Tr Go.Ss Go.ChangeShapes
section
variable {mis:Int→dU→Int}
end
end Go.Mir
set_option maxRecDepth 100000
namespace Go.Mir
open Go Go.E Go.RowKit Go.Tr Go.Ss Go.ChangeShapes
section
variable {nodes:List ND}
end
end Go.Mir
set_option maxRecDepth 100000
namespace Go.Mir
open Go Go.E Go.RowKit Go.Tr Go.Ss Go.ChangeShapes
section
variable {w w0 u w1 wB x:World} {a a0 a1 a4:OA} {n c n0 c0 n1 c1 n4 c4 g:Nat} {F F' S:Nat→Prop} {p q:Addr} {B mb:Nat} {R:VP} {f:fZ} {s t:SH}
theorem ixc {α:Type} {T:Ty α} {xs:List α} (h:Ls T F w a n c xs) (i:Nat) (hi:i<n) {K:Addr→Prop} (hk:∀ p x cs,a=some p→xs[i]?=some x→T.rd F w x cs→AtL w (p.add (i*T.k)) cs→K p):ix a n (i:Int) K:=by
 obtain ⟨p,x,cs,h1,h2,_,h4,h5⟩:=h.elem hi
 rw [h1]
 exact dA ⟨by omega,by omega⟩ (hk p x cs h1 h2 h4 h5)
def QQ:Nat→Value→World→Prop:=fun i v u=>match i with
 | 39=>∃ (F:Nat→Prop) (f b t:SH),v=vE exE f b t∧gV F u exE f b t
 | 42=>∃ (F:Nat→Prop) (a:OA) (n c:Nat),v=vT kQ.output a n c∧Good F u a n c kQ.nodes
 | _=>v = .bool true
theorem QQ.keep (i:Nat) (v:Value) (u u':World) (h:QQ i v u) (hk:Below u.heap.size u u'):QQ i v u':=by
 unfold QQ at h ⊢
 split at h
 ·obtain ⟨F,f,b,t,h1,h2⟩:=h
  exact ⟨F,f,b,t,h1,h2.kept hk⟩
 ·obtain ⟨F,a,n,c,h1,h2⟩:=h
  exact ⟨F,a,n,c,h1,h2.kept hk⟩
 ·exact h
theorem P5:exE.trees[1]?=some kQ:=rfl
set_option maxHeartbeats 2000000 in
theorem OU:Pure Go.Proofs.Try.prog 11 #[] w (.bool true):=by
 refine bg.calls (R:=fun v u=>v = .bool true∧Below w.heap.size w u) ?_
 unfold bg bg.g0
 refine E.CallsD.mono Eg fun v w1 ⟨f,b,t,hv,hG,hk1⟩=>?_
 refine ⟨_,f.a,f.n,f.c,_,b.a,b.n,b.c,t.a,t.n,t.c,hv,?_⟩
 refine E.CallsD.mono (BB (k:=2) hG) fun v w2 ⟨s,z,hv,hin,hk2⟩=>?_
 rw [V9.2] at hv
 rw [V9.2] at hin
 have hbl:=hin.b
 have hkl:=hin.k
 refine ⟨_,_,s.a,s.n,s.c,z.a,z.n,z.c,_,hv,?_⟩
 refine boxS (zs:=(sZ 0 0 none 0 0 none 0 0).toList) (vs:=o7 exF s z) rfl fun w3 hA3 hb3 hk3=>?_
 have hkl3:=hkl.kept hk3
 have hzn:z.n=1:=hkl.len
 refine lW V9.1 ?_
 refine ⟨_,_,_,hA3 3 _ rfl,?_⟩
 refine lW (by omega) ?_
 refine ⟨_,_,_,hA3 3 _ rfl,?_⟩
 refine ixc hkl3 0 (by omega) fun p0 x0 cs0 hp0 hx0 hrd hAt=>?_
 obtain rfl:x0=exB:=by
  have h:exF.blocks[0]?=some exB:=rfl
  rw [h] at hx0; exact (Option.some.inj hx0).symm
 obtain ⟨s1,s2,s3,s4,rfl,h1,h2,h3,h4⟩:=hrd
 have hl4:s4.n=2:=h4.len
 have hAb:AtL w3 (p0.add 0) (um exB s1 s2 s3 s4):=by simpa using hAt
 refine ⟨_,_,_,hAb 4 _ rfl,?_⟩
 refine lW (by omega) ?_
 refine ⟨_,_,_,hA3 3 _ rfl,?_⟩
 refine ixc hkl3 0 (by omega) fun p1 x1 cs1 hp1 _ _ _=>?_
 obtain rfl:p0=p1:=by rw [hp0] at hp1; exact Option.some.inj hp1
 refine ⟨_,_,_,hAb 4 _ rfl,?_⟩
 refine ixc h4 1 (by omega) fun p2 x2 cs2 hp2 hx2 hrd2 hAt2=>?_
 obtain ⟨l1,l2,l3,rfl,g1,g2,g3⟩:=hrd2
 obtain rfl:x2=⟨1,[⟨4607182418800017408,[],1,0,2⟩,KI],[],[KI]⟩:=by
  have h:exB.lists[1]?=some ⟨1,[⟨4607182418800017408,[],1,0,2⟩,KI],[],[KI]⟩:=rfl
  rw [h] at hx2; exact (Option.some.inj hx2).symm
 have hAl:AtL w3 (p2.add 4) _:=hAt2
 refine ⟨_,hAl 0 _ rfl,_,_,_,hAl 1 _ rfl,_,_,_,hAl 2 _ rfl,_,_,_,hAl 3 _ rfl,?_⟩
 refine boxS (zs:=(zK 0 none 0 0 none 0 0 none 0 0).toList) (vs:=enL ⟨1,[⟨4607182418800017408,[],1,0,2⟩,KI],[],[KI]⟩ l1 l2 l3) rfl fun w4 hA4 hb4 hk4=>?_
 have hA34:=hA3.kept hk4
 refine ⟨_,hA34 0 _ rfl,_,hA34 1 _ rfl,s.a,s.n,s.c,hA34 2 _ rfl,z.a,z.n,z.c,hA34 3 _ rfl,?_⟩
 have hz2:∀ b,nwB w1 w2 b→b<w2.heap.size:=fun b hb=>hb.2
 have hk34:=Kept.trans hk3 hk4
 have hGf:mf (nwB w1 w2) w4 exF s z:=⟨hbl.kept hk34,hkl.kept hk34,Qc.sm⟩
 have hold:∀ {u:World},Kept w2 u→∀ b,nwB w1 w2 b→b<u.heap.size:=fun hk b hb=>by have:=hb.2; have:=hk.size; omega
 refine E.CallsD.mono (EI hGf Qc (hold hk34)) fun v w5 hh=>?_
 obtain ⟨a',n',c',why,hv,_,hsome,hfr⟩:=hh
 obtain ⟨rfl,hts⟩:=hsome _ VK
 have hk5:=From.kept hfr
 refine ⟨a',n',c',_,hv,?_⟩
 have hA35:=hA34.kept hk5
 refine ⟨_,hA35 0 _ rfl,_,hA35 1 _ rfl,s.a,s.n,s.c,hA35 2 _ rfl,z.a,z.n,z.c,hA35 3 _ rfl,?_⟩
 refine E.CallsD.mono (Jl (hGf.kept hk5) Qc (hold (Kept.trans hk34 hk5))) fun v w6 ⟨hv,hk6⟩=>?_
 rw [WA] at hv
 refine ⟨_,_,hv,QQ,QQ.keep,?_⟩
 have hk456:=Kept.trans hk5 hk6
 have hA6:=hA4.kept hk456
 have g1':=(g1.kept hk4).kept hk456
 have n1:l1.n=2:=g1.len
 have n3:l3.n=1:=g3.len
 have hts6:=hts.kept hk6
 have nt:n'=2:=hts.len
 refine ⟨_,_,_,hA6 1 _ rfl,?_⟩
 refine lZ (by omega) ?_
 refine ⟨_,_,_,hA6 1 _ rfl,?_⟩
 refine ixc g1' 0 (by omega) fun q1 y1 cs1 _ hy1 hrd3 hAt3=>?_
 obtain ⟨m1,rfl,_⟩:=hrd3
 obtain rfl:y1=⟨4607182418800017408,[],1,0,2⟩:=(Option.some.inj hy1).symm
 have hAc:AtL w6 (q1.add 0) (enC ⟨4607182418800017408,[],1,0,2⟩ m1):=by simpa using hAt3
 refine ⟨_,hAc 2 _ rfl,?_⟩
 refine lZ rfl ?_
 refine ⟨_,_,_,hA6 1 _ rfl,?_⟩
 refine ixc g1' 0 (by omega) fun q2 y2 cs2 _ hy2 hrd4 hAt4=>?_
 obtain ⟨m2,rfl,_⟩:=hrd4
 obtain rfl:y2=⟨4607182418800017408,[],1,0,2⟩:=(Option.some.inj hy2).symm
 have hAc2:AtL w6 (q2.add 0) (enC ⟨4607182418800017408,[],1,0,2⟩ m2):=by simpa using hAt4
 refine ⟨_,hAc2 4 _ rfl,?_⟩
 refine lZ rfl ?_
 refine ⟨_,_,_,hA6 3 _ rfl,?_⟩
 refine lZ (by omega) ?_
 refine lZ rfl ?_
 refine lZ (by omega) ?_
 have hkw6:Kept w w6:=Kept.trans hk1 (Kept.trans hk2 (Kept.trans hk34 hk456))
 refine ixc hts6 1 (by omega) fun p3 t3 cs3 _ ht3 hrd5 hAt5=>?_
 obtain rfl:t3=kQ:=(Option.some.inj ht3).symm
 obtain ⟨ta,tn,tc,rfl,htn⟩:=hrd5
 have hAt5':AtL w6 (p3.add 2) [.int .i64 kQ.output,.slice ta tn tc]:=hAt5
 refine ⟨_,hAt5' 0 _ rfl,_,_,_,hAt5' 1 _ rfl,?_⟩
 have hG3:Good (fun k=>w4.heap.size≤k∧k<w5.heap.size) w6 ta tn tc kQ.nodes:=⟨htn,fun b hb=>by have:=hb.2; have:=hk6.size; omega,by have:=htn.len; have e:kQ.nodes.length=5:=rfl; omega,by unfold Short; decide⟩
 refine ⟨fun u hu=>E.CallsD.mono Eg fun v u2 ⟨f',b',t',hv',hG',hk'⟩=>⟨_,f'.a,f'.n,f'.c,_,b'.a,b'.n,b'.c,t'.a,t'.n,t'.c,hv',⟨_,f',b',t',rfl,hG'⟩,hk'⟩,?_⟩
 intro i j k l m n o p q r s' hex
 obtain ⟨u0,hu0,F0,f0,b0,t0,hv0,hG0⟩:=hex
 have inj:∀ {f1 b1 t1:SH},ou i j k l m n o p q r s'=vE exE f1 b1 t1→q=t1.a∧r=t1.n∧s'=t1.c:=fun h=>by
  simp [vE] at h
  exact h.2.2.2.2
 obtain ⟨rfl,rfl,rfl⟩:=inj hv0
 have nt0:t0.n=2:=hG0.ts.len
 refine ixc hG0.ts 1 (by omega) fun p4 x4 cs4 hp4 _ _ _=>⟨fun u hu h39=>?_,?_⟩
 ·obtain ⟨F1,f1,b1,t1,hv1,hG1⟩:=h39
  obtain ⟨e1,e2,e3⟩:=inj hv1
  have nt1:t1.n=2:=hG1.ts.len
  obtain ⟨p5,x5,cs5,k1,k2,_,k4,k5⟩:=hG1.ts.elem (i:=1) (by omega)
  obtain rfl:p4=p5:=by rw [← e1,hp4] at k1; exact Option.some.inj k1
  obtain rfl:x5=kQ:=by rw [P5] at k2; exact (Option.some.inj k2).symm
  obtain ⟨xa,xn,xc,rfl,hxn⟩:=k4
  have k5':AtL u (p4.add 2) [.int .i64 kQ.output,.slice xa xn xc]:=k5
  exact ⟨_,k5' 0 _ rfl,_,_,_,k5' 1 _ rfl,F1,xa,xn,xc,rfl,hxn,hG1.old,by have:=hxn.len; have e:kQ.nodes.length=5:=rfl; omega,by unfold Short; decide⟩
 ·intro t u v w' hex2
  obtain ⟨x,hx,F2,a2,n2,c2,hv2,hG2⟩:=hex2
  have inj2:∀ {a1:OA} {n1 c1:Nat},WS t u v w'=vT kQ.output a1 n1 c1→t=kQ.output∧u=a1∧v=n1∧w'=c1:=fun h=>by
   simp [vT] at h
   exact h
  refine ⟨fun y hy _ h42=>?_,fun a hb=>?_⟩
  ·obtain ⟨F3,a3,n3,c3,hv3,hG3'⟩:=h42
   obtain ⟨rfl,rfl,rfl,rfl⟩:=inj2 hv3
   refine E.CallsD.mono (Qi (o:=kQ.output) (o1:=kQ.output) (hG3.kept hy) hG3') fun v' u' ⟨hv',hk'⟩=>⟨_,hv',?_,hk'⟩
   show Value.bool _ = .bool true
   rw [gY ⟨rfl,rfl⟩]
  ·obtain ⟨y,hy,hb'⟩:=hb
   obtain rfl:a=true:=Value.bool.inj hb'
   exact KN (lZ rfl fun d hd _ _ _=>⟨rfl,Kept.trans hkw6 hd⟩)
end
end Go.Mir
set_option maxRecDepth 100000
namespace Go.Mir
open Go Go.E Go.RowKit Go.Tr Go.Ss Go.ChangeShapes
section
variable {w w0 u w1 wB x:World} {a a0 a1 a4:OA} {n c n0 c0 n1 c1 n4 c4 g:Nat} {F F' S:Nat→Prop} {p q:Addr} {B mb:Nat} {R:VP} {f:fZ} {s t:SH}
end
end Go.Mir
