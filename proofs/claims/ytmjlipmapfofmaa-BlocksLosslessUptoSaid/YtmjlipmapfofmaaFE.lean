/- Part of a proof of laws of the seat Ytmjlipmapfofmaa: functions' weakest preconditions, each checked by the kernel, contracts out of them, plain lemmas; no conditions. -/
import Derived.Test.YtmjlipmapfofmaaFD
import Derived.Test.YtmjlipmapfofmaaTE
set_option linter.unusedVariables false
set_option linter.unusedSimpArgs false
set_option linter.unusedSectionVars false
set_option maxRecDepth 100000
namespace Go.Mir
open Go Go.E Go.RowKit Go.Tr Go.Ss Go.ChangeShapes
def headB (f:fZ) (n:Nat):fZ:=⟨f.features,f.outputs,f.base,f.blocks.take n⟩
noncomputable def Ak (f:fZ):Nat→Nat→Int×Int
 | 0,_=>(0,0)
 | k+1,i=>match lF (headB f (i+1)) with
  | none=>(150,(i:Int))
  | some _=>Ak f k (i+1)
noncomputable def oD (f:fZ):Int×Int:=match lF f with
 | some _=>(0,0)
 | none=>match lF (headB f 0) with
  | none=>(150,0)
  | some _=>Ak f f.blocks.length 0
theorem SmF.cut {f:fZ} (h:SmF f) (n:Nat):SmF (headB f n):=by
 refine ⟨⟨h.sm.1,by show (f.blocks.take n).length≤_; rw [List.length_take]; have:=h.sm.2.1; omega,fun b hb=>h.sm.2.2 b (List.mem_of_mem_take hb)⟩,fun b hb=>h.tot b (List.mem_of_mem_take hb),Nat.le_trans ?_ h.trs⟩
 show trT (f.blocks.take n)≤trT f.blocks
 have h0:=congrArg trT (List.take_append_drop n f.blocks)
 unfold trT at h0 ⊢
 rw [List.map_append,List.sum_append] at h0
 omega
section
variable {w w0 u w1 wB x:World} {a a0 a1 a4:OA} {n c n0 c0 n1 c1 n4 c4 g:Nat} {F F' S:Nat→Prop} {p q:Addr} {B mb:Nat} {R:VP} {f:fZ} {s t:SH}
theorem Cm {K:Int→World→Prop} (hG:mf F w f s t) (hS:SmF f) (hF:∀ b,F b→b<w.heap.size) (h0:lF f=none→∀ u,Kept w u→K 150 u) (h1:∀ ts,lF f=some ts→∀ u,Kept w u→K 0 u) :
  E.CallsD Go.Proofs.Try.prog 21 #[vF f s t] w fun v u=>∃ a n c x,v = .tuple #[.slice a n c,.int .i64 x]∧K x u:=by
 refine E.CallsD.mono (EI hG hS hF) fun v u hh=>?_
 obtain ⟨a,n,c,why,hv,k0,k1,hfr⟩:=hh
 refine ⟨a,n,c,why,hv,?_⟩
 have hk:=From.kept hfr
 cases hb:lF f with
 | none=>rw [(k0 hb).1]; exact h0 hb u hk
 | some ts=>rw [(k1 ts hb).1]; exact h1 ts hb u hk
abbrev CkA (w:World) (r:Int×Int):VP:=fun v u=>v = .tuple #[.int .i64 r.1,.int .i64 r.2]∧Kept w u
theorem Me (hG:mf F w f s t) (hS:SmF f) {i:Nat} (hi:i≤t.n):mf F w (headB f i) s ⟨t.a,i,t.c⟩:=by
 refine ⟨hG.bs,?_,(hS.cut i).sm⟩
 have:=hG.ks.sub (i:=0) (j:=i) (Nat.zero_le _) hi
 rw [tY] at this
 show Ls tB F w t.a i t.c (f.blocks.take i)
 simpa using this
theorem I5 {kf k6:Nat} {r:Int×Int} (hG:mf F w0 f s t) (hS:SmF f) (hF:∀ b,F b→b<w0.heap.size) (h06:w0.heap.size≤k6) (h0f:w0.heap.size≤kf) (hne:kf≠k6) :
  ∀ (k i:Nat) (w:World) (s6:SH),i+k=t.n→From w0.heap.size w0 w→Blk w kf (o7 f s t).toArray pF→Blk w k6 (o7 f s s6).toArray pF→Ak f k i=r →
   bz.l30 (CkA w0 r) (k+1) (some ⟨kf,0,none⟩) (some ⟨k6,0,none⟩) t.n i w:=by
 intro k
 have hl:=hG.ks.len
 have hsm2:=hG.sm.2.1
 induction k with
 | zero =>
  intro i w s6 hi hfr hbf hb6 hr
  obtain rfl:i=t.n:=by omega
  rw [bz.u30]; unfold bz.g30
  refine ai (by omega) ?_
  rw [← hr]
  exact ⟨rfl,From.kept hfr⟩
 | succ k ih =>
  intro i w s6 hi hfr hbf hb6 hr
  rw [bz.u30]; unfold bz.g30
  refine aN (by omega) ?_
  have hA:AtL w (⟨kf,0,none⟩:Addr) (o7 f s t):=fun j v hj=>by rw [addr_add,Nat.zero_add,hbf.cell]; simpa using hj
  refine ⟨_,_,_,hA 3 _ rfl,aB (by omega) (dA ⟨by omega,by have:=hG.ks.cap; omega⟩ ?_)⟩
  rw [tY,Int.toNat_natCast]
  have bs:=hb6.set 3 (.slice t.a (i+1) t.c)
  have hos:=Only.set w k6 3 (.slice t.a (i+1) t.c)
  have e1:(((⟨k6,0,none⟩:Addr).add 3).add 0)=⟨k6,3,none⟩:=by rw [addr_add,addr_add]
  show st w (((⟨k6,0,none⟩:Addr).add 3).add 0) _ _
  rw [e1]
  refine ⟨hb6.ok (by simp),aT ?_⟩
  generalize w.setCell ⟨k6,3,none⟩ (.slice t.a (i+1) t.c)=w2 at bs hos
  have bs':Blk w2 k6 (o7 (headB f (i+1)) s ⟨t.a,i+1,t.c⟩).toArray pF:=bs
  have hbf2:=hbf.mod hos (fun hk=>by have hk':kf+1=k6+1:=hk; omega)
  have hfr2:From w0.heap.size w0 w2:=From.then hfr hos fun k _ h2=>by have h2':k+1=k6+1:=h2; omega
  have hA6:AtL w2 (⟨k6,0,none⟩:Addr) (o7 (headB f (i+1)) s ⟨t.a,i+1,t.c⟩):=fun j v hj=>by rw [addr_add,Nat.zero_add,bs'.cell]; simpa using hj
  refine ⟨_,hA6 0 _ rfl,_,hA6 1 _ rfl,s.a,s.n,s.c,hA6 2 _ rfl,t.a,i+1,t.c,hA6 3 _ rfl,?_⟩
  have hG0:mf F w2 f s t:=⟨From.ls hG.bs hfr2 hF,From.ls hG.ks hfr2 hF,hG.sm⟩
  have hF2:∀ b,F b→b<w2.heap.size:=fun b hb=>by have:=hF b hb; have:=hfr2.size; omega
  refine Cm (s:=s) (t:=⟨t.a,i+1,t.c⟩) (Me hG0 hS (by omega)) (hS.cut (i+1)) hF2 (fun hb u hk=>?_) fun ts hb u hk=>?_
  ·refine Ov (by omega) ?_
   rw [← hr]
   unfold Ak
   rw [hb]
   exact ⟨rfl,From.kept (hfr2.aA hk)⟩
  ·refine lW (by omega) ?_
   refine aB (by omega) ?_
   refine ih (i+1) u ⟨t.a,i+1,t.c⟩ (by omega) (hfr2.aA hk) (hbf2.keep hk) (bs'.keep hk) ?_
   rw [← hr]
   conv=>rhs; unfold Ak
   rw [hb]
theorem Jl (hG:mf F w f s t) (hS:SmF f) (hF:∀ b,F b→b<w.heap.size):E.CallsD Go.Proofs.Try.prog 22 #[vF f s t] w (CkA w (oD f)):=by
 refine bz.calls (R:=CkA w (oD f)) ?_
 unfold bz bz.g0
 refine aT ?_
 have hbk:Blk (w.alloc (.cells (o7 f s t).toArray pF)) w.heap.size (o7 f s t).toArray pF:=Blk.new w _ _
 have hk1:=Kept.new w (.cells (o7 f s t).toArray pF)
 change qc (w.alloc (.cells (o7 f s t).toArray pF)) _ _
 have hz:(w.alloc (.cells (o7 f s t).toArray pF)).heap.size=w.heap.size+1:=by simp
 generalize w.alloc (.cells (o7 f s t).toArray pF)=w1 at hbk hk1 hz
 have A1:AtL w1 (na w) (o7 f s t):=by simpa using AtL.blk (b:=w) hbk
 have hF1:∀ {u:World},Kept w u→∀ b,F b→b<u.heap.size:=fun hk b hb=>by have:=hF b hb; have:=hk.size; omega
 refine ⟨_,A1 0 _ rfl,_,A1 1 _ rfl,s.a,s.n,s.c,A1 2 _ rfl,t.a,t.n,t.c,A1 3 _ rfl,?_⟩
 refine Cm (hG.kept hk1) hS (hF1 hk1) (fun hb u hk=>?_) fun ts hb u hk=>?_
 ·refine ET (by omega) ?_
  have hk2:=Kept.trans hk1 hk
  have A2:=A1.kept hk
  refine ⟨_,A2 0 _ rfl,_,A2 1 _ rfl,s.a,s.n,s.c,A2 2 _ rfl,t.a,t.n,t.c,A2 3 _ rfl,?_⟩
  refine boxS (zs:=(sZ 0 0 none 0 0 none 0 0).toList) (vs:=o7 f s t) rfl fun w3 hA3 be3 hk3=>?_
  have bs:=be3.set 3 (.slice none 0 0)
  have hos:=Only.set w3 u.heap.size 3 (.slice none 0 0)
  have e1:(((na u:Addr).add 3).add 0)=⟨u.heap.size,3,none⟩:=by rw [eP,addr_add]
  show st w3 (((na u).add 3).add 0) _ _
  rw [e1]
  refine ⟨be3.ok (by simp),aT ?_⟩
  generalize w3.setCell ⟨u.heap.size,3,none⟩ (.slice none 0 0)=w4 at bs hos
  have bs':Blk w4 u.heap.size (o7 (headB f 0) s ⟨none,0,0⟩).toArray pF:=bs
  have hk4:Kept u w4:=From.kept (From.then (Kept.mod hk3) hos fun k _ h2=>by have h2':k+1=u.heap.size+1:=h2; omega)
  have hk14:=Kept.trans hk2 hk4
  have hA6:AtL w4 (na u) (o7 (headB f 0) s ⟨none,0,0⟩):=by simpa using AtL.blk (b:=u) bs'
  refine ⟨_,hA6 0 _ rfl,_,hA6 1 _ rfl,s.a,s.n,s.c,hA6 2 _ rfl,none,0,0,hA6 3 _ rfl,?_⟩
  have hG4:=hG.kept hk14
  refine Cm (s:=s) (t:=⟨none,0,0⟩) (f:=headB f 0) ⟨hG4.bs,by show Ls tB F w4 none 0 0 (f.blocks.take 0); rw [List.take_zero]; exact Ls.nil _ _ _ _ _,(hS.cut 0).sm⟩ (hS.cut 0) (hF1 hk14) (fun hb0 u2 hku=>?_) fun ts hb0 u2 hku=>?_
  ·refine Ov (by omega) ?_
   unfold oD
   rw [hb,hb0]
   exact ⟨rfl,Kept.trans hk14 hku⟩
  ·refine lW (by omega) ?_
   have A5:=(A2.kept hk4).kept hku
   refine ⟨_,_,_,A5 3 _ rfl,?_⟩
   have hlt:=hbk.lt
   have hks:=hk.size
   have hks2:=hk2.size
   refine Exists.intro (t.n+1) (I5 (r:=oD f) hG hS hF (k6:=u.heap.size) (kf:=w.heap.size) (by omega) (Nat.le_refl _) (by omega) t.n 0 u2 ⟨none,0,0⟩ (by omega) (Kept.mod (Kept.trans hk14 hku)) (hbk.keep (Kept.trans (Kept.trans hk hk4) hku)) (bs'.keep hku) ?_)
   unfold oD
   rw [hb,hb0,← hG.ks.len]
 ·refine lZ (by omega) ?_
  unfold oD
  rw [hb]
  exact ⟨rfl,Kept.trans hk1 hk⟩
end
end Go.Mir
set_option maxRecDepth 100000
namespace Go.Mir
open Go Go.E Go.RowKit Go.Tr Go.Ss Go.ChangeShapes
def vM:TD:=⟨0,[⟨2,0,1,4611686018427387904,[],2,1,2⟩,⟨1,10,0,0,[],0,0,0⟩,⟨1,20,0,0,[],0,0,0⟩]⟩
def kQ:TD:=⟨0,[⟨2,0,1,4607182418800017408,[],1,1,4⟩,⟨3,0,0,0,[4],2,2,3⟩,⟨1,1,0,0,[],0,0,0⟩,⟨1,2,0,0,[],0,0,0⟩,⟨1,3,0,0,[],0,0,0⟩]⟩
def exE:ED:=⟨⟨#[]⟩,[⟨#[97]⟩,⟨#[98]⟩],1,[0],[vM,kQ]⟩
def exC:dU:=⟨0,[4],1,0,1⟩
def KI:dU:=⟨4611686018427387904,[],0,0,1⟩
def exB:mr:=⟨0,[2,3],[[10,20],[1,2,3]],[0,0],[⟨0,[],[exC],[exC]⟩,⟨1,[⟨4607182418800017408,[],1,0,2⟩,KI],[],[KI]⟩]⟩
def exF:fZ:=⟨2,1,[0],[exB]⟩
theorem JC {nodes:List ND} {T:BT} (h:(bu fQ nodes).1=0) (hI:Is nodes T) (h0:T.root=0):fK nodes=T :=
 Is.uniq (aJ h).is hI (by rw [(aJ h).root,h0])
theorem Pj:(bu fQ vM.nodes).1=0:=by kernel_rfl
theorem PS:(bu fQ kQ.nodes).1=0:=by kernel_rfl
theorem RS:fK vM.nodes = .node 0 (.leaf 1) (.leaf 2):=JC Pj ⟨_,rfl,rfl,rfl,rfl,⟨_,rfl,rfl⟩,⟨_,rfl,rfl⟩⟩ rfl
theorem RD:fK kQ.nodes = .node 0 (.node 1 (.leaf 2) (.leaf 3)) (.leaf 4):=JC PS ⟨_,rfl,rfl,rfl,rfl,⟨_,rfl,rfl,rfl,rfl,⟨_,rfl,rfl⟩,⟨_,rfl,rfl⟩⟩,⟨_,rfl,rfl⟩⟩ rfl
theorem Td:bG vM.nodes false=[1,2]:=by unfold bG; rw [if_pos Pj,RS]; rfl
theorem Ri:bG kQ.nodes false=[2,3,4]:=by unfold bG; rw [if_pos PS,RD]; rfl
theorem Rz:lvE vM.nodes=0:=by unfold lvE; rw [if_pos Pj,Td]; rfl
theorem Su:lvE kQ.nodes=0:=by unfold lvE; rw [if_pos PS,Ri]; rfl
theorem UC:jq vM.nodes=[⟨0,0,1⟩]:=by unfold jq; rw [if_pos Rz,RS]; rfl
theorem UT:jq kQ.nodes=[⟨0,0,2⟩,⟨1,0,1⟩]:=by unfold jq; rw [if_pos Su,RD]; rfl
theorem UX:gW 2 1 [vM,kQ]=0:=by
 have h0:kE vM 2 1=0:=yx Rz (by decide) (by kernel_rfl)
 have h1:kE kQ 2 1=0:=yx Su (by decide) (by kernel_rfl)
 simp [gW,h0,h1]
theorem Sr {nm:ByteArray} {fs:List ByteArray} (hf:fs.length=2):oU ⟨nm,fs,1,[0],[vM,kQ]⟩=0:=by
 unfold oU
 show (if (1:Int)<1 then (6:Int) else if (1:Int)>64 then 6 else if ((1:Nat):Int)≠1 then 6 else if fs.length>65536 then 6 else if 2>65536 then 3 else gW fs.length 1 [vM,kQ])=0
 rw [hf,if_neg (by decide),if_neg (by decide),if_neg (by decide),if_neg (by decide),if_neg (by decide)]
 exact UX
theorem V4:bZ [vM,kQ] 0=exB:=by
 have hl:dF [vM,kQ]=exB.lists:=by
  unfold dF dC dC dC kD
  rw [UC,UT]
  kernel_rfl
 unfold bZ
 rw [hl]
 simp only [List.map_cons,List.map_nil,eU,Td,Ri]
 rfl
theorem RZ {nm:ByteArray} {fs:List ByteArray} (hf:fs.length=2):ofE ⟨nm,fs,1,[0],[vM,kQ]⟩ [(0,2)]=0∧ofP ⟨nm,fs,1,[0],[vM,kQ]⟩ [(0,2)]=exF:=by
 have h0:ofE ⟨nm,fs,1,[0],[vM,kQ]⟩ [(0,2)]=0:=by
  unfold ofE
  rw [if_neg (by rw [Sr hf]; decide),if_pos (by show iw 2 [(0,2)] 0=true; decide)]
 refine ⟨h0,?_⟩
 unfold ofP
 rw [if_pos h0]
 unfold qo
 show fZ.mk (fs.length:Int) 1 [0] [bZ [vM,kQ] 0]=exF
 rw [V4,hf]
 rfl
theorem V9:kU exE 2=0∧lh exE 2=exF:=by
 have h0:oU exE=0:=Sr rfl
 have h1:gZ exE.trees.length 2=0:=by decide
 have h2:iM exE.trees.length 2=[(0,2)]:=by decide
 obtain ⟨h3,h4⟩:=RZ (nm:=⟨#[]⟩) (fs:=[⟨#[97]⟩,⟨#[98]⟩]) rfl
 refine ⟨?_,?_⟩
 ·unfold kU; rw [if_neg (by rw [h0]; decide),if_neg (by rw [h1]; decide),h2]; exact h3
 ·unfold lh; rw [if_neg (by rw [h0]; decide),if_neg (by rw [h1]; decide),h2]; exact h4
theorem VK:lF exF=some [vM,kQ]:=by
 unfold lF
 rw [if_neg (by decide),show oq exF.blocks [] []=some ([vM,kQ],[(0,2)]) from by kernel_rfl]
 simp only [Option.bind_some]
 exact if_pos (RZ rfl)
theorem WA:oD exF=(0,0):=by unfold oD; rw [VK]
instance (x:dU):Decidable x.sm:=by unfold dU.sm; infer_instance
theorem Qc:SmF exF:=by
 refine ⟨⟨by decide,by decide,fun b hb=>?_⟩,fun b hb=>?_,by decide⟩
 ·obtain rfl:b=exB:=by simpa [exF] using hb
  refine ⟨by decide,by decide,by decide,by decide,by decide,fun l hl=>?_⟩
  have hl':l=⟨0,[],[exC],[exC]⟩∨l=⟨1,[⟨4607182418800017408,[],1,0,2⟩,KI],[],[KI]⟩:=by simpa [exB] using hl
  rcases hl' with rfl | rfl
  ·exact ⟨⟨by decide,by decide⟩,⟨by decide,by decide⟩,⟨by decide,by decide⟩⟩
  ·exact ⟨⟨by decide,by decide⟩,⟨by decide,by decide⟩,⟨by decide,by decide⟩⟩
 ·obtain rfl:b=exB:=by simpa [exF] using hb
  decide
end Go.Mir
set_option maxRecDepth 100000
namespace Go.Mir
open Go Go.E Go.RowKit Go.Tr Go.Ss Go.ChangeShapes
section
variable {w w0 u w1 wB x:World} {a a0 a1 a4:OA} {n c n0 c0 n1 c1 n4 c4 g:Nat} {F F' S:Nat→Prop} {p q:Addr} {B mb:Nat} {R:VP} {f:fZ} {s t:SH}
theorem D6 {α:Type} {k e:Nat} {en:α→List Value} (xs:List α) {cs:Array Value} {K:World→Prop} (hc:cs.toList=xs.flatMap en) (hl:cs.size=xs.length*k) (hn:xs.length≤maxLen)
  (hk:∀ u,au k en e u (some (na w)) xs.length xs.length xs (w.heap.size+1)→Kept w u→u.heap.size=w.heap.size+1→K u):nw (w.alloc (.cells cs e)) K:=by
 refine aT (hk _ ?_ (Kept.new w _) (by simp))
 have:=Row.new w e k xs.length cs hl hn
 rw [hc] at this
 exact this
theorem IY {α:Type} {e:Nat} {en:α→Value} (xs:List α) {cs:Array Value} {K:World→Prop} (hc:cs.toList=xs.map en) (hn:xs.length≤maxLen)
  (hk:∀ u,Arr en e u (some (na w)) xs.length xs.length xs (w.heap.size+1)→Kept w u→u.heap.size=w.heap.size+1→K u):nw (w.alloc (.cells cs e)) K :=
 aT (hk _ (Arr.new en e w xs cs hc hn) (Kept.new w _) (by simp))
abbrev nwB (w u:World):Nat→Prop:=fun b=>w.heap.size≤b∧b<u.heap.size
set_option maxHeartbeats 1000000 in
theorem Eg:E.CallsD Go.Proofs.Try.prog 27 #[] w fun v u=>∃ f b t:SH,v=vE exE f b t∧gV (nwB w u) u exE f b t∧Kept w u:=by
 refine aV.calls (R:=fun v u=>∃ f b t:SH,v=vE exE f b t∧gV (nwB w u) u exE f b t∧Kept w u) ?_
 unfold aV aV.g0
 refine aT ?_
 have hb0:=Blk.new w (qB ⟨#[]⟩ none 0 0 0 none 0 0 none 0 0) 26
 have k0:=Kept.new w (.cells (qB ⟨#[]⟩ none 0 0 0 none 0 0 none 0 0) 26)
 have z0:(w.alloc (.cells (qB ⟨#[]⟩ none 0 0 0 none 0 0 none 0 0) 26)).heap.size=w.heap.size+1:=by simp
 generalize w.alloc (.cells (qB ⟨#[]⟩ none 0 0 0 none 0 0 none 0 0) 26)=v0 at hb0 k0 z0
 refine IY (en:=fun x => .string x) [⟨#[97]⟩,⟨#[98]⟩] rfl (by decide) fun v1 r1 k1 z1=>?_
 refine IY (en:=fun x => .int .i64 x) [0] rfl (by decide) fun v2 r2 k2 z2=>?_
 refine D6 (k:=8) (en:=enH) (vM.nodes.map fun x=>(x,⟨none,0,0⟩)) rfl rfl (by decide) fun v3 r3 k3 z3=>?_
 refine IY (en:=fun x => .int .i64 x) [4] rfl (by decide) fun v4 r4 k4 z4=>?_
 refine D6 (k:=8) (en:=enH) [((kQ.nodes.getD 0 ⟨0,0,0,0,[],0,0,0⟩),(⟨none,0,0⟩:SH)),((kQ.nodes.getD 1 ⟨0,0,0,0,[],0,0,0⟩),⟨some (na v3),1,1⟩),((kQ.nodes.getD 2 ⟨0,0,0,0,[],0,0,0⟩),⟨none,0,0⟩),((kQ.nodes.getD 3 ⟨0,0,0,0,[],0,0,0⟩),⟨none,0,0⟩),((kQ.nodes.getD 4 ⟨0,0,0,0,[],0,0,0⟩),⟨none,0,0⟩)] rfl rfl (by show 5≤maxLen; decide) fun v5 r5 k5 z5=>?_
 refine D6 (k:=2) (en:=qP) [(vM,(⟨some (na v2),3,3⟩:SH)),(kQ,⟨some (na v4),5,5⟩)] rfl rfl (by show 2≤maxLen; decide) fun v6 r6 k6 z6=>?_
 have k56:=Kept.trans k5 k6
 have k46:=Kept.trans k4 k56
 have k36:=Kept.trans k3 k46
 have k26:=Kept.trans k2 k36
 have k16:=Kept.trans k1 k26
 have kw6:=Kept.trans k0 k16
 have hb6:=hb0.keep k16
 refine wrA (e:=26) (b:=w.heap.size) (zs:=(qB ⟨#[]⟩ none 0 0 0 none 0 0 none 0 0).toList) (vs:=[.string ⟨#[]⟩,.slice (some (na v0)) 2 2,.int .i64 1,.slice (some (na v1)) 1 1,.slice (some (na v5)) 2 2]) (by simpa using hb6) rfl fun u hb' ho=>?_
 have hA:AtL u (na w) [.string ⟨#[]⟩,.slice (some (na v0)) 2 2,.int .i64 1,.slice (some (na v1)) 1 1,.slice (some (na v5)) 2 2]:=by simpa using AtL.blk (b:=w) hb'
 have no:∀ {k m:Nat},k+1=m→w.heap.size+1<m→¬ (k+1=w.heap.size+1):=fun h1 h2 h3=>by omega
 have R1:=(r1.kept k26).mod ho fun k hk=>no hk (by omega)
 have R2:=(r2.kept k36).mod ho fun k hk=>no hk (by omega)
 have R3:=(r3.kept k46).mod ho fun k hk=>no hk (by omega)
 have R4:=(r4.kept k56).mod ho fun k hk=>no hk (by omega)
 have R5:=(r5.kept k6).mod ho fun k hk=>no hk (by omega)
 have R6:=r6.mod ho fun k hk=>no hk (by omega)
 have zu:=ho.size
 refine ⟨_,hA 0 _ rfl,_,_,_,hA 1 _ rfl,_,hA 2 _ rfl,_,_,_,hA 3 _ rfl,_,_,_,hA 4 _ rfl,⟨some (na v0),2,2⟩,⟨some (na v1),1,1⟩,⟨some (na v5),2,2⟩,rfl,?_,?_⟩
 ·refine ⟨?_,?_,?_,fun b hb=>hb.2,by show 2≤1048576; decide,by show 1≤1048576; decide,by show 2≤1048576; decide,fun x hx=>?_⟩
  ·exact (Arr.ls (h1:=fun _=>rfl) R1).mono fun b hb=>⟨by omega,by omega⟩
  ·exact (Arr.ls (h1:=fun _=>rfl) R2).mono fun b hb=>⟨by omega,by omega⟩
  ·have hnil:LsI (nwB w u) u none 0 0 []:=Ls.nil _ _ _ _ _
   have h4:LsI (nwB w u) u (some (na v3)) 1 1 [4]:=(Arr.ls (h1:=fun _=>rfl) R4).mono fun b hb=>⟨by omega,by omega⟩
   have hN3:Ls tN (nwB w u) u (some (na v2)) 3 3 vM.nodes:=by
    have:=au.lsN (F:=nwB w u) R3 (fun b hb=>⟨by omega,by omega⟩) fun x hx=>(by
     simp only [vM,List.map_cons,List.map_nil,List.mem_cons,List.not_mem_nil,or_false] at hx
     rcases hx with rfl | rfl | rfl <;> exact hnil)
    exact this
   have hN5:Ls tN (nwB w u) u (some (na v4)) 5 5 kQ.nodes:=by
    have:=au.lsN (F:=nwB w u) R5 (fun b hb=>⟨by omega,by omega⟩) fun x hx=>(by
     simp only [kQ,List.getD_cons_zero,List.getD_cons_succ,List.mem_cons,List.not_mem_nil,or_false] at hx
     rcases hx with rfl | rfl | rfl | rfl | rfl
     ·exact hnil
     ·exact h4
     ·exact hnil
     ·exact hnil
     ·exact hnil)
    exact this
   have:=au.lsT (F:=nwB w u) R6 (fun b hb=>⟨by omega,by omega⟩) fun x hx=>(by
    simp only [List.mem_cons,List.not_mem_nil,or_false] at hx
    rcases hx with rfl | rfl
    ·exact hN3
    ·exact hN5)
   exact this
  ·have hx':x=vM∨x=kQ:=by simpa [exE] using hx
   rcases hx' with rfl | rfl
   ·exact ⟨by decide,by unfold Short; decide⟩
   ·exact ⟨by decide,by unfold Short; decide⟩
 ·exact From.kept ((Kept.mod (S:=fun k=>w.heap.size≤k) kw6).trans ho (fun _ _ h=>h) (fun k _ hk=>by have hk':k+1=w.heap.size+1:=hk; show w.heap.size≤k; omega))
end
end Go.Mir
set_option maxRecDepth 100000
namespace Go.Mir
open Go Go.E Go.RowKit Go.Tr Go.Ss Go.ChangeShapes
def qF (att:Nat→ND):BT→Nat→List AD
 | .leaf _,_=>[]
 | .node i l r,k=>⟨att i,(k:Nat),(k+l.nl:Nat)⟩::(qF att l k++qF att r (k+l.nl))
def outT (att:Nat→ND) (vals:List Int):BT→Nat→Nat→List ND
 | .leaf _,_,k=>[Ap (vals.getD k 0)]
 | .node i l r,b,k=>{ att i with left:=(b+1:Nat),right:=(b+1+l.size:Nat) }::(outT att vals l (b+1) k++outT att vals r (b+1+l.size) (k+l.nl))
section
variable {att:Nat→ND} {vals:List Int}
theorem yT:∀ (T:BT) (b k:Nat),(outT att vals T b k).length=T.size
 | .leaf _,_,_=>rfl
 | .node i l r,b,k=>by
  unfold outT
  rw [List.length_cons,List.length_append,yT l,yT r]
  simp only [BT.size]; omega
theorem lq:∀ (T:BT) (k:Nat) (x:AD),x∈qF att T k→(k:Int)≤x.frm∧x.frm<x.to∧x.to<(k+T.nl:Nat)
 | .leaf _,_,_,h=>by cases h
 | .node i l r,k,x,h=>by
  have p1:=l.qA
  have p2:=r.qA
  rw [BT.oG]
  rcases List.mem_cons.1 (show x∈_::(qF att l k++qF att r (k+l.nl)) from h) with rfl | h
  ·simp only; omega
  ·rcases List.mem_append.1 h with h | h
   ·have:=lq l k x h; omega
   ·have:=lq r (k+l.nl) x h; omega
theorem zG:∀ (T:BT) (k:Nat),(qF att T k).length+1=T.nl
 | .leaf _,_=>rfl
 | .node _ l r,k=>by
  have h1:=zG l k
  have h2:=zG r (k+l.nl)
  rw [BT.oG]
  simp only [qF,List.length_cons,List.length_append]
  omega
def ltK (a b:AD):Prop:=a.frm<b.frm∨(a.frm=b.frm∧b.to<a.to)
theorem yQ:∀ (T:BT) (k:Nat),(qF att T k).Pairwise ltK
 | .leaf _,_ => .nil
 | .node i l r,k=>by
  have p1:=l.qA
  show (_::(qF att l k++qF att r (k+l.nl))).Pairwise ltK
  refine List.pairwise_cons.2 ⟨fun x hx=>?_,List.pairwise_append.2 ⟨yQ l k,yQ r (k+l.nl),fun x hx y hy=>?_⟩⟩
  ·rcases List.mem_append.1 hx with hx | hx
   ·have:=lq l k x hx
    unfold ltK
    simp only
    omega
   ·have:=lq r (k+l.nl) x hx
    refine .inl ?_
    simp only
    omega
  ·have h1:=lq l k x hx
   have h2:=lq r (k+l.nl) y hy
   exact .inl (by omega)
def atG (l:List AD) (g:Int):List AD:=l.filter fun x=>x.frm==g
theorem J8 {l:List AD} {g:Int} (h:∀ x∈l,x.frm≠g):atG l g=[]:=by
 unfold atG
 rw [List.filter_eq_nil_iff]
 intro x hx
 simpa using h x hx
theorem G9 (a b:List AD) (g:Int):atG (a++b) g=atG a g++atG b g:=List.filter_append ..
theorem Au {N L:List ND} {x:ND}:dZ (N++[x]++L) N.length=N++[{ x with right:=((N++[x]++L).length:Int) }]++L:=by
 unfold dZ
 have h:(N++[x]++L)[N.length]?=some x:=by simp
 rw [h]
 simp only
 rw [List.append_assoc,List.set_append_right _ _ (Nat.le_refl _),Nat.sub_self,List.append_assoc]
 rfl
theorem vg:∀ (T:BT) (m k:Nat) (S:List (Int×List AD)) (N:List ND),T.nl≤m→(∀ g:Int,(k:Int)≤g→g<(k+T.nl:Nat)→jm S g=atG (qF att T k) g) →
  ∃ S',bW vals m k (k+T.nl:Nat) S N=(true,S',N++outT att vals T N.length k)∧∀ g:Int,jm S' g=if (k:Int)≤g∧g<(k+T.nl:Nat) then [] else jm S g
 | .leaf i,m,k,S,N,hm,hS=>by
  rw [BT.zH] at hm hS ⊢
  obtain ⟨m,rfl⟩:∃ m',m=m'+1:=⟨m - 1,by omega⟩
  refine ⟨S,?_,fun g=>?_⟩
  ·unfold bW
   rw [if_pos (by omega),Int.toNat_natCast]
   rfl
  ·split
   ·rename_i h
    exact hS g h.1 h.2
   ·rfl
 | .node i l r,m,k,S,N,hm,hS=>by
  have p1:=l.qA
  have p2:=r.qA
  rw [BT.oG] at hm hS ⊢
  obtain ⟨m,rfl⟩:∃ m',m=m'+1:=⟨m - 1,by omega⟩
  have hr0:∀ g:Int,g<(k+l.nl:Nat)→atG (qF att r (k+l.nl)) g=[]:=fun g hg=>J8 fun x hx e=>by have:=lq r (k+l.nl) x hx; omega
  have hl0:∀ g:Int,(k+l.nl:Nat)≤g→atG (qF att l k) g=[]:=fun g hg=>J8 fun x hx e=>by have:=lq l k x hx; omega
  have hcons:∀ g:Int,atG (qF att (.node i l r) k) g=(if (k:Int)=g then [(⟨att i,(k:Nat),(k+l.nl:Nat)⟩:AD)] else [])++(atG (qF att l k) g++atG (qF att r (k+l.nl)) g):=fun g=>by
   rw [← G9]
   show (_::(qF att l k++qF att r (k+l.nl))).filter _=_
   rw [List.filter_cons]
   by_cases h:(k:Int)=g
   ·simp [h,atG]
   ·simp [h,atG]
  have hk:=hS k (by omega) (by omega)
  rw [hcons,if_pos rfl,hr0 k (by omega),List.append_nil] at hk
  have hk':jm S k=(⟨att i,(k:Nat),(k+l.nl:Nat)⟩:AD)::atG (qF att l k) k:=hk
  obtain ⟨S1,hb1,hS1⟩:=vg l m k (zA S k (atG (qF att l k) k)) (N++[{ att i with left:=(N.length:Int)+1 }]) (by omega) fun g h1 h2=>by
   rw [nI]
   split
   ·rename_i h; rw [h]
   ·rename_i h
    rw [hS g h1 (by omega),hcons,if_neg (fun e=>h e.symm),hr0 g h2]
    simp
  obtain ⟨S2,hb2,hS2⟩:=vg r m (k+l.nl) S1 (dZ (N++[{ att i with left:=(N.length:Int)+1 }]++outT att vals l (N++[{ att i with left:=(N.length:Int)+1 }]).length k) N.length) (by omega) fun g h1 h2=>by
   rw [hS1,if_neg (by omega),nI,if_neg (by omega),hS g (by omega) (by omega),hcons,if_neg (by omega),hl0 g h1]
   simp
  refine ⟨S2,?_,fun g=>?_⟩
  ·unfold bW
   rw [if_neg (by omega),hk']
   simp only
   rw [if_neg (by omega),hb1]
   simp only
   have e2:((k+l.nl+r.nl:Nat):Int)=((k+(l.nl+r.nl):Nat):Int):=by omega
   rw [e2] at hb2
   rw [hb2,Au]
   have hlen:(N++[{ att i with left:=(N.length:Int)+1 }]).length=N.length+1:=by simp
   simp only [hlen,List.length_append,List.length_cons,List.length_nil,yT,outT,List.append_assoc,List.cons_append,List.nil_append,List.singleton_append]
   simp only [Nat.zero_add,Nat.add_assoc,Int.natCast_add,Int.cast_ofNat_Int,Nat.add_comm,Nat.add_left_comm]
  ·rw [hS2,hS1,nI]
   by_cases h1:((k+l.nl:Nat):Int)≤g∧g<((k+l.nl+r.nl:Nat):Int)
   ·rw [if_pos h1,if_pos (by omega)]
   ·rw [if_neg h1]
    by_cases h2:(k:Int)≤g∧g<(k+l.nl:Nat)
    ·rw [if_pos h2,if_pos (by omega)]
    ·rw [if_neg h2,if_neg (by omega),if_neg (by omega)]
end
end Go.Mir
set_option maxRecDepth 100000
namespace Go.Mir
open Go Go.E Go.RowKit Go.Tr Go.Ss Go.ChangeShapes
theorem JB {α:Type} {R:α→α→Prop}:∀ {l:List α},l.Pairwise R→∀ a∈l,∀ b∈l,a=b∨R a b∨R b a
 | [],_,a,h,_,_=>by cases h
 | x::l,hp,a,ha,b,hb=>by
  obtain ⟨h1,h2⟩:=List.pairwise_cons.1 hp
  rcases List.mem_cons.1 ha with e1 | k1
  ·rcases List.mem_cons.1 hb with e2 | k2
   ·exact .inl (e1.trans e2.symm)
   ·exact .inr (.inl (e1 ▸ h1 b k2))
  ·rcases List.mem_cons.1 hb with e2 | k2
   ·exact .inr (.inr (e2 ▸ h1 a k1))
   ·exact JB h2 a k1 b k2
theorem G7 {α:Type} {lt:α→α→Bool} (hw:Wk lt) {xs ys:List α} (hp:xs.Perm ys) (hy:ys.Pairwise fun a b=>lt a b=true):sorted lt xs=ys:=by
 have asym:∀ {a b:α},lt a b=true→lt b a=false:=fun {a b} h=>by
  cases hb:lt b a with
  | false=>rfl
  | true=>have:=hw.trans a b a h hb; rw [hw.irrefl] at this; cases this
 refine List.Perm.eq_of_pairwise (le:=fun a b=>lt b a=false) ?_ (vK hw xs) (hy.imp fun h=>asym h) ((sorted_perm lt xs).trans hp)
 intro a b ha hb h1 h2
 have ha':a∈ys:=hp.mem_iff.1 ((sorted_perm lt xs).mem_iff.1 ha)
 rcases JB hy a ha' b hb with h | h | h
 ·exact h
 ·rw [h] at h2; cases h2
 ·rw [h] at h1; cases h1
theorem VT:Wk Gl:=EL fun x:AD => -x.to
theorem xP:∀ (l:List AD) (S:List (Int×List AD)) (g:Int),jm (l.foldl Ef S) g=jm S g++atG l g
 | [],S,g=>by simp [atG]
 | x::l,S,g=>by
  rw [List.foldl_cons,xP l,tV]
  unfold atG
  rw [List.filter_cons]
  by_cases h:g=x.frm
  ·simp [h]
  ·have h':¬ x.frm=g:=fun e=>h e.symm
   simp [h,h']
section
variable {att:Nat→ND} {vals:List Int}
theorem Px {T:BT} {l:List AD} (hp:l.Perm (qF att T 0)) (hv:vals.length=T.nl):oV l vals=(true,outT att vals T 0 0):=by
 have hall:l.all (okA vals.length)=true:=by
  rw [List.all_eq_true]
  intro x hx
  have:=lq T 0 x (hp.mem_iff.1 hx)
  unfold okA
  simp only [Bool.and_eq_true,decide_eq_true_eq]
  rw [hv]
  omega
 have hS:∀ g:Int,jm (lU (dQ l)) g=atG (qF att T 0) g:=fun g=>by
  rw [qh]
  unfold dQ
  rw [xP]
  show sorted Gl ([]++atG l g)=_
  rw [List.nil_append]
  refine G7 VT (hp.filter _) ?_
  refine List.Pairwise.imp_of_mem ?_ (List.Pairwise.filter _ (yQ T 0))
  intro a b ha hb h
  have h1:a.frm=g:=by simpa using (List.mem_filter.1 ha).2
  have h2:b.frm=g:=by simpa using (List.mem_filter.1 hb).2
  unfold ltK at h
  unfold Gl
  simp only [decide_eq_true_eq]
  omega
 obtain ⟨S',hb,_⟩:=vg (att:=att) (vals:=vals) T vals.length 0 (lU (dQ l)) [] (by omega) fun g _ _=>hS g
 unfold oV
 rw [if_pos hall]
 have e:((0+T.nl:Nat):Int)=(vals.length:Int):=by omega
 rw [e] at hb
 have hb':bW vals vals.length 0 vals.length (lU (dQ l)) []=(true,S',outT att vals T 0 0):=by simpa using hb
 rw [hb']
end
def Ht (nodes:List ND) (i:Nat):ND:={ nodes.getD i default with left:=0,right:=0 }
def qJ (nodes:List ND) (i:Nat):Int:=(nodes.getD i default).value
theorem BT.Es:∀ T:BT,∃ t,T.pre=T.root::t
 | .leaf i=>⟨[],rfl⟩
 | .node i l r=>⟨l.pre++r.pre,rfl⟩
section
variable {nodes:List ND} {T:BT}
theorem Qm (hR:Right fQ nodes) {i:Nat} {x:ND} (hx:nodes[i]?=some x) (hi:x.inner=false):x=Ap x.value:=by
 have h:=hR.ok i x hx
 unfold eG at h
 unfold ND.inner at hi
 split at h
 ·rename_i hk
  simp only [Bool.and_eq_true,beq_iff_eq,List.isEmpty_iff] at h
  obtain ⟨⟨⟨⟨⟨h1,h2⟩,h3⟩,h4⟩,h5⟩,h6⟩:=h
  unfold Ap
  cases x
  simp_all
 ·rename_i hk
  exfalso
  split at h
  ·rename_i h2; rw [h2] at hi; cases hi
  ·split at h
   ·rename_i h3; rw [h3] at hi; cases hi
   ·cases h
theorem Iu {p s:List Nat} {x:Nat} (h:(p++x::s).Nodup):(p++x::s).idxOf x=p.length:=by
 have hn:x∉p:=fun hx=>by
  have:=(List.nodup_append.1 h).2.2 x hx x (.head _)
  exact this rfl
 rw [List.idxOf_append,if_neg hn]
 simp
theorem rM (hT:Tree fQ nodes T) {vals:List Int}:∀ (U:BT) (k:Nat) (pf sf:List Nat) (vp vs:List Int),T.pre=pf++U.pre++sf→Is nodes U→vals=vp++U.leaves.map (qJ nodes)++vs→k=vp.length →
  outT (Ht nodes) vals U pf.length k=U.pre.map fun i=>iU T.pre (nodes.getD i default)
 | .leaf i,k,pf,sf,vp,vs,hp,⟨x,hx,hi⟩,hv,hk=>by
  have hg:nodes.getD i default=x:=by rw [List.getD_eq_getElem?_getD,hx]; rfl
  have hl:=Qm hT.right hx hi
  have hval:vals.getD k 0=x.value:=by
   rw [hv,hk,List.getD_eq_getElem?_getD]
   simp [BT.leaves,qJ,hx]
  show [Ap (vals.getD k 0)]=[iU T.pre (nodes.getD i default)]
  rw [hval,hg,← hl]
  unfold iU
  rw [hi]
  rfl
 | .node i l r,k,pf,sf,vp,vs,hp,⟨x,hx,hi,hxl,hxr,hIl,hIr⟩,hv,hk=>by
  have hg:nodes.getD i default=x:=by rw [List.getD_eq_getElem?_getD,hx]; rfl
  have hnd:=hT.nodup
  have hlen:l.pre.length=l.size:=l.gJ
  have h1:=rM hT (vals:=vals) l k (pf++[i]) (r.pre++sf) vp (r.leaves.map (qJ nodes)++vs) (by rw [hp]; simp [BT.pre]) hIl (by rw [hv]; simp [BT.leaves]) hk
  have h2:=rM hT (vals:=vals) r (k+l.nl) (pf++[i]++l.pre) sf (vp++l.leaves.map (qJ nodes)) vs (by rw [hp]; simp [BT.pre]) hIr (by rw [hv]; simp [BT.leaves]) (by simp [hk,BT.nl])
  obtain ⟨tl,htl⟩:=BT.Es l
  obtain ⟨tr,htr⟩:=BT.Es r
  have e1:T.pre.idxOf l.root=pf.length+1:=by
   have hp1:T.pre=(pf++[i])++l.root::(tl++r.pre++sf):=by rw [hp]; simp [BT.pre,htl]
   have:=Iu (p:=pf++[i]) (x:=l.root) (s:=tl++r.pre++sf) (by rw [← hp1]; exact hnd)
   rw [← hp1] at this
   simpa using this
  have e2:T.pre.idxOf r.root=pf.length+1+l.size:=by
   have hp1:T.pre=(pf++[i]++l.pre)++r.root::(tr++sf):=by rw [hp]; simp [BT.pre,htr]
   have:=Iu (p:=pf++[i]++l.pre) (x:=r.root) (s:=tr++sf) (by rw [← hp1]; exact hnd)
   rw [← hp1] at this
   rw [this]
   simp [hlen]
   omega
  show { Ht nodes i with left:=((pf.length+1:Nat):Int),right:=((pf.length+1+l.size:Nat):Int) }::(outT (Ht nodes) vals l (pf.length+1) k++outT (Ht nodes) vals r (pf.length+1+l.size) (k+l.nl))=iU T.pre (nodes.getD i default)::(l.pre++r.pre).map _
  have f1:(pf++[i]).length=pf.length+1:=by simp
  have f2:(pf++[i]++l.pre).length=pf.length+1+l.size:=by simp [hlen]; omega
  rw [f1] at h1
  rw [f2] at h2
  rw [h1,h2,List.map_append]
  congr 1
  unfold Ht iU
  rw [hg,hi,hxl,hxr,Int.toNat_natCast,Int.toNat_natCast,e1,e2]
  rfl
theorem DD (h:(bu fQ nodes).1=0):outT (Ht nodes) ((fK nodes).leaves.map (qJ nodes)) (fK nodes) 0 0=iD nodes:=by
 have hT:=aJ h
 rw [iK h]
 exact rM hT (fK nodes) 0 [] [] [] [] (by simp) hT.is (by simp) rfl
end
end Go.Mir
set_option maxRecDepth 100000
namespace Go.Mir
open Go Go.E Go.RowKit Go.Tr Go.Ss Go.ChangeShapes
def EX (mis:Int→dU→Int) (f kd:Int) (c:dU):Int×AD:=(c.tree,⟨⟨kd,0,f,c.thr,c.aI,mis f c,0,0⟩,c.frm,c.to⟩)
def yz (mis:Int→dU→Int) (e:dI):List (Int×AD):=e.numbers.map (EX mis e.feature 2)++e.aI.map (EX mis e.feature 3)
def iV (mis:Int→dU→Int) (L:List dI):List (Int×AD):=L.flatMap (yz mis)
def BX (mis:Int→dU→Int) (p:ND×dU):Int×AD:=EX mis p.1.feature (if p.1.kind=3 then 3 else 2) p.2
theorem jb (x:ND) (c:dU) (e:dI):(zT x c e).feature=e.feature:=by
 unfold zT
 split <;> split <;> rfl
theorem IC (x:ND) (c:dU) (e:dI):(zT x c e).numbers=if x.kind=3 then e.numbers else e.numbers++[c]:=by
 unfold zT
 split <;> split <;> rfl
theorem IB (x:ND) (c:dU) (e:dI):(zT x c e).aI=if x.kind=3 then e.aI++[c] else e.aI:=by
 unfold zT
 split <;> split <;> rfl
theorem vO (x:ND) (c:dU) (e:dI):(zT x c e).lost=if x.missing=2 then e.lost++[c] else e.lost:=by
 unfold zT
 split <;> split <;> rfl
theorem nT {f:Int} {L:List dI} (h:(L.map dI.feature).Nodup):((xC f L).map dI.feature).Nodup:=by
 unfold xC
 split
 ·exact h
 ·rename_i hf
  rw [List.map_append]
  refine List.nodup_append.2 ⟨h,by simp,fun a ha b hb e=>?_⟩
  obtain rfl:b=f:=by simpa using hb
  subst e
  exact hf ha
theorem F8 (f:Int) (L:List dI):f∈(xC f L).map dI.feature:=by
 unfold xC
 split
 ·rename_i h; exact h
 ·simp
theorem ve (L:List dI) (p:ND×dU):(mG L p).map dI.feature=(xC p.1.feature L).map dI.feature:=by
 unfold mG
 rw [List.map_map]
 refine List.map_congr_left fun e _=>?_
 simp only [Function.comp]
 split
 ·exact jb _ _ _
 ·rfl
section
variable {mis:Int→dU→Int}
theorem L6 {x:ND} {c:dU} {e:dI} (hf:e.feature=x.feature):(yz mis (zT x c e)).Perm (yz mis e++[BX mis (x,c)]):=by
 unfold yz BX
 rw [jb,IC,IB,hf]
 by_cases hk:x.kind=3
 ·simp only [if_pos hk,List.map_append,List.append_assoc]
  exact List.Perm.refl _
 ·simp only [if_neg hk,List.map_append,List.append_assoc]
  exact List.Perm.append_left _ List.perm_append_comm
theorem DV {x:ND} {c:dU}:∀ {L:List dI},(L.map dI.feature).Nodup→x.feature∈L.map dI.feature →
  (iV mis (L.map fun e=>if e.feature=x.feature then zT x c e else e)).Perm (iV mis L++[BX mis (x,c)])
 | [],_,h=>by cases h
 | e::L,hn,hm=>by
  obtain ⟨h1,h2⟩:=List.nodup_cons.1 hn
  unfold iV
  rw [List.map_cons,List.flatMap_cons,List.flatMap_cons]
  by_cases he:e.feature=x.feature
  ·rw [if_pos he]
   have hrest:L.map (fun e=>if e.feature=x.feature then zT x c e else e)=L:=by
    conv=>rhs; rw [← List.map_id L]
    refine List.map_congr_left fun y hy=>?_
    rw [if_neg (fun e'=>h1 (by rw [he,← e']; exact List.mem_map_of_mem hy))]
    rfl
   rw [hrest]
   refine ((L6 he).append_right _).trans ?_
   rw [List.append_assoc,List.append_assoc]
   exact List.Perm.append_left _ List.perm_append_comm
  ·rw [if_neg he,List.append_assoc]
   refine List.Perm.append_left _ (DV h2 ?_)
   rcases List.mem_cons.1 hm with h | h
   ·exact absurd h.symm he
   ·exact h
theorem Ny (f:Int) (L:List dI):iV mis (xC f L)=iV mis L:=by
 unfold xC
 split
 ·rfl
 ·unfold iV
  rw [List.flatMap_append]
  simp [yz]
theorem NJ {L:List dI} (hn:(L.map dI.feature).Nodup) (p:ND×dU):(iV mis (mG L p)).Perm (iV mis L++[BX mis p]):=by
 unfold mG
 have:=DV (mis:=mis) (x:=p.1) (c:=p.2) (nT hn (f:=p.1.feature)) (F8 _ _)
 rw [Ny] at this
 exact this
theorem xX:∀ (A:List (ND×dU)) (L:List dI),(L.map dI.feature).Nodup→((A.foldl mG L).map dI.feature).Nodup
 | [],L,h=>h
 | p::A,L,h=>xX A (mG L p) (by rw [ve]; exact nT h)
theorem Ai:∀ (A:List (ND×dU)) (L:List dI),(L.map dI.feature).Nodup→(iV mis (A.foldl mG L)).Perm (iV mis L++A.map (BX mis))
 | [],L,_=>by rw [List.map_nil,List.append_nil]; exact List.Perm.refl _
 | p::A,L,h=>by
  refine (Ai A (mG L p) (by rw [ve]; exact nT h)).trans ?_
  refine ((NJ h p).append_right _).trans ?_
  rw [List.append_assoc]
  exact List.Perm.refl _
noncomputable abbrev TP (ts:List TD):List dI:=(dC ts 0).foldl mG []
theorem nR (ts:List TD):(iV mis (dF ts)).Perm ((dC ts 0).map (BX mis)):=by
 have h1:(iV mis (dF ts)).Perm (iV mis ((TP ts).map Jp)):=(sorted_perm ltF _).flatMap_right _
 have h2:(iV mis ((TP ts).map Jp)).Perm (iV mis (TP ts)):=by
  unfold iV
  generalize TP ts=L
  induction L with
  | nil=>exact .refl _
  | cons e L ih =>
   rw [List.map_cons,List.flatMap_cons,List.flatMap_cons]
   refine List.Perm.append ?_ ih
   unfold yz Jp
   exact ((sorted_perm ltD e.numbers).map _).append_right _
 have h3:=Ai (mis:=mis) (dC ts 0) [] (by simp)
 exact h1.trans (h2.trans (by simpa [iV] using h3))
end
theorem pG:∀ {L:List dI},(L.map dI.feature).Nodup→∀ l∈L,(L.find? fun x=>x.feature==l.feature)=some l
 | [],_,l,h=>by cases h
 | x::L,hn,l,h=>by
  obtain ⟨h1,h2⟩:=List.nodup_cons.1 hn
  rw [List.find?_cons]
  rcases List.mem_cons.1 h with rfl | h
  ·simp
  ·have:¬ x.feature=l.feature:=fun e=>h1 (by rw [e]; exact List.mem_map_of_mem h)
   rw [show (x.feature==l.feature)=false from by simpa using this]
   exact pG h2 l h
theorem Ba:∀ (A:List (ND×dU)) (L:List dI),(L.map dI.feature).Nodup→∀ e∈A.foldl mG L,∀ c,c∈e.lost↔(∃ e0∈L,e0.feature=e.feature∧c∈e0.lost)∨∃ p∈A,p.1.feature=e.feature∧p.1.missing=2∧p.2=c
 | [],L,hn,e,he,c=>by
  constructor
  ·intro h; exact .inl ⟨e,he,rfl,h⟩
  ·rintro (⟨e0,h1,h2,h3⟩ | ⟨p,hp,_⟩)
   ·have f1:=pG hn e0 h1
    have f2:=pG hn e (show e∈L from he)
    rw [h2] at f1
    rw [f1] at f2
    obtain rfl:=Option.some.inj f2
    exact h3
   ·cases hp
 | p::A,L,hn,e,he,c=>by
  rw [Ba A (mG L p) (by rw [ve]; exact nT hn) e he c]
  have hens:∀ f:Int,(∃ e1∈xC p.1.feature L,e1.feature=f∧c∈e1.lost)↔∃ e0∈L,e0.feature=f∧c∈e0.lost:=fun f=>by
   unfold xC
   split
   ·exact Iff.rfl
   ·constructor
    ·rintro ⟨e1,h1,h2,h3⟩
     rcases List.mem_append.1 h1 with h | h
     ·exact ⟨e1,h,h2,h3⟩
     ·obtain rfl:e1=_:=by simpa using h
      cases h3
    ·rintro ⟨e1,h1,h2,h3⟩
     exact ⟨e1,List.mem_append_left _ h1,h2,h3⟩
  have hadd:(∃ e0∈mG L p,e0.feature=e.feature∧c∈e0.lost)↔(∃ e0∈L,e0.feature=e.feature∧c∈e0.lost)∨(p.1.feature=e.feature∧p.1.missing=2∧p.2=c):=by
   rw [← hens]
   unfold mG
   constructor
   ·rintro ⟨e0,h1,h2,h3⟩
    obtain ⟨e1,h4,rfl⟩:=List.mem_map.1 h1
    by_cases hf:e1.feature=p.1.feature
    ·rw [if_pos hf] at h2 h3
     rw [jb] at h2
     rw [vO] at h3
     split at h3
     ·rename_i hm
      rcases List.mem_append.1 h3 with h | h
      ·exact .inl ⟨e1,h4,h2,h⟩
      ·exact .inr ⟨by rw [← hf,h2],hm,by simpa using Eq.symm (by simpa using h)⟩
     ·exact .inl ⟨e1,h4,h2,h3⟩
    ·rw [if_neg hf] at h2 h3
     exact .inl ⟨e1,h4,h2,h3⟩
   ·rintro (⟨e1,h1,h2,h3⟩ | ⟨h1,h2,h3⟩)
    ·refine ⟨_,List.mem_map_of_mem h1,?_,?_⟩
     ·split
      ·rw [jb]; exact h2
      ·exact h2
     ·split
      ·rw [vO]
       split
       ·exact List.mem_append_left _ h3
       ·exact h3
      ·exact h3
    ·obtain ⟨e1,h4,h5⟩:=List.mem_map.1 (F8 p.1.feature L)
     refine ⟨_,List.mem_map_of_mem h4,?_,?_⟩
     ·rw [if_pos h5,jb,h5,h1]
     ·rw [if_pos h5,vO,if_pos h2,h3]
      simp
  rw [hadd]
  constructor
  ·rintro ((h | h) | ⟨q,h1,h2⟩)
   ·exact .inl h
   ·exact .inr ⟨p,.head _,h⟩
   ·exact .inr ⟨q,.tail _ h1,h2⟩
  ·rintro (h | ⟨q,h1,h2⟩)
   ·exact .inl (.inl h)
   ·rcases List.mem_cons.1 h1 with rfl | h1
    ·exact .inl (.inr h2)
    ·exact .inr ⟨q,h1,h2⟩
theorem uP (ts:List TD):((dF ts).map dI.feature).Nodup:=by
 have h:((dF ts).map dI.feature).Perm ((TP ts).map dI.feature):=by
  refine ((sorted_perm ltF _).map _).trans ?_
  rw [List.map_map]
  exact .refl _
 exact h.nodup_iff.2 (xX _ _ (by simp))
theorem wX {ts:List TD} {e:dI} (he:e∈dF ts) (c:dU):c∈e.lost↔∃ p∈dC ts 0,p.1.feature=e.feature∧p.1.missing=2∧p.2=c:=by
 obtain ⟨e1,h1,rfl⟩:=List.mem_map.1 ((sorted_perm ltF _).mem_iff.1 he)
 show c∈e1.lost↔_
 rw [Ba _ _ (by simp) e1 h1 c]
 constructor
 ·rintro (⟨_,h,_⟩ | h)
  ·cases h
  ·exact h
 ·exact .inr
end Go.Mir
set_option maxRecDepth 100000
namespace Go.Mir
open Go Go.E Go.RowKit Go.Tr Go.Ss Go.ChangeShapes
def rowsOf (A:List (Int×AD)) (k:Nat):List AD:=(A.filter fun p=>p.1==(k:Int)).map (·.2)
theorem lD (A B:List (Int×AD)) (k:Nat):rowsOf (A++B) k=rowsOf A k++rowsOf B k:=by unfold rowsOf; rw [List.filter_append,List.map_append]
theorem Cj (p:Int×AD) (A:List (Int×AD)) (k:Nat):rowsOf (p::A) k=(if p.1=(k:Int) then [p.2] else [])++rowsOf A k:=by
 unfold rowsOf
 rw [List.filter_cons]
 by_cases h:p.1=(k:Int)
 ·simp [h]
 ·simp [h]
theorem CP {A B:List (Int×AD)} (h:A.Perm B) (k:Nat):(rowsOf A k).Perm (rowsOf B k):=(h.filter _).map _
theorem rW {ask:dU→AD}:∀ (cs:List dU) (N:List (List AD)),(∀ c∈cs,0≤c.tree∧c.tree<N.length) →
  ∃ N',oO ask cs N=some N'∧N'.length=N.length∧∀ k,k<N.length→N'.getD k []=N.getD k []++rowsOf (cs.map fun c=>(c.tree,ask c)) k
 | [],N,_=>⟨N,rfl,rfl,fun k _=>by simp [rowsOf]⟩
 | c::cs,N,h=>by
  have hc:=h c (.head _)
  obtain ⟨N',h1,h2,h3⟩:=rW cs (N.set c.tree.toNat (N.getD c.tree.toNat []++[ask c])) fun x hx=>by rw [List.length_set]; exact h x (.tail _ hx)
  rw [List.length_set] at h2 h3
  refine ⟨N',by rw [nU,if_pos hc]; exact h1,h2,fun k hk=>?_⟩
  rw [h3 k hk,List.map_cons,Cj,← List.append_assoc]
  congr 1
  simp only [List.getD_eq_getElem?_getD,List.getElem?_set]
  by_cases e:c.tree=(k:Int)
  ·have e':c.tree.toNat=k:=by omega
   rw [if_pos e',if_pos (by omega),if_pos e]
   simp [e']
  ·rw [if_neg (by omega),if_neg e]
   simp
section
variable {mis:Int→dU→Int}
theorem xQ:∀ (L:List dI) (N:List (List AD)),(∀ p∈iV mis L,0≤p.1∧p.1<N.length) →
  (∀ l∈L,(∀ c∈l.numbers,(c.tree,mO l.feature false l.lost c)=EX mis l.feature 2 c)∧(∀ c∈l.aI,(c.tree,mO l.feature true l.lost c)=EX mis l.feature 3 c)) →
  ∃ N',qK L N=some N'∧N'.length=N.length∧∀ k,k<N.length→N'.getD k []=N.getD k []++rowsOf (iV mis L) k
 | [],N,_,_=>⟨N,rfl,rfl,fun k _=>by simp [rowsOf,iV]⟩
 | l::L,N,h,hq=>by
  have hin:∀ p∈yz mis l,0≤p.1∧p.1<N.length:=fun p hp=>h p (by unfold iV; rw [List.flatMap_cons]; exact List.mem_append_left _ hp)
  have hin2:∀ p∈iV mis L,0≤p.1∧p.1<N.length:=fun p hp=>h p (by unfold iV; rw [List.flatMap_cons]; exact List.mem_append_right _ hp)
  obtain ⟨q1,q2⟩:=hq l (.head _)
  obtain ⟨N1,a1,a2,a3⟩:=rW (ask:=mO l.feature false l.lost) l.numbers N fun c hc=>hin (EX mis l.feature 2 c) (List.mem_append_left _ (List.mem_map_of_mem hc))
  obtain ⟨N2,b1,b2,b3⟩:=rW (ask:=mO l.feature true l.lost) l.aI N1 fun c hc=>by rw [a2]; exact hin (EX mis l.feature 3 c) (List.mem_append_right _ (List.mem_map_of_mem hc))
  obtain ⟨N3,c1,c2,c3⟩:=xQ L N2 (by rw [b2,a2]; exact hin2) fun x hx=>hq x (.tail _ hx)
  refine ⟨N3,?_,by rw [c2,b2,a2],fun k hk=>?_⟩
  ·show (KW l N).bind _=_
   unfold KW
   rw [a1]
   simp only [Option.bind_some]
   rw [b1]
   exact c1
  ·rw [c3 k (by omega),b3 k (by omega),a3 k hk]
   unfold iV
   rw [List.flatMap_cons,lD]
   unfold yz
   rw [lD,List.map_congr_left q1,List.map_congr_left q2]
   simp only [List.append_assoc]
end
def DI (L:List dI) (f:Int) (c:dU):Int:=match L.find? fun l=>l.feature==f with
 | some l=>if 0<l.lost.countP (fun x=>decide (wJ f x=wJ f c)) then 2 else 1
 | none=>1
theorem Df {L:List dI} (hn:(L.map dI.feature).Nodup) {l:dI} (hl:l∈L) (c:dU):DI L l.feature c=if 0<l.lost.countP (fun x=>decide (wJ l.feature x=wJ l.feature c)) then 2 else 1:=by
 unfold DI
 rw [pG hn l hl]
theorem Qd {L:List dI} (hn:(L.map dI.feature).Nodup) (l:dI) (hl:l∈L):(∀ c∈l.numbers,(c.tree,mO l.feature false l.lost c)=EX (DI L) l.feature 2 c)∧(∀ c∈l.aI,(c.tree,mO l.feature true l.lost c)=EX (DI L) l.feature 3 c):=by
 constructor
 ·intro c _
  unfold mO EX
  rw [Df hn hl]
  rfl
 ·intro c _
  unfold mO EX
  rw [Df hn hl]
  rfl
theorem nX (att:Nat→ND):∀ (T:BT) (k:Nat),qF att T k=(T.marks k).map fun m=>⟨att m.node.toNat,m.frm,m.to⟩
 | .leaf _,_=>rfl
 | .node i l r,k=>by
  unfold qF BT.marks
  rw [nX att l,nX att r,List.map_cons,List.map_append,Int.toNat_natCast]
theorem kZ {nodes:List ND}:∀ {T:BT} {k:Nat},Is nodes T→∀ m∈T.marks k,∃ (i:Nat) (x:ND),m.node=(i:Int)∧nodes[i]?=some x∧x.inner=true
 | .leaf _,_,_,m,h=>by cases h
 | .node i l r,k,⟨x,hx,hi,_,_,hl,hr⟩,m,h=>by
  rcases List.mem_cons.1 (show m∈_::(l.marks k++r.marks (k+l.nl)) from h) with rfl | h
  ·exact ⟨i,x,rfl,hx,hi⟩
  ·rcases List.mem_append.1 h with h | h
   ·exact kZ hl m h
   ·exact kZ hr m h
def Hl (k:Nat) (nodes:List ND) (m:MkD):ND×dU:=(nodes.getD m.node.toNat default,⟨(nodes.getD m.node.toNat default).thr,(nodes.getD m.node.toNat default).aI,(k:Int),m.frm,m.to⟩)
theorem pM {α β:Type} {f:α→Option β} {g:α→β}:∀ {l:List α},(∀ x∈l,f x=some (g x))→l.filterMap f=l.map g
 | [],_=>rfl
 | x::l,h=>by
  rw [List.filterMap_cons,h x (.head _),List.map_cons]
  simp only
  rw [pM fun y hy=>h y (.tail _ hy)]
theorem qj {nodes:List ND} (h:lvE nodes=0) (k:Nat):kD k nodes=((fK nodes).marks 0).map (Hl k nodes):=by
 unfold kD jq
 rw [if_pos h]
 refine pM fun m hm=>?_
 obtain ⟨i,x,h1,h2,_⟩:=kZ (aJ (fP h).1).is m hm
 unfold AY Hl
 rw [h1,Int.toNat_natCast,List.getD_eq_getElem?_getD,h2]
 rfl
theorem nH:∀ {ts:List TD} {k0:Nat} {p:ND×dU},(∀ t∈ts,lvE t.nodes=0)→p∈dC ts k0→∃ j t,ts[j]?=some t∧p∈kD (k0+j) t.nodes
 | [],_,_,_,h=>by cases h
 | t::ts,k0,p,hl,h=>by
  rcases List.mem_append.1 (show p∈kD k0 t.nodes++dC ts (k0+1) from h) with h | h
  ·exact ⟨0,t,rfl,h⟩
  ·obtain ⟨j,t',h1,h2⟩:=nH (fun x hx=>hl x (.tail _ hx)) h
   exact ⟨j+1,t',h1,by rw [show k0+(j+1)=k0+1+j by omega]; exact h2⟩
theorem jD {k:Nat} {nodes:List ND} (h:lvE nodes=0) {p:ND×dU} (hp:p∈kD k nodes):∃ m∈(fK nodes).marks 0,p=Hl k nodes m:=by
 rw [qj h] at hp
 obtain ⟨m,h1,h2⟩:=List.mem_map.1 hp
 exact ⟨m,h1,h2.symm⟩
theorem MV {ts:List TD} (hl:∀ t∈ts,lvE t.nodes=0) {p q:ND×dU} (hp:p∈dC ts 0) (hq:q∈dC ts 0) (h1:p.2.tree=q.2.tree) (h2:p.2.frm=q.2.frm) (h3:p.2.to=q.2.to):p=q:=by
 obtain ⟨i,t,ht,hp'⟩:=nH hl hp
 obtain ⟨j,t',ht',hq'⟩:=nH hl hq
 have hv:=hl t (List.mem_of_getElem? ht)
 obtain ⟨m,hm,rfl⟩:=jD hv hp'
 obtain ⟨m',hm',rfl⟩:=jD (hl t' (List.mem_of_getElem? ht')) hq'
 have hij:i=j:=by
  have:(((0+i:Nat):Int))=((0+j:Nat):Int):=h1
  omega
 subst hij
 obtain rfl:t=t':=by rw [ht] at ht'; exact Option.some.inj ht'
 have hpw:=yQ (att:=Ht t.nodes) (fK t.nodes) 0
 rw [nX] at hpw
 rw [List.pairwise_map] at hpw
 rcases JB hpw m hm m' hm' with h | h | h
 ·rw [h]
 ·exfalso
  have h2':m.frm=m'.frm:=h2
  have h3':m.to=m'.to:=h3
  unfold ltK at h
  simp only at h
  omega
 ·exfalso
  have h2':m.frm=m'.frm:=h2
  have h3':m.to=m'.to:=h3
  unfold ltK at h
  simp only at h
  omega
theorem xK {ts:List TD} (hl:∀ t∈ts,lvE t.nodes=0) {p:ND×dU} (hp:p∈dC ts 0):(p.1.missing=1∨p.1.missing=2)∧(p.1.kind=2∨p.1.kind=3)∧p.1.value=0∧p.2.thr=p.1.thr∧p.2.aI=p.1.aI∧0≤p.1.feature:=by
 obtain ⟨i,t,ht,hp'⟩:=nH hl hp
 have hv:=hl t (List.mem_of_getElem? ht)
 obtain ⟨m,hm,rfl⟩:=jD hv hp'
 have hT:=aJ (fP hv).1
 obtain ⟨n,x,h1,h2,h3⟩:=kZ hT.is m hm
 have e:t.nodes.getD m.node.toNat default=x:=by rw [h1,Int.toNat_natCast,List.getD_eq_getElem?_getD,h2]; rfl
 have hok:=dE (hT.right.ok n x h2) h3
 have hk:x.kind=2∨x.kind=3:=by unfold ND.inner at h3; simpa using h3
 unfold Hl
 simp only [e]
 exact ⟨hok.2.2.2.2.2.2.1,hk,hok.2.2.2.2.2.2.2,trivial,trivial,hok.2.2.2.2.1⟩
theorem Hf {ts:List TD} {p:ND×dU} (hp:p∈dC ts 0):∃ e∈dF ts,e.feature=p.1.feature:=by
 have h:=(nR (mis:=fun _ _=>0) ts).mem_iff.2 (List.mem_map_of_mem (f:=BX fun _ _=>0) hp)
 obtain ⟨e,he,h2⟩:=List.mem_flatMap.1 h
 refine ⟨e,he,?_⟩
 have key:∀ {f g kd kd':Int} {c c':dU},EX (fun _ _=>0) f kd c=EX (fun _ _=>0) g kd' c'→f=g:=fun h=>congrArg (fun z:Int×AD=>z.2.nd.feature) h
 rcases List.mem_append.1 (show _∈e.numbers.map _++e.aI.map _ from h2) with h3 | h3
 ·obtain ⟨c,_,hc⟩:=List.mem_map.1 h3
  exact key hc
 ·obtain ⟨c,_,hc⟩:=List.mem_map.1 h3
  exact key hc
theorem Sj {ts:List TD} (hl:∀ t∈ts,lvE t.nodes=0) {p:ND×dU} (hp:p∈dC ts 0):DI (dF ts) p.1.feature p.2=p.1.missing:=by
 obtain ⟨e,he,hf⟩:=Hf hp
 have hm:=(xK hl hp).1
 rw [← hf,Df (uP ts) he]
 by_cases h2:p.1.missing=2
 ·rw [if_pos,h2]
  rw [List.countP_pos_iff]
  exact ⟨p.2,(wX he p.2).2 ⟨p,hp,hf.symm,h2,rfl⟩,by simp⟩
 ·rw [if_neg]
  ·omega
  ·intro h
   obtain ⟨c,hc,hk⟩:=List.countP_pos_iff.1 h
   obtain ⟨q,hq,_,hq2,rfl⟩:=(wX he c).1 hc
   have hk':wJ e.feature q.2=wJ e.feature p.2:=by simpa using hk
   have:=MV hl hq hp (congrArg KC.tree hk') (congrArg KC.frm hk') (congrArg KC.to hk')
   rw [this] at hq2
   exact h2 hq2
theorem BC {ts:List TD} (hl:∀ t∈ts,lvE t.nodes=0):∀ {us:List TD} {k0 k:Nat} {t:TD},(∀ x∈us,lvE x.nodes=0)→(∀ p∈dC us k0,p∈dC ts 0)→us[k]?=some t →
  rowsOf ((dC us k0).map (BX (DI (dF ts)))) (k0+k)=qF (Ht t.nodes) (fK t.nodes) 0
 | [],_,_,_,_,_,h=>by cases h
 | u::us,k0,k,t,hu,hs,ht=>by
  have hother:∀ {us:List TD} {k1 j:Nat},(∀ x∈us,lvE x.nodes=0)→j<k1→rowsOf ((dC us k1).map (BX (DI (dF ts)))) j=[]:=fun {us k1 j} hus hj=>by
   unfold rowsOf
   rw [List.filter_eq_nil_iff.2]
   ·rfl
   ·intro q hq
    obtain ⟨p,hp,rfl⟩:=List.mem_map.1 hq
    obtain ⟨i,x,hx,hp'⟩:=nH hus hp
    obtain ⟨m,_,rfl⟩:=jD (hus x (List.mem_of_getElem? hx)) hp'
    have e:(BX (DI (dF ts)) (Hl (k1+i) x.nodes m)).1=((k1+i:Nat):Int):=rfl
    rw [e]
    simp only [beq_iff_eq]
    omega
  have hself:∀ {j:Nat} {x:TD},lvE x.nodes=0→(∀ p∈kD j x.nodes,p∈dC ts 0)→rowsOf ((kD j x.nodes).map (BX (DI (dF ts)))) j=qF (Ht x.nodes) (fK x.nodes) 0:=fun {j x} hx hin=>by
   rw [nX]
   unfold rowsOf
   rw [List.filter_eq_self.2,List.map_map]
   ·rw [qj hx,List.map_map]
    refine List.map_congr_left fun m hm=>?_
    have hp:Hl j x.nodes m∈dC ts 0:=hin _ (by rw [qj hx]; exact List.mem_map_of_mem hm)
    obtain ⟨_,h2,h3,_⟩:=xK hl hp
    have h4:=Sj hl hp
    simp only [Function.comp]
    unfold BX EX Ht
    simp only
    rw [h4]
    have hk:(if (Hl j x.nodes m).1.kind=3 then (3:Int) else 2)=(Hl j x.nodes m).1.kind:=by
     rcases h2 with h | h
     ·rw [h]; rfl
     ·rw [h]; rfl
    rw [hk,← h3]
    rfl
   ·intro q hq
    obtain ⟨p,hp,rfl⟩:=List.mem_map.1 hq
    obtain ⟨m,_,rfl⟩:=jD hx hp
    have e:(BX (DI (dF ts)) (Hl j x.nodes m)).1=(j:Int):=rfl
    rw [e]
    simp
  have hcons:dC (u::us) k0=kD k0 u.nodes++dC us (k0+1):=rfl
  rw [hcons,List.map_append,lD]
  have hin1:∀ p∈kD k0 u.nodes,p∈dC ts 0:=fun p hp=>hs p (by rw [hcons]; exact List.mem_append_left _ hp)
  have hin2:∀ p∈dC us (k0+1),p∈dC ts 0:=fun p hp=>hs p (by rw [hcons]; exact List.mem_append_right _ hp)
  cases k with
  | zero =>
   obtain rfl:u=t:=by simpa using ht
   rw [Nat.add_zero,hself (hu u (.head _)) hin1,hother (fun x hx=>hu x (.tail _ hx)) (by omega),List.append_nil]
  | succ k =>
   rw [show k0+(k+1)=k0+1+k by omega,BC hl (fun x hx=>hu x (.tail _ hx)) hin2 (by simpa using ht)]
   have:rowsOf ((kD k0 u.nodes).map (BX (DI (dF ts)))) (k0+1+k)=[]:=by
    unfold rowsOf
    rw [List.filter_eq_nil_iff.2]
    ·rfl
    ·intro q hq
     obtain ⟨p,hp,rfl⟩:=List.mem_map.1 hq
     obtain ⟨m,_,rfl⟩:=jD (hu u (.head _)) hp
     have e:(BX (DI (dF ts)) (Hl k0 u.nodes m)).1=(k0:Int):=rfl
     rw [e]
     simp only [beq_iff_eq]
     omega
   rw [this,List.nil_append]
end Go.Mir
set_option maxRecDepth 100000
namespace Go.Mir
open Go Go.E Go.RowKit Go.Tr Go.Ss Go.ChangeShapes
theorem getD_map {α β:Type} {f:α→β} {l:List α} {k:Nat} {x:α} (h:l[k]?=some x) (d:β):(l.map f).getD k d=f x:=by
 rw [List.getD_eq_getElem?_getD,List.getElem?_map,h]; rfl
theorem o6 {t:TD} (h:(bu fQ t.nodes).1=0):eU t=(fK t.nodes).leaves.map (qJ t.nodes):=by
 unfold eU
 rw [gQ h]
 refine List.map_congr_left fun i _=>?_
 unfold qJ
 rw [List.getD_eq_getElem?_getD]
 cases t.nodes[i]? <;> rfl
theorem Jt {ts:List TD} {first:Int} {k:Nat} {t:TD} {l:List AD} (ht:ts[k]?=some t) (hv:lvE t.nodes=0) (hp:l.Perm (qF (Ht t.nodes) (fK t.nodes) 0)):ku (bZ ts first) l k=some (bD t):=by
 obtain ⟨hs,h4⟩:=fP hv
 have hnl:(bG t.nodes false).length=(fK t.nodes).nl:=by rw [gQ hs]; rfl
 have e1:(bZ ts first).leaves.getD k 0=((fK t.nodes).nl:Int):=by
  rw [← hnl]
  exact getD_map (f:=fun t:TD=>((bG t.nodes false).length:Int)) ht 0
 have e2:(bZ ts first).values.getD k []=eU t:=getD_map ht []
 have e3:(bZ ts first).outputs.getD k 0=t.output:=getD_map ht 0
 have hvl:(eU t).length=(fK t.nodes).nl:=by rw [o6 hs,List.length_map]; rfl
 have hlen:l.length+1=(fK t.nodes).nl:=by rw [hp.length_eq]; exact zG _ _
 have hpos:=(fK t.nodes).qA
 have hr:=Px hp hvl
 unfold ku
 rw [e1,e2,e3,if_neg (by omega),hr,if_pos rfl]
 rw [o6 hs,DD hs]
 rfl
theorem Ez {ts:List TD} {first:Int}:∀ (us:List TD) (N:List (List AD)) (i:Nat),N.length=us.length→(∀ j t,us[j]?=some t→ts[i+j]?=some t)→(∀ t∈us,lvE t.nodes=0) →
  (∀ j t,us[j]?=some t→(N.getD j []).Perm (qF (Ht t.nodes) (fK t.nodes) 0))→rC (bZ ts first) N i=some (us.map bD)
 | [],N,i,hl,_,_,_=>by
  obtain rfl:N=[]:=List.eq_nil_of_length_eq_zero hl
  rfl
 | u::us,[],i,hl,_,_,_=>by simp at hl
 | u::us,r::N,i,hl,h1,h2,h3=>by
  have ht:=Jt (first:=first) (h1 0 u rfl) (h2 u (.head _)) (h3 0 u rfl)
  unfold rC
  rw [Nat.add_zero] at ht
  have ht':ku (bZ ts first) r i=some (bD u):=ht
  rw [ht']
  simp only [Option.bind_some]
  rw [Ez us N (i+1) (by simpa using hl) (fun j t hj=>by rw [show i+1+j=i+(j+1) by omega]; exact h1 (j+1) t (by simpa using hj)) (fun t ht=>h2 t (.tail _ ht)) (fun j t hj=>h3 (j+1) t (by simpa using hj))]
  rfl
theorem Mc {ts:List TD} {first:Int} (hl:∀ t∈ts,lvE t.nodes=0):o9 (bZ ts first)=some (ts.map bD):=by
 unfold o9
 rw [if_neg (by unfold bZ; simp)]
 have hlen:(bZ ts first).leaves.length=ts.length:=by unfold bZ; simp
 rw [hlen]
 have hin:∀ p∈iV (DI (dF ts)) (dF ts),0≤p.1∧p.1<(List.replicate ts.length ([]:List AD)).length:=fun p hp=>by
  have h:=(nR ts).mem_iff.1 hp
  obtain ⟨q,hq,rfl⟩:=List.mem_map.1 h
  obtain ⟨j,t,hj,hq'⟩:=nH hl hq
  obtain ⟨m,_,rfl⟩:=jD (hl t (List.mem_of_getElem? hj)) hq'
  have:=(List.getElem?_eq_some_iff.1 hj).1
  have e:(BX (DI (dF ts)) (Hl (0+j) t.nodes m)).1=((0+j:Nat):Int):=rfl
  rw [e,List.length_replicate]
  omega
 obtain ⟨N',h1,h2,h3⟩:=xQ (mis:=DI (dF ts)) (dF ts) (List.replicate ts.length []) hin (Qd (uP ts))
 have h1':qK (bZ ts first).lists (List.replicate ts.length [])=some N':=h1
 rw [h1']
 simp only [Option.bind_some]
 rw [List.length_replicate] at h2 h3
 refine Ez ts N' 0 h2 (fun j t hj=>by rw [Nat.zero_add]; exact hj) hl fun j t hj=>?_
 have hj':=(List.getElem?_eq_some_iff.1 hj).1
 rw [h3 j hj',List.getD_eq_getElem?_getD,List.getElem?_replicate,if_pos hj']
 have:=BC hl (us:=ts) (k0:=0) (k:=j) (t:=t) hl (fun _ h=>h) hj
 rw [Nat.zero_add] at this
 rw [← this]
 exact CP (nR ts) j
section
variable {nodes:List ND}
theorem ES (h:lvE nodes=0):lvE (iD nodes)=0:=by
 obtain ⟨hs,h4⟩:=fP h
 have hc:=kC hs
 unfold lvE
 rw [if_pos (by rw [hc]),gQ (by rw [hc]),lC hs,BT.iW,List.length_map,if_neg]
 rw [gQ hs] at h4
 omega
theorem H8 (h:(bu fQ nodes).1=0) {d:Int} (hf:oQ nodes d=true):oQ (iD nodes) d=true:=by
 rw [iK h]
 unfold oQ jl
 rw [List.all_eq_true]
 intro y hy
 obtain ⟨i,hi,rfl⟩:=List.mem_map.1 hy
 have hlt:=((aJ h).mem i).1 hi
 unfold tu
 rw [oH,zC,List.getD_eq_getElem?_getD,List.getElem?_eq_getElem hlt]
 exact List.all_eq_true.1 hf _ (List.getElem_mem hlt)
theorem D5 {t:TD} {d out:Int} (h:kE t d out=0):kE (bD t) d out=0:=by
 obtain ⟨h1,h2,h3,h4⟩:=zx h
 refine yx (ES h1) ?_ (H8 (fP h1).1 h4)
 show ¬ (t.output<0∨out≤t.output)
 omega
theorem rX {d out:Int}:∀ {ts:List TD},gW d out ts=0→gW d out (ts.map bD)=0
 | [],_=>rfl
 | t::ts,h=>by
  have h0:=nM h
  have h1:=D5 (h0 t (.head _))
  unfold gW at h
  rw [if_neg (by rw [h0 t (.head _)]; decide)] at h
  rw [List.map_cons]
  unfold gW
  rw [if_neg (by rw [h1]; decide)]
  exact rX h
theorem qO {f:Nat→Nat}:∀ (T:BT) (k:Nat),(T.Gw f).marks k=(T.marks k).map fun m=>⟨(f m.node.toNat:Nat),m.frm,m.to⟩
 | .leaf _,_=>rfl
 | .node i l r,k=>by
  have hl:(l.Gw f).nl=l.nl:=by unfold BT.nl; rw [BT.iW,List.length_map]
  unfold BT.Gw BT.marks
  rw [qO l,qO r,hl,List.map_cons,List.map_append,Int.toNat_natCast]
def sU (p:ND×dU):ND×dU:=({ p.1 with left:=0,right:=0 },p.2)
theorem Dx (pre:List Nat) (x:ND):({ iU pre x with left:=0,right:=0 }:ND)={ x with left:=0,right:=0 }:=by
 unfold iU
 split <;> rfl
theorem Dw (h:lvE nodes=0) (k:Nat):(kD k (iD nodes)).map sU=(kD k nodes).map sU:=by
 have hs:=(fP h).1
 rw [qj (ES h),qj h,lC hs,qO,List.map_map,List.map_map,List.map_map]
 refine List.map_congr_left fun m hm=>?_
 obtain ⟨i,x,h1,h2,_⟩:=kZ (aJ hs).is m hm
 have hg:=(aJ hs).mD h2
 rw [← iK hs] at hg
 simp only [Function.comp]
 unfold Hl sU
 simp only [h1,Int.toNat_natCast]
 rw [List.getD_eq_getElem?_getD,List.getD_eq_getElem?_getD,hg,h2]
 simp only [Option.getD_some]
 rw [Dx,Iy,qV]
end
theorem uO:∀ (ts:List TD) (k:Nat),(∀ t∈ts,lvE t.nodes=0)→(dC (ts.map bD) k).map sU=(dC ts k).map sU
 | [],_,_=>rfl
 | t::ts,k,h=>by
  show (kD k (iD t.nodes)++dC (ts.map bD) (k+1)).map sU=(kD k t.nodes++dC ts (k+1)).map sU
  rw [List.map_append,List.map_append,Dw (h t (.head _)),uO ts (k+1) fun x hx=>h x (.tail _ hx)]
theorem wZ (A:List (ND×dU)) (L:List dI):(A.map sU).foldl mG L=A.foldl mG L:=by
 rw [List.foldl_map]
 rfl
theorem Dc {ts:List TD} (h:∀ t∈ts,lvE t.nodes=0):dF (ts.map bD)=dF ts:=by
 unfold dF
 rw [← wZ (dC (ts.map bD) 0),uO ts 0 h,wZ]
theorem yX {t:TD} (h:lvE t.nodes=0):eU (bD t)=eU t:=by
 have hs:=(fP h).1
 have hc:=kC hs
 rw [o6 (t:=bD t) (by show (bu fQ (iD t.nodes)).1=0; rw [hc]),o6 hs]
 show ((fK (iD t.nodes)).leaves).map (qJ (iD t.nodes))=_
 rw [lC hs,BT.iW,List.map_map]
 refine List.map_congr_left fun i hi=>?_
 have hlt:i<t.nodes.length:=by
  rw [(aJ hs).is.leaves] at hi
  exact ((aJ hs).mem i).1 (List.mem_filter.1 hi).1
 have hg:=(aJ hs).mD (List.getElem?_eq_getElem hlt)
 rw [← iK hs] at hg
 simp only [Function.comp]
 unfold qJ
 rw [List.getD_eq_getElem?_getD,hg,List.getD_eq_getElem?_getD,List.getElem?_eq_getElem hlt]
 exact Dz _ _
theorem CV {ts:List TD} (h:∀ t∈ts,lvE t.nodes=0) (first:Int):bZ (ts.map bD) first=bZ ts first:=by
 unfold bZ
 rw [Dc h,List.map_map,List.map_map,List.map_map]
 have e1:ts.map ((fun t:TD=>((bG t.nodes false).length:Int))∘bD)=ts.map fun t=>((bG t.nodes false).length:Int):=List.map_congr_left fun t ht=>by
  have hs:=(fP (h t ht)).1
  simp only [Function.comp]
  show ((bG (iD t.nodes) false).length:Int)=_
  rw [gQ (by rw [kC hs]),lC hs,BT.iW,List.length_map,gQ hs]
 have e2:ts.map (eU∘bD)=ts.map eU:=List.map_congr_left fun t ht=>yX (h t ht)
 have e3:ts.map (TD.output∘bD)=ts.map TD.output:=List.map_congr_left fun t _=>rfl
 rw [e1,e2,e3]
theorem OB {e:ED} (h:oU e=0):∀ t∈e.trees,lvE t.nodes=0:=fun t ht=>(zx (nM (rP h).2.2.2.2.2 t ht)).1
theorem AX {ts:List TD} (hl:∀ t∈ts,lvE t.nodes=0):∀ (rs:List (Int×Int)) (at_:Nat) (acc:List (Int×Int)),at_≤ts.length→iw ts.length rs at_=true →
  oq (rs.map fun r=>bZ ((ts.take r.2.toNat).drop r.1.toNat) r.1) ((ts.take at_).map bD) acc=some (ts.map bD,acc++rs)
 | [],at_,acc,h0,h=>by
  unfold iw at h
  have h':(at_:Int)=(ts.length:Int):=by simpa using h
  have e:at_=ts.length:=by omega
  show some ((ts.take at_).map bD,acc)=_
  rw [e,List.take_length,List.append_nil]
 | r::rs,at_,acc,h0,h=>by
  unfold iw at h
  simp only [Bool.and_eq_true,decide_eq_true_eq] at h
  obtain ⟨⟨⟨h1,h2⟩,h3⟩,h4⟩:=h
  have hb:=Mc (ts:=(ts.take r.2.toNat).drop r.1.toNat) (first:=r.1) fun t ht=>hl t (List.mem_of_mem_take (List.mem_of_mem_drop ht))
  have e1:r.1.toNat=at_:=by omega
  have hlen:((ts.take at_).map bD).length=at_:=by rw [List.length_map,List.length_take]; omega
  have hcat:(ts.take at_).map bD++((ts.take r.2.toNat).drop r.1.toNat).map bD=(ts.take r.2.toNat).map bD:=by
   rw [← List.map_append,e1]
   congr 1
   have:ts.take at_=(ts.take r.2.toNat).take at_:=by rw [List.take_take,Nat.min_eq_left (by omega)]
   rw [this,List.take_append_drop]
  have hlen2:(((ts.take r.2.toNat).map bD).length:Int)=r.2:=by rw [List.length_map,List.length_take]; omega
  rw [List.map_cons]
  unfold oq
  rw [hb]
  simp only
  rw [if_neg (by rw [hlen]; show ¬ r.1≠(at_:Int); omega),hcat,hlen2]
  have:=AX hl rs r.2.toNat (acc++[(r.1,r.2)]) (by omega) (by rw [show ((r.2.toNat:Nat):Int)=r.2 by omega]; exact h4)
  show oq _ _ (acc++[(r.1,r.2)])=_
  rw [this,List.append_assoc]
  rfl
theorem yl {e:ED} {rs:List (Int×Int)} (h0:ofE e rs=0):lF (ofP e rs)=some (e.trees.map bD):=by
 obtain ⟨he,hr⟩:=JG h0
 have hl:=OB he
 obtain ⟨q1,q2,q3,q4,q5,q6⟩:=rP he
 have hP:ofP e rs=qo e rs:=by unfold ofP; rw [if_pos h0]
 rw [hP]
 have hb:=AX hl rs 0 [] (Nat.zero_le _) hr
 rw [List.take_zero,List.map_nil,List.nil_append] at hb
 unfold lF
 rw [if_neg (by show ¬ ((e.features.length:Int)<0∨(e.features.length:Int)>65536); omega)]
 have hb':oq (qo e rs).blocks [] []=some (e.trees.map bD,rs):=hb
 rw [hb']
 simp only [Option.bind_some]
 have hen:oU (jo (qo e rs) (e.trees.map bD))=0:=by
  have hf:(jo (qo e rs) (e.trees.map bD)).features.length=e.features.length:=by
   show (List.replicate ((e.features.length:Int)).toNat _).length=_
   rw [List.length_replicate]; omega
  unfold oU
  rw [hf]
  show (if e.outputs<1 then (6:Int) else if e.outputs>64 then 6 else if (e.base.length:Int)≠e.outputs then 6 else if e.features.length>65536 then 6 else if (e.trees.map bD).length>65536 then 3 else gW e.features.length e.outputs (e.trees.map bD))=0
  rw [if_neg (by omega),if_neg (by omega),if_neg (by omega),if_neg (by omega),if_neg (by rw [List.length_map]; omega)]
  exact rX q6
 have hof:ofE (jo (qo e rs) (e.trees.map bD)) rs=0:=by
  unfold ofE
  rw [if_neg (by rw [hen]; decide),if_pos]
  show iw ((e.trees.map bD).length:Nat) rs 0=true
  rw [List.length_map]
  exact hr
 rw [if_pos]
 refine ⟨hof,?_⟩
 unfold ofP
 rw [if_pos hof]
 have hf:((jo (qo e rs) (e.trees.map bD)).features.length:Int)=e.features.length:=by
  show ((List.replicate ((e.features.length:Int)).toNat _).length:Int)=_
  rw [List.length_replicate]; omega
 have hbl:(rs.map fun r=>bZ (((jo (qo e rs) (e.trees.map bD)).trees.take r.2.toNat).drop r.1.toNat) r.1)=rs.map fun r=>bZ ((e.trees.take r.2.toNat).drop r.1.toNat) r.1:=by
  refine List.map_congr_left fun r _=>?_
  show bZ (((e.trees.map bD).take r.2.toNat).drop r.1.toNat) r.1=_
  rw [← List.map_take,← List.map_drop]
  exact CV (fun t ht=>hl t (List.mem_of_mem_take (List.mem_of_mem_drop ht))) r.1
 exact JD hf rfl rfl hbl
end Go.Mir
set_option maxRecDepth 100000
namespace Go.Mir
open Go Go.E Go.RowKit Go.Tr Go.Ss Go.ChangeShapes
section
variable {w w0 u w1 wB x:World} {a a0 a1 a4:OA} {n c n0 c0 n1 c1 n4 c4 g:Nat} {F F' S:Nat→Prop} {p q:Addr} {B mb:Nat} {R:VP} {f:fZ} {s t:SH}
theorem ixc {α:Type} {T:Ty α} {xs:List α} (h:Ls T F w a n c xs) (i:Nat) (hi:i<n) {K:Addr→Prop} (hk:∀ p x cs,a=some p→xs[i]?=some x→T.rd F w x cs→AtL w (p.add (i*T.k)) cs→K p):ix a n (i:Int) K:=by
 obtain ⟨p,x,cs,h1,h2,_,h4,h5⟩:=h.elem hi
 rw [h1]
 exact dA ⟨by omega,by omega⟩ (hk p x cs h1 h2 h4 h5)
def QQ:Nat→Value→World→Prop:=fun i v u=>match i with
 | 39=>∃ (F:Nat→Prop) (f b t:SH),v=vE exE f b t∧gV F u exE f b t
 | 42=>∃ (F:Nat→Prop) (a:OA) (n c:Nat),v=vT kQ.output a n c∧Good F u a n c kQ.nodes
 | _=>v = .bool true
theorem QQ.keep (i:Nat) (v:Value) (u u':World) (h:QQ i v u) (hk:Below u.heap.size u u'):QQ i v u':=by
 unfold QQ at h ⊢
 split at h
 ·obtain ⟨F,f,b,t,h1,h2⟩:=h
  exact ⟨F,f,b,t,h1,h2.kept hk⟩
 ·obtain ⟨F,a,n,c,h1,h2⟩:=h
  exact ⟨F,a,n,c,h1,h2.kept hk⟩
 ·exact h
theorem P5:exE.trees[1]?=some kQ:=rfl
set_option maxHeartbeats 2000000 in
theorem OU:Pure Go.Proofs.Try.prog 11 #[] w (.bool true):=by
 refine bg.calls (R:=fun v u=>v = .bool true∧Below w.heap.size w u) ?_
 unfold bg bg.g0
 refine E.CallsD.mono Eg fun v w1 ⟨f,b,t,hv,hG,hk1⟩=>?_
 refine ⟨_,f.a,f.n,f.c,_,b.a,b.n,b.c,t.a,t.n,t.c,hv,?_⟩
 refine E.CallsD.mono (BB (k:=2) hG) fun v w2 ⟨s,z,hv,hin,hk2⟩=>?_
 rw [V9.2] at hv
 rw [V9.2] at hin
 have hbl:=hin.b
 have hkl:=hin.k
 refine ⟨_,_,s.a,s.n,s.c,z.a,z.n,z.c,_,hv,?_⟩
 refine boxS (zs:=(sZ 0 0 none 0 0 none 0 0).toList) (vs:=o7 exF s z) rfl fun w3 hA3 hb3 hk3=>?_
 have hkl3:=hkl.kept hk3
 have hzn:z.n=1:=hkl.len
 refine lW V9.1 ?_
 refine ⟨_,_,_,hA3 3 _ rfl,?_⟩
 refine lW (by omega) ?_
 refine ⟨_,_,_,hA3 3 _ rfl,?_⟩
 refine ixc hkl3 0 (by omega) fun p0 x0 cs0 hp0 hx0 hrd hAt=>?_
 obtain rfl:x0=exB:=by
  have h:exF.blocks[0]?=some exB:=rfl
  rw [h] at hx0; exact (Option.some.inj hx0).symm
 obtain ⟨s1,s2,s3,s4,rfl,h1,h2,h3,h4⟩:=hrd
 have hl4:s4.n=2:=h4.len
 have hAb:AtL w3 (p0.add 0) (um exB s1 s2 s3 s4):=by simpa using hAt
 refine ⟨_,_,_,hAb 4 _ rfl,?_⟩
 refine lW (by omega) ?_
 refine ⟨_,_,_,hA3 3 _ rfl,?_⟩
 refine ixc hkl3 0 (by omega) fun p1 x1 cs1 hp1 _ _ _=>?_
 obtain rfl:p0=p1:=by rw [hp0] at hp1; exact Option.some.inj hp1
 refine ⟨_,_,_,hAb 4 _ rfl,?_⟩
 refine ixc h4 1 (by omega) fun p2 x2 cs2 hp2 hx2 hrd2 hAt2=>?_
 obtain ⟨l1,l2,l3,rfl,g1,g2,g3⟩:=hrd2
 obtain rfl:x2=⟨1,[⟨4607182418800017408,[],1,0,2⟩,KI],[],[KI]⟩:=by
  have h:exB.lists[1]?=some ⟨1,[⟨4607182418800017408,[],1,0,2⟩,KI],[],[KI]⟩:=rfl
  rw [h] at hx2; exact (Option.some.inj hx2).symm
 have hAl:AtL w3 (p2.add 4) _:=hAt2
 refine ⟨_,hAl 0 _ rfl,_,_,_,hAl 1 _ rfl,_,_,_,hAl 2 _ rfl,_,_,_,hAl 3 _ rfl,?_⟩
 refine boxS (zs:=(zK 0 none 0 0 none 0 0 none 0 0).toList) (vs:=enL ⟨1,[⟨4607182418800017408,[],1,0,2⟩,KI],[],[KI]⟩ l1 l2 l3) rfl fun w4 hA4 hb4 hk4=>?_
 have hA34:=hA3.kept hk4
 refine ⟨_,hA34 0 _ rfl,_,hA34 1 _ rfl,s.a,s.n,s.c,hA34 2 _ rfl,z.a,z.n,z.c,hA34 3 _ rfl,?_⟩
 have hz2:∀ b,nwB w1 w2 b→b<w2.heap.size:=fun b hb=>hb.2
 have hk34:=Kept.trans hk3 hk4
 have hGf:mf (nwB w1 w2) w4 exF s z:=⟨hbl.kept hk34,hkl.kept hk34,Qc.sm⟩
 have hold:∀ {u:World},Kept w2 u→∀ b,nwB w1 w2 b→b<u.heap.size:=fun hk b hb=>by have:=hb.2; have:=hk.size; omega
 refine E.CallsD.mono (EI hGf Qc (hold hk34)) fun v w5 hh=>?_
 obtain ⟨a',n',c',why,hv,_,hsome,hfr⟩:=hh
 obtain ⟨rfl,hts⟩:=hsome _ VK
 have hk5:=From.kept hfr
 refine ⟨a',n',c',_,hv,?_⟩
 have hA35:=hA34.kept hk5
 refine ⟨_,hA35 0 _ rfl,_,hA35 1 _ rfl,s.a,s.n,s.c,hA35 2 _ rfl,z.a,z.n,z.c,hA35 3 _ rfl,?_⟩
 refine E.CallsD.mono (Jl (hGf.kept hk5) Qc (hold (Kept.trans hk34 hk5))) fun v w6 ⟨hv,hk6⟩=>?_
 rw [WA] at hv
 refine ⟨_,_,hv,QQ,QQ.keep,?_⟩
 have hk456:=Kept.trans hk5 hk6
 have hA6:=hA4.kept hk456
 have g1':=(g1.kept hk4).kept hk456
 have n1:l1.n=2:=g1.len
 have n3:l3.n=1:=g3.len
 have hts6:=hts.kept hk6
 have nt:n'=2:=hts.len
 refine ⟨_,_,_,hA6 1 _ rfl,?_⟩
 refine lZ (by omega) ?_
 refine ⟨_,_,_,hA6 1 _ rfl,?_⟩
 refine ixc g1' 0 (by omega) fun q1 y1 cs1 _ hy1 hrd3 hAt3=>?_
 obtain ⟨m1,rfl,_⟩:=hrd3
 obtain rfl:y1=⟨4607182418800017408,[],1,0,2⟩:=(Option.some.inj hy1).symm
 have hAc:AtL w6 (q1.add 0) (enC ⟨4607182418800017408,[],1,0,2⟩ m1):=by simpa using hAt3
 refine ⟨_,hAc 2 _ rfl,?_⟩
 refine lZ rfl ?_
 refine ⟨_,_,_,hA6 1 _ rfl,?_⟩
 refine ixc g1' 0 (by omega) fun q2 y2 cs2 _ hy2 hrd4 hAt4=>?_
 obtain ⟨m2,rfl,_⟩:=hrd4
 obtain rfl:y2=⟨4607182418800017408,[],1,0,2⟩:=(Option.some.inj hy2).symm
 have hAc2:AtL w6 (q2.add 0) (enC ⟨4607182418800017408,[],1,0,2⟩ m2):=by simpa using hAt4
 refine ⟨_,hAc2 4 _ rfl,?_⟩
 refine lZ rfl ?_
 refine ⟨_,_,_,hA6 3 _ rfl,?_⟩
 refine lZ (by omega) ?_
 refine lZ rfl ?_
 refine lZ (by omega) ?_
 have hkw6:Kept w w6:=Kept.trans hk1 (Kept.trans hk2 (Kept.trans hk34 hk456))
 refine ixc hts6 1 (by omega) fun p3 t3 cs3 _ ht3 hrd5 hAt5=>?_
 obtain rfl:t3=kQ:=(Option.some.inj ht3).symm
 obtain ⟨ta,tn,tc,rfl,htn⟩:=hrd5
 have hAt5':AtL w6 (p3.add 2) [.int .i64 kQ.output,.slice ta tn tc]:=hAt5
 refine ⟨_,hAt5' 0 _ rfl,_,_,_,hAt5' 1 _ rfl,?_⟩
 have hG3:Good (fun k=>w4.heap.size≤k∧k<w5.heap.size) w6 ta tn tc kQ.nodes:=⟨htn,fun b hb=>by have:=hb.2; have:=hk6.size; omega,by have:=htn.len; have e:kQ.nodes.length=5:=rfl; omega,by unfold Short; decide⟩
 refine ⟨fun u hu=>E.CallsD.mono Eg fun v u2 ⟨f',b',t',hv',hG',hk'⟩=>⟨_,f'.a,f'.n,f'.c,_,b'.a,b'.n,b'.c,t'.a,t'.n,t'.c,hv',⟨_,f',b',t',rfl,hG'⟩,hk'⟩,?_⟩
 intro i j k l m n o p q r s' hex
 obtain ⟨u0,hu0,F0,f0,b0,t0,hv0,hG0⟩:=hex
 have inj:∀ {f1 b1 t1:SH},ou i j k l m n o p q r s'=vE exE f1 b1 t1→q=t1.a∧r=t1.n∧s'=t1.c:=fun h=>by
  simp [vE] at h
  exact h.2.2.2.2
 obtain ⟨rfl,rfl,rfl⟩:=inj hv0
 have nt0:t0.n=2:=hG0.ts.len
 refine ixc hG0.ts 1 (by omega) fun p4 x4 cs4 hp4 _ _ _=>⟨fun u hu h39=>?_,?_⟩
 ·obtain ⟨F1,f1,b1,t1,hv1,hG1⟩:=h39
  obtain ⟨e1,e2,e3⟩:=inj hv1
  have nt1:t1.n=2:=hG1.ts.len
  obtain ⟨p5,x5,cs5,k1,k2,_,k4,k5⟩:=hG1.ts.elem (i:=1) (by omega)
  obtain rfl:p4=p5:=by rw [← e1,hp4] at k1; exact Option.some.inj k1
  obtain rfl:x5=kQ:=by rw [P5] at k2; exact (Option.some.inj k2).symm
  obtain ⟨xa,xn,xc,rfl,hxn⟩:=k4
  have k5':AtL u (p4.add 2) [.int .i64 kQ.output,.slice xa xn xc]:=k5
  exact ⟨_,k5' 0 _ rfl,_,_,_,k5' 1 _ rfl,F1,xa,xn,xc,rfl,hxn,hG1.old,by have:=hxn.len; have e:kQ.nodes.length=5:=rfl; omega,by unfold Short; decide⟩
 ·intro t u v w' hex2
  obtain ⟨x,hx,F2,a2,n2,c2,hv2,hG2⟩:=hex2
  have inj2:∀ {a1:OA} {n1 c1:Nat},kz t u v w'=vT kQ.output a1 n1 c1→t=kQ.output∧u=a1∧v=n1∧w'=c1:=fun h=>by
   simp [vT] at h
   exact h
  refine ⟨fun y hy _ h42=>?_,fun a hb=>?_⟩
  ·obtain ⟨F3,a3,n3,c3,hv3,hG3'⟩:=h42
   obtain ⟨rfl,rfl,rfl,rfl⟩:=inj2 hv3
   refine E.CallsD.mono (Qi (o:=kQ.output) (o1:=kQ.output) (hG3.kept hy) hG3') fun v' u' ⟨hv',hk'⟩=>⟨_,hv',?_,hk'⟩
   show Value.bool _ = .bool true
   rw [gY ⟨rfl,rfl⟩]
  ·obtain ⟨y,hy,hb'⟩:=hb
   obtain rfl:a=true:=Value.bool.inj hb'
   exact KN (lZ rfl fun d hd _ _ _=>⟨rfl,Kept.trans hkw6 hd⟩)
end
end Go.Mir
set_option maxRecDepth 100000
namespace Go.Mir
open Go Go.E Go.RowKit Go.Tr Go.Ss Go.ChangeShapes
theorem Ey (mis:Int→dU→Int):∀ L:List dI,(iV mis L).length=Ce L
 | []=>rfl
 | l::L=>by
  have ih:=Ey mis L
  unfold iV Ce at ih ⊢
  rw [List.flatMap_cons,List.length_append,ih]
  unfold yz
  simp
theorem Kv (ts:List TD):Ce (dF ts)=(dC ts 0).length:=by
 have h:=(nR (mis:=fun _ _=>0) ts).length_eq
 rw [Ey,List.length_map] at h
 exact h
theorem EU {ts:List TD}:∀ (rs:List (Int×Int)) (at_:Nat),at_≤ts.length→iw ts.length rs at_=true→trT (rs.map fun r=>bZ ((ts.take r.2.toNat).drop r.1.toNat) r.1)+at_=ts.length
 | [],at_,h0,h=>by
  unfold iw at h
  have h':(at_:Int)=(ts.length:Int):=by simpa using h
  simp only [trT,List.map_nil,List.sum_nil]
  omega
 | r::rs,at_,h0,h=>by
  unfold iw at h
  simp only [Bool.and_eq_true,decide_eq_true_eq] at h
  obtain ⟨⟨⟨h1,h2⟩,h3⟩,h4⟩:=h
  have ih:=EU (ts:=ts) rs r.2.toNat (by omega) (by rw [show ((r.2.toNat:Nat):Int)=r.2 by omega]; exact h4)
  have e:(bZ ((ts.take r.2.toNat).drop r.1.toNat) r.1).leaves.length=r.2.toNat - at_:=by
   show (((ts.take r.2.toNat).drop r.1.toNat).map _).length=_
   rw [List.length_map,List.length_drop,List.length_take]
   omega
  unfold trT at ih ⊢
  rw [List.map_cons,List.map_cons,List.sum_cons,e]
  omega
theorem O6 {e:ED} {rs:List (Int×Int)} (h0:ofE e rs=0) (hg:∀ t∈e.trees,t.nodes.length≤1048576∧Short 1048576 t.nodes):SmF (ofP e rs):=by
 obtain ⟨he,hr⟩:=JG h0
 obtain ⟨q1,q2,q3,q4,q5,q6⟩:=rP he
 have hP:ofP e rs=qo e rs:=by unfold ofP; rw [if_pos h0]
 refine ⟨Oj h0 (fun t ht=>(hg t ht).1) (fun t ht=>(hg t ht).2),fun b hb=>?_,?_⟩
 ·rw [hP] at hb
  obtain ⟨r,_,rfl⟩:=List.mem_map.1 hb
  show Ce (dF _)≤_
  rw [Kv]
  have h1:=uN ((e.trees.take r.2.toNat).drop r.1.toNat) 0
  have h2:((e.trees.take r.2.toNat).drop r.1.toNat).length≤65536:=by rw [List.length_drop,List.length_take]; omega
  omega
 ·rw [hP]
  have:=EU (ts:=e.trees) rs 0 (Nat.zero_le _) hr
  show trT (rs.map fun r=>bZ ((e.trees.take r.2.toNat).drop r.1.toNat) r.1)≤_
  omega
theorem pU {e:ED} (h:oU e=0):jW e.trees=0∧iO e=⟨e.name,e.features,e.outputs,e.base,e.trees.map bD⟩:=by
 have hl:=OB h
 have key:∀ ts:List TD,(∀ t∈ts,lvE t.nodes=0)→jW ts=0:=by
  intro ts
  induction ts with
  | nil=>exact fun _=>rfl
  | cons t ts ih =>
   intro hl
   rw [vH,if_neg (by rw [(fP (hl t (.head _))).1]; decide)]
   exact ih fun x hx=>hl x (.tail _ hx)
 refine ⟨key _ hl,?_⟩
 unfold iO
 rw [if_pos (key _ hl)]
section
variable {w w0 u w1 wB x:World} {a a0 a1 a4:OA} {n c n0 c0 n1 c1 n4 c4 g:Nat} {F F' S:Nat→Prop} {p q:Addr} {B mb:Nat} {R:VP} {f:fZ} {s t:SH}
theorem VH {xs:List TD} {i:Int} (h:Ls tT F w a n c xs) (h0:0≤i) (hi:i<n) {K:Int→OA→Nat→Nat→Prop} (hk:∀ x a' n' c',xs[i.toNat]?=some x→Ls tN F w a' n' c' x.nodes→K x.output a' n' c') :
  ix a n i fun q=>lY w (q.add (i.toNat*2)) K :=
 h.at (K:=fun q=>lY w q K) h0 hi fun p x cs hx _ ⟨a',n',c',e,h1⟩ h2=>by subst e; exact ⟨_,h2 0 _ rfl,_,_,_,h2 1 _ rfl,hk x _ _ _ hx h1⟩
theorem UD {x y:TD} (h:x.output=y.output∧x.nodes=y.nodes):x=y:=by cases x; cases y; simp_all
theorem Bg {xs ys:List TD} (hs:Ls tT F w a n c xs) (ht:Ls tT F' w a1 n1 c1 ys) (hF:∀ b,F b→b<w.heap.size) (hF':∀ b,F' b→b<w.heap.size) (hm:n≤1048576)
  (hx:∀ t∈xs,t.nodes.length≤1048576∧Short 1048576 t.nodes) (hy:∀ t∈ys,t.nodes.length≤1048576∧Short 1048576 t.nodes):Pure Go.Proofs.Try.prog 23 #[.slice a n c,.slice a1 n1 c1] w (.bool (kH (xs=ys))):=by
 refine aj.calls (R:=fun v' u=>v'=_∧Below w.heap.size w u) ?_
 unfold aj aj.g0
 have hl:=hs.len
 have hl2:=ht.len
 refine jR (fun h=>⟨by rw [bY]; intro e; subst e; omega,Below.refl _ _⟩) fun h=>?_
 refine Exists.intro (n+1) (eqS (xs:=xs) (ys:=ys) (L:=fun k i w=>aj.l14 _ k a n c a1 n1 c1 n i w) hl (by omega) (W:=Kept w) (T:=fun u=>Value.bool true = .bool (kH (xs=ys))∧Kept w u) (Fl:=fun u=>Value.bool false = .bool (kH (xs=ys))∧Kept w u) ?_ (fun k u hu hT=>?_) (fun e u hu=>⟨by rw [gY e],hu⟩) (fun e u hu=>⟨by rw [bY e],hu⟩) n 0 w (by omega) rfl (Kept.refl w))
 ·intro k i u x y hu hi hx' hy' hN hF2
  rw [aj.u14]; unfold aj.g14
  refine aN (by omega) ?_
  refine VH (hs.kept hu) (by omega) (by omega) fun x2 a' n' c' h1 h2=>?_
  rw [Int.toNat_natCast,hx'] at h1
  obtain rfl:=Option.some.inj h1
  refine VH (ht.kept hu) (by omega) (by omega) fun y2 a2 n2 c2 h3 h4=>?_
  rw [Int.toNat_natCast,hy'] at h3
  obtain rfl:=Option.some.inj h3
  have q1:=hx x (List.mem_of_getElem? hx')
  have q2:=hy y (List.mem_of_getElem? hy')
  have hlen:∀ b,b<w.heap.size→b<u.heap.size:=fun b hb=>by have:=hu.size; omega
  refine Gy (Gp (o:=x.output) (o1:=y.output) ⟨h2,fun b hb=>hlen b (hF b hb),by rw [h2.len]; exact q1.1,q1.2⟩ ⟨h4,fun b hb=>hlen b (hF' b hb),by rw [h4.len]; exact q2.1,q2.2⟩) (fun hne v hv=>hF2 (fun e=>hne (by rw [e]; exact ⟨rfl,rfl⟩)) v (Kept.trans hu hv)) fun he v hv=>aB (by omega) (hN (UD he) v (Kept.trans hu hv))
 ·rw [aj.u14]; unfold aj.g14
  refine ai (by omega) ?_
  exact hT
end
end Go.Mir
