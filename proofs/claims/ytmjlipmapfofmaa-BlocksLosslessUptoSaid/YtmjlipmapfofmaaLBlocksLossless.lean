/- Part of a proof of laws of the seat Ytmjlipmapfofmaa: functions' weakest preconditions, each checked by the kernel, contracts out of them, plain lemmas; no conditions. -/
import Derived.Test.YtmjlipmapfofmaaFE
import Derived.Test.YtmjlipmapfofmaaXLLossless
set_option linter.unusedVariables false
set_option linter.unusedSimpArgs false
set_option linter.unusedSectionVars false
set_option maxRecDepth 100000
namespace Go.Mir
open Go Go.E Go.RowKit Go.Tr Go.Ss Go.ChangeShapes
section
variable {w w0 u w1 wB x:World} {a a0 a1 a4:OA} {n c n0 c0 n1 c1 n4 c4 g:Nat} {F F' S:Nat→Prop} {p q:Addr} {R:VP} {e:ED} {f b t:SH} {rs:List (Int×Int)} {k:Int}
theorem Ud (h:AtL w p (enE e f b t)) {K:ByteArray→OA→Nat→Nat→Int→OA→Nat→Nat→OA→Nat→Nat→Prop} (hk:K e.name f.a f.n f.c e.outputs b.a b.n b.c t.a t.n t.c):C9 w p K :=
 ⟨_,h 0 _ rfl,_,_,_,h 1 _ rfl,_,h 2 _ rfl,_,_,_,h 3 _ rfl,_,_,_,h 4 _ rfl,hk⟩
theorem Ut {x:fZ} {s t:SH} (h:AtL w p (o7 x s t)) {K:Int→Int→OA→Nat→Nat→OA→Nat→Nat→Prop} (hk:K x.features x.outputs s.a s.n s.c t.a t.n t.c):qc w p K :=
 ⟨_,h 0 _ rfl,_,h 1 _ rfl,_,_,_,h 2 _ rfl,_,_,_,h 3 _ rfl,hk⟩
theorem Gu:kU e k≠0→ofE e rs=0∨ofE e rs=kU e k∨kU e k=2:=fun h=>by
 by_cases h0:oU e=0
 ·by_cases h1:gZ e.trees.length k=0
  ·exact absurd (by unfold kU; rw [if_neg (by omega),if_neg (by omega)]; exact Ir h0 h1) h
  ·refine .inr (.inr ?_)
   unfold kU
   rw [if_neg (by omega),if_pos h1]
   unfold gZ at h1 ⊢
   split
   ·rfl
   ·split
    ·rfl
    ·split
     ·rfl
     ·split
      ·rfl
      ·exfalso; simp_all
 ·refine .inr (.inl ?_)
  unfold ofE kU
  rw [if_pos h0,if_pos h0]
theorem Qy (h:kU e k=0):ofE e (iM e.trees.length k)=0∧lh e k=ofP e (iM e.trees.length k):=by
 have h0:oU e=0:=Classical.byContradiction fun hn=>by unfold kU at h; rw [if_pos hn] at h; exact hn h
 have h1:gZ e.trees.length k=0:=Classical.byContradiction fun hn=>by unfold kU at h; rw [if_neg (by omega),if_pos hn] at h; exact hn h
 refine ⟨Ir h0 h1,?_⟩
 unfold lh
 rw [if_neg (by omega),if_neg (by omega)]
theorem xh {ts:List TD} {x:fZ} {v:Value} (h:wP w x v u) (hb:lF x=some ts):∃ a n c,v = .tuple #[.slice a n c,.int .i64 0]∧Ls tT (fun k=>w.heap.size≤k∧k<u.heap.size) u a n c ts∧Kept w u:=by
 obtain ⟨a,n,c,why,hv,_,h1,hf⟩:=h
 obtain ⟨rfl,hL⟩:=h1 ts hb
 exact ⟨a,n,c,hv,hL,From.kept hf⟩
theorem uV (hE:gV F w e f b t) (h0:oU e=0):∀ x∈e.trees.map bD,x.nodes.length≤1048576∧Short 1048576 x.nodes:=by
 have h:=wu (Go.Mir.gV.sized hE)
 rw [(pU h0).2] at h
 exact h.good
abbrev RT (w:World):VP:=fun v u=>v = .bool true∧Below w.heap.size w u
theorem yU {wb wd:World} {f' b' t' s z:SH} {l o m:Int} (hE:gV F' w0 e f b t) (ho:o=kU e k) (hl:l=ofE e rs) (hm:m=jW e.trees) (hA:AtL w (na wb) (enE (iO e) f' b' t')) (hB:AtL w (na wd) (o7 (lh e k) s z))
  (hin:kX F w (lh e k) s z) (hF:∀ b,F b→b<w.heap.size) (hT:Ls tT S w t'.a t'.n t'.c (iO e).trees) (hS:∀ b,S b→b<w.heap.size) (hk:Kept wB w) :
  ae (o != 0)
   (ae (l==0) (RT wB (.bool true) w) (ae (l==o) (RT wB (.bool true) w) (ae (o==2) (RT wB (.bool true) w) (RT wB (.bool (l==6)) w))))
   (qc w (na wd) fun c d e f g h i j =>
   E.CallsD Go.Proofs.Try.prog 21 #[mg c d e f g h i j] w fun v u=>∃ d e f g,v = .tuple #[.slice d e f,.int .i64 g] ∧
   (ae (m==0) (ae (g==0) (cL u ((na wb).add 4) fun a b g=>E.CallsD Go.Proofs.Try.prog 23 #[.slice d e f,.slice a b g] u fun v x=>∃ d,v = .bool d∧(RT wB (.bool d) x)) (RT wB (.bool false) u)) (RT wB (.bool false) u))):=by
 refine jR (fun hne=>?_) fun h0=>?_
 ·refine oM (fun _=>⟨rfl,hk⟩) fun h1=>oM (fun _=>⟨rfl,hk⟩) fun h2=>oM (fun _=>⟨rfl,hk⟩) fun h3=>?_
  rw [ho] at hne h2 h3
  rw [hl] at h1 h2
  rcases Gu (rs:=rs) hne with h | h | h
  ·exact absurd h h1
  ·exact absurd h h2
  ·exact absurd h h3
 ·rw [ho] at h0
  obtain ⟨c1,c2⟩:=Qy h0
  have he:=(JG c1).1
  refine Ut hB ?_
  have hsm:SmF (lh e k):=by rw [c2]; exact O6 c1 hE.good
  refine E.CallsD.mono (EI ⟨hin.b,hin.k,hsm.sm⟩ hsm hF) fun v u hh=>?_
  obtain ⟨a',n',c',hv,hL,hku⟩:=xh hh (by rw [c2]; exact yl c1)
  refine ⟨a',n',c',0,hv,lZ (by rw [hm]; exact (pU he).1) (lZ rfl ?_)⟩
  refine ⟨_,_,_,(hA.kept hku) 4 _ rfl,?_⟩
  rw [(pU he).2] at hT
  have hsz:=uV hE he
  have hn:n'=e.trees.length:=by rw [hL.len,List.length_map]
  have htm:=hE.tm
  have htl:=hE.ts.len
  refine E.CallsD.mono (Bg hL (hT.kept hku) (fun b hb=>hb.2) (fun b hb=>by have:=hS b hb; have:=hku.size; omega) (by omega) hsz hsz) fun v x ⟨hv,hkx⟩=>⟨_,hv,?_,Kept.trans hk (Kept.trans hku hkx)⟩
  rw [gY rfl]
set_option maxHeartbeats 1000000 in
theorem pR (hE:gV F w e f b t) (hrs:Ls tR F' w a1 n1 c1 rs) (hF':∀ b,F' b→b<w.heap.size) (hn:n1≤1048576):Pure Go.Proofs.Try.prog 6 #[vE e f b t,.slice a1 n1 c1,.int .i64 k] w (.bool true):=by
 refine ak.calls (R:=RT w) ?_
 unfold ak ak.g0
 refine xm (cs:=(enE e f b t).toArray) fun w1 hA1' hk1=>?_
 have hA1:AtL w1 (na w) (enE e f b t):=hA1'
 refine E.CallsD.mono OU fun v w2 ⟨hv,hk2⟩=>⟨_,hv,Dy ?_⟩
 have k12:=Kept.trans hk1 hk2
 refine Ud (hA1.kept hk2) ?_
 refine E.CallsD.mono (OY (hE.kept k12)) fun v w3 ⟨f',b',t',hv,hO,hk3⟩=>?_
 refine ⟨_,f'.a,f'.n,f'.c,_,b'.a,b'.n,b'.c,t'.a,t'.n,t'.c,_,hv,?_⟩
 refine boxS (zs:=(qB ⟨#[]⟩ none 0 0 0 none 0 0 none 0 0).toList) (vs:=enE (iO e) f' b' t') rfl fun w4 hA4 _ hk4=>?_
 have k14:=Kept.trans k12 (Kept.trans hk3 hk4)
 have hA14:=hA1.kept (Kept.trans hk2 (Kept.trans hk3 hk4))
 refine Ud hA14 ?_
 have oldF':∀ {u:World},Kept w u→∀ b,F' b→b<u.heap.size:=fun hk b hb=>by have:=hF' b hb; have:=hk.size; omega
 refine E.CallsD.mono (Ue (hE.kept k14) (hrs.kept k14) (oldF' k14) (by omega)) fun v w5 ⟨s1,z1,hv,hin1,hk5⟩=>?_
 refine ⟨_,_,s1.a,s1.n,s1.c,z1.a,z1.n,z1.c,_,hv,?_⟩
 refine boxS (zs:=(sZ 0 0 none 0 0 none 0 0).toList) (vs:=o7 (ofP e rs) s1 z1) rfl fun w6 hA6 _ hk6=>?_
 have k56:=Kept.trans hk5 hk6
 have k16:=Kept.trans k14 k56
 refine Ud (hA14.kept k56) ?_
 refine E.CallsD.mono (BB (k:=k) (hE.kept k16)) fun v w7 ⟨s2,z2,hv,hin2,hk7⟩=>?_
 refine ⟨_,_,s2.a,s2.n,s2.c,z2.a,z2.n,z2.c,_,hv,?_⟩
 refine boxS (zs:=(sZ 0 0 none 0 0 none 0 0).toList) (vs:=o7 (lh e k) s2 z2) rfl fun w8 hA8 _ hk8=>?_
 have k78:=Kept.trans hk7 hk8
 have k18:=Kept.trans k16 k78
 have k68:Kept w6 w8:=k78
 have hA48:=hA4.kept (Kept.trans k56 k78)
 have hA68:=hA6.kept k78
 have hT0:Ls tT (QV w2.heap.size w3) w3 t'.a t'.n t'.c (iO e).trees:=(Go.Mir.zV.good hO (wu (Go.Mir.gV.sized hE))).ts
 have hT8:=hT0.kept (Kept.trans hk4 (Kept.trans k56 k78))
 have z38:=(Kept.trans hk4 (Kept.trans k56 k78)).size
 have z78:=hk8.size
 have tail:∀ u,Kept w8 u→_:=fun u hu=>yU (k:=k) (rs:=rs) (w:=u) (wB:=w) (wb:=w3) (wd:=w7) (s:=s2) (z:=z2) (F:=fun b=>w6.heap.size≤b∧b<w7.heap.size) (S:=QV w2.heap.size w3) hE rfl rfl rfl (hA48.kept hu) (hA8.kept hu) ((hin2.kept hk8).kept hu) (fun b hb=>by have:=hb.2; have:=hu.size; omega) (hT8.kept hu) (fun b hb=>by have:=hb.2; have:=hu.size; omega) (Kept.trans k18 hu)
 refine oM (fun h0=>?_) fun _=>tail w8 (Kept.refl _)
 have he:=(JG h0).1
 have hsm:=O6 h0 hE.good
 refine Ut hA68 ?_
 have hin8:kX (fun b=>w4.heap.size≤b∧b<w5.heap.size) w8 (ofP e rs) s1 z1:=hin1.kept (Kept.trans hk6 k78)
 have z58:=(Kept.trans hk6 k78).size
 have hG8:mf (fun b=>w4.heap.size≤b∧b<w5.heap.size) w8 (ofP e rs) s1 z1:=⟨hin8.b,hin8.k,hsm.sm⟩
 refine E.CallsD.mono (EI hG8 hsm (fun b hb=>by have:=hb.2; omega)) fun v w9 hh=>?_
 obtain ⟨a',n',c',hv,hL,hk9⟩:=xh hh (yl h0)
 refine ⟨a',n',c',0,hv,Ut (hA68.kept hk9) ?_⟩
 refine E.CallsD.mono (Jl (hG8.kept hk9) hsm (fun b hb=>by have:=hb.2; have:=hk9.size; omega)) fun v w10 ⟨hv,hk10⟩=>?_
 rw [show oD (ofP e rs)=(0,0) from by unfold oD; rw [yl h0]] at hv
 have k910:=Kept.trans hk9 hk10
 refine ⟨_,_,hv,lW (pU he).1 (lW rfl (lW rfl (lW rfl ?_)))⟩
 refine ⟨_,_,_,(hA48.kept k910) 4 _ rfl,?_⟩
 have hT10:=hT8.kept k910
 rw [(pU he).2] at hT10
 have hsz:=uV hE he
 have hn':n'=e.trees.length:=by rw [hL.len,List.length_map]
 have htm:=hE.tm
 have htl:=hE.ts.len
 have z810:=k910.size
 refine E.CallsD.mono (Bg (hL.kept hk10) hT10 (fun b hb=>by have:=hb.2; have:=hk10.size; omega) (fun b hb=>by have:=hb.2; omega) (by omega) hsz hsz) fun v w11 ⟨hv,hk11⟩=>⟨_,hv,?_⟩
 rw [gY rfl]
 have k811:=Kept.trans k910 hk11
 refine Dy ⟨_,_,_,(hA68.kept k811) 3 _ rfl,?_⟩
 have hbl:z1.n=n1:=by
  rw [hin8.k.len,hrs.len]
  unfold ofP
  rw [if_pos h0]
  unfold qo
  simp
 refine lW (by omega) (tail w11 k811)
end
end Go.Mir
