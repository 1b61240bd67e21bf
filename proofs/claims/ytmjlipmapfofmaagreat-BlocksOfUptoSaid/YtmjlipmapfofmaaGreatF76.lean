/- Part of a proof of laws of the seat YtmjlipmapfofmaaGreat: functions' weakest preconditions, each checked by the kernel, contracts out of them, plain lemmas; no conditions. -/
import Derived.Test.YtmjlipmapfofmaaGreatF75
import Derived.Test.YtmjlipmapfofmaaGreatFF
set_option linter.unusedVariables false
set_option linter.unusedSimpArgs false
set_option linter.unusedSectionVars false
set_option maxRecDepth 100000
namespace Go.Mir
open Go Go.E Go.RowKit Go.Tr Go.Ss Go.ChangeShapes
section
variable {w u w1:World} {a a1:OA} {n c n1 c1:Nat} {F F' S:Nat→Prop} {p q:Addr} {e:ED} {f b t:SH} {rs:List (Int×Int)} {s1 s2 s3 s4:SH} {x:lD}
theorem DJ (x0 x1:Int):E.CallsD Go.Proofs.Tryz.prog 30 #[.int .i64 x0,.int .i64 x1] w fun v u=>∃ a n c,v = .tuple #[.slice a n c,.int .i64 (fB x0 x1)]∧pI w u a n c (gz x0 x1):=by
 refine aP.calls (R:=fun v u=>∃ a n c,v = .tuple #[.slice a n c,.int .i64 (fB x0 x1)]∧pI w u a n c (gz x0 x1)) ?_
 unfold aP aP.g0
 have bad:fB x0 x1=2→∃ a n c,Value.tuple #[.slice none 0 0,.int .i64 2] = .tuple #[.slice a n c,.int .i64 (fB x0 x1)]∧pI w w a n c (gz x0 x1):=fun h=>by
  rw [h]
  refine ⟨none,0,0,rfl,?_⟩
  unfold gz
  rw [if_neg (by omega)]
  exact pI.nil (Kept.refl w)
 refine eF (fun h1=>bad (by unfold fB; rw [if_pos h1])) fun h1=>eF (fun h2=>bad (by unfold fB; rw [if_neg h1,if_pos h2])) fun h2=>eF (fun h3=>bad (by unfold fB; rw [if_neg h1,if_neg h2,if_pos h3])) fun h3=>eF (fun h4=>bad (by unfold fB; rw [if_neg h1,if_neg h2,if_neg h3,if_pos h4])) fun h4=>?_
 have h0:fB x0 x1=0:=by unfold fB; rw [if_neg h1,if_neg h2,if_neg h3,if_neg h4]
 rw [h0]
 have hP:gz x0 x1=iF x0 x1 (x0.toNat+1) 0:=by unfold gz; rw [if_pos h0]
 rw [hP]
 refine ⟨x0.toNat+1,?_⟩
 have key:∀ (k:Nat) (at_:Int) (u:World) (a:OA) (n c g:Nat) (xs:List (Int×Int)),0≤at_→x0 - at_≤(k:Int)→(n:Int)≤at_→at_≤131072→aO 2 enR nz u a n c xs g→(g=0∨w.heap.size<g)→Kept w u→iF x0 x1 (x0.toNat+1) 0=xs++iF x0 x1 (k+1) at_ →
   aP.l16 (fun v u=>∃ a n c,v = .tuple #[.slice a n c,.int .i64 0]∧pI w u a n c (iF x0 x1 (x0.toNat+1) 0)) (k+1) x0 x1 a n c at_ u:=by
  intro k
  induction k with
  | zero =>
   intro at_ u a n c g xs h0 hk hn hm hxs hg hkw he
   rw [aP.u16]; unfold aP.g16
   have hge:¬ at_<x0:=by omega
   refine az hge ⟨_,_,_,rfl,g,?_,hg,hkw⟩
   rw [he,iF,if_neg hge,List.append_nil]
   exact hxs
  | succ k ih =>
   intro at_ u a n c g xs h0 hk hn hm hxs hg hkw he
   rw [aP.u16]; unfold aP.g16
   have hsz:=hkw.size
   refine eF (fun hlt=>?_) fun hge=>?_
   ·have next:∀ to_,to_=(if x0<at_+x1 then x0 else at_+x1)→∀ a' c' g' u2,aO 2 enR nz u2 a' (n+1) c' (xs++[(at_,to_)]) g'→(g'=g∨u.heap.size<g')→Only g u u2→aP.l16 (fun v u=>∃ a n c,v = .tuple #[.slice a n c,.int .i64 0]∧pI w u a n c (iF x0 x1 (x0.toNat+1) 0)) (k+1) x0 x1 a' (n+1) c' (at_+x1) u2:=fun to_ hto a' c' g' u2 hx2 hg' ho=>by
     refine ih (at_+x1) u2 a' (n+1) c' g' _ (by omega) (by omega) (by omega) (by omega) hx2 (by omega) (Gw (g1:=g) hkw hg ho) ?_
     rw [he,iF,if_pos hlt,← hto]; simp
    refine bM (by omega) (by omega) (eF (fun hd=>?_) fun hd=>?_)
    ·refine aO.oz (P:=Go.Proofs.Tryz.prog) (en:=enR) (ys:=[(at_,x0)]) (m:=1) Vs (fun _=>rfl) (by omega) hxs zW rfl rfl (by omega) (by simp only [maxLen]; omega) (by omega) fun a' c' g' u2 hx2 hg' _ ho=>⟨_,_,_,rfl,bM (by omega) (by omega) (next x0 (by rw [if_pos (by omega)]) a' c' g' u2 hx2 hg' ho)⟩
    ·refine aO.oz (P:=Go.Proofs.Tryz.prog) (en:=enR) (ys:=[(at_,at_+x1)]) (m:=1) Vs (fun _=>rfl) (by omega) hxs zW rfl rfl (by omega) (by simp only [maxLen]; omega) (by omega) fun a' c' g' u2 hx2 hg' _ ho=>⟨_,_,_,rfl,bM (by omega) (by omega) (next (at_+x1) (by rw [if_neg (by omega)]) a' c' g' u2 hx2 hg' ho)⟩
   ·refine ⟨_,_,_,rfl,g,?_,hg,hkw⟩
    rw [he,iF,if_neg hge,List.append_nil]
    exact hxs
 exact key x0.toNat 0 w none 0 0 0 [] (by omega) (by omega) (by omega) (by omega) (aO.nil _ _ _ _) (.inl rfl) (Kept.refl w) (by simp)
set_option maxHeartbeats 1000000 in
theorem Bf {k:Int} (hT0:Qg e.trees) (hG:iH F w e f b t):E.CallsD Go.Proofs.Tryz.prog 10 #[vE e f b t,.int .i64 k] w fun v u=>∃ s z:SH,v = .tuple #[vF (iY e k) s z,.int .i64 (jY e k)]∧jf (fun b=>w.heap.size≤b∧b<u.heap.size) u (iY e k) s z∧Kept w u:=by
 refine bZ.calls (R:=fun v u=>∃ s z:SH,v = .tuple #[vF (iY e k) s z,.int .i64 (jY e k)]∧jf (fun b=>w.heap.size≤b∧b<u.heap.size) u (iY e k) s z∧Kept w u) ?_
 unfold bZ bZ.g0
 refine bU (bU ?_)
 have be:Blk (w.alloc (.cells (mD e.name f.a f.n f.c e.outputs b.a b.n b.c t.a t.n t.c) 26)) w.heap.size (enE e f b t).toArray Hr:=Blk.new w _ _
 have k1:=Kept.new w (.cells (mD e.name f.a f.n f.c e.outputs b.a b.n b.c t.a t.n t.c) 26)
 have hz1:(w.alloc (.cells (mD e.name f.a f.n f.c e.outputs b.a b.n b.c t.a t.n t.c) 26)).heap.size=w.heap.size+1:=by simp
 generalize w.alloc (.cells (mD e.name f.a f.n f.c e.outputs b.a b.n b.c t.a t.n t.c) 26)=w1 at be k1 hz1
 have b4:Blk (w1.alloc (.cells (lq 0 0 none 0 0 none 0 0) 31)) w1.heap.size #[.int .i64 0,.int .i64 0,.slice none 0 0,.slice none 0 0] lW:=Blk.new w1 _ _
 have k2:=Kept.new w1 (.cells (lq 0 0 none 0 0 none 0 0) 31)
 generalize w1.alloc (.cells (lq 0 0 none 0 0 none 0 0) 31)=w2 at b4 k2
 have be2:=be.keep k2
 have k12:=Kept.trans k1 k2
 have hA:AtL w2 (na w) (enE e f b t):=by simpa using AtL.blk (b:=w) be2
 have lt:=hG.ts.len
 have fin:∀ (v:World) (z:Int) (X:fV) (s1 s2:SH),jY e k=z→iY e k=X→Blk v w1.heap.size #[.int .i64 0,.int .i64 0,.slice none 0 0,.slice none 0 0] lW→Kept w v→jf (fun b=>w2.heap.size≤b∧b<v.heap.size) v X s1 s2 →
   qj v ⟨w1.heap.size,0,none⟩ X.features X.outputs s1.a s1.n s1.c s2.a s2.n s2.c fun w85=>lV w85 ⟨w1.heap.size,0,none⟩ fun x0 x1 a2 n2 c2 a3 n3 c3=>∃ s z':SH,Value.tuple #[jM x0 x1 a2 n2 c2 a3 n3 c3,.int .i64 z] = .tuple #[vF (iY e k) s z',.int .i64 (jY e k)]∧jf (fun b=>w.heap.size≤b∧b<w85.heap.size) w85 (iY e k) s z'∧Kept w w85:=by
  intro v z X s1 s2 hz hX hb hkv hin
  refine wrA (e:=lW) (b:=w1.heap.size) (vs:=[.int .i64 X.features,.int .i64 X.outputs,s1.v,s2.v]) hb rfl fun u hb' ho=>?_
  have hA4:AtL u ⟨w1.heap.size,0,none⟩ [.int .i64 X.features,.int .i64 X.outputs,s1.v,s2.v]:=fun j v hj=>by rw [addr_add,Nat.zero_add,hb'.cell]; simpa using hj
  have hw2:w1.heap.size<w2.heap.size:=b4.lt
  refine ⟨_,hA4 0 _ rfl,_,hA4 1 _ rfl,_,_,_,hA4 2 _ rfl,_,_,_,hA4 3 _ rfl,s1,s2,?_,?_,?_⟩
  ·rw [hX,hz]
  ·rw [hX]
   have no:∀ b,(w2.heap.size≤b∧b<v.heap.size)→¬ (b+1=w1.heap.size+1):=fun b hb h=>by omega
   exact ⟨(hin.b.mod ho no).mono fun b hb=>⟨by omega,by have:=ho.size; omega⟩,(hin.k.mod ho no).mono fun b hb=>⟨by omega,by have:=ho.size; omega⟩⟩
  ·exact From.kept ((Kept.mod (S:=fun k=>w.heap.size≤k) hkv).trans ho (fun _ _ h=>h) (fun k _ hk=>by have hk':k+1=w1.heap.size+1:=hk; show w.heap.size≤k; omega))
 have zero:∀ (v:World) (z:Int),jY e k=z→iY e k=⟨0,0,[],[]⟩→Blk v w1.heap.size #[.int .i64 0,.int .i64 0,.slice none 0 0,.slice none 0 0] lW→Kept w v→_:=fun v z hz hX hb hkv=>fin v z ⟨0,0,[],[]⟩ ⟨none,0,0⟩ ⟨none,0,0⟩ hz hX hb hkv ⟨Ls.nil _ _ _ _ _,Ls.nil _ _ _ _ _⟩
 refine ⟨_,hA 0 _ rfl,_,_,_,hA 1 _ rfl,_,hA 2 _ rfl,_,_,_,hA 3 _ rfl,_,_,_,hA 4 _ rfl,?_⟩
 refine E.CallsD.mono (yD (hG.kept k12)) fun v u3 ⟨hv,hk3⟩=>⟨_,hv,iJ (fun hne=>zero u3 _ (by unfold jY; rw [if_pos hne]) (by unfold iY; rw [if_pos hne]) (b4.keep hk3) (Kept.trans k12 hk3)) fun h0=>?_⟩
 have hA3:=hA.kept hk3
 have no2:k<1∨65536<k→fB e.trees.length k=2:=fun h=>by
  unfold fB
  repeat (split; · rfl)
  omega
 refine eF (fun h1=>zero u3 2 (by unfold jY; rw [if_neg (by omega),if_pos (by rw [no2 (.inl h1)]; decide),no2 (.inl h1)]) (by unfold iY; rw [if_neg (by omega),if_pos (by rw [no2 (.inl h1)]; decide)]) (b4.keep hk3) (Kept.trans k12 hk3)) fun hl1=>?_
 refine eF (fun h1=>zero u3 2 (by unfold jY; rw [if_neg (by omega),if_pos (by rw [no2 (.inr h1)]; decide),no2 (.inr h1)]) (by unfold iY; rw [if_neg (by omega),if_pos (by rw [no2 (.inr h1)]; decide)]) (b4.keep hk3) (Kept.trans k12 hk3)) fun hl2=>?_
 obtain ⟨_,_,_,_,hT5,_⟩:=qw h0
 have h1:fB e.trees.length k=0:=by unfold fB; rw [if_neg (by omega),if_neg (by omega),if_neg (by omega),if_neg (by omega)]
 refine ⟨_,_,_,hA3 4 _ rfl,?_⟩
 rw [lt]
 refine E.CallsD.mono (DJ (e.trees.length:Int) k) fun v u4 ⟨a',n',c',hv,hnew⟩=>⟨_,_,_,_,hv,?_⟩
 have hnl:=hnew.len
 obtain ⟨g,g1,g2,hk4⟩:=hnew
 have hk34:=Kept.trans hk3 hk4
 have hkw:=Kept.trans k12 hk34
 have hA4:=hA.kept hk34
 refine ⟨_,hA4 0 _ rfl,_,_,_,hA4 1 _ rfl,_,hA4 2 _ rfl,_,_,_,hA4 3 _ rfl,_,_,_,hA4 4 _ rfl,?_⟩
 obtain ⟨q1,q2,q3,q4⟩:=xg h1
 have hsl:(gz e.trees.length k).length≤65537:=by
  unfold gz
  rw [if_pos h1]
  have:=rM (n:=(e.trees.length:Int)) (b:=k) (by omega) ((e.trees.length:Int).toNat+1) 0
  omega
 have hlt:∀ b,(u3.heap.size≤b∧b<u4.heap.size)→b<u4.heap.size:=fun b h=>h.2
 have hls2:Ls tR (fun b=>u3.heap.size≤b∧b<u4.heap.size) u4 a' n' c' (gz e.trees.length k):=by
  have:=aO.lsK (T:=tR) (f:=id) (en:=enR) (k:=2) (F:=fun b=>u3.heap.size≤b∧b<u4.heap.size) (fun _=>rfl) (by omega) rfl g1 (fun b hb=>⟨by omega,by have:=Row.le g1; omega⟩) (fun x _=>rfl)
  simpa using this
 refine E.CallsD.mono (Ia (rs:=gz e.trees.length k) hT0 (hG.kept hkw) hls2 hlt (by omega)) fun v u5 ⟨s,z,hv,hin,hk5⟩=>⟨_,_,_,_,_,_,_,_,_,hv,?_⟩
 refine fin u5 _ (ofP e (gz e.trees.length k)) s z (by unfold jY; rw [if_neg (by omega),if_neg (by omega)]) (by unfold iY; rw [if_neg (by omega),if_neg (by omega)]) (b4.keep (Kept.trans hk34 hk5)) (Kept.trans hkw hk5) ⟨hin.b.mono fun b hb=>⟨Nat.le_trans (Kept.trans hk34 (Kept.refl _)).size hb.1,hb.2⟩,hin.k.mono fun b hb=>⟨Nat.le_trans (Kept.trans hk34 (Kept.refl _)).size hb.1,hb.2⟩⟩
end
end Go.Mir
