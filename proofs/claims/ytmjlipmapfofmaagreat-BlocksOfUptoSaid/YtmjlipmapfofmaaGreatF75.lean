/- Part of a proof of laws of the seat YtmjlipmapfofmaaGreat: functions' weakest preconditions, each checked by the kernel, contracts out of them, plain lemmas; no conditions. -/
import Derived.Test.YtmjlipmapfofmaaGreatF74
set_option linter.unusedVariables false
set_option linter.unusedSimpArgs false
set_option linter.unusedSectionVars false
set_option maxRecDepth 100000
namespace Go.Mir
open Go Go.E Go.RowKit Go.Tr Go.Ss Go.ChangeShapes
section
variable {w u w1:World} {a a1:OA} {n c n1 c1:Nat} {F F' S:Nat→Prop} {p q:Addr} {B pb:Nat} {e:ED} {f b t:SH} {rs:List (Int×Int)} {s1 s2 s3 s4:SH} {x:lD}
set_option maxHeartbeats 1000000 in
theorem Ia (hT0:Qg e.trees) (hG:iH F w e f b t) (hrs:Ls tR F' w a1 n1 c1 rs) (hF':∀ b,F' b→b<w.heap.size) (hn:n1≤16777216):E.CallsD Go.Proofs.Tryz.prog 8 #[vE e f b t,.slice a1 n1 c1] w fun v u=>∃ s k:SH,v = .tuple #[vF (ofP e rs) s k,.int .i64 (ofE e rs)]∧jf (fun b=>w.heap.size≤b∧b<u.heap.size) u (ofP e rs) s k∧Kept w u:=by
 refine bT.calls (R:=fun v u=>∃ s k:SH,v = .tuple #[vF (ofP e rs) s k,.int .i64 (ofE e rs)]∧jf (fun b=>w.heap.size≤b∧b<u.heap.size) u (ofP e rs) s k∧Kept w u) ?_
 unfold bT bT.g0
 refine bU (bU ?_)
 have be:Blk (w.alloc (.cells (mD e.name f.a f.n f.c e.outputs b.a b.n b.c t.a t.n t.c) 26)) w.heap.size (enE e f b t).toArray Hr:=Blk.new w _ _
 have k1:=Kept.new w (.cells (mD e.name f.a f.n f.c e.outputs b.a b.n b.c t.a t.n t.c) 26)
 have hz1:(w.alloc (.cells (mD e.name f.a f.n f.c e.outputs b.a b.n b.c t.a t.n t.c) 26)).heap.size=w.heap.size+1:=by simp
 generalize w.alloc (.cells (mD e.name f.a f.n f.c e.outputs b.a b.n b.c t.a t.n t.c) 26)=w1 at be k1 hz1
 have b4:Blk (w1.alloc (.cells (lq 0 0 none 0 0 none 0 0) 31)) w1.heap.size #[.int .i64 0,.int .i64 0,.slice none 0 0,.slice none 0 0] lW:=Blk.new w1 _ _
 have k2:=Kept.new w1 (.cells (lq 0 0 none 0 0 none 0 0) 31)
 generalize w1.alloc (.cells (lq 0 0 none 0 0 none 0 0) 31)=w2 at b4 k2
 have be2:=be.keep k2
 have k12:=Kept.trans k1 k2
 have hA:AtL w2 (na w) (enE e f b t):=by simpa using AtL.blk (b:=w) be2
 -- the answer where something is wrong
 have bad:∀ (v:World) (z:Int),z≠0→ofE e rs=z→Blk v w1.heap.size #[.int .i64 0,.int .i64 0,.slice none 0 0,.slice none 0 0] lW→Kept w v →
   qj v ⟨w1.heap.size,0,none⟩ 0 0 none 0 0 none 0 0 fun w85=>lV w85 ⟨w1.heap.size,0,none⟩ fun x0 x1 a2 n2 c2 a3 n3 c3=>∃ s k:SH,Value.tuple #[jM x0 x1 a2 n2 c2 a3 n3 c3,.int .i64 z] = .tuple #[vF (ofP e rs) s k,.int .i64 (ofE e rs)]∧jf (fun b=>w.heap.size≤b∧b<w85.heap.size) w85 (ofP e rs) s k∧Kept w w85:=by
  intro v z hz hof hb hkv
  refine wrA (e:=lW) (b:=w1.heap.size) (vs:=[.int .i64 0,.int .i64 0,.slice none 0 0,.slice none 0 0]) hb rfl fun u hb' ho=>?_
  have hA4:AtL u ⟨w1.heap.size,0,none⟩ [.int .i64 0,.int .i64 0,.slice none 0 0,.slice none 0 0]:=fun j v hj=>by rw [addr_add,Nat.zero_add,hb'.cell]; simpa using hj
  have hP:ofP e rs=⟨0,0,[],[]⟩:=by unfold ofP; rw [if_neg (by rw [hof]; exact hz)]
  refine ⟨_,hA4 0 _ rfl,_,hA4 1 _ rfl,_,_,_,hA4 2 _ rfl,_,_,_,hA4 3 _ rfl,⟨none,0,0⟩,⟨none,0,0⟩,?_,?_,?_⟩
  ·rw [hP,hof]
  ·rw [hP]; exact ⟨Ls.nil _ _ _ _ _,Ls.nil _ _ _ _ _⟩
  ·exact From.kept ((Kept.mod (S:=fun k=>w.heap.size≤k) hkv).trans ho (fun _ _ h=>h) (fun k _ hk=>by have hk':k+1=w1.heap.size+1:=hk; show w.heap.size≤k; omega))
 refine ⟨_,hA 0 _ rfl,_,_,_,hA 1 _ rfl,_,hA 2 _ rfl,_,_,_,hA 3 _ rfl,_,_,_,hA 4 _ rfl,?_⟩
 refine E.CallsD.mono (yD (hG.kept k12)) fun v u3 ⟨hv,hk3⟩=>⟨_,hv,iJ (fun hne=>bad u3 _ hne (by unfold ofE; rw [if_pos hne]) (b4.keep hk3) (Kept.trans k12 hk3)) fun h0=>?_⟩
 have hn1:=hrs.len
 have lt:=hG.ts.len
 obtain ⟨_,_,_,_,hT5,_⟩:=qw h0
 have hbad6:iL e.trees.length rs 0=false→ofE e rs=6:=fun h=>by unfold ofE; rw [if_neg (by omega),h]; rfl
 have hA3:=hA.kept hk3
 refine ⟨_,_,_,hA3 4 _ rfl,?_⟩
 refine E.CallsD.mono (Di (nn:=(t.n:Int)) (hrs.kept (Kept.trans k12 hk3)) hn) fun v u4 ⟨hv,hk4⟩=>⟨_,hv,?_⟩
 have hkv:=Kept.trans hk3 hk4
 have hkw:=Kept.trans k12 hkv
 have hAv:=hA.kept hkv
 cases hok:iL (t.n:Int) rs 0 with
 | false =>
  refine F7 ?_
  exact bad u4 6 (by decide) (hbad6 (by rw [← lt]; exact hok)) (b4.keep hkv) hkw
 | true =>
  rw [lt] at hok
  refine DR ?_
  have hof:ofE e rs=0:=by unfold ofE; rw [if_neg (by omega),hok]; rfl
  have hP:ofP e rs=Bq e rs:=by unfold ofP; rw [if_pos hof]
  refine ⟨_,_,_,hAv 1 _ rfl,_,hAv 2 _ rfl,?_⟩
  refine boxS (zs:=(lq 0 0 none 0 0 none 0 0).toList) (vs:=[.int .i64 (f.n:Int),.int .i64 e.outputs,.slice none 0 0,.slice none 0 0]) (e:=lW) rfl fun u5 hA5 hbf hk5=>?_
  have hkv5:=Kept.trans hkv hk5
  have hkw5:=Kept.trans k12 hkv5
  refine ⟨_,_,_,hA5 2 _ rfl,b.a,b.n,b.c,(hA.kept hkv5) 3 _ rfl,?_⟩
  have hbn:=hG.bm
  have hbl:=hG.bs.len
  refine Arr.pushes VB (Arr.nil eI t64 u5) (fun _=>rfl) ((hG.kept hkw5).bs.sl) (by simp only [maxLen]; omega) (by omega) fun a' c' g u6 hg1 hg2 ho6=>⟨a',_,c',rfl,?_⟩
  rw [List.nil_append] at hg1
  have hk6:Kept u5 u6:=Mod.kept ho6 fun k hk h=>by have h':k+1=0:=h; omega
  have hb6:=hbf.keep hk6
  have hz4:=hkv.size
  have hz5:=hk5.size
  have hz6:=hk6.size
  have hbfl:=hbf.lt
  have hw1l:=b4.lt
  refine stB hb6 (by simp) fun u7 hb7 ho7=>?_
  have hbf2:Blk u7 u4.heap.size #[.int .i64 (f.n:Int),.int .i64 e.outputs,.slice a' (0+b.n) c',.slice none 0 0] lW:=hb7
  have hg1':=hg1.mod ho7 (fA hb6 hg1 (by decide))
  have hk2v:From w.heap.size w u7:=(Kept.mod (S:=fun k=>w.heap.size≤k) (Kept.trans hkw5 hk6)).trans ho7 (fun _ _ h=>h) (fun k _ hk=>by have hk':k+1=u4.heap.size+1:=hk; have:=hkw.size; show w.heap.size≤k; omega)
  have hgs:=Row.le hg1'
  have hb4u:=((b4.keep hkv5).keep hk6).mod ho7 (fun hk=>by have hk':w1.heap.size+1=u4.heap.size+1:=hk; omega)
  have hbeu:=((be2.keep hkv5).keep hk6).mod ho7 (fun hk=>by have hk':w.heap.size+1=u4.heap.size+1:=hk; omega)
  have hpflt:=hbf2.lt
  have hk0:=hkw.size
  refine Exists.intro (n1+1) ?_
  refine Qy (B:=u7.heap.size) (w0:=w) (sb:=⟨a',0+b.n,c'⟩) (g1:=g) (base:=e.base) (outs:=e.outputs) (F':=F') hG h0 hrs hF' hok hT0 (Nat.le_refl _) (by omega) (by omega) (by omega) (fun u3 bd sk gb hbd hb3 hk3' hok3 hgb hkk=>?_) (by omega) (by omega) n1 0 u7 [] ⟨none,0,0⟩ 0 (by omega) hk2v (Nat.le_refl _) ⟨hbf2,hg1',aO.nil _ _ _ _,(fun x hx=>by cases hx),hpflt,.inr hgs,.inl rfl⟩ rfl hbeu hb4u
  refine ⟨⟨a',0+b.n,c'⟩,sk,?_,⟨?_,?_⟩,hkk⟩
  ·rw [hP,hof]
   have:=hG.fs.len
   unfold Bq
   simp only [this]
  ·rw [hP]
   exact (Arr.ls (h1:=fun _=>rfl) hb3).mono fun b hb=>⟨by omega,by have:=Row.le hb3; omega⟩
  ·rw [hP]
   show Ls tB _ u3 sk.a sk.n sk.c (rs.map fun r=>eU ((e.trees.take r.2.toNat).drop r.1.toNat) r.1)
   rw [← hbd]
   exact TP hk3' hok3 hgb fun b h1 h2=>⟨by have:=hk2v.size; omega,h2⟩
end
end Go.Mir
