/- Part of a proof of laws of the seat Ytmjlipmapfofmaa: functions' weakest preconditions, each checked by the kernel, contracts out of them, plain lemmas; no conditions. -/
import Derived.Test.YtmjlipmapfofmaaF61
set_option linter.unusedVariables false
set_option linter.unusedSimpArgs false
set_option linter.unusedSectionVars false
set_option maxRecDepth 100000
namespace Go.Mir
open Go Go.E Go.RowKit Go.Tr Go.Ss Go.ChangeShapes
section
variable {w w0 u w1 wB x:World} {a a0 a1 a4:OA} {n c n0 c0 n1 c1 n4 c4 g m:Nat} {F F' S:Nat→Prop} {p q:Addr} {B:Nat} {R:VP} {f:fZ} {s t:SH}
set_option maxHeartbeats 4000000 in
theorem X9 {W0:World} {kz kout gb:Nat} {sb:SH} (hF:∀ b,F b→b<wB.heap.size) (hfm:From wB.heap.size wB W0) (hbs:Ls tB F W0 t.a t.n t.c f.blocks) (hbz:Blk W0 kz #[.int .i64 0,.int .i64 0,.slice none 0 0,.slice none 0 0] pF) (hne:kz≠kout) (hkz:wB.heap.size≤kz) (hko:wB.heap.size≤kout) (hko':kout<W0.heap.size)
  (hba:Arr enI t64 W0 sb.a sb.n sb.c f.base gb) (hgb:gb=0∨wB.heap.size<gb) (hgo:gb≠kout+1) (hgz:gb≠kz+1) (hsm:f.sm) :
  ∀ (k i:Nat) (w:World) (sB:SH) (g:Nat) (l:List BD),i+k=t.n→sB.n=i→Mod (Bx kout W0.heap.size) W0 w→Blk w kout (o7 f sb sB).toArray pF→au 5 O9 tB' w sB.a sB.n sB.c l g→(g=0∨W0.heap.size<g)→l.map (·.1)=f.blocks.take i→(∀ y∈l,BIn (fun b=>W0.heap.size≤b∧b<w.heap.size∧b+1≠g) w y) →
   dD.l10 (CpA wB f) (k+1) (some ⟨kz,0,none⟩) (some ⟨kout,0,none⟩) t.a t.n t.c t.n i w:=by
 have hB0:=hfm.size
 intro k
 have hbl:=hbs.len
 have hlz:=hbz.lt
 have hgl0:=hba.le
 induction k with
 | zero =>
  intro i w sB g l hi hs hw hb hA hg hl hx
  obtain rfl:i=t.n:=by omega
  have hsz:=hw.size
  have bz:=hbz.mod hw (fun h=>by rcases h with h | h <;> omega)
  have ba:=hba.mod hw (fun k hk h=>by rcases h with h | h <;> omega)
  have hAf:=atB hb
  rw [dD.u10]; unfold dD.g10
  refine ai (by omega) ?_
  refine ⟨_,hAf 0 _ rfl,_,hAf 1 _ rfl,sb.a,sb.n,sb.c,hAf 2 _ rfl,sB.a,sB.n,sB.c,hAf 3 _ rfl,?_⟩
  refine wrA (e:=pF) (b:=kz) (vs:=o7 f sb sB) (zs:=[.int .i64 0,.int .i64 0,.slice none 0 0,.slice none 0 0]) bz rfl fun u hb' ho=>?_
  have hAz:=atB hb'
  refine ⟨_,hAz 0 _ rfl,_,hAz 1 _ rfl,sb.a,sb.n,sb.c,hAz 2 _ rfl,sB.a,sB.n,sB.c,hAz 3 _ rfl,sb,sB,rfl,?_,?_⟩
  ·have hzo:=ho.size
   have hgle:=Row.le hA
   refine ⟨?_,?_⟩
   ·refine ((Arr.ls (h1:=fun _=>rfl) ba).mod ho fun b hb hk=>by have hk':b+1=kz+1:=hk; have hb':b+1=gb:=hb; omega).mono fun b hb=>⟨by omega,by omega⟩
   ·have e1:l.map (·.1)=f.blocks:=by rw [hl,List.take_of_length_le (by omega)]
    rw [← e1]
    exact ((lsB (F:=fun b=>W0.heap.size≤b∧b<w.heap.size) hA (fun b hb=>⟨by omega,by omega⟩) fun y hy=>(hx y hy).mono fun b hb=>⟨hb.1,hb.2.1⟩).mod ho fun b hb hk=>by have hk':b+1=kz+1:=hk; omega).mono fun b hb=>⟨by omega,by omega⟩
  ·have h1:From wB.heap.size wB w:=Mod.trans (S:=fun k=>wB.heap.size≤k) hfm hw (fun _ _ h=>h) (fun k hk hk2=>by rcases hk2 with hk2 | hk2 <;> (show wB.heap.size≤k; omega))
   exact From.kept (From.then h1 ho fun k _ hk=>by have hk':k+1=kz+1:=hk; omega)
 | succ k ih =>
  intro i w sB g l hi hs hw hb hA hg hl hx
  have hln:=au.len (k:=5) (en:=O9) (fun _=>rfl) (by omega) hA
  have hsz:=hw.size
  have hgl:=Row.le hA
  have hml:f.blocks.length≤1048576:=hsm.2.1
  have hvw:Ls tB F w t.a t.n t.c f.blocks:=hbs.mod hw (fun b hb h=>by have:=hF b hb; rcases h with h | h <;> omega)
  rw [dD.u10]; unfold dD.g10
  refine aN (by omega) ?_
  refine hvw.rdB (by omega) (by omega) fun x b1 m1 d1 b2 m2 d2 b3 m3 d3 b4 m4 d4 hy h1 h2 h3 h4=>?_
  rw [Int.toNat_natCast] at hy
  have hxsm:x.sm:=hsm.2.2 x (List.mem_of_getElem? hy)
  obtain ⟨q1,q2,q3,q4,q5,q6⟩:=hxsm
  have e1:=h1.len
  have e2:=h2.len
  have e3:=h3.len
  have e4:=h4.len
  refine boxS (zs:=(wY 0 none 0 0 none 0 0 none 0 0 none 0 0).toList) (vs:=um x ⟨b1,m1,d1⟩ ⟨b2,m2,d2⟩ ⟨b3,m3,d3⟩ ⟨b4,m4,d4⟩) rfl fun w1 hA1 hb1 hk1=>?_
  have hz1:=hk1.size
  refine ⟨_,hA1 0 _ rfl,?_⟩
  refine boxS (zs:=(wY 0 none 0 0 none 0 0 none 0 0 none 0 0).toList) (vs:=um x ⟨none,0,0⟩ ⟨none,0,0⟩ ⟨none,0,0⟩ ⟨none,0,0⟩) rfl fun w2 hA2 hb2 hk2=>?_
  have hz2:=hk2.size
  have hl1:=hb1.lt
  have hl2:=hb2.lt
  have k12:=Kept.trans hk1 hk2
  have hb12:=hb1.keep hk2
  refine ⟨none,0,0,hA2 1 _ rfl,b1,m1,d1,atB hb12 1 _ rfl,?_⟩
  refine Arr.pushes Uw (Arr.nil enI tI' w2) (fun _=>rfl) (h1.kept k12).sl (by simp only [maxLen]; omega) (by omega) fun a3 c3 g3 w3 r3 hg3 ho3=>⟨a3,_,c3,rfl,?_⟩
  rw [List.nil_append] at r3
  have hk3:Kept w2 w3:=Mod.kept ho3 fun k hk h=>by have h':k+1=0:=h; omega
  have hz3:=hk3.size
  have hg3':g3=0∨w2.heap.size<g3:=by omega
  refine stB (hb2.keep hk3) (by simp) fun w4 hb4 ho4=>?_
  have hb4':Blk w4 w1.heap.size (um x ⟨a3,0+m1,c3⟩ ⟨none,0,0⟩ ⟨none,0,0⟩ ⟨none,0,0⟩).toArray tB':=hb4
  have hz4:=ho4.size
  have hb14:=(hb12.keep hk3).mod ho4 (fun h=>by have h':w.heap.size+1=w1.heap.size+1:=h; omega)
  have hr3:=r3.le
  have r3':=r3.mod ho4 (fun k hk h=>by have h':k+1=w1.heap.size+1:=h; omega)
  have fr4:From w.heap.size w w4:=From.then (Kept.mod (Kept.trans k12 hk3)) ho4 fun k _ h=>by have h':k+1=w1.heap.size+1:=h; omega
  refine ⟨none,0,0,atB hb4' 3 _ rfl,b3,m3,d3,atB hb14 3 _ rfl,?_⟩
  have hFw:∀ b,F b→b<w.heap.size:=fun b hb=>by have:=hF b hb; omega
  refine Arr.pushes Uw (Arr.nil enI tI' w4) (fun _=>rfl) (From.ls h3 fr4 hFw).sl (by simp only [maxLen]; omega) (by omega) fun a5 c5 g5 w5 r5 hg5 ho5=>⟨a5,_,c5,rfl,?_⟩
  rw [List.nil_append] at r5
  have hk5:Kept w4 w5:=Mod.kept ho5 fun k hk h=>by have h':k+1=0:=h; omega
  have hz5:=hk5.size
  have hg5':g5=0∨w4.heap.size<g5:=by omega
  refine stB (hb4'.keep hk5) (by simp) fun w6 hb6 ho6=>?_
  have hb6':Blk w6 w1.heap.size (um x ⟨a3,0+m1,c3⟩ ⟨none,0,0⟩ ⟨a5,0+m3,c5⟩ ⟨none,0,0⟩).toArray tB':=hb6
  have hz6:=ho6.size
  have hr5:=r5.le
  have hb16:=(hb14.keep hk5).mod ho6 (fun h=>by have h':w.heap.size+1=w1.heap.size+1:=h; omega)
  have r36:=(r3'.kept hk5).mod ho6 (fun k hk h=>by have h':k+1=w1.heap.size+1:=h; omega)
  have r56:=r5.mod ho6 (fun k hk h=>by have h':k+1=w1.heap.size+1:=h; omega)
  have fr6:From w.heap.size w w6:=From.then (From.aA fr4 hk5) ho6 fun k _ h=>by have h':k+1=w1.heap.size+1:=h; omega
  refine ⟨b2,m2,d2,atB hb16 2 _ rfl,?_⟩
  refine Exists.intro (m2+1) (Xa (R:=CpA wB f) (w0:=w6) (F:=F) (x:=x) (z1:=⟨b1,m1,d1⟩) (z2:=⟨b2,m2,d2⟩) (z3:=⟨b3,m3,d3⟩) (z4:=⟨b4,m4,d4⟩) (s1:=⟨a3,0+m1,c3⟩) (s3:=⟨a5,0+m3,c5⟩) (kb:=w.heap.size) (kc:=w1.heap.size) hb16 (by omega) (From.ls h2 fr6 hFw) (fun b hb=>by have:=hFw b hb; omega) (by show m2≤_; omega) q3 (by omega) (fun u s2 gv vl hmu hbu hvu hgv hvm hvs=>?_) m2 0 w6 ⟨none,0,0⟩ 0 [] (by show 0+m2=m2; omega) rfl (Mod.refl _) hb6' (au.nil _ _ _ _) (.inl rfl) rfl (fun y hy=>by cases hy))
  have hzu:=hmu.size
  have fru:From w.heap.size w u:=Mod.trans (S:=fun k=>w.heap.size≤k) fr6 hmu (fun _ _ h=>h) (fun k hk hk2=>by rcases hk2 with hk2 | hk2 <;> (show w.heap.size≤k; omega))
  refine Exists.intro (m4+1) (X7 (R:=CpA wB f) (w0:=u) (F:=F) (x:=x) (z4:=⟨b4,m4,d4⟩) (s1:=⟨a3,0+m1,c3⟩) (s2:=s2) (s3:=⟨a5,0+m3,c5⟩) (kc:=w1.heap.size) (From.ls h4 fru hFw) (fun b hb=>by have:=hFw b hb; omega) (by show m4≤_; omega) q6 (by omega) (fun x2 s4 gl ll hm2 hb2' hl2 hgl2 hlm hls=>?_) m4 0 u ⟨none,0,0⟩ 0 [] (by show 0+m4=m4; omega) rfl (Mod.refl _) hbu (au.nil _ _ _ _) (.inl rfl) rfl (fun y hy=>by cases hy))
  have hzx:=hm2.size
  have fr2:From w.heap.size w x2:=Mod.trans (S:=fun k=>w.heap.size≤k) fru hm2 (fun _ _ h=>h) (fun k hk hk2=>by rcases hk2 with hk2 | hk2 <;> (show w.heap.size≤k; omega))
  have kx:Kept w x2:=From.kept fr2
  have hbo:=hb.keep kx
  have hAx:=au.kept hA kx
  have hAc:=atB hb2'
  refine ⟨sB.a,sB.n,sB.c,atB hbo 3 _ rfl,?_⟩
  refine hAc.ldB ?_
  have hkbo:=hb.lt
  refine au.zO (P:=Go.Proofs.Try.prog) (k:=5) (en:=O9) (ys:=[(x,⟨a3,0+m1,c3⟩,s2,⟨a5,0+m3,c5⟩,s4)]) (m:=1) We (fun _=>rfl) (by omega) hAx NK rfl rfl (by omega) (by simp only [maxLen]; omega) (by omega) fun a7 c7 g7 w7 r7 hg7 _ ho7=>?_
  refine ⟨a7,sB.n+1,c7,rfl,?_⟩
  have hz7:=ho7.size
  have hb7:=hbo.mod ho7 (fun hk=>by have hk':kout+1=g:=hk; omega)
  refine stB hb7 (by simp) fun w8 hb8 ho8=>WE (by omega) ?_
  have hz8:=ho8.size
  have hb8':Blk w8 kout (o7 f sb ⟨a7,sB.n+1,c7⟩).toArray pF:=hb8
  have r8:au 5 O9 tB' w8 a7 (sB.n+1) c7 (l++[(x,⟨a3,0+m1,c3⟩,s2,⟨a5,0+m3,c5⟩,s4)]) g7:=au.mod r7 ho8 (fun b hb hk=>by have hk':b+1=kout+1:=hk; rcases hg7 with e | e <;> omega)
  refine ih (i+1) w8 ⟨a7,sB.n+1,c7⟩ g7 (l++[(x,⟨a3,0+m1,c3⟩,s2,⟨a5,0+m3,c5⟩,s4)]) (by omega) (by show sB.n+1=i+1; omega) (Xl (Xi (Xc hw kx) hg ho7) ho8) hb8' r8 (by omega) ?_ fun z hz=>?_
  ·rw [List.map_append,hl,List.take_add_one,hy]; rfl
  ·rcases List.mem_append.1 hz with hz | hz
   ·have key:∀ b,(W0.heap.size≤b∧b<w.heap.size∧b+1≠g)→(W0.heap.size≤b∧b<w8.heap.size∧b+1≠g7):=fun b ⟨k1,k2,k3⟩=>⟨k1,by omega,by rcases hg7 with e | e <;> omega⟩
    have hB:BIn (fun b=>W0.heap.size≤b∧b<w.heap.size∧b+1≠g) x2 z:=lJ.kept' (hx z hz) kx
    exact ((hB.mod ho7 fun b hb hk=>hb.2.2 hk).mod ho8 fun b hb hk=>by have hk':b+1=kout+1:=hk; have:=hb.1; omega).mono key
   ·obtain rfl:=List.mem_singleton.1 hz
    have hB:BIn (fun b=>w2.heap.size≤b∧b<x2.heap.size) x2 (x,⟨a3,0+m1,c3⟩,s2,⟨a5,0+m3,c5⟩,s4):=by
     refine ⟨?_,?_,?_,?_⟩
     ·have:=(Arr.ls (h1:=fun _=>rfl) ((r36.mod hmu (fun k hk h=>by rcases h with h | h <;> omega)).mod hm2 (fun k hk h=>by rcases h with h | h <;> omega))).mono (F':=fun b=>w2.heap.size≤b∧b<x2.heap.size) fun b hb=>⟨by omega,by omega⟩
      exact this
     ·have hvx:au 1 PH tV' x2 s2.a s2.n s2.c vl gv:=au.mod hvu hm2 (fun k hk h=>by have:=Row.le hvu; rcases h with h | h <;> omega)
      have hvl:=Row.le hvu
      have:=lsV (F:=fun b=>w2.heap.size≤b∧b<x2.heap.size) hvx (fun b hb=>⟨by omega,by omega⟩) fun y hy=>((hvs y hy).mod hm2 fun b hb hk=>by have:=hb.1; have:=hb.2.1; rcases hk with hk | hk <;> omega).mono fun b hb=>⟨by have:=hb.1; omega,by have:=hb.2.1; omega⟩
      rw [hvm] at this
      exact this
     ·have:=(Arr.ls (h1:=fun _=>rfl) ((r56.mod hmu (fun k hk h=>by rcases h with h | h <;> omega)).mod hm2 (fun k hk h=>by rcases h with h | h <;> omega))).mono (F':=fun b=>w2.heap.size≤b∧b<x2.heap.size) fun b hb=>⟨by omega,by omega⟩
      exact this
     ·have hll:=Row.le hl2
      have:=lsL (F:=fun b=>w2.heap.size≤b∧b<x2.heap.size) hl2 (fun b hb=>⟨by omega,by omega⟩) fun y hy=>(hls y hy).mono fun b hb=>⟨by have:=hb.1; omega,by have:=hb.2.1; omega⟩
      rw [hlm] at this
      exact this
    exact ((hB.mod ho7 fun b hb hk=>by have hk':b+1=g:=hk; have:=hb.1; omega).mod ho8 fun b hb hk=>by have hk':b+1=kout+1:=hk; have:=hb.1; omega).mono fun b hb=>⟨by have:=hb.1; omega,by have:=hb.2; omega,by have h1:=hb.1; have h2:=hb.2; rcases hg7 with e | e <;> omega⟩
set_option maxHeartbeats 1000000 in
theorem Xo (hG:mf F w f s t) (hF:∀ b,F b→b<w.heap.size):E.CallsD Go.Proofs.Try.prog 17 #[vF f s t] w (CpA w f):=by
 refine dD.calls (R:=CpA w f) ?_
 unfold dD dD.g0
 have hbl:=hG.bs.len
 have hkl:=hG.ks.len
 have hsm:=hG.sm
 have hs1:=hsm.1
 have hs2:=hsm.2.1
 refine aT ?_
 have hbf:Blk (w.alloc (.cells (o7 f s t).toArray pF)) w.heap.size (o7 f s t).toArray pF:=Blk.new w _ _
 have hk1:=Kept.new w (.cells (o7 f s t).toArray pF)
 change nw ((w.alloc (.cells (o7 f s t).toArray pF)).alloc _) _
 have hz1:(w.alloc (.cells (o7 f s t).toArray pF)).heap.size=w.heap.size+1:=by simp
 generalize w.alloc (.cells (o7 f s t).toArray pF)=w1 at hbf hk1 hz1
 refine aT ?_
 have hbz:Blk (w1.alloc (.cells (sZ 0 0 none 0 0 none 0 0) pF)) w1.heap.size #[.int .i64 0,.int .i64 0,.slice none 0 0,.slice none 0 0] pF:=Blk.new w1 _ _
 have hk2:=Kept.new w1 (.cells (sZ 0 0 none 0 0 none 0 0) pF)
 have hz2:(w1.alloc (.cells (sZ 0 0 none 0 0 none 0 0) pF)).heap.size=w1.heap.size+1:=by simp
 generalize w1.alloc (.cells (sZ 0 0 none 0 0 none 0 0) pF)=w2 at hbz hk2 hz2
 have bf2:=hbf.keep hk2
 refine ⟨_,atB bf2 0 _ rfl,_,atB bf2 1 _ rfl,?_⟩
 refine boxS (zs:=(sZ 0 0 none 0 0 none 0 0).toList) (vs:=o7 f ⟨none,0,0⟩ ⟨none,0,0⟩) rfl fun w3 hA3 hb3 hk3=>?_
 have hz3:=hk3.size
 have k13:=Kept.trans (Kept.trans hk1 hk2) hk3
 have bf3:=bf2.keep hk3
 have bz3:=hbz.keep hk3
 have hl3:=hb3.lt
 refine ⟨none,0,0,hA3 2 _ rfl,s.a,s.n,s.c,atB bf3 2 _ rfl,?_⟩
 refine Arr.pushes Wn (Arr.nil enI t64 w3) (fun _=>rfl) (hG.bs.kept k13).sl (by simp only [maxLen]; omega) (by omega) fun a4 c4 g4 w4 r4 hg4 ho4=>⟨a4,_,c4,rfl,?_⟩
 rw [List.nil_append] at r4
 have hk4:Kept w3 w4:=Mod.kept ho4 fun k hk h=>by have h':k+1=0:=h; omega
 have hz4:=hk4.size
 refine stB (hb3.keep hk4) (by simp) fun w5 hb5 ho5=>?_
 have hb5':Blk w5 w2.heap.size (o7 f ⟨a4,0+s.n,c4⟩ ⟨none,0,0⟩).toArray pF:=hb5
 have hz5:=ho5.size
 have hr4:=r4.le
 have r5:=r4.mod ho5 (fun k hk h=>by have h':k+1=w2.heap.size+1:=h; omega)
 have bf5:=(bf3.keep hk4).mod ho5 (fun h=>by have h':w.heap.size+1=w2.heap.size+1:=h; omega)
 have bz5:=(bz3.keep hk4).mod ho5 (fun h=>by have h':w1.heap.size+1=w2.heap.size+1:=h; omega)
 have fr5:From w.heap.size w w5:=From.then (Kept.mod (Kept.trans k13 hk4)) ho5 fun k _ h=>by have h':k+1=w2.heap.size+1:=h; omega
 refine ⟨t.a,t.n,t.c,atB bf5 3 _ rfl,?_⟩
 exact Exists.intro (t.n+1) (X9 (F:=F) (wB:=w) (W0:=w5) (kz:=w1.heap.size) (kout:=w2.heap.size) (gb:=g4) (sb:=⟨a4,0+s.n,c4⟩) hF fr5 (From.ls hG.ks fr5 hF) bz5 (by omega) (by omega) (by omega) (by omega) r5 (by omega) (by omega) (by omega) hsm t.n 0 w5 ⟨none,0,0⟩ 0 [] (by show 0+t.n=t.n; omega) rfl (Mod.refl _) hb5' (au.nil _ _ _ _) (.inl rfl) rfl (fun y hy=>by cases hy))
end
end Go.Mir
