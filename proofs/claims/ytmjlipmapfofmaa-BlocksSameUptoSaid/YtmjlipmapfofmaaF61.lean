/- Part of a proof of laws of the seat Ytmjlipmapfofmaa: functions' weakest preconditions, each checked by the kernel, contracts out of them, plain lemmas; no conditions. -/
import Derived.Test.YtmjlipmapfofmaaF60
set_option linter.unusedVariables false
set_option linter.unusedSimpArgs false
set_option linter.unusedSectionVars false
set_option maxRecDepth 100000
namespace Go.Mir
open Go Go.E Go.RowKit Go.Tr Go.Ss Go.ChangeShapes
section
variable {w w0 u w1 wB x:World} {a a0 a1 a4:OA} {n c n0 c0 n1 c1 n4 c4 g m:Nat} {F F' S:Nat→Prop} {p q:Addr} {B:Nat} {R:VP} {f:fZ} {s t:SH}
def FR3 (B:Nat) (y:dI):Nat→Value→World→Prop:=fun i v u=>match i with
 | 6=>WX B u y.numbers v
 | 9=>WX B u y.aI v
 | 12=>WX B u y.lost v
 | _=>∃ (p:Addr) (s1 s2 s3:SH),v = .slice (some p) 1 1∧AtL u p (enL y s1 s2 s3)∧WQ (fun b=>B≤b∧b<u.heap.size) u (y,s1,s2,s3)
theorem FR3.keep {B:Nat} {y:dI} (i:Nat) (v:Value) (u u':World) (h:FR3 B y i v u) (hk:Below u.heap.size u u'):FR3 B y i v u':=by
 unfold FR3 at h ⊢
 split at h
 ·exact WX.kept h hk
 ·exact WX.kept h hk
 ·exact WX.kept h hk
 ·obtain ⟨p,s1,s2,s3,h1,h2,h3⟩:=h
  exact ⟨p,s1,s2,s3,h1,h2.kept hk,(h3.kept hk).mono fun b hb=>⟨hb.1,by have:=hb.2; have:=hk.size; omega⟩⟩
set_option maxHeartbeats 1000000 in
theorem X7 {b10:dD.T10} {kz kout:OA} {kc:Nat} {aB:OA} {nB cB:Nat} {xn xi:Int} {x:mr} {z4 s1 s2 s3:SH} (hv:Ls tL F w0 z4.a z4.n z4.c x.lists) (hF:∀ b,F b→b<w0.heap.size∧b≠kc) (hm:z4.n≤1073741824) (hvs:∀ l∈x.lists,l.sm) (hc0:kc<w0.heap.size)
  (hend:∀ u s4 gl (ll:List LD),Mod (Bx kc w0.heap.size) w0 u→Blk u kc (um x s1 s2 s3 s4).toArray tB'→au 4 WV tL' u s4.a s4.n s4.c ll gl→(gl=0∨w0.heap.size<gl)→ll.map (·.1)=x.lists→(∀ y∈ll,WQ (fun b=>w0.heap.size≤b∧b<u.heap.size∧b+1≠gl) u y) →
   aY kout fun i=>cL u (i.add 3) fun i j k=>Ou u ⟨kc,0,none⟩ fun c l m o p q r s t y v w x'=>nw (u.alloc (.cells (wY c l m o p q r s t y v w x') 66)) fun c=>cO Go.Proofs.Try.prog (Builtin.append_ #[35,35] 35 #[.slice i j k,.slice (some (na u)) 1 1]) c fun c i=>∃ j k l,c = .slice j k l∧(aY kout fun c=>st i ((c.add 3).add 0) (.slice j k l) fun c=>inc xi fun h=>b10 kz kout aB nB cB xn h c)) :
  ∀ (k i:Nat) (w:World) (s4:SH) (gl:Nat) (ll:List LD),i+k=z4.n→s4.n=i→Mod (Bx kc w0.heap.size) w0 w→Blk w kc (um x s1 s2 s3 s4).toArray tB'→au 4 WV tL' w s4.a s4.n s4.c ll gl→(gl=0∨w0.heap.size<gl)→ll.map (·.1)=x.lists.take i→(∀ y∈ll,WQ (fun b=>w0.heap.size≤b∧b<w.heap.size∧b+1≠gl) w y) →
   dD.l50 R b10 (k+1) kz kout (some ⟨kc,0,none⟩) aB nB cB xn xi z4.a z4.n z4.c z4.n i w:=by
 intro k
 have hvl:=hv.len
 induction k with
 | zero =>
  intro i w s4 gl ll hi hs hw hb hA hg hl hx
  obtain rfl:i=z4.n:=by omega
  unfold dD.l50 dD.g50
  refine ai (by omega) ?_
  exact hend w s4 gl ll hw hb hA hg (by rw [hl,List.take_of_length_le (by omega)]) hx
 | succ k ih =>
  intro i w s4 gl ll hi hs hw hb hA hg hl hx
  have hln:=au.len (k:=4) (en:=WV) (fun _=>rfl) (by omega) hA
  have hsz:=hw.size
  have hgl:=Row.le hA
  have hvw:=hv.mod hw (fun b hb h=>by have:=hF b hb; rcases h with h | h <;> omega)
  unfold dD.l50 dD.g50
  refine aN (by omega) ?_
  refine hvw.rdL (by omega) (by omega) fun y b1 m1 d1 b2 m2 d2 b3 m3 d3 hy ha hb' hc=>?_
  rw [Int.toNat_natCast] at hy
  have hysm:=hvs y (List.mem_of_getElem? hy)
  refine boxS (zs:=(zK 0 none 0 0 none 0 0 none 0 0).toList) (vs:=enL y ⟨b1,m1,d1⟩ ⟨b2,m2,d2⟩ ⟨b3,m3,d3⟩) rfl fun w1 hA1 hb1 hk1=>?_
  have hz1:=hk1.size
  have hFo:∀ {o:World},Kept w1 o→∀ b,F b→b<o.heap.size:=fun ho b hb=>by have:=(hF b hb).1; have:=ho.size; omega
  have cc:∀ {xs:List dU} {aa:OA} {nn cc':Nat} (_:Ls tC F w aa nn cc' xs) (_:BF xs) (j:Nat),(∀ v u,WX w1.heap.size u xs v→FR3 w1.heap.size y j v u)→∀ o,Kept w1 o→E.CallsD Go.Proofs.Try.prog 43 #[.slice aa nn cc'] o fun v u=>∃ n p q,v = .slice n p q∧FR3 w1.heap.size y j (.slice n p q) u∧Below o.heap.size o u:=fun hL hs j hj o ho=>by
   refine E.CallsD.mono (Xk ((hL.kept hk1).kept ho) (hFo ho) hs) fun v u ⟨a',n',c',hv,hN,hk⟩=>⟨a',n',c',hv,hj _ _ ⟨a',n',c',rfl,hN.mono fun b hb=>⟨by have:=hb.1; have:=ho.size; omega,hb.2⟩⟩,hk⟩
  refine ⟨FR3 w1.heap.size y,FR3.keep,_,_,_,(atB (hb.keep hk1)) 4 _ rfl,_,hA1 0 _ rfl,?_⟩
  refine ⟨_,_,_,hA1 1 _ rfl,cc ha hysm.1 6 (fun v u h=>h),fun a1 n1 c1 _=>?_⟩
  refine ⟨_,_,_,hA1 2 _ rfl,fun o ho _=>cc hb' hysm.2.1 9 (fun v u h=>h) o ho,fun a2 n2 c2 _=>?_⟩
  refine ⟨_,_,_,hA1 3 _ rfl,fun o ho _ _=>cc hc hysm.2.2 12 (fun v u h=>h) o ho,fun a3 n3 c3 _=>?_⟩
  have inj:∀ {a a':OA} {n n' c c':Nat},Value.slice a n c = .slice a' n' c'→a=a'∧n=n'∧c=c':=fun h=>by simpa using h
  refine ⟨fun D hD h6 h9 h12=>?_,fun t ht=>?_⟩
  ·obtain ⟨_,_,_,e1,k1⟩:=(show WX w1.heap.size D y.numbers (.slice a1 n1 c1) from h6)
   obtain ⟨_,_,_,e2,k2⟩:=(show WX w1.heap.size D y.aI (.slice a2 n2 c2) from h9)
   obtain ⟨_,_,_,e3,k3⟩:=(show WX w1.heap.size D y.lost (.slice a3 n3 c3) from h12)
   obtain ⟨rfl,rfl,rfl⟩:=inj e1
   obtain ⟨rfl,rfl,rfl⟩:=inj e2
   obtain ⟨rfl,rfl,rfl⟩:=inj e3
   have hkn:=Kept.new D (.cells (enL y ⟨a1,n1,c1⟩ ⟨a2,n2,c2⟩ ⟨a3,n3,c3⟩).toArray tL')
   have hzn:=hkn.size
   refine ⟨na D,⟨a1,n1,c1⟩,⟨a2,n2,c2⟩,⟨a3,n3,c3⟩,rfl,AtL.new D (enL y ⟨a1,n1,c1⟩ ⟨a2,n2,c2⟩ ⟨a3,n3,c3⟩) tL',?_⟩
   have hmo:∀ b,(w1.heap.size≤b∧b<D.heap.size)→(w1.heap.size≤b∧b<(D.alloc (.cells (enL y ⟨a1,n1,c1⟩ ⟨a2,n2,c2⟩ ⟨a3,n3,c3⟩).toArray tL')).heap.size):=fun b hb=>⟨hb.1,by omega⟩
   exact ⟨(k1.kept hkn).mono hmo,(k2.kept hkn).mono hmo,(k3.kept hkn).mono hmo⟩
  ·intro D hD h6 h9 h12 h14
   obtain ⟨pt,q1,q2,q3,e,hAt,hLst⟩:=(show ∃ (p:Addr) (s1 s2 s3:SH),Value.slice (some t) 1 1 = .slice (some p) 1 1∧AtL D p (enL y s1 s2 s3)∧WQ (fun b=>w1.heap.size≤b∧b<D.heap.size) D (y,s1,s2,s3) from h14)
   obtain rfl:t=pt:=by simpa using e
   have hkD:=Kept.trans hk1 hD
   have hzD:=hD.size
   have hbl:=hb1.lt
   refine au.OH (P:=Go.Proofs.Try.prog) (k:=4) (en:=WV) S54 (fun _=>rfl) (by omega) (au.kept hA hkD) (x:=(y,q1,q2,q3)) hAt (Xh _) (by simp only [maxLen]; omega) (by omega) fun a5 c5 g5 w5 r5 hg5 _ ho5=>⟨a5,s4.n+1,c5,rfl,?_⟩
   have hz5:=ho5.size
   have hb5:=(hb.keep hkD).mod ho5 (fun hk=>by have hk':kc+1=gl:=hk; omega)
   refine stB hb5 (by simp) fun w6 hb6 ho6=>WE (by omega) ?_
   have hz6:=ho6.size
   have hb6':Blk w6 kc (um x s1 s2 s3 ⟨a5,s4.n+1,c5⟩).toArray tB':=hb6
   have r6:au 4 WV tL' w6 a5 (s4.n+1) c5 (ll++[(y,q1,q2,q3)]) g5:=au.mod r5 ho6 (fun b hb hk=>by have hk':b+1=kc+1:=hk; rcases hg5 with e | e <;> omega)
   refine ih (i+1) w6 ⟨a5,s4.n+1,c5⟩ g5 (ll++[(y,q1,q2,q3)]) (by omega) (by show s4.n+1=i+1; omega) (Xl (Xi (Xc hw hkD) hg ho5) ho6) hb6' r6 (by omega) ?_ fun z hz=>?_
   ·rw [List.map_append,hl,List.take_add_one,hy]; rfl
   ·rcases List.mem_append.1 hz with hz | hz
    ·have key:∀ b,(w0.heap.size≤b∧b<w.heap.size∧b+1≠gl)→(w0.heap.size≤b∧b<w6.heap.size∧b+1≠g5):=fun b ⟨k1,k2,k3⟩=>⟨k1,by omega,by rcases hg5 with e | e <;> omega⟩
     exact ((((hx z hz).kept hkD).mod ho5 fun b hb hk=>hb.2.2 hk).mod ho6 fun b hb hk=>by have hk':b+1=kc+1:=hk; have:=hb.1; omega).mono key
    ·obtain rfl:z=_:=by simpa using hz
     exact ((hLst.mod ho5 fun b hb hk=>by have hk':b+1=gl:=hk; have:=hb.1; omega).mod ho6 fun b hb hk=>by have hk':b+1=kc+1:=hk; have:=hb.1; omega).mono fun b hb=>⟨by have:=hb.1; omega,by have:=hb.2; omega,by have h1:=hb.1; have h2:=hb.2; rcases hg5 with e | e <;> omega⟩
end
end Go.Mir
