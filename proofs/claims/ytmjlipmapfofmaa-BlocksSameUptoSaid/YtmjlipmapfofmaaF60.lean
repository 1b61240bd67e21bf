/- Part of a proof of laws of the seat Ytmjlipmapfofmaa: functions' weakest preconditions, each checked by the kernel, contracts out of them, plain lemmas; no conditions. -/
import Derived.Test.YtmjlipmapfofmaaFF
set_option linter.unusedVariables false
set_option linter.unusedSimpArgs false
set_option linter.unusedSectionVars false
set_option maxRecDepth 100000
namespace Go.Mir
open Go Go.E Go.RowKit Go.Tr Go.Ss Go.ChangeShapes
section
variable {w w0 u w1 wB x:World} {a a0 a1 a4:OA} {n c n0 c0 n1 c1 n4 c4 g m:Nat} {F F' S:Nat→Prop} {p q:Addr} {B:Nat} {R:VP} {f:fZ} {s t:SH}
abbrev Bx (pb B:Nat):Nat→Prop:=fun b=>b=pb∨B≤b
theorem Xc {pb B:Nat} (h:Mod (Bx pb B) w0 w) (hk:Kept w u):Mod (Bx pb B) w0 u:=Mod.trans h (Kept.mod (S:=fun _=>False) hk) (fun _ _ h=>h) (fun _ _ h=>h.elim)
theorem Xi {pb B:Nat} (h:Mod (Bx pb B) w0 w) (hg:g=0∨B<g) (ho:Only g w u):Mod (Bx pb B) w0 u:=Mod.trans h ho (fun _ _ h=>h) (fun b _ h=>by have h':b+1=g:=h; show b=pb∨B≤b; omega)
theorem Xl {pb B:Nat} (h:Mod (Bx pb B) w0 w) (ho:Only (pb+1) w u):Mod (Bx pb B) w0 u:=Mod.trans h ho (fun _ _ h=>h) (fun b _ h=>by have h':b+1=pb+1:=h; show b=pb∨B≤b; omega)
theorem stB {pb j e:Nat} {cs:Array Value} {v:Value} {K:World→Prop} (hb:Blk w pb cs e) (hj:j<cs.size) (hk:∀ u,Blk u pb (cs.setIfInBounds j v) e→Only (pb+1) w u→K u):st w (((⟨pb,0,none⟩:Addr).add j).add 0) v K:=by
 rw [addr_add,addr_add,Nat.zero_add,Nat.add_zero]
 exact ⟨hb.ok hj,aT (hk _ (hb.set j v) (Only.set w pb j v))⟩
theorem atB {pb e:Nat} {cs:List Value} (hb:Blk w pb cs.toArray e):AtL w (⟨pb,0,none⟩:Addr) cs:=fun j v hj=>by rw [addr_add,Nat.zero_add,hb.cell]; simpa using hj
theorem Xa {b10:dD.T10} {kz kout:OA} {kb kc:Nat} {aB:OA} {nB cB:Nat} {xn xi:Int} {x:mr} {z1 z2 z3 z4 s1 s3:SH} (hbk:Blk w0 kb (um x z1 z2 z3 z4).toArray tB') (hne:kb≠kc) (hv:Ls (qC .i64).sl F w0 z2.a z2.n z2.c x.values) (hF:∀ b,F b→b<w0.heap.size∧b≠kc) (hm:z2.n≤1048576) (hvs:∀ v∈x.values,v.length≤1048576)
  (hc0:kc<w0.heap.size)
  (hend:∀ u s2 gv (vl:List VD),Mod (Bx kc w0.heap.size) w0 u→Blk u kc (um x s1 s2 s3 ⟨none,0,0⟩).toArray tB'→au 1 PH tV' u s2.a s2.n s2.c vl gv→(gv=0∨w0.heap.size<gv)→vl.map (·.1)=x.values→(∀ y∈vl,LsI (fun b=>w0.heap.size≤b∧b<u.heap.size∧b+1≠gv) u y.2.a y.2.n y.2.c y.1)→dD.e50 R b10 kz kout (some ⟨kc,0,none⟩) aB nB cB xn xi z4.a z4.n z4.c (z4.n:Int) 0 u) :
  ∀ (k i:Nat) (w:World) (s2:SH) (gv:Nat) (vl:List VD),i+k=z2.n→s2.n=i→Mod (Bx kc w0.heap.size) w0 w→Blk w kc (um x s1 s2 s3 ⟨none,0,0⟩).toArray tB'→au 1 PH tV' w s2.a s2.n s2.c vl gv→(gv=0∨w0.heap.size<gv)→vl.map (·.1)=x.values.take i→(∀ y∈vl,LsI (fun b=>w0.heap.size≤b∧b<w.heap.size∧b+1≠gv) w y.2.a y.2.n y.2.c y.1) →
   dD.l31 R b10 (k+1) kz kout (some ⟨kb,0,none⟩) (some ⟨kc,0,none⟩) aB nB cB xn xi z2.a z2.n z2.c z2.n i w:=by
 intro k
 have hvl:=hv.len
 have hlb:=hbk.lt
 induction k with
 | zero =>
  intro i w s2 gv vl hi hs hw hb hA hg hl hx
  obtain rfl:i=z2.n:=by omega
  have hbw:=hbk.mod hw (fun h=>by rcases h with h | h <;> omega)
  unfold dD.l31 dD.g31
  refine ai (by omega) ?_
  refine ⟨_,_,_,(atB hbw) 4 _ rfl,hend w s2 gv vl hw hb hA hg ?_ hx⟩
  rw [hl,List.take_of_length_le (by omega)]
 | succ k ih =>
  intro i w s2 gv vl hi hs hw hb hA hg hl hx
  have hln:=au.len (k:=1) (en:=PH) (fun _=>rfl) (by omega) hA
  have hsz:=hw.size
  have hgl:=Row.le hA
  have hvw:=hv.mod hw (fun b hb h=>by have:=hF b hb; rcases h with h | h <;> omega)
  unfold dD.l31 dD.g31
  refine aN (by omega) ?_
  refine hvw.TV (by omega) (by omega) fun y a' n' c' hy hys=>?_
  rw [Int.toNat_natCast] at hy
  have hyl:=hys.len
  have hym:=hvs y (List.mem_of_getElem? hy)
  have hkc:kc+1≠gv:=by omega
  refine ⟨qU s2.a w,rY hA (Mod.refl _),s2.a,s2.n,s2.c,yD hA (by rw [add_block]; exact hkc) ((atB hb) 2 _ rfl),?_⟩
  refine Arr.pushes Wn (Arr.nil enI t64 w) (fun _=>rfl) hys.sl (by simp only [maxLen]; omega) (by omega) fun a2 c2 g2 w2 r2 hg2 ho2=>⟨a2,_,c2,rfl,?_⟩
  rw [List.nil_append] at r2
  have hk2:Kept w w2:=Mod.kept ho2 fun k hk h=>by have h':k+1=0:=h; omega
  have hz2:=hk2.size
  refine ⟨rY hA (Kept.mod hk2),?_⟩
  have hA2:=au.kept hA hk2
  refine aT ⟨?_,?_⟩
  ·exact rY hA (Kept.mod (Kept.trans hk2 (Kept.new w2 _)))
  refine au.zO (P:=Go.Proofs.Try.prog) (k:=1) (en:=PH) (ys:=[(y,⟨a2,0+n',c2⟩)]) (m:=1) VL (fun _=>rfl) (by omega) hA2 Lc rfl rfl (by omega) (by simp only [maxLen]; omega) (by omega) fun a3 c3 g3 w3 r3 hg3 _ ho3=>?_
  refine ⟨a3,s2.n+1,c3,rfl,rY hA (Mod.trans (S:=fun k=>k+1=gv) (Kept.mod hk2) ho3 (fun _ _ h=>h) (fun _ _ h=>h)),?_⟩
  have hz3:=ho3.size
  have hb3:=(hb.keep hk2).mod ho3 (fun hk=>by have hk':kc+1=gv:=hk; omega)
  refine stB hb3 (by simp) fun w4 hb4 ho4=>WE (by omega) ?_
  have hz4:=ho4.size
  have hb4':Blk w4 kc (um x s1 ⟨a3,s2.n+1,c3⟩ s3 ⟨none,0,0⟩).toArray tB':=hb4
  have r2le:=r2.le
  have hkcw:kc<w.heap.size:=by omega
  have r4:au 1 PH tV' w4 a3 (s2.n+1) c3 (vl++[(y,⟨a2,0+n',c2⟩)]) g3:=au.mod r3 ho4 (fun b hb hk=>by have hk':b+1=kc+1:=hk; rcases hg3 with e | e <;> omega)
  refine ih (i+1) w4 ⟨a3,s2.n+1,c3⟩ g3 (vl++[(y,⟨a2,0+n',c2⟩)]) (by omega) (by show s2.n+1=i+1; omega) (Xl (Xi (Xc hw hk2) hg ho3) ho4) hb4' r4 (by omega) ?_ fun z hz=>?_
  ·rw [List.map_append,hl,List.take_add_one,hy]; rfl
  ·rcases List.mem_append.1 hz with hz | hz
   ·have key:∀ b,(w0.heap.size≤b∧b<w.heap.size∧b+1≠gv)→(w0.heap.size≤b∧b<w4.heap.size∧b+1≠g3):=fun b ⟨k1,k2,k3⟩=>⟨k1,by omega,by rcases hg3 with e | e <;> omega⟩
    exact ((((hx z hz).kept hk2).mod ho3 fun b hb hk=>hb.2.2 hk).mod ho4 fun b hb hk=>by have hk':b+1=kc+1:=hk; have:=hb.1; omega).mono key
   ·obtain rfl:z=_:=by simpa using hz
    have h1:LsI (fun b=>b+1=g2) w4 a2 (0+n') c2 y:=((Arr.ls (h1:=fun _=>rfl) r2).mod ho3 fun b hb hk=>by have hb':b+1=g2:=hb; have hk':b+1=gv:=hk; omega).mod ho4 fun b hb hk=>by have hb':b+1=g2:=hb; have hk':b+1=kc+1:=hk; omega
    rw [Nat.zero_add] at h1
    exact h1.mono fun b hb=>⟨by omega,by omega,by rcases hg3 with e | e <;> omega⟩
end
end Go.Mir
