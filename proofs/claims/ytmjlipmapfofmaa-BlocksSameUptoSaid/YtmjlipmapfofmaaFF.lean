/- Part of a proof of laws of the seat Ytmjlipmapfofmaa: functions' weakest preconditions, each checked by the kernel, contracts out of them, plain lemmas; no conditions. -/
import Derived.Test.YtmjlipmapfofmaaFE
set_option linter.unusedVariables false
set_option linter.unusedSimpArgs false
set_option linter.unusedSectionVars false
set_option maxRecDepth 100000
namespace Go.Mir
open Go Go.E Go.RowKit Go.Tr Go.Ss Go.ChangeShapes
section
variable {w w0 u w1 wB x:World} {a a0 a1 a4:OA} {n c n0 c0 n1 c1 n4 c4 g:Nat} {F F' S:Nat→Prop} {p q:Addr} {B mb:Nat} {R:VP} {e:ED} {f b t:SH}
end
end Go.Mir
set_option maxRecDepth 100000
namespace Go.Mir
open Go Go.E Go.RowKit Go.Tr Go.Ss Go.ChangeShapes
section
variable {w w0 u w1 wB x:World} {a a0 a1 a4:OA} {n c n0 c0 n1 c1 n4 c4 g:Nat} {F F' S:Nat→Prop} {p q:Addr} {B mb:Nat} {R:VP} {e:ED} {f b t:SH}
end
end Go.Mir
set_option maxRecDepth 100000
namespace Go.Mir
open Go Go.E Go.RowKit Go.Tr Go.Ss Go.ChangeShapes
end Go.Mir
set_option maxRecDepth 100000
namespace Go.Mir
open Go Go.E Go.RowKit Go.Tr Go.Ss Go.ChangeShapes
section
variable {w w0 u w1 wB x:World} {a a0 a1 a4:OA} {n c n0 c0 n1 c1 n4 c4 g m:Nat} {F F' S:Nat→Prop} {p q:Addr} {B:Nat} {R:VP} {f:fZ} {s t:SH}
theorem wrF {α:Type} {k e:Nat} {en:α→List Value} {xs:List α} (hl:∀ x,(en x).length=k) (h:au k en e w a n c xs g) {i:Int} {j:Nat} {x y:α} {v:Value} {K:World→Prop} (h0:0≤i) (hi:i<n) (hx:xs[i.toNat]?=some x) (hj:j<k) (hy:en y=(en x).set j v)
  (hk:∀ u,au k en e u a n c (xs.set i.toNat y) g→Only g w u→K u):ix a n i fun q=>st w (((q.add (i.toNat*k)).add j).add 0) v K:=by
 obtain ⟨b,rfl,rfl,hok,hr,ho⟩:=au.set hl h (i:=i.toNat) hx (by omega) hj hy
 refine dA ⟨h0,hi⟩ ?_
 show st w ((((⟨b,0,none⟩:Addr).add (i.toNat*k)).add j).add 0) v K
 simp only [addr_add,Nat.zero_add,Nat.add_zero]
 exact ⟨hok,hk _ hr ho⟩
theorem atF {α:Type} {k e:Nat} {en:α→List Value} {xs:List α} (hl:∀ x,(en x).length=k) (hk0:0<k) (h:au k en e w a n c xs g) {i:Int} {x:α} {K:Addr→Prop} (h0:0≤i) (hi:i<n) (hx:xs[i.toNat]?=some x)
  (hk:∀ p,a=some p→AtL w (p.add (i.toNat*k)) (en x)→K p):ix a n i K:=by
 obtain ⟨p,hp,hc⟩:=(h.slk hl hk0).get i.toNat x hx
 rw [hp]
 exact dA ⟨h0,hi⟩ (hk p hp fun j v hj=>by rw [add_add]; exact hc j v hj)
theorem KX {α:Type} {l:List α} {i:Nat} {x:α} (h:l[i]?=some x):l.set i x=l:=by
 obtain ⟨hlt,rfl⟩:=List.getElem?_eq_some_iff.1 h
 exact List.set_getElem_self hlt
theorem XR {xs:List dU} (h:Ls tC F w a n c xs):∃ l:List CD,l.map (·.1)=xs∧SlK 5 OW w a n l∧∀ x∈l,LsI F w x.2.a x.2.n x.2.c x.1.aI :=
 Ls.flat (β:=SH) (en:=OW) (Q:=fun x y=>LsI F w y.a y.n y.c x.aI) h rfl fun x cs ⟨s,h1,h2⟩=>⟨s,h1,h2⟩
theorem S53:dV Go.Proofs.Try.prog 67 tC' 5 56:=sliceT (by kernel_rfl)
theorem Xy {xs:List dU} (hs:Ls tC F w a n c xs) (hn:n≤1073741824):E.CallsD Go.Proofs.Try.prog 66 #[.slice a n c] w fun v u=>∃ a' c' g l,v = .slice a' n c'∧au 5 OW tC' u a' n c' l g∧(g=0∨w.heap.size<g)∧l.map (·.1)=xs∧(∀ x∈l,LsI F u x.2.a x.2.n x.2.c x.1.aI)∧Kept w u:=by
 refine WO.calls ?_
 unfold WO WO.g0
 obtain ⟨l,h1,h2,h3⟩:=XR hs
 refine Tj (k:=5) (en:=OW) (R:=fun v u=>∃ a' c' g l,v = .slice a' n c'∧au 5 OW tC' u a' n c' l g∧(g=0∨w.heap.size<g)∧l.map (·.1)=xs∧(∀ x∈l,LsI F u x.2.a x.2.n x.2.c x.1.aI)∧Kept w u) S53 (fun _=>rfl) (by omega) Nz h2 (by simp only [maxLen]; omega) (by omega) (fun _ hl=>?_) fun a' c' g' u hA hg hk=>⟨_,_,_,rfl,a',c',g',l,rfl,hA,.inr hg,h1,fun x hx=>(h3 x hx).kept hk,hk⟩
 have hl0:=h2.len
 subst hl
 simp only [List.length_nil] at hl0
 subst hl0
 exact ⟨_,_,0,[],rfl,au.nil _ _ _ _,.inl rfl,h1,fun x hx=>(by cases hx),Kept.refl _⟩
theorem lsC {l:List CD} (h:au 5 OW tC' w a n c l g) (hF:∀ b,b+1=g→F b) (hc:∀ x∈l,LsI F w x.2.a x.2.n x.2.c x.1.aI):Ls tC F w a n c (l.map (·.1)) :=
 au.lsK (T:=tC) (k:=5) (en:=OW) (f:=fun x=>x.1) (fun _=>rfl) (by omega) rfl h hF fun x hx=>⟨_,rfl,hc x hx⟩
abbrev nwX (B g:Nat) (u:World):Nat→Prop:=fun b=>B≤b∧b<u.heap.size∧b+1≠g
theorem Xn {xs:List dU} (hF:∀ b,F b→b<w.heap.size) (hg:g=0∨w.heap.size<g) (hm:BF xs) (hn:n≤1073741824):∀ (k i:Nat) (u:World) (l:List CD),i+k=n→Kept w u→au 5 OW tC' u a n c l g→l.map (·.1)=xs →
  (∀ (j:Nat) x,l[j]?=some x→(j<i→LsI (nwX w.heap.size g u) u x.2.a x.2.n x.2.c x.1.aI)∧(i≤j→LsI F u x.2.a x.2.n x.2.c x.1.aI)) →
  WI.l8 (fun v u=>∃ a' n' c',v = .slice a' n' c'∧Ls tC (nwB w u) u a' n' c' xs∧Kept w u) (k+1) a n c n i u:=by
 intro k
 induction k with
 | zero =>
  intro i u l hi hk hA hl hx
  obtain rfl:i=n:=by omega
  have hln:=au.len (k:=5) (en:=OW) (fun _=>rfl) (by omega) hA
  rw [WI.u8]; unfold WI.g8
  refine ai (by omega) ?_
  refine ⟨a,i,c,rfl,?_,hk⟩
  rw [← hl]
  refine lsC hA (fun b hb=>⟨by omega,by have:=Row.le hA; omega⟩) fun x hx'=>?_
  obtain ⟨j,hj⟩:=List.getElem?_of_mem hx'
  have hlt:=(List.getElem?_eq_some_iff.1 hj).1
  exact ((hx j x hj).1 (by omega)).mono fun b hb=>⟨hb.1,hb.2.1⟩
 | succ k ih =>
  intro i u l hi hk hA hl hx
  have hln:=au.len (k:=5) (en:=OW) (fun _=>rfl) (by omega) hA
  rw [WI.u8]; unfold WI.g8
  refine aN (by omega) ?_
  have hxi:l[i]?=some (l[i]'(by omega)):=List.getElem?_eq_getElem _
  generalize l[i]'(by omega)=x at hxi
  refine atF (k:=5) (en:=OW) (fun _=>rfl) (by omega) hA (i:=(i:Int)) (by omega) (by omega) (by rw [Int.toNat_natCast]; exact hxi) fun p hp hAt=>?_
  refine ⟨_,_,_,hAt 1 _ rfl,?_⟩
  have hxs:=(hx i x hxi).2 (Nat.le_refl _)
  have hsm:x.1.aI.length≤1048576:=hm.2 x.1 (by rw [← hl]; exact List.mem_map_of_mem (List.mem_of_getElem? hxi))
  have hln2:=hxs.len
  refine E.CallsD.mono (zy hxs.sl (by omega)) fun v u1 ⟨a2,c2,hv,hnew⟩=>⟨a2,_,c2,hv,?_⟩
  obtain ⟨g2,r2,f2,hk1⟩:=hnew
  have hz:=hk.size
  have hz1:=hk1.size
  have hgle:=Row.le hA
  have hg2:=r2.le
  have f2':g2=0∨u.heap.size<g2:=f2
  refine wrF (k:=5) (en:=OW) (fun _=>rfl) (au.kept hA hk1) (i:=(i:Int)) (j:=1) (x:=x) (y:=(x.1,⟨a2,x.2.n,c2⟩)) (by omega) (by omega) (by rw [Int.toNat_natCast]; exact hxi) (by omega) rfl fun v2 hA2 ho=>WE (by omega) ?_
  rw [Int.toNat_natCast] at hA2
  have hzo:=ho.size
  have hk2:Kept w v2:=((Kept.mod (S:=fun k=>w.heap.size≤k) (Kept.trans hk hk1)).trans ho (fun _ _ h=>h) (fun k _ h=>by have h':k+1=g:=h; show w.heap.size≤k; omega)).kept fun k h1 h2=>by have h2':w.heap.size≤k:=h2; omega
  refine ih (i+1) v2 (l.set i (x.1,⟨a2,x.2.n,c2⟩)) (by omega) hk2 hA2 ?_ fun j y hj=>?_
  ·rw [List.map_set,← hl]
   refine KX ?_
   rw [List.getElem?_map,hxi]; rfl
  ·rw [List.getElem?_set] at hj
   by_cases hij:i=j
   ·subst hij
    rw [if_pos rfl,if_pos (by omega)] at hj
    obtain rfl:=Option.some.inj hj
    refine ⟨fun _=>?_,fun h=>by omega⟩
    have:=(Arr.ls (h1:=fun _=>rfl) r2).mod ho (fun b hb hk=>by have hk':b+1=g:=hk; omega)
    exact this.mono fun b hb=>⟨by omega,by omega,by omega⟩
   ·rw [if_neg hij] at hj
    obtain ⟨q1,q2⟩:=hx j y hj
    refine ⟨fun h=>?_,fun h=>?_⟩
    ·exact (((q1 (by omega)).kept hk1).mod ho fun b hb hk=>hb.2.2 hk).mono fun b hb=>⟨hb.1,by have:=hb.2.1; omega,hb.2.2⟩
    ·exact ((q2 (by omega)).kept hk1).mod ho fun b hb hk=>by have hk':b+1=g:=hk; have:=hF b hb; omega
theorem Xp {xs:List dU} (hs:Ls tC F w a n c xs) (hF:∀ b,F b→b<w.heap.size) (hm:BF xs):E.CallsD Go.Proofs.Try.prog 48 #[.slice a n c] w fun v u=>∃ a' n' c',v = .slice a' n' c'∧Ls tC (nwB w u) u a' n' c' xs∧Kept w u:=by
 refine WI.calls (R:=fun v u=>∃ a' n' c',v = .slice a' n' c'∧Ls tC (nwB w u) u a' n' c' xs∧Kept w u) ?_
 unfold WI WI.g0
 have hl:=hs.len
 have hmx:xs.length≤1073741824:=hm.1
 refine E.CallsD.mono (Xy hs (by omega)) fun v u ⟨a',c',g,l,hv,hA,hg,hl2,hx,hk⟩=>⟨a',n,c',hv,?_⟩
 refine Exists.intro (n+1) (Xn hF hg hm (by omega) n 0 u l (by omega) hk hA hl2 fun j x hj=>⟨fun h=>by omega,fun _=>hx x (List.mem_of_getElem? hj)⟩)
end
end Go.Mir
set_option maxRecDepth 100000
namespace Go.Mir
open Go Go.E Go.RowKit Go.Tr Go.Ss Go.ChangeShapes
section
variable {w w0 u w1 wB x:World} {a a0 a1 a4:OA} {n c n0 c0 n1 c1 n4 c4 g m:Nat} {F F' S:Nat→Prop} {p q:Addr} {B:Nat} {R:VP} {f:fZ} {s t:SH}
abbrev LD:=dI×(SH×SH×SH)
abbrev WV (x:LD):List Value:=enL x.1 x.2.1 x.2.2.1 x.2.2.2
theorem Xh (x:LD):∀ v∈WV x,v.oneCell'=true:=by
 intro v hv
 simp only [WV,enL,List.mem_cons,List.not_mem_nil,or_false] at hv
 rcases hv with h | h | h | h <;> subst h <;> rfl
theorem S54:dV Go.Proofs.Try.prog 64 tL' 4 80:=sliceT (by kernel_rfl)
structure WQ (F:Nat→Prop) (w:World) (x:LD):Prop where
 a:Ls tC F w x.2.1.a x.2.1.n x.2.1.c x.1.numbers
 b:Ls tC F w x.2.2.1.a x.2.2.1.n x.2.2.1.c x.1.aI
 c:Ls tC F w x.2.2.2.a x.2.2.2.n x.2.2.2.c x.1.lost
theorem WQ.mod {x:LD} (h:WQ F w x) (hm:Mod S w u) (hn:∀ b,F b→¬ S b):WQ F u x:=⟨h.a.mod hm hn,h.b.mod hm hn,h.c.mod hm hn⟩
theorem WQ.kept {x:LD} (h:WQ F w x) (hk:Kept w u):WQ F u x:=⟨h.a.kept hk,h.b.kept hk,h.c.kept hk⟩
theorem WQ.mono {x:LD} (h:WQ F w x) (hF:∀ b,F b→F' b):WQ F' w x:=⟨h.a.mono hF,h.b.mono hF,h.c.mono hF⟩
theorem XU {xs:List dI} (h:Ls tL F w a n c xs):∃ l:List LD,l.map (·.1)=xs∧SlK 4 WV w a n l∧∀ x∈l,WQ F w x:=by
 obtain ⟨l,h1,h2,h3⟩:=Ls.flat (β:=SH×SH×SH) (en:=WV) (Q:=fun x y=>WQ F w (x,y)) h rfl fun x cs ⟨s,t,u,e,h1,h2,h3⟩=>⟨(s,t,u),e,h1,h2,h3⟩
 exact ⟨l,h1,h2,fun x hx=>h3 x hx⟩
theorem lsL {l:List LD} (h:au 4 WV tL' w a n c l g) (hF:∀ b,b+1=g→F b) (hc:∀ x∈l,WQ F w x):Ls tL F w a n c (l.map (·.1)) :=
 au.lsK (T:=tL) (k:=4) (en:=WV) (f:=fun x=>x.1) (fun _=>rfl) (by omega) rfl h hF fun x hx=>⟨_,_,_,rfl,(hc x hx).a,(hc x hx).b,(hc x hx).c⟩
theorem XP {xs:List (List Int)} (h:Ls (qC .i64).sl F w a n c xs):∃ l:List VD,l.map (·.1)=xs∧SlK 1 PH w a n l∧∀ x∈l,LsI F w x.2.a x.2.n x.2.c x.1 :=
 Ls.flat (β:=SH) (en:=PH) (Q:=fun x y=>LsI F w y.a y.n y.c x) h rfl fun x cs ⟨a,n,c,h1,h2⟩=>⟨⟨a,n,c⟩,h1,h2⟩
theorem lsV {l:List VD} (h:au 1 PH tV' w a n c l g) (hF:∀ b,b+1=g→F b) (hc:∀ x∈l,LsI F w x.2.a x.2.n x.2.c x.1):Ls (qC .i64).sl F w a n c (l.map (·.1)) :=
 au.lsK (T:=(qC .i64).sl) (k:=1) (en:=PH) (f:=fun x=>x.1) (fun _=>rfl) (by omega) rfl h hF fun x hx=>⟨_,_,_,rfl,hc x hx⟩
def XB (F:Nat→Prop) (B:Nat) (u:World) (n:Nat) (xs:List (List Int)) (v:Value):Prop:=∃ a' c' g l,v = .slice a' n c'∧au 1 PH tV' u a' n c' l g∧(g=0∨B<g)∧l.map (·.1)=xs∧∀ x∈l,LsI F u x.2.a x.2.n x.2.c x.1
def XC (F:Nat→Prop) (B:Nat) (u:World) (n:Nat) (xs:List dI) (v:Value):Prop:=∃ a' c' g l,v = .slice a' n c'∧au 4 WV tL' u a' n c' l g∧(g=0∨B<g)∧l.map (·.1)=xs∧∀ x∈l,WQ F u x
def XX (F:Nat→Prop) (B:Nat) (u:World) (n:Nat) (xs:List mr) (v:Value):Prop:=∃ a' c' g l,v = .slice a' n c'∧au 5 O9 tB' u a' n c' l g∧(g=0∨B<g)∧l.map (·.1)=xs∧∀ x∈l,lJ F u x.1 x.2.1 x.2.2.1 x.2.2.2.1 x.2.2.2.2
theorem Xx {xs:List (List Int)} (hs:Ls (qC .i64).sl F w a n c xs) (hn:n≤1073741824):E.CallsD Go.Proofs.Try.prog 46 #[.slice a n c] w fun v u=>XB F w.heap.size u n xs v∧Kept w u:=by
 refine WN.calls ?_
 unfold WN WN.g0
 obtain ⟨l,h1,h2,h3⟩:=XP hs
 refine Tj (k:=1) (en:=PH) (R:=fun v u=>XB F w.heap.size u n xs v∧Kept w u) VL (fun _=>rfl) (by omega) Lc h2 (by simp only [maxLen]; omega) (by omega) (fun _ hl=>?_) fun a' c' g' u hA hg hk=>⟨_,_,_,rfl,⟨a',c',g',l,rfl,hA,.inr hg,h1,fun x hx=>(h3 x hx).kept hk⟩,hk⟩
 have hl0:=h2.len
 subst hl
 simp only [List.length_nil] at hl0
 subst hl0
 exact ⟨⟨_,_,0,[],rfl,au.nil _ _ _ _,.inl rfl,h1,fun x hx=>(by cases hx)⟩,Kept.refl _⟩
theorem Xv {xs:List dI} (hs:Ls tL F w a n c xs) (hn:n≤1073741824):E.CallsD Go.Proofs.Try.prog 47 #[.slice a n c] w fun v u=>XC F w.heap.size u n xs v∧Kept w u:=by
 refine WM.calls ?_
 unfold WM WM.g0
 obtain ⟨l,h1,h2,h3⟩:=XU hs
 refine Tj (k:=4) (en:=WV) (R:=fun v u=>XC F w.heap.size u n xs v∧Kept w u) S54 (fun _=>rfl) (by omega) Xh h2 (by simp only [maxLen]; omega) (by omega) (fun _ hl=>?_) fun a' c' g' u hA hg hk=>⟨_,_,_,rfl,⟨a',c',g',l,rfl,hA,.inr hg,h1,fun x hx=>(h3 x hx).kept hk⟩,hk⟩
 have hl0:=h2.len
 subst hl
 simp only [List.length_nil] at hl0
 subst hl0
 exact ⟨⟨_,_,0,[],rfl,au.nil _ _ _ _,.inl rfl,h1,fun x hx=>(by cases hx)⟩,Kept.refl _⟩
theorem XO {xs:List mr} (h:Ls tB F w a n c xs):∃ l:List BD,l.map (·.1)=xs∧SlK 5 O9 w a n l∧∀ x∈l,lJ F w x.1 x.2.1 x.2.2.1 x.2.2.2.1 x.2.2.2.2:=by
 obtain ⟨l,h1,h2,h3⟩:=Ls.flat (β:=SH×SH×SH×SH) (en:=O9) (Q:=fun x y=>lJ F w x y.1 y.2.1 y.2.2.1 y.2.2.2) h rfl fun x cs ⟨s,t,u,v,e,h1,h2,h3,h4⟩=>⟨(s,t,u,v),e,h1,h2,h3,h4⟩
 exact ⟨l,h1,h2,fun x hx=>h3 x hx⟩
theorem lJ.kept' {b:mr} {s1 s2 s3 s4:SH} (h:lJ F w b s1 s2 s3 s4) (hk:Kept w u):lJ F u b s1 s2 s3 s4:=⟨h.l.kept hk,h.v.kept hk,h.o.kept hk,h.t.kept hk⟩
theorem Xt {xs:List mr} (hs:Ls tB F w a n c xs) (hn:n≤1073741824):E.CallsD Go.Proofs.Try.prog 44 #[.slice a n c] w fun v u=>XX F w.heap.size u n xs v∧Kept w u:=by
 refine WL.calls ?_
 unfold WL WL.g0
 obtain ⟨l,h1,h2,h3⟩:=XO hs
 refine Tj (k:=5) (en:=O9) (R:=fun v u=>XX F w.heap.size u n xs v∧Kept w u) We (fun _=>rfl) (by omega) NK h2 (by simp only [maxLen]; omega) (by omega) (fun _ hl=>?_) fun a' c' g' u hA hg hk=>⟨_,_,_,rfl,⟨a',c',g',l,rfl,hA,.inr hg,h1,fun x hx=>lJ.kept' (h3 x hx) hk⟩,hk⟩
 have hl0:=h2.len
 subst hl
 simp only [List.length_nil] at hl0
 subst hl0
 exact ⟨⟨_,_,0,[],rfl,au.nil _ _ _ _,.inl rfl,h1,fun x hx=>(by cases hx)⟩,Kept.refl _⟩
end
end Go.Mir
set_option maxRecDepth 100000
namespace Go.Mir
open Go Go.E Go.RowKit Go.Tr Go.Ss Go.ChangeShapes
section
variable {w w0 u w1 wB x:World} {a a0 a1 a4:OA} {n c n0 c0 n1 c1 n4 c4 g m:Nat} {F F' S:Nat→Prop} {p q:Addr} {B:Nat} {R:VP} {f:fZ} {s t:SH}
theorem stF {α:Type} {k e:Nat} {en:α→List Value} {xs:List α} (hl:∀ x,(en x).length=k) (h:au k en e w a n c xs g) (ha:a=some p) {i j:Nat} {x y:α} {v:Value} {K:World→Prop} (hi:i<n) (hx:xs[i]?=some x) (hj:j<k) (hy:en y=(en x).set j v)
  (hk:∀ u,au k en e u a n c (xs.set i y) g→Only g w u→K u):st w (((p.add (i*k)).add j).add 0) v K:=by
 obtain ⟨b,rfl,h2,hok,hr,ho⟩:=au.set hl h hx hi hj hy
 rw [h2] at ha
 obtain rfl:=Option.some.inj ha
 simp only [addr_add,Nat.zero_add,Nat.add_zero]
 exact ⟨hok,hk _ hr ho⟩
theorem stE {α:Type} {e:Nat} {en:α→List Value} {xs:List α} (hl:∀ x,(en x).length=1) (h:au 1 en e w a n c xs g) (ha:a=some p) {i:Nat} {x y:α} {v:Value} {K:World→Prop} (hi:i<n) (hx:xs[i]?=some x) (hy:en y=[v])
  (hk:∀ u,au 1 en e u a n c (xs.set i y) g→Only g w u→K u):st w ((p.add (i*1)).add 0) v K:=by
 have he:en y=(en x).set 0 v:=by
  rw [hy]
  have:=hl x
  match h:en x with
  | [z]=>rfl
  | []=>rw [h] at this; cases this
  | _::_::_=>rw [h] at this; simp at this
 obtain ⟨b,rfl,h2,hok,hr,ho⟩:=au.set (j:=0) hl h hx hi (by omega) he
 rw [h2] at ha
 obtain rfl:=Option.some.inj ha
 simp only [addr_add,Nat.zero_add,Nat.add_zero] at hok hr ho ⊢
 exact ⟨hok,hk _ hr ho⟩
def Xj (e B:Nat) (u:World) (ys:List Int) (v:Value):Prop:=∃ a n c g,v = .slice a n c∧Arr enI e u a n c ys g∧(g=0∨B<g)
theorem Xj.kept {e:Nat} {ys:List Int} {v:Value} (h:Xj e B w ys v) (hk:Kept w u):Xj e B u ys v:=by
 obtain ⟨a,n,c,g,h1,h2,h3⟩:=h
 exact ⟨a,n,c,g,h1,h2.kept hk,h3⟩
def WX (B:Nat) (u:World) (ys:List dU) (v:Value):Prop:=∃ a n c,v = .slice a n c∧Ls tC (fun b=>B≤b∧b<u.heap.size) u a n c ys
theorem WX.kept {ys:List dU} {v:Value} (h:WX B w ys v) (hk:Kept w u):WX B u ys v:=by
 obtain ⟨a,n,c,h1,h2⟩:=h
 exact ⟨a,n,c,h1,(h2.kept hk).mono fun b hb=>⟨hb.1,by have:=hb.2; have:=hk.size; omega⟩⟩
abbrev Two (g B:Nat):Nat→Prop:=fun b=>b+1=g∨B≤b
theorem X4 (h:Mod (Two g B) w0 w) (hB:B≤w.heap.size) (hk:Kept w u):Mod (Two g B) w0 u:=Mod.trans h (Kept.mod (S:=fun _=>False) hk) (fun _ _ h=>h) (fun _ _ h=>h.elim)
theorem X5 (h:Mod (Two g B) w0 w) (ho:Only g w u):Mod (Two g B) w0 u:=Mod.trans h ho (fun _ _ h=>h) (fun _ _ h => .inl h)
theorem Xz {b10:su.T10} {pf pz:OA} {xn xi:Int} {x:mr} {s1 s2 s3 s4:SH} {gv:Nat} (hq:AtL w0 q (um x s1 s2 s3 s4)) (hqg:q.block+1≠gv) (hqb:q.block<w0.heap.size) (hgv:gv≤w0.heap.size) (hF:∀ b,F b→b<w0.heap.size∧b+1≠gv) (hm:s2.n≤1048576) (hvs:∀ v∈x.values,v.length≤1048576)
  (hend:∀ u vl',Mod (Two gv w0.heap.size) w0 u→au 1 PH tV' u s2.a s2.n s2.c vl' gv→vl'.map (·.1)=x.values→(∀ y∈vl',LsI (fun b=>w0.heap.size≤b∧b<u.heap.size) u y.2.a y.2.n y.2.c y.1)→su.e45 R b10 pf pz (some q) xn xi (s4.n:Int) 0 u) :
  ∀ (k i:Nat) (w:World) (vl:List VD),i+k=s2.n→Mod (Two gv w0.heap.size) w0 w→au 1 PH tV' w s2.a s2.n s2.c vl gv→vl.map (·.1)=x.values →
   (∀ (j:Nat) y,vl[j]?=some y→(j<i→LsI (fun b=>w0.heap.size≤b∧b<w.heap.size) w y.2.a y.2.n y.2.c y.1)∧(i≤j→LsI F w y.2.a y.2.n y.2.c y.1))→su.l29 R b10 (k+1) pf pz (some q) xn xi s2.n i w:=by
 intro k
 induction k with
 | zero =>
  intro i w vl hi hw hA hl hx
  obtain rfl:i=s2.n:=by omega
  have hln:=au.len (k:=1) (en:=PH) (fun _=>rfl) (by omega) hA
  have hqw:=hq.mod hw (fun h=>by rcases h with h | h <;> omega)
  unfold su.l29 su.g29
  refine ai (by omega) ?_
  refine ⟨_,_,_,hqw 4 _ rfl,hend w vl hw hA hl fun y hy=>?_⟩
  obtain ⟨j,hj⟩:=List.getElem?_of_mem hy
  have hlt:=(List.getElem?_eq_some_iff.1 hj).1
  exact (hx j y hj).1 (by omega)
 | succ k ih =>
  intro i w vl hi hw hA hl hx
  have hln:=au.len (k:=1) (en:=PH) (fun _=>rfl) (by omega) hA
  have hqw:=hq.mod hw (fun h=>by rcases h with h | h <;> omega)
  have hsz:=hw.size
  unfold su.l29 su.g29
  refine aN (by omega) ?_
  have hyi:vl[i]?=some (vl[i]'(by omega)):=List.getElem?_eq_getElem _
  generalize vl[i]'(by omega)=y at hyi
  refine ⟨fun _ v u=>Xj t64 w.heap.size u y.1 v,fun _ v u u' h hk=>h.kept hk,⟨_,_,_,hqw 2 _ rfl,⟨_,_,_,hqw 2 _ rfl,?_⟩⟩⟩
  refine atF (k:=1) (en:=PH) (fun _=>rfl) (by omega) hA (i:=(i:Int)) (by omega) (by omega) (by rw [Int.toNat_natCast]; exact hyi) fun p1 hp1 hAt=>?_
  refine ⟨y.2.a,y.2.n,y.2.c,by simpa [add_zero] using hAt 0 _ rfl,?_⟩
  have hys:=(hx i y hyi).2 (Nat.le_refl _)
  have hyn:y.1.length≤1048576:=hvs y.1 (by rw [← hl]; exact List.mem_map_of_mem (List.mem_of_getElem? hyi))
  have hyl:=hys.len
  refine ⟨fun o ho=>E.CallsD.mono (xW (hys.kept ho).sl (by omega)) fun v u ⟨a',n',c',hv,hnew,_⟩=>?_,fun a2 n2 c2 hex=>?_⟩
  ·obtain ⟨g2,r2,f2,hk2⟩:=hnew
   have f2':g2=0∨o.heap.size<g2:=f2
   have:=ho.size
   exact ⟨a',n',c',hv,⟨a',n',c',g2,rfl,r2,by omega⟩,hk2⟩
  ·refine atF (k:=1) (en:=PH) (fun _=>rfl) (by omega) hA (i:=(i:Int)) (by omega) (by omega) (by rw [Int.toNat_natCast]; exact hyi) fun p2 hp2 _=>fun u hu hnew=>?_
   obtain ⟨a3,n3,c3,g3,hv,r3,f3⟩:=hnew
   obtain ⟨rfl,rfl,rfl⟩:a2=a3∧n2=n3∧c2=c3:=by simpa using hv
   rw [Int.toNat_natCast]
   have hus:=hu.size
   refine stE (fun _=>rfl) (au.kept hA hu) hp2 (by omega) hyi (y:=(y.1,⟨a2,n2,c2⟩)) rfl fun v hA2 ho=>WE (by omega) ?_
   have hvz:=ho.size
   refine ih (i+1) v (vl.set i (y.1,⟨a2,n2,c2⟩)) (by omega) (X5 (X4 hw hsz hu) ho) hA2 ?_ fun j z hj=>?_
   ·rw [List.map_set,← hl]
    exact KX (by rw [List.getElem?_map,hyi]; rfl)
   ·rw [List.getElem?_set] at hj
    by_cases hij:i=j
    ·subst hij
     rw [if_pos rfl,if_pos (by omega)] at hj
     obtain rfl:=Option.some.inj hj
     refine ⟨fun _=>?_,fun h=>by omega⟩
     have hr3:=r3.le
     exact ((Arr.ls (h1:=fun _=>rfl) r3).mod ho (fun b hb hk=>by have hk':b+1=gv:=hk; omega)).mono fun b hb=>⟨by omega,by omega⟩
    ·rw [if_neg hij] at hj
     obtain ⟨q1,q2⟩:=hx j z hj
     refine ⟨fun h=>?_,fun h=>?_⟩
     ·exact (((q1 (by omega)).kept hu).mod ho fun b hb hk=>by have hk':b+1=gv:=hk; omega).mono fun b hb=>⟨hb.1,by have:=hb.2; omega⟩
     ·exact ((q2 (by omega)).kept hu).mod ho fun b hb hk=>(hF b hb).2 hk
end
end Go.Mir
set_option maxRecDepth 100000
namespace Go.Mir
open Go Go.E Go.RowKit Go.Tr Go.Ss Go.ChangeShapes
section
variable {w w0 u w1 wB x:World} {a a0 a1 a4:OA} {n c n0 c0 n1 c1 n4 c4 g m:Nat} {F F' S:Nat→Prop} {p q:Addr} {B:Nat} {R:VP} {f:fZ} {s t:SH}
def FL3 (B:Nat) (y:dI):Nat→Value→World→Prop:=fun i v u=>match i with
 | 7=>WX B u y.numbers v
 | 12=>WX B u y.aI v
 | _=>WX B u y.lost v
theorem FL3.keep {B:Nat} {y:dI} (i:Nat) (v:Value) (u u':World) (h:FL3 B y i v u) (hk:Below u.heap.size u u'):FL3 B y i v u':=by
 unfold FL3 at h ⊢
 split at h <;> exact WX.kept h hk
set_option maxHeartbeats 1000000 in
theorem Xw {b10:su.T10} {pf pz:OA} {xn:Int} {xi:Nat} {x:mr} {s1 s2 s3 s4:SH} {gl:Nat} (hxi:xi<1048576) (hq:AtL w0 q (um x s1 s2 s3 s4)) (hqg:q.block+1≠gl) (hqb:q.block<w0.heap.size) (hgl:gl≤w0.heap.size) (hF:∀ b,F b→b<w0.heap.size∧b+1≠gl) (hm:s4.n≤1073741824) (hvs:∀ l∈x.lists,l.sm)
  (hend:∀ u ll',Mod (Two gl w0.heap.size) w0 u→au 4 WV tL' u s4.a s4.n s4.c ll' gl→ll'.map (·.1)=x.lists→(∀ y∈ll',WQ (fun b=>w0.heap.size≤b∧b<u.heap.size) u y)→b10 pf pz xn ((xi+1:Nat):Int) u) :
  ∀ (k i:Nat) (w:World) (ll:List LD),i+k=s4.n→Mod (Two gl w0.heap.size) w0 w→au 4 WV tL' w s4.a s4.n s4.c ll gl→ll.map (·.1)=x.lists →
   (∀ (j:Nat) y,ll[j]?=some y→(j<i→WQ (fun b=>w0.heap.size≤b∧b<w.heap.size) w y)∧(i≤j→WQ F w y))→su.l45 R b10 (k+1) pf pz (some q) xn xi s4.n i w:=by
 intro k
 induction k with
 | zero =>
  intro i w ll hi hw hA hl hx
  obtain rfl:i=s4.n:=by omega
  have hln:=au.len (k:=4) (en:=WV) (fun _=>rfl) (by omega) hA
  unfold su.l45 su.g45
  refine ai (by omega) ?_
  refine WE (by omega) (hend w ll hw hA hl fun y hy=>?_)
  obtain ⟨j,hj⟩:=List.getElem?_of_mem hy
  have hlt:=(List.getElem?_eq_some_iff.1 hj).1
  exact (hx j y hj).1 (by omega)
 | succ k ih =>
  intro i w ll hi hw hA hl hx
  have hln:=au.len (k:=4) (en:=WV) (fun _=>rfl) (by omega) hA
  have hqw:=hq.mod hw (fun h=>by rcases h with h | h <;> omega)
  have hsz:=hw.size
  unfold su.l45 su.g45
  refine aN (by omega) ?_
  have hyi:ll[i]?=some (ll[i]'(by omega)):=List.getElem?_eq_getElem _
  generalize ll[i]'(by omega)=y at hyi
  refine ⟨_,_,_,hqw 4 _ rfl,?_⟩
  refine atF (k:=4) (en:=WV) (fun _=>rfl) (by omega) hA (i:=(i:Int)) (by omega) (by omega) (by rw [Int.toNat_natCast]; exact hyi) fun p1 hp1 hAt=>?_
  have hys:=(hx i y hyi).2 (Nat.le_refl _)
  have hysm:=hvs y.1 (by rw [← hl]; exact List.mem_map_of_mem (List.mem_of_getElem? hyi))
  have hFo:∀ {o:World},Kept w o→∀ b,F b→b<o.heap.size:=fun ho b hb=>by have:=(hF b hb).1; have:=ho.size; omega
  have cc:∀ {xs:List dU} {aa:OA} {nn cc':Nat} (_:Ls tC F w aa nn cc' xs) (_:BF xs) (j:Nat),(∀ v u,WX w.heap.size u xs v→FL3 w.heap.size y.1 j v u)→∀ o,Kept w o→E.CallsD Go.Proofs.Try.prog 48 #[.slice aa nn cc'] o fun v u=>∃ n p q,v = .slice n p q∧FL3 w.heap.size y.1 j (.slice n p q) u∧Below o.heap.size o u:=fun hL hs j hj o ho=>by
   refine E.CallsD.mono (Xp (hL.kept ho) (hFo ho) hs) fun v u ⟨a',n',c',hv,hN,hk⟩=>⟨a',n',c',hv,hj _ _ ⟨a',n',c',rfl,hN.mono fun b hb=>⟨by have:=hb.1; have:=ho.size; omega,hb.2⟩⟩,hk⟩
  refine ⟨FL3 w.heap.size y.1,FL3.keep,_,_,_,hAt 1 _ rfl,cc hys.a hysm.1 7 (fun v u h=>h),fun a1 n1 c1 _=>?_⟩
  refine ⟨_,_,_,hAt 2 _ rfl,fun o ho _=>cc hys.b hysm.2.1 12 (fun v u h=>h) o ho,fun a2 n2 c2 _=>?_⟩
  refine ⟨_,_,_,hAt 3 _ rfl,fun o ho _ _=>cc hys.c hysm.2.2 17 (fun v u h=>h) o ho,fun a3 n3 c3 _=>?_⟩
  intro u hu h7 h12 h17
  rw [Int.toNat_natCast]
  have hus:=hu.size
  refine stF (k:=4) (en:=WV) (fun _=>rfl) (au.kept hA hu) hp1 (i:=i) (j:=1) (x:=y) (y:=(y.1,(⟨a1,n1,c1⟩,y.2.2))) (by omega) hyi (by omega) rfl fun v1 hA1 ho1=>?_
  have hg1:(ll.set i (y.1,((⟨a1,n1,c1⟩:SH),y.2.2)))[i]?=some (y.1,(⟨a1,n1,c1⟩,y.2.2)):=by rw [List.getElem?_set]; simp; omega
  refine stF (k:=4) (en:=WV) (fun _=>rfl) hA1 hp1 (i:=i) (j:=2) (x:=(y.1,(⟨a1,n1,c1⟩,y.2.2))) (y:=(y.1,(⟨a1,n1,c1⟩,⟨a2,n2,c2⟩,y.2.2.2))) (by omega) hg1 (by omega) rfl fun v2 hA2 ho2=>?_
  rw [List.set_set] at hA2
  have hg2:(ll.set i (y.1,((⟨a1,n1,c1⟩:SH),(⟨a2,n2,c2⟩:SH),y.2.2.2)))[i]?=some (y.1,(⟨a1,n1,c1⟩,⟨a2,n2,c2⟩,y.2.2.2)):=by rw [List.getElem?_set]; simp; omega
  refine stF (k:=4) (en:=WV) (fun _=>rfl) hA2 hp1 (i:=i) (j:=3) (x:=(y.1,(⟨a1,n1,c1⟩,⟨a2,n2,c2⟩,y.2.2.2))) (y:=(y.1,(⟨a1,n1,c1⟩,⟨a2,n2,c2⟩,⟨a3,n3,c3⟩))) (by omega) hg2 (by omega) rfl fun v3 hA3 ho3=>WE (by omega) ?_
  rw [List.set_set] at hA3
  have ho12:Only gl u v2:=Mod.trans ho1 ho2 (fun _ _ h=>h) (fun _ _ h=>h)
  have ho:Only gl u v3:=Mod.trans ho12 ho3 (fun _ _ h=>h) (fun _ _ h=>h)
  have hvz:=ho.size
  have inj:∀ {a a':OA} {n n' c c':Nat},Value.slice a n c = .slice a' n' c'→a=a'∧n=n'∧c=c':=fun h=>by simpa using h
  refine ih (i+1) v3 (ll.set i (y.1,(⟨a1,n1,c1⟩,⟨a2,n2,c2⟩,⟨a3,n3,c3⟩))) (by omega) (X5 (X4 hw hsz hu) ho) hA3 ?_ fun j z hj=>?_
  ·rw [List.map_set,← hl]
   exact KX (by rw [List.getElem?_map,hyi]; rfl)
  ·rw [List.getElem?_set] at hj
   by_cases hij:i=j
   ·subst hij
    rw [if_pos rfl,if_pos (by omega)] at hj
    obtain rfl:=Option.some.inj hj
    refine ⟨fun _=>?_,fun h=>by omega⟩
    obtain ⟨_,_,_,e1,k1⟩:=(show WX w.heap.size u y.1.numbers (.slice a1 n1 c1) from h7)
    obtain ⟨_,_,_,e2,k2⟩:=(show WX w.heap.size u y.1.aI (.slice a2 n2 c2) from h12)
    obtain ⟨_,_,_,e3,k3⟩:=(show WX w.heap.size u y.1.lost (.slice a3 n3 c3) from h17)
    obtain ⟨rfl,rfl,rfl⟩:=inj e1
    obtain ⟨rfl,rfl,rfl⟩:=inj e2
    obtain ⟨rfl,rfl,rfl⟩:=inj e3
    have hno:∀ b,(w.heap.size≤b∧b<u.heap.size)→¬ (b+1=gl):=fun b hb hk=>by omega
    have hmo:∀ b,(w.heap.size≤b∧b<u.heap.size)→(w0.heap.size≤b∧b<v3.heap.size):=fun b hb=>⟨by omega,by omega⟩
    exact ⟨(k1.mod ho hno).mono hmo,(k2.mod ho hno).mono hmo,(k3.mod ho hno).mono hmo⟩
   ·rw [if_neg hij] at hj
    obtain ⟨q1,q2⟩:=hx j z hj
    refine ⟨fun h=>?_,fun h=>?_⟩
    ·exact (((q1 (by omega)).kept hu).mod ho fun b hb hk=>by have hk':b+1=gl:=hk; omega).mono fun b hb=>⟨hb.1,by have:=hb.2; omega⟩
    ·exact ((q2 (by omega)).kept hu).mod ho fun b hb hk=>(hF b hb).2 hk
end
end Go.Mir
set_option maxRecDepth 100000
namespace Go.Mir
open Go Go.E Go.RowKit Go.Tr Go.Ss Go.ChangeShapes
section
variable {w w0 u w1 wB x:World} {a a0 a1 a4:OA} {n c n0 c0 n1 c1 n4 c4 g m:Nat} {F F' S:Nat→Prop} {p q:Addr} {B:Nat} {R:VP} {f:fZ} {s t:SH}
theorem XB.kept {B:Nat} {xs:List (List Int)} {v:Value} (h:XB F B w n xs v) (hk:Kept w u):XB F B u n xs v:=by
 obtain ⟨a,c,g,l,h1,h2,h3,h4,h5⟩:=h
 exact ⟨a,c,g,l,h1,au.kept h2 hk,h3,h4,fun x hx=>(h5 x hx).kept hk⟩
theorem XC.kept {B:Nat} {xs:List dI} {v:Value} (h:XC F B w n xs v) (hk:Kept w u):XC F B u n xs v:=by
 obtain ⟨a,c,g,l,h1,h2,h3,h4,h5⟩:=h
 exact ⟨a,c,g,l,h1,au.kept h2 hk,h3,h4,fun x hx=>(h5 x hx).kept hk⟩
theorem rowAt {α:Type} {k e:Nat} {en:α→List Value} {xs:List α} (hl:∀ x,(en x).length=k) (hk0:0<k) (h:au k en e w a n c xs g) (ha:a=some p) {i:Nat} {x:α} (hx:xs[i]?=some x):AtL w (p.add (i*k)) (en x):=by
 obtain ⟨p',hp',hc⟩:=(h.slk hl hk0).get i x hx
 rw [hp'] at ha
 obtain rfl:=Option.some.inj ha
 exact fun j v hj=>by rw [add_add]; exact hc j v hj
theorem X3 {e e' size size':Nat} {a a':OA} {n n' c c' g g':Nat} {cs cs':List Value} (h:Row w e size a n c cs g) (h':Row w e' size' a' n' c' cs' g') (hne:e≠e') (h0:g≠0):g≠g':=fun hg=>by
 obtain ⟨k,rfl⟩:∃ k,g=k+1:=⟨g - 1,by omega⟩
 obtain ⟨cur,hb⟩:=Row.blk h rfl
 obtain ⟨cur',hb'⟩:=Row.blk h' hg
 exact hne (hb.ne hb')
def FB4 (F:Nat→Prop) (B n2 n4:Nat) (x:mr):Nat→Value→World→Prop:=fun i v u=>match i with
 | 8=>Xj tI' B u x.leaves v
 | 13=>Xj tI' B u x.outputs v
 | 18=>XB F B u n2 x.values v
 | _=>XC F B u n4 x.lists v
theorem FB4.keep {n2 n4:Nat} {x:mr} (i:Nat) (v:Value) (u u':World) (h:FB4 F B n2 n4 x i v u) (hk:Below u.heap.size u u'):FB4 F B n2 n4 x i v u':=by
 unfold FB4 at h ⊢
 split at h
 ·exact Xj.kept h hk
 ·exact Xj.kept h hk
 ·exact XB.kept h hk
 ·exact XC.kept h hk
abbrev CpA (wB:World) (f:fZ):VP:=fun v u=>∃ s k:SH,v=vF f s k∧kX (nwB wB u) u f s k∧Kept wB u
abbrev BIn (F:Nat→Prop) (w:World) (x:BD):Prop:=lJ F w x.1 x.2.1 x.2.2.1 x.2.2.2.1 x.2.2.2.2
theorem BIn.mod {x:BD} (h:BIn F w x) (hm:Mod S w u) (hn:∀ b,F b→¬ S b):BIn F u x:=⟨h.l.mod hm hn,h.v.mod hm hn,h.o.mod hm hn,h.t.mod hm hn⟩
theorem BIn.mono {x:BD} (h:BIn F w x) (hF:∀ b,F b→F' b):BIn F' w x:=⟨h.l.mono hF,h.v.mono hF,h.o.mono hF,h.t.mono hF⟩
theorem lsB {l:List BD} (h:au 5 O9 tB' w a n c l g) (hF:∀ b,b+1=g→F b) (hc:∀ x∈l,BIn F w x):Ls tB F w a n c (l.map (·.1)) :=
 au.lsK (T:=tB) (k:=5) (en:=O9) (f:=fun x=>x.1) (fun _=>rfl) (by omega) rfl h hF fun x hx=>⟨_,_,_,_,rfl,(hc x hx).l,(hc x hx).v,(hc x hx).o,(hc x hx).t⟩
set_option maxHeartbeats 4000000 in
theorem Xr {kf kz gb g:Nat} {sb sk:SH} (hF:∀ b,F b→b<wB.heap.size) (hfm:From wB.heap.size wB w1) (hbf:Blk w1 kf (o7 f sb sk).toArray pF) (hbz:Blk w1 kz #[.int .i64 0,.int .i64 0,.slice none 0 0,.slice none 0 0] pF) (hfz:kf≠kz) (hkf:wB.heap.size≤kf) (hkz:wB.heap.size≤kz)
  (hba:Arr enI t64 w1 sb.a sb.n sb.c f.base gb) (hgb:gb=0∨wB.heap.size<gb) (hg:g=0∨wB.heap.size<g) (hgl:g≤w1.heap.size) (hn1:kf+1≠g) (hn2:kz+1≠g) (hn3:gb=0∨gb≠g) (hsm:f.sm) :
  ∀ (k i:Nat) (w:World) (l:List BD),i+k=sk.n→Mod (Two g w1.heap.size) w1 w→au 5 O9 tB' w sk.a sk.n sk.c l g→l.map (·.1)=f.blocks →
   (∀ (j:Nat) y,l[j]?=some y→(j<i→BIn (fun b=>w1.heap.size≤b∧b<w.heap.size) w y)∧(i≤j→BIn F w y))→su.l10 (CpA wB f) (k+1) (some ⟨kf,0,none⟩) (some ⟨kz,0,none⟩) sk.n i w:=by
 have hB1:=hfm.size
 intro k
 induction k with
 | zero =>
  intro i w l hi hw hA hl hx
  obtain rfl:i=sk.n:=by omega
  have hln:=au.len (k:=5) (en:=O9) (fun _=>rfl) (by omega) hA
  have hlf:=hbf.lt
  have hlz:=hbz.lt
  have hlb:=hba.le
  have hsz:=hw.size
  have bf:=hbf.mod hw (fun hk=>by rcases hk with hk | hk <;> omega)
  have bz:=hbz.mod hw (fun hk=>by rcases hk with hk | hk <;> omega)
  have ba:=hba.mod hw (fun k hk hk2=>by rcases hk2 with hk2 | hk2 <;> omega)
  have hAf:AtL w (⟨kf,0,none⟩:Addr) (o7 f sb sk):=fun j v hj=>by rw [addr_add,Nat.zero_add,bf.cell]; simpa using hj
  rw [su.u10]; unfold su.g10
  refine ai (by omega) ?_
  refine ⟨_,hAf 0 _ rfl,_,hAf 1 _ rfl,sb.a,sb.n,sb.c,hAf 2 _ rfl,sk.a,sk.n,sk.c,hAf 3 _ rfl,?_⟩
  refine wrA (e:=pF) (b:=kz) (vs:=o7 f sb sk) (zs:=[.int .i64 0,.int .i64 0,.slice none 0 0,.slice none 0 0]) bz rfl fun u hb' ho=>?_
  have hAz:AtL u (⟨kz,0,none⟩:Addr) (o7 f sb sk):=fun j v hj=>by rw [addr_add,Nat.zero_add,hb'.cell]; simpa using hj
  refine ⟨_,hAz 0 _ rfl,_,hAz 1 _ rfl,sb.a,sb.n,sb.c,hAz 2 _ rfl,sk.a,sk.n,sk.c,hAz 3 _ rfl,sb,sk,rfl,?_,?_⟩
  ·have hzo:=ho.size
   have tz:∀ {e size:Nat} {a:OA} {n c g':Nat} {cs:List Value},Row w e size a n c cs g'→e≠pF→∀ b,b+1=g'→¬ (b+1=kz+1):=fun hr he b hb hk=>by
    obtain ⟨cur,hc⟩:=Row.blk hr hb
    have e:b=kz:=by omega
    rw [e] at hc
    exact he (hc.ne bz)
   have fb:lJ (fun b=>False) w ⟨0,[],[],[],[]⟩ ⟨none,0,0⟩ ⟨none,0,0⟩ ⟨none,0,0⟩ ⟨none,0,0⟩:=⟨Ls.nil _ _ _ _ _,Ls.nil _ _ _ _ _,Ls.nil _ _ _ _ _,Ls.nil _ _ _ _ _⟩
   refine ⟨?_,?_⟩
   ·refine ((Arr.ls (h1:=fun _=>rfl) ba).mod ho fun b hb hk=>tz ba (by decide) b hb hk).mono fun b hb=>⟨by omega,by omega⟩
   ·rw [← hl]
    refine (lsB (F:=fun b=>wB.heap.size≤b∧b<w.heap.size∧¬ (b+1=kz+1)) hA (fun b hb=>⟨by omega,by have:=Row.le hA; omega,tz hA (by decide) b hb⟩) fun x hx'=>?_).mod ho (fun b hb hk=>hb.2.2 hk) |>.mono fun b hb=>⟨hb.1,by have:=hb.2.1; omega⟩
    obtain ⟨j,hj⟩:=List.getElem?_of_mem hx'
    have hlt:=(List.getElem?_eq_some_iff.1 hj).1
    exact ((hx j x hj).1 (by omega)).mono fun b hb=>⟨by omega,hb.2,by omega⟩
  ·have h1:From wB.heap.size wB w:=Mod.trans (S:=fun k=>wB.heap.size≤k) hfm hw (fun _ _ h=>h) (fun k hk hk2=>by rcases hk2 with hk2 | hk2 <;> (show wB.heap.size≤k; omega))
   exact From.kept (From.then h1 ho fun k _ hk=>by have hk':k+1=kz+1:=hk; omega)
 | succ k ih =>
  intro i w l hi hw hA hl hx
  have hln:=au.len (k:=5) (en:=O9) (fun _=>rfl) (by omega) hA
  have hlf:=hbf.lt
  have hlz:=hbz.lt
  have hsz:=hw.size
  have bf:=hbf.mod hw (fun hk=>by rcases hk with hk | hk <;> omega)
  have hAf:AtL w (⟨kf,0,none⟩:Addr) (o7 f sb sk):=fun j v hj=>by rw [addr_add,Nat.zero_add,bf.cell]; simpa using hj
  have hbl:f.blocks.length≤1048576:=hsm.2.1
  have hll:l.length=f.blocks.length:=by rw [← hl,List.length_map]
  rw [su.u10]; unfold su.g10
  refine aN (by omega) ?_
  have hyi:l[i]?=some (l[i]'(by omega)):=List.getElem?_eq_getElem _
  generalize l[i]'(by omega)=y at hyi
  obtain ⟨x,s1,s2,s3,s4⟩:=y
  have hys:BIn F w (x,s1,s2,s3,s4):=(hx i _ hyi).2 (Nat.le_refl _)
  have hxsm:x.sm:=hsm.2.2 x (by rw [← hl]; exact List.mem_map_of_mem (f:=fun z:BD=>z.1) (List.mem_of_getElem? hyi))
  obtain ⟨m1,m2,m3,m4,m5,m6⟩:=hxsm
  have hl1:=hys.l.len
  have hl2:=hys.v.len
  have hl3:=hys.o.len
  have hl4:=hys.t.len
  simp only at hl1 hl2 hl3 hl4
  refine ⟨_,_,_,hAf 3 _ rfl,?_⟩
  refine atF (k:=5) (en:=O9) (fun _=>rfl) (by omega) hA (i:=(i:Int)) (by omega) (by omega) (by rw [Int.toNat_natCast]; exact hyi) fun p1 hp1 hAt=>?_
  refine ⟨FB4 F w.heap.size s2.n s4.n x,FB4.keep,?_⟩
  have cI:∀ {ys:List Int} {aa:OA} {nn cc:Nat} (_:LsI F w aa nn cc ys) (_:ys.length≤1048576) (j:Nat),(∀ v u,Xj tI' w.heap.size u ys v→FB4 F w.heap.size s2.n s4.n x j v u)→∀ o,Kept w o→E.CallsD Go.Proofs.Try.prog 45 #[.slice aa nn cc] o fun v u=>∃ n p q,v = .slice n p q∧FB4 F w.heap.size s2.n s4.n x j (.slice n p q) u∧Below o.heap.size o u:=fun hL hs j hj o ho=>by
   have:=hL.len
   refine E.CallsD.mono (zy (hL.kept ho).sl (by omega)) fun v u ⟨a',c',hv,g',r',f',hk'⟩=>⟨a',_,c',hv,hj _ _ ⟨a',_,c',g',rfl,r',?_⟩,hk'⟩
   have f2:g'=0∨o.heap.size<g':=f'
   have:=ho.size
   omega
  refine ⟨_,_,_,hAt 1 _ rfl,cI hys.l m1 8 (fun v u h=>h),fun a1 n1 c1 _=>?_⟩
  refine ⟨_,_,_,hAt 3 _ rfl,fun o ho _=>cI hys.o m4 13 (fun v u h=>h) o ho,fun a3 n3 c3 _=>?_⟩
  refine ⟨_,_,_,hAt 2 _ rfl,fun o ho _ _=>E.CallsD.mono (Xx (hys.v.kept ho) (by show s2.n≤_; omega)) fun v u ⟨hcl,hk'⟩=>?_,fun a2 n2 c2 _=>?_⟩
  ·obtain ⟨a',c',g',l',hv,h2,h3,h4,h5⟩:=hcl
   have:=ho.size
   exact ⟨a',_,c',hv,⟨a',c',g',l',rfl,h2,by omega,h4,h5⟩,hk'⟩
  refine ⟨_,_,_,hAt 4 _ rfl,fun o ho _ _ _=>E.CallsD.mono (Xv (hys.t.kept ho) (by show s4.n≤_; omega)) fun v u ⟨hcl,hk'⟩=>?_,fun a4 n4 c4 _=>?_⟩
  ·obtain ⟨a',c',g',l',hv,h2,h3,h4,h5⟩:=hcl
   have:=ho.size
   exact ⟨a',_,c',hv,⟨a',c',g',l',rfl,h2,by omega,h4,h5⟩,hk'⟩
  intro u hu h8 h13 h18 h23
  rw [Int.toNat_natCast]
  have hus:=hu.size
  obtain ⟨_,_,_,g1,e1,r1,f1⟩:=(show Xj tI' w.heap.size u x.leaves (.slice a1 n1 c1) from h8)
  obtain ⟨_,_,_,g3,e3,r3,f3⟩:=(show Xj tI' w.heap.size u x.outputs (.slice a3 n3 c3) from h13)
  obtain ⟨_,_,gv,vl,e2,rv,fv,hv1,hv2⟩:=(show XB F w.heap.size u s2.n x.values (.slice a2 n2 c2) from h18)
  obtain ⟨_,_,gl,ll,e4,rl,fl,hl1',hl2'⟩:=(show XC F w.heap.size u s4.n x.lists (.slice a4 n4 c4) from h23)
  have inj:∀ {a a':OA} {n n' c c':Nat},Value.slice a n c = .slice a' n' c'→a=a'∧n=n'∧c=c':=fun h=>by simpa using h
  obtain ⟨rfl,rfl,rfl⟩:=inj e1
  obtain ⟨rfl,rfl,rfl⟩:=inj e3
  obtain ⟨rfl,rfl,rfl⟩:=inj e2
  obtain ⟨rfl,rfl,rfl⟩:=inj e4
  have st1:∀ {z z':BD} {w:World} {L:List BD} {j:Nat} {v:Value} {K:World→Prop},au 5 O9 tB' w sk.a sk.n sk.c L g→L[i]?=some z→j<5→O9 z'=(O9 z).set j v→(∀ u,au 5 O9 tB' u sk.a sk.n sk.c (L.set i z') g→Only g w u→K u)→st w (((p1.add (i*5)).add j).add 0) v K:=fun hL hz hj he hK=>stF (k:=5) (en:=O9) (fun _=>rfl) hL hp1 (by omega) hz hj he hK
  have gs:∀ {z z':BD},l[i]?=some z→(l.set i z')[i]?=some z':=fun h=>by rw [List.getElem?_set]; simp; omega
  refine st1 (z':=(x,⟨a1,n1,c1⟩,s2,s3,s4)) (au.kept hA hu) hyi (by omega) rfl fun v1 hA1 o1=>?_
  refine st1 (z':=(x,⟨a1,n1,c1⟩,s2,⟨a3,n3,c3⟩,s4)) hA1 (gs hyi) (by omega) rfl fun v2 hA2 o2=>?_
  rw [List.set_set] at hA2
  refine st1 (z':=(x,⟨a1,n1,c1⟩,⟨a2,s2.n,c2⟩,⟨a3,n3,c3⟩,s4)) hA2 (gs hyi) (by omega) rfl fun v3 hA3 o3=>?_
  rw [List.set_set] at hA3
  refine st1 (z':=(x,⟨a1,n1,c1⟩,⟨a2,s2.n,c2⟩,⟨a3,n3,c3⟩,⟨a4,s4.n,c4⟩)) hA3 (gs hyi) (by omega) rfl fun v4 hA4 o4=>?_
  rw [List.set_set] at hA4
  have o14:Only g u v4:=Mod.trans (Mod.trans o1 o2 (fun _ _ h=>h) (fun _ _ h=>h)) (Mod.trans o3 o4 (fun _ _ h=>h) (fun _ _ h=>h)) (fun _ _ h=>h) (fun _ _ h=>h)
  have hvz:=o14.size
  have hgu:g≤u.heap.size:=by omega
  have ng:∀ {b:Nat},w.heap.size≤b→¬ (b+1=g):=fun h1 h2=>by omega
  have r1':=r1.mod o14 (fun k hk hk2=>by have hk':k+1=g:=hk2; omega)
  have r3':=r3.mod o14 (fun k hk hk2=>by have hk':k+1=g:=hk2; omega)
  have rv':=au.mod rv o14 (fun k hk hk2=>by have hk':k+1=g:=hk2; omega)
  have rl':=au.mod rl o14 (fun k hk hk2=>by have hk':k+1=g:=hk2; omega)
  have hFg:∀ b,F b→¬ (b+1=g):=fun b hb h=>by have:=hF b hb; omega
  have hq4:AtL v4 (p1.add (i*5)) (um x ⟨a1,n1,c1⟩ ⟨a2,s2.n,c2⟩ ⟨a3,n3,c3⟩ ⟨a4,s4.n,c4⟩):=rowAt (k:=5) (en:=O9) (fun _=>rfl) (by omega) hA4 hp1 (gs hyi)
  have hpb:p1.block+1=g∧p1.block<w1.heap.size:=by
   obtain ⟨b,h1,h2,_⟩:=Row.cell hA4 (i:=i*5) (v := .int .i64 x.first) (kP (k:=5) _ (fun _ _=>rfl) i _ (gs (z':=(x,(⟨a1,n1,c1⟩:SH),(⟨a2,s2.n,c2⟩:SH),(⟨a3,n3,c3⟩:SH),(⟨a4,s4.n,c4⟩:SH))) hyi) 0 _ rfl)
   rw [h2] at hp1
   obtain rfl:=Option.some.inj hp1
   exact ⟨by show b+1=g; omega,by show b<_; omega⟩
  have hr1:=r1'.le
  have hr3:=r3'.le
  have hrv:=Row.le rv'
  have hrl:=Row.le rl'
  refine ⟨_,_,_,hq4 2 _ rfl,?_⟩
  refine Exists.intro (s2.n+1) ?_
  have hend:∀ x1 vl',Mod (Two gv v4.heap.size) v4 x1→au 1 PH tV' x1 a2 s2.n c2 vl' gv→vl'.map (·.1)=x.values→(∀ y∈vl',LsI (fun b=>v4.heap.size≤b∧b<x1.heap.size) x1 y.2.a y.2.n y.2.c y.1)→su.e45 (CpA wB f) (su.l10 (CpA wB f) (k+1)) (some ⟨kf,0,none⟩) (some ⟨kz,0,none⟩) (some (p1.add (i*5))) sk.n i (s4.n:Int) 0 x1:=by
   intro x1 vl' hm1 hv1' hvm hvs
   have hz1:=hm1.size
   have hq5:=hq4.mod hm1 (fun hk=>by rw [add_block] at hk; rcases hk with hk | hk <;> omega)
   have rl2:au 4 WV tL' x1 a4 s4.n c4 ll gl:=au.mod rl' hm1 (fun b hb hk=>by
    rcases hk with hk | hk
    ·exact X3 rl' rv' (by decide) (by omega) (by omega)
    ·omega)
   refine Exists.intro (s4.n+1) (Xw (R:=CpA wB f) (q:=p1.add (i*5)) (F:=F) (x:=x) (s1:=⟨a1,n1,c1⟩) (s2:=⟨a2,s2.n,c2⟩) (s3:=⟨a3,n3,c3⟩) (s4:=⟨a4,s4.n,c4⟩) (gl:=gl) (w0:=x1) (by omega) hq5 (by rw [add_block]; omega) (by rw [add_block]; omega) (by omega) (fun b hb=>by have:=hF b hb; exact ⟨by omega,by omega⟩) (by show s4.n≤_; omega) m6 (fun x2 ll' hm2 hl2 hlm hls=>?_) s4.n 0 x1 ll (by show 0+s4.n=s4.n; omega) (Mod.refl _) rl2 hl1' fun j y hj=>⟨fun h=>by omega,fun _=>?_⟩)
   ·have hz2:=hm2.size
    have hw2:Mod (Two g w1.heap.size) w1 x2:=by
     have k1:Mod (Two g w1.heap.size) w1 v4:=X5 (X4 hw hsz hu) o14
     have k2:Mod (Two g w1.heap.size) w1 x1:=Mod.trans k1 hm1 (fun _ _ h=>h) fun b hb hk=>by rcases hk with hk | hk <;> (show b+1=g∨w1.heap.size≤b; omega)
     exact Mod.trans k2 hm2 (fun _ _ h=>h) fun b hb hk=>by rcases hk with hk | hk <;> (show b+1=g∨w1.heap.size≤b; omega)
    have nA:∀ {e size:Nat} {a:OA} {n c g':Nat} {cs:List Value},Row v4 e size a n c cs g'→e≠tV'→e≠tL'→Row x2 e size a n c cs g':=fun hr h1 h2=>by
     have hle:=Row.le hr
     have hrx:Row x1 _ _ _ _ _ _ _:=Row.mod hr hm1 (fun b hb hk=>by
      rcases hk with hk | hk
      ·exact X3 hr rv' h1 (by omega) (by omega)
      ·omega)
     exact Row.mod hrx hm2 (fun b hb hk=>by
      rcases hk with hk | hk
      ·exact X3 hrx rl2 h2 (by omega) (by omega)
      ·omega)
    refine ih (i+1) x2 (l.set i (x,⟨a1,n1,c1⟩,⟨a2,s2.n,c2⟩,⟨a3,n3,c3⟩,⟨a4,s4.n,c4⟩)) (by omega) hw2 (nA hA4 (by decide) (by decide)) ?_ fun j y hj=>?_
    ·rw [List.map_set,← hl]
     exact KX (by rw [List.getElem?_map,hyi]; rfl)
    ·rw [List.getElem?_set] at hj
     by_cases hij:i=j
     ·subst hij
      rw [if_pos rfl,if_pos (by omega)] at hj
      obtain rfl:=Option.some.inj hj
      refine ⟨fun _=>⟨?_,?_,?_,?_⟩,fun h=>by omega⟩
      ·exact (Arr.ls (h1:=fun _=>rfl) (nA r1' (by decide) (by decide))).mono fun b hb=>⟨by omega,by omega⟩
      ·have rv2:au 1 PH tV' x2 a2 s2.n c2 vl' gv:=au.mod hv1' hm2 (fun b hb hk=>by
        rcases hk with hk | hk
        ·exact X3 hv1' rl2 (by decide) (by omega) (by omega)
        ·omega)
       have:=lsV (F:=fun b=>w1.heap.size≤b∧b<x2.heap.size) rv2 (fun b hb=>⟨by omega,by omega⟩) fun y hy=>((hvs y hy).mod hm2 fun b hb hk=>by rcases hk with hk | hk <;> omega).mono fun b hb=>⟨by omega,by have:=hb.2; omega⟩
       rw [hvm] at this
       exact this
      ·exact (Arr.ls (h1:=fun _=>rfl) (nA r3' (by decide) (by decide))).mono fun b hb=>⟨by omega,by omega⟩
      ·have:=lsL (F:=fun b=>w1.heap.size≤b∧b<x2.heap.size) hl2 (fun b hb=>⟨by omega,by omega⟩) fun y hy=>(hls y hy).mono fun b hb=>⟨by omega,hb.2⟩
       rw [hlm] at this
       exact this
     ·rw [if_neg hij] at hj
      obtain ⟨q1,q2⟩:=hx j y hj
      have step:∀ {G:Nat→Prop},(∀ b,G b→b<w.heap.size∧b+1≠g)→BIn G w y→BIn G x2 y:=fun hG hB=>by
       have h1:BIn _ u y:=lJ.kept' hB hu
       have h2:BIn _ v4 y:=BIn.mod h1 o14 fun b hb hk=>(hG b hb).2 hk
       have h3:BIn _ x1 y:=BIn.mod h2 hm1 fun b hb hk=>by have:=(hG b hb).1; rcases hk with hk | hk <;> omega
       exact BIn.mod h3 hm2 fun b hb hk=>by have:=(hG b hb).1; rcases hk with hk | hk <;> omega
      refine ⟨fun h=>?_,fun h=>?_⟩
      ·exact (step (fun b hb=>⟨hb.2,by omega⟩) (q1 (by omega))).mono fun b hb=>⟨hb.1,by have:=hb.2; omega⟩
      ·exact step (fun b hb=>⟨by have:=hF b hb; omega,hFg b hb⟩) (q2 (by omega))
   ·have h1:=hl2' y (List.mem_of_getElem? hj)
    exact (h1.mod o14 hFg).mod hm1 fun b hb hk=>by have:=hF b hb; rcases hk with hk | hk <;> omega
  refine Xz (R:=CpA wB f) (q:=p1.add (i*5)) (F:=F) (x:=x) (s1:=⟨a1,n1,c1⟩) (s2:=⟨a2,s2.n,c2⟩) (s3:=⟨a3,n3,c3⟩) (s4:=⟨a4,s4.n,c4⟩) (gv:=gv) (w0:=v4) hq4 (by rw [add_block]; omega) (by rw [add_block]; omega) (by omega) (fun b hb=>by have:=hF b hb; exact ⟨by omega,by omega⟩) (by show s2.n≤_; omega) m3 hend s2.n 0 v4 vl (by show 0+s2.n=s2.n; omega) (Mod.refl _) rv' hv1 fun j y hj=>⟨fun h=>by omega,fun _=>?_⟩
  exact (hv2 y (List.mem_of_getElem? hj)).mod o14 hFg
end
end Go.Mir
set_option maxRecDepth 100000
namespace Go.Mir
open Go Go.E Go.RowKit Go.Tr Go.Ss Go.ChangeShapes
section
variable {w w0 u w1 wB x:World} {a a0 a1 a4:OA} {n c n0 c0 n1 c1 n4 c4 g m:Nat} {F F' S:Nat→Prop} {p q:Addr} {B:Nat} {R:VP} {f:fZ} {s t:SH}
set_option maxHeartbeats 1000000 in
theorem XG (hG:mf F w f s t) (hF:∀ b,F b→b<w.heap.size):E.CallsD Go.Proofs.Try.prog 18 #[vF f s t] w (CpA w f):=by
 refine su.calls (R:=CpA w f) ?_
 unfold su su.g0
 have hbl:=hG.bs.len
 have hkl:=hG.ks.len
 have hsm:=hG.sm
 have hs1:=hsm.1
 have hs2:=hsm.2.1
 refine aT ?_
 have hbk:Blk (w.alloc (.cells (o7 f s t).toArray pF)) w.heap.size (o7 f s t).toArray pF:=Blk.new w _ _
 have hk1:=Kept.new w (.cells (o7 f s t).toArray pF)
 change nw ((w.alloc (.cells (o7 f s t).toArray pF)).alloc _) _
 have hz1:(w.alloc (.cells (o7 f s t).toArray pF)).heap.size=w.heap.size+1:=by simp
 generalize w.alloc (.cells (o7 f s t).toArray pF)=w1 at hbk hk1 hz1
 refine aT ?_
 have hbz:Blk (w1.alloc (.cells (sZ 0 0 none 0 0 none 0 0) pF)) w1.heap.size #[.int .i64 0,.int .i64 0,.slice none 0 0,.slice none 0 0] pF:=Blk.new w1 _ _
 have hk2:=Kept.new w1 (.cells (sZ 0 0 none 0 0 none 0 0) pF)
 have hz2:(w1.alloc (.cells (sZ 0 0 none 0 0 none 0 0) pF)).heap.size=w1.heap.size+1:=by simp
 generalize w1.alloc (.cells (sZ 0 0 none 0 0 none 0 0) pF)=w2 at hbz hk2 hz2
 have k12:=Kept.trans hk1 hk2
 have bf2:=hbk.keep hk2
 have hA2:AtL w2 (na w) (o7 f s t):=by simpa using AtL.blk (b:=w) bf2
 refine ⟨_,_,_,hA2 2 _ rfl,?_⟩
 refine E.CallsD.mono (xW ((hG.bs.kept k12).sl) (by omega)) fun v w3 ⟨ab,nb,cb,hv,hnew,_⟩=>⟨ab,nb,cb,hv,?_⟩
 obtain ⟨gb,rb,fb,hk3⟩:=hnew
 have fb':gb=0∨w2.heap.size<gb:=fb
 have hz3:=hk3.size
 have bf3:=bf2.keep hk3
 have bz3:=hbz.keep hk3
 have bs3:=bf3.set 2 (.slice ab nb cb)
 have os3:=Only.set w3 w.heap.size 2 (.slice ab nb cb)
 have e1:(((na w:Addr).add 2).add 0)=⟨w.heap.size,2,none⟩:=by rw [eP,addr_add]
 show st w3 (((na w).add 2).add 0) _ _
 rw [e1]
 refine ⟨bf3.ok (by simp),aT ?_⟩
 generalize w3.setCell ⟨w.heap.size,2,none⟩ (.slice ab nb cb)=w4 at bs3 os3
 have bf4:Blk w4 w.heap.size (o7 f ⟨ab,nb,cb⟩ t).toArray pF:=bs3
 have bz4:=bz3.mod os3 (fun hk=>by have hk':w1.heap.size+1=w.heap.size+1:=hk; omega)
 have rbl:=rb.le
 have rb4:=rb.mod os3 (fun k hk hk2=>by have hk':k+1=w.heap.size+1:=hk2; omega)
 have hz4:=os3.size
 have fr4:From w.heap.size w w4:=From.then (Kept.mod (Kept.trans k12 hk3)) os3 fun k _ hk=>by have hk':k+1=w.heap.size+1:=hk; omega
 have hA4:AtL w4 (na w) (o7 f ⟨ab,nb,cb⟩ t):=by simpa using AtL.blk (b:=w) bf4
 refine ⟨_,_,_,hA4 3 _ rfl,?_⟩
 have hks4:Ls tB F w4 t.a t.n t.c f.blocks:=From.ls hG.ks fr4 hF
 refine E.CallsD.mono (Xt hks4 (by omega)) fun v w5 ⟨⟨ak,ck,gk,lk,hv,rk,fk,hlk,hxk⟩,hk5⟩=>⟨ak,t.n,ck,hv,?_⟩
 have hz5:=hk5.size
 have bf5:=bf4.keep hk5
 have bz5:=bz4.keep hk5
 have rb5:=rb4.kept hk5
 have bs5:=bf5.set 3 (.slice ak t.n ck)
 have os5:=Only.set w5 w.heap.size 3 (.slice ak t.n ck)
 have e2:(((na w:Addr).add 3).add 0)=⟨w.heap.size,3,none⟩:=by rw [eP,addr_add]
 show st w5 (((na w).add 3).add 0) _ _
 rw [e2]
 refine ⟨bf5.ok (by simp),aT ?_⟩
 generalize w5.setCell ⟨w.heap.size,3,none⟩ (.slice ak t.n ck)=w6 at bs5 os5
 have bf6:Blk w6 w.heap.size (o7 f ⟨ab,nb,cb⟩ ⟨ak,t.n,ck⟩).toArray pF:=bs5
 have no:∀ {k:Nat},w.heap.size+1<k→∀ b,b+1=k→¬ (b+1=w.heap.size+1):=fun h b h1 h2=>by omega
 have bz6:=bz5.mod os5 (fun hk=>by have hk':w1.heap.size+1=w.heap.size+1:=hk; omega)
 have rb6:=rb5.mod os5 (fun k hk hk2=>by have hk':k+1=w.heap.size+1:=hk2; omega)
 have rkl:=Row.le rk
 have rk6:au 5 O9 tB' w6 ak t.n ck lk gk:=au.mod rk os5 (fun k hk hk2=>by have hk':k+1=w.heap.size+1:=hk2; omega)
 have hz6:=os5.size
 have fr6:From w.heap.size w w6:=From.then (From.aA fr4 hk5) os5 fun k _ hk=>by have hk':k+1=w.heap.size+1:=hk; omega
 have hA6:AtL w6 (na w) (o7 f ⟨ab,nb,cb⟩ ⟨ak,t.n,ck⟩):=by simpa using AtL.blk (b:=w) bf6
 have hlz:=hbk.lt
 refine ⟨_,_,_,hA6 3 _ rfl,?_⟩
 refine Exists.intro (t.n+1) (Xr (F:=F) (wB:=w) (w1:=w6) (kf:=w.heap.size) (kz:=w1.heap.size) (gb:=gb) (g:=gk) (sb:=⟨ab,nb,cb⟩) (sk:=⟨ak,t.n,ck⟩) hF fr6 bf6 bz6 (by omega) (by omega) (by omega) rb6 (by omega) (by omega) (by omega) (by omega) (by omega) (by omega) hsm t.n 0 w6 lk (by show 0+t.n=t.n; omega) (Mod.refl _) rk6 hlk fun j y hj=>⟨fun h=>by omega,fun _=>?_⟩)
 exact BIn.mod (hxk y (List.mem_of_getElem? hj)) os5 fun b hb hk=>by have hk':b+1=w.heap.size+1:=hk; have:=hF b hb; omega
end
end Go.Mir
set_option maxRecDepth 100000
namespace Go.Mir
open Go Go.E Go.RowKit Go.Tr Go.Ss Go.ChangeShapes
section
variable {w w0 u w1 wB x:World} {a a0 a1 a4:OA} {n c n0 c0 n1 c1 n4 c4 g m:Nat} {F F' S:Nat→Prop} {p q:Addr} {B:Nat} {R:VP} {f:fZ} {s t:SH}
abbrev OwC (B:Nat) (g:Nat) (w:World) (x:CD):Prop:=LsI (fun b=>B≤b∧b<w.heap.size∧b+1≠g) w x.2.a x.2.n x.2.c x.1.aI
structure XT (B:Nat) (w:World) (a:OA) (n c:Nat) (xs:List dU) (g:Nat):Prop where
 row:∃ l:List CD,au 5 OW tC' w a n c l g∧l.map (·.1)=xs∧∀ x∈l,OwC B g w x
 gB:g=0∨B<g
theorem XT.ls {xs:List dU} (h:XT B w a n c xs g):Ls tC (fun b=>B≤b∧b<w.heap.size) w a n c xs:=by
 obtain ⟨l,h1,h2,h3⟩:=h.row
 have:=h.gB
 rw [← h2]
 exact lsC h1 (fun b hb=>⟨by omega,by have:=Row.le h1; omega⟩) fun x hx=>(h3 x hx).mono fun b hb=>⟨hb.1,hb.2.1⟩
theorem S59:dV Go.Proofs.Try.prog 45 tI' 1 8:=sliceT (by kernel_rfl)
theorem XE {xs:List dU} (hs:Ls tC F w a1 n1 c1 xs) (hF:∀ b,F b→b<w.heap.size) (hm:BF xs):∀ (k i:Nat) (u:World) (a:OA) (n c g:Nat),i+k=n1→n=i→Kept w u→XT w.heap.size u a n c (xs.take i) g →
  WG.l8 (fun v u=>∃ a' n' c',v = .slice a' n' c'∧Ls tC (nwB w u) u a' n' c' xs∧Kept w u) (k+1) a n c a1 n1 c1 n1 i u:=by
 intro k
 have hl:=hs.len
 have hmx:xs.length≤1073741824:=hm.1
 induction k with
 | zero =>
  intro i u a n c g hi hni hk h
  obtain rfl:i=n1:=by omega
  rw [WG.u8]; unfold WG.g8
  refine ai (by omega) ?_
  have:=h.ls
  rw [List.take_of_length_le (by omega)] at this
  exact ⟨a,n,c,rfl,this,hk⟩
 | succ k ih =>
  intro i u a n c g hi hni hk h
  rw [WG.u8]; unfold WG.g8
  refine aN (by omega) ?_
  refine (hs.kept hk).rdC (by omega) (by omega) fun x a' n' c' hx hcs=>?_
  rw [Int.toNat_natCast] at hx
  have hsm:x.aI.length≤1048576:=hm.2 x (List.mem_of_getElem? hx)
  refine boxS (zs:=(yH 0 none 0 0 0 0 0).toList) (vs:=enC x ⟨a',n',c'⟩) rfl fun u1 hA hb1 hk1=>?_
  have hcl:=hcs.len
  have hz:=hk.size
  have hz1:=hk1.size
  have hb1l:=hb1.lt
  refine ⟨_,_,_,hA 1 _ rfl,?_⟩
  refine Arr.pushes S59 (Arr.nil enI tI' u1) (fun _=>rfl) (hcs.kept hk1).sl (by simp only [maxLen]; omega) (by omega) fun a2 c2 g2 u2 r2 hg2 ho2=>⟨a2,_,c2,rfl,?_⟩
  rw [List.nil_append,Nat.zero_add] at r2
  have hk2:Kept u1 u2:=Mod.kept ho2 fun k hk h=>by have h':k+1=0:=h; omega
  have hb2:=hb1.keep hk2
  have hlt:=hb2.lt
  have bs:=hb2.set 1 (.slice a2 (0+n') c2)
  have os:=Only.set u2 u.heap.size 1 (.slice a2 (0+n') c2)
  have e1:(((na u:Addr).add 1).add 0)=⟨u.heap.size,1,none⟩:=by rw [eP,addr_add]
  show st u2 (((na u).add 1).add 0) _ _
  rw [e1]
  refine ⟨hb2.ok (by simp),aT ?_⟩
  generalize u2.setCell ⟨u.heap.size,1,none⟩ (.slice a2 (0+n') c2)=u3 at bs os
  have hA3:AtL u3 (na u) (enC x ⟨a2,0+n',c2⟩):=by simpa using AtL.blk (b:=u) bs
  obtain ⟨l,q1,q2,q3⟩:=h.row
  have hgB:=h.gB
  have hgl:=Row.le q1
  have hz2:=hk2.size
  have hz3:=os.size
  have no:∀ k,k+1=g→¬ (k+1=u.heap.size+1):=fun k h1 h2=>by omega
  have q1':au 5 OW tC' u3 a n c l g:=au.mod (au.kept q1 (Kept.trans hk1 hk2)) os no
  refine hA3.ldC ?_
  refine au.zO (P:=Go.Proofs.Try.prog) (k:=5) (en:=OW) (ys:=[(x,⟨a2,0+n',c2⟩)]) (m:=1) S53 (fun _=>rfl) (by omega) q1' Nz rfl rfl (by omega) (by simp only [maxLen]; omega) (by omega) fun a5 c5 g5 u5 r5 hg5 _ ho5=>⟨a5,n+1,c5,rfl,WE (by omega) ?_⟩
  have hz5:=ho5.size
  have r2le:=r2.le
  have hku5:Kept w u5:=by
   have h1:From w.heap.size w u3:=From.then (Kept.mod (Kept.trans hk (Kept.trans hk1 hk2))) os fun k _ hk=>by have hk':k+1=u.heap.size+1:=hk; omega
   exact From.kept (From.then h1 ho5 fun k _ hk=>by have hk':k+1=g:=hk; omega)
  refine ih (i+1) u5 a5 (n+1) c5 g5 (by omega) (by omega) hku5 ⟨⟨l++[(x,⟨a2,0+n',c2⟩)],r5,?_,fun y hy=>?_⟩,by omega⟩
  ·rw [List.map_append,q2,List.take_add_one,hx]
   rfl
  ·rcases List.mem_append.1 hy with hy | hy
   ·have h1:=(q3 y hy).kept (Kept.trans hk1 hk2)
    have h2:=h1.mod os fun b hb hk=>by have hk':b+1=u.heap.size+1:=hk; have:=hb.2.1; omega
    have key:∀ b,(w.heap.size≤b∧b<u.heap.size∧b+1≠g)→(w.heap.size≤b∧b<u5.heap.size∧b+1≠g5):=fun b ⟨k1,k2,k3⟩=>⟨k1,by omega,by rcases hg5 with e | e <;> omega⟩
    exact (h2.mod ho5 fun b hb hk=>hb.2.2 hk).mono key
   ·obtain rfl:y=_:=by simpa using hy
    have h1:=(Arr.ls (h1:=fun _=>rfl) r2).mod os fun b hb hk=>by have hb':b+1=g2:=hb; have hk':b+1=u.heap.size+1:=hk; rcases hg2 with e | e <;> omega
    have h2:LsI (fun b=>b+1=g2) u5 a2 n' c2 x.aI:=h1.mod ho5 fun b hb hk=>by have hb':b+1=g2:=hb; have hk':b+1=g:=hk; rcases hg2 with e | e <;> omega
    exact h2.mono fun b hb=>⟨by rcases hg2 with e | e <;> omega,by omega,by rcases hg2 with e | e <;> rcases hg5 with e' | e' <;> omega⟩
theorem Xk {xs:List dU} (hs:Ls tC F w a1 n1 c1 xs) (hF:∀ b,F b→b<w.heap.size) (hm:BF xs):E.CallsD Go.Proofs.Try.prog 43 #[.slice a1 n1 c1] w fun v u=>∃ a' n' c',v = .slice a' n' c'∧Ls tC (nwB w u) u a' n' c' xs∧Kept w u:=by
 refine WG.calls (R:=fun v u=>∃ a' n' c',v = .slice a' n' c'∧Ls tC (nwB w u) u a' n' c' xs∧Kept w u) ?_
 unfold WG WG.g0
 exact Exists.intro (n1+1) (XE hs hF hm n1 0 w none 0 0 0 (by omega) rfl (Kept.refl _) ⟨⟨[],au.nil _ _ _ _,rfl,fun _ h=>by cases h⟩,.inl rfl⟩)
end
end Go.Mir
