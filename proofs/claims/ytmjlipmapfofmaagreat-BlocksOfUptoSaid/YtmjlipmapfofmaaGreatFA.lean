/- Part of a proof of laws of the seat YtmjlipmapfofmaaGreat: functions' weakest preconditions, each checked by the kernel, contracts out of them, plain lemmas; no conditions. -/
import Derived.Test.YtmjlipmapfofmaaGreatKA
import Derived.Test.YtmjlipmapfofmaaGreatED
import Derived.Test.YtmjlipmapfofmaaGreatSA
set_option linter.unusedVariables false
set_option linter.unusedSimpArgs false
set_option linter.unusedSectionVars false
set_option maxRecDepth 100000
namespace Go.Mir
open Go Go.E Go.RowKit Go.Tr
section
variable {w:World} {a a1:OA} {n c n1 c1:Nat} {F F':Nat→Prop}
theorem P7 {x y:dF} (h0:x.thr=y.thr) (h1:x.bH=y.bH) (h2:x.tree=y.tree) (h3:x.frm=y.frm) (h4:x.to=y.to):x=y:=by cases x; cases y; simp_all
theorem OJ {x y:ed} (h0:x.feature=y.feature) (h1:x.numbers=y.numbers) (h2:x.bH=y.bH) (h3:x.lost=y.lost):x=y:=by cases x; cases y; simp_all
theorem OM {x y:lD} (h0:x.first=y.first) (h1:x.leaves=y.leaves) (h2:x.values=y.values) (h3:x.outputs=y.outputs) (h4:x.lists=y.lists):x=y:=by cases x; cases y; simp_all
theorem Jc {x y:fV} (h0:x.features=y.features) (h1:x.outputs=y.outputs) (h2:x.base=y.base) (h3:x.blocks=y.blocks):x=y:=by cases x; cases y; simp_all
abbrev vC (x:dF) (s:SH):Value:=oI x.thr s.a s.n s.c x.tree x.frm x.to
abbrev vL (x:ed) (s t u:SH):Value:=zQ x.feature s.a s.n s.c t.a t.n t.c u.a u.n u.c
abbrev vB (x:lD) (s t u v:SH):Value:=zK x.first s.a s.n s.c t.a t.n t.c u.a u.n u.c v.a v.n v.c
abbrev vF (x:fV) (s t:SH):Value:=jM x.features x.outputs s.a s.n s.c t.a t.n t.c
abbrev vFr (f o:Int) (s t:SH):Value:=jM f o s.a s.n s.c t.a t.n t.c
theorem PG {x y:dF} {s t:SH} (hs:LsI F w s.a s.n s.c x.bH) (ht:LsI F' w t.a t.n t.c y.bH) (hm:x.sm):Pure Go.Proofs.Tryz.prog 83 #[vC x s,vC y t] w (.bool (jh (x=y))):=by
 refine fK.calls (R:=fun v' u=>v'=_∧Below w.heap.size w u) ?_
 unfold fK fK.g0
 refine vG (cs:=(enC x s).toArray) fun w1 hx1 hk1=>vG (cs:=(enC y t).toArray) fun w2 hy hk2=>?_
 have hx:=hx1.kept hk2
 have hk:=Kept.trans hk1 hk2
 have no:x≠y→∀ u,Below w2.heap.size w2 u→(Value.bool false = .bool (jh (x=y))∧Below w.heap.size w u):=fun h u hu=>⟨by rw [bY h],Kept.trans hk hu⟩
 refine ⟨_,hx 0 _ rfl,_,fb _ _,_,hy 0 _ rfl,_,fb _ _,oJ (fun e0=>?_) fun e0=>no fun h=>e0 (by rw [h])⟩
 have hl:=hs.len
 refine ⟨_,_,_,hx 1 _ rfl,_,_,_,hy 1 _ rfl,jh (x.bH=y.bH),fun u hu=>pq (uG ((hs.kept (Kept.trans hk hu)).sl) ((ht.kept (Kept.trans hk hu)).sl) (by have:x.bH.length≤1048576:=hm; omega)) hu,?_⟩
 refine (aH _ _ _).2 ⟨fun e1=>?_,fun e1=>no fun h=>by rw [gm (by rw [h])] at e1; cases e1⟩
 refine ⟨_,hx 2 _ rfl,_,hy 2 _ rfl,oJ (fun e2=>?_) fun e2=>no fun h=>e2 (by rw [h])⟩
 refine ⟨_,hx 3 _ rfl,_,hy 3 _ rfl,oJ (fun e3=>?_) fun e3=>no fun h=>e3 (by rw [h])⟩
 refine ⟨_,hx 4 _ rfl,_,hy 4 _ rfl,fun u hu=>⟨?_,Kept.trans hk hu⟩⟩
 have h1:x.bH=y.bH:=Classical.byContradiction fun h=>by rw [bY h] at e1; cases e1
 by_cases e4:x.to=y.to
 ·rw [gm (P7 (by omega) h1 e2 e3 e4),e4]; simp
 ·rw [bY (fun h=>e4 (by rw [h]))]; simp [e4]
theorem Rj {xs ys:List dF} (hs:Ls tC F w a n c xs) (ht:Ls tC F' w a1 n1 c1 ys) (hm:vX xs):Pure Go.Proofs.Tryz.prog 82 #[.slice a n c,.slice a1 n1 c1,.func (.func 83) #[] #[]] w (.bool (jh (xs=ys))):=by
 refine kE.calls (R:=fun v' u=>v'=_∧Below w.heap.size w u) ?_
 unfold kE kE.g0
 have hl:=hs.len
 have hl2:=ht.len
 have hmx:xs.length≤1073741824:=hm.1
 refine iJ (fun h=>⟨by rw [bY]; intro e; subst e; omega,Below.refl _ _⟩) fun h=>?_
 refine ⟨n+1,eqS (xs:=xs) (ys:=ys) (L:=fun k i w=>kE.l14 _ k a1 n1 c1 a n c n i w) hl (by omega) (W:=Kept w) (T:=fun u=>Value.bool true = .bool (jh (xs=ys))∧Kept w u) (Fl:=fun u=>Value.bool false = .bool (jh (xs=ys))∧Kept w u) ?_ (fun k u hu hT=>?_) (fun e u hu=>⟨by rw [gm e],hu⟩) (fun e u hu=>⟨by rw [bY e],hu⟩) n 0 w (by omega) rfl (Kept.refl w)⟩
 ·intro k i u x y hu hi hx hy hN hF
  rw [kE.u14]; unfold kE.g14
  refine aI (by omega) ?_
  refine (hs.kept hu).rdC (by omega) (by omega) fun x' a' n' c' hx' hcx=>?_
  rw [Int.toNat_natCast] at hx'
  obtain rfl:x=x':=by rw [hx] at hx'; cases hx'; rfl
  refine boxS (zs:=[.float .f64 0,.slice none 0 0,.int .i64 0,.int .i64 0,.int .i64 0]) (vs:=enC x ⟨a',n',c'⟩) rfl fun u1 hA1 _ hk1=>?_
  refine ((ht.kept hu).kept hk1).rdC (by omega) (by omega) fun y' a2 n2 c2 hy' hcy=>?_
  rw [Int.toNat_natCast] at hy'
  obtain rfl:y=y':=by rw [hy] at hy'; cases hy'; rfl
  refine boxS (zs:=[.float .f64 0,.slice none 0 0,.int .i64 0,.int .i64 0,.int .i64 0]) (vs:=enC y ⟨a2,n2,c2⟩) rfl fun u2 hA2 _ hk2=>?_
  refine (hA1.kept hk2).ldC (hA2.ldC ?_)
  exact rP (PG (s:=⟨a',n',c'⟩) (t:=⟨a2,n2,c2⟩) (hcx.kept (Kept.trans hk1 hk2)) (hcy.kept hk2) (hm.2 x (List.mem_of_getElem? hx))) (fun h v hv=>hF h v (Kept.trans (Kept.trans (Kept.trans hu hk1) hk2) hv)) fun h v hv=>aA (by omega) (hN h v (Kept.trans (Kept.trans (Kept.trans hu hk1) hk2) hv))
 ·rw [kE.u14]; unfold kE.g14
  refine az (by omega) ?_
  exact hT
theorem DF {xs ys:List dF} (hs:Ls tC F w a n c xs) (ht:Ls tC F' w a1 n1 c1 ys) (hm:vX xs):Pure Go.Proofs.Tryz.prog 66 #[.slice a n c,.slice a1 n1 c1] w (.bool (jh (xs=ys))):=by
 refine gY.calls (R:=fun v' u=>v'=_∧Below w.heap.size w u) ?_
 unfold gY gY.g0
 exact N9 (Rj hs ht hm) fun u hu=>⟨rfl,hu⟩
theorem LG {x y:ed} {s1 s2 s3 t1 t2 t3:SH} (h1:Ls tC F w s1.a s1.n s1.c x.numbers) (h2:Ls tC F w s2.a s2.n s2.c x.bH) (h3:Ls tC F w s3.a s3.n s3.c x.lost) (g1:Ls tC F' w t1.a t1.n t1.c y.numbers) (g2:Ls tC F' w t2.a t2.n t2.c y.bH) (g3:Ls tC F' w t3.a t3.n t3.c y.lost) (hm:x.sm) :
  Pure Go.Proofs.Tryz.prog 65 #[vL x s1 s2 s3,vL y t1 t2 t3] w (.bool (jh (x=y))):=by
 refine dV.calls (R:=fun v' u=>v'=_∧Below w.heap.size w u) ?_
 unfold dV dV.g0
 refine vG (cs:=(enL x s1 s2 s3).toArray) fun w1 hx1 hk1=>vG (cs:=(enL y t1 t2 t3).toArray) fun w2 hy hk2=>?_
 have hx:=hx1.kept hk2
 have hk:=Kept.trans hk1 hk2
 refine ⟨_,hx 0 _ rfl,_,hy 0 _ rfl,oJ (fun e0=>?_) fun e0=>⟨by rw [bY (fun h=>e0 (by rw [h]))],hk⟩⟩
 refine ⟨_,_,_,hx 1 _ rfl,_,_,_,hy 1 _ rfl,FQ (DF (h1.kept hk) (g1.kept hk) hm.1) (fun e1 u1 hu1=>?_) fun e1 u1 hu1=>⟨by rw [bY (fun h=>e1 (by rw [h]))],Kept.trans hk hu1⟩⟩
 refine ⟨_,_,_,hx.kept hu1 2 _ rfl,_,_,_,hy.kept hu1 2 _ rfl,FQ (DF (h2.kept (Kept.trans hk hu1)) (g2.kept (Kept.trans hk hu1)) hm.2.1) (fun e2 u2 hu2=>?_) fun e2 u2 hu2=>⟨by rw [bY (fun h=>e2 (by rw [h]))],Kept.trans (Kept.trans hk hu1) hu2⟩⟩
 have hk':=Kept.trans (Kept.trans hk hu1) hu2
 refine ⟨_,_,_,hx.kept (Kept.trans hu1 hu2) 3 _ rfl,_,_,_,hy.kept (Kept.trans hu1 hu2) 3 _ rfl,N9 (DF (h3.kept hk') (g3.kept hk') hm.2.2) fun u3 hu3=>⟨?_,Kept.trans hk' hu3⟩⟩
 rw [pX (p:=x.lost=y.lost) (q:=x=y) ⟨fun h=>OJ e0 e1 e2 h,fun h=>by rw [h]⟩]
theorem O8 {xs ys:List ed} (hs:Ls tL F w a n c xs) (ht:Ls tL F' w a1 n1 c1 ys) (hm:n≤1073741824) (hsm:∀ x∈xs,x.sm):Pure Go.Proofs.Tryz.prog 64 #[.slice a n c,.slice a1 n1 c1,.func (.func 65) #[] #[]] w (.bool (jh (xs=ys))):=by
 refine jc.calls (R:=fun v' u=>v'=_∧Below w.heap.size w u) ?_
 unfold jc jc.g0
 have hl:=hs.len
 have hl2:=ht.len
 have hmx:n≤1073741824:=hm
 refine iJ (fun h=>⟨by rw [bY]; intro e; subst e; omega,Below.refl _ _⟩) fun h=>?_
 refine ⟨n+1,eqS (xs:=xs) (ys:=ys) (L:=fun k i w=>jc.l14 _ k a1 n1 c1 a n c n i w) hl (by omega) (W:=Kept w) (T:=fun u=>Value.bool true = .bool (jh (xs=ys))∧Kept w u) (Fl:=fun u=>Value.bool false = .bool (jh (xs=ys))∧Kept w u) ?_ (fun k u hu hT=>?_) (fun e u hu=>⟨by rw [gm e],hu⟩) (fun e u hu=>⟨by rw [bY e],hu⟩) n 0 w (by omega) rfl (Kept.refl w)⟩
 ·intro k i u x y hu hi hx hy hN hF
  rw [jc.u14]; unfold jc.g14
  refine aI (by omega) ?_
  refine (hs.kept hu).rdL (by omega) (by omega) fun x' b1 m1 d1 b2 m2 d2 b3 m3 d3 hx' hx1 hx2 hx3=>?_
  rw [Int.toNat_natCast] at hx'
  obtain rfl:x=x':=by rw [hx] at hx'; cases hx'; rfl
  refine boxS (zs:=[.int .i64 0,.slice none 0 0,.slice none 0 0,.slice none 0 0]) (vs:=enL x ⟨b1,m1,d1⟩ ⟨b2,m2,d2⟩ ⟨b3,m3,d3⟩) rfl fun u1 hA1 _ hk1=>?_
  refine ((ht.kept hu).kept hk1).rdL (by omega) (by omega) fun y' p1 q1 r1 p2 q2 r2 p3 q3 r3 hy' hy1 hy2 hy3=>?_
  rw [Int.toNat_natCast] at hy'
  obtain rfl:y=y':=by rw [hy] at hy'; cases hy'; rfl
  refine boxS (zs:=[.int .i64 0,.slice none 0 0,.slice none 0 0,.slice none 0 0]) (vs:=enL y ⟨p1,q1,r1⟩ ⟨p2,q2,r2⟩ ⟨p3,q3,r3⟩) rfl fun u2 hA2 _ hk2=>?_
  refine (hA1.kept hk2).ldL (hA2.ldL ?_)
  have hk:=Kept.trans hk1 hk2
  exact rP (LG (s1:=⟨b1,m1,d1⟩) (s2:=⟨b2,m2,d2⟩) (s3:=⟨b3,m3,d3⟩) (t1:=⟨p1,q1,r1⟩) (t2:=⟨p2,q2,r2⟩) (t3:=⟨p3,q3,r3⟩) (hx1.kept hk) (hx2.kept hk) (hx3.kept hk) (hy1.kept hk2) (hy2.kept hk2) (hy3.kept hk2) (hsm x (List.mem_of_getElem? hx))) (fun h v hv=>hF h v (Kept.trans (Kept.trans hu hk) hv)) fun h v hv=>aA (by omega) (hN h v (Kept.trans (Kept.trans hu hk) hv))
 ·rw [jc.u14]; unfold jc.g14
  refine az (by omega) ?_
  exact hT
theorem MK {xs ys:List (List Int)} (hs:Ls (vP .i64).sl F w a n c xs) (ht:Ls (vP .i64).sl F' w a1 n1 c1 ys) (hm:n≤1048576) (hsm:∀ x∈xs,x.length≤1048576):Pure Go.Proofs.Tryz.prog 63 #[.slice a n c,.slice a1 n1 c1,.func (.func 60) #[] #[]] w (.bool (jh (xs=ys))):=by
 refine jd.calls (R:=fun v' u=>v'=_∧Below w.heap.size w u) ?_
 unfold jd jd.g0
 have hl:=hs.len
 have hl2:=ht.len
 have hmx:n≤1048576:=hm
 refine iJ (fun h=>⟨by rw [bY]; intro e; subst e; omega,Below.refl _ _⟩) fun h=>?_
 refine ⟨n+1,eqS (xs:=xs) (ys:=ys) (L:=fun k i w=>jd.l14 _ k a1 n1 c1 a n c n i w) hl (by omega) (W:=Kept w) (T:=fun u=>Value.bool true = .bool (jh (xs=ys))∧Kept w u) (Fl:=fun u=>Value.bool false = .bool (jh (xs=ys))∧Kept w u) ?_ (fun k u hu hT=>?_) (fun e u hu=>⟨by rw [gm e],hu⟩) (fun e u hu=>⟨by rw [bY e],hu⟩) n 0 w (by omega) rfl (Kept.refl w)⟩
 ·intro k i u x y hu hi hx hy hN hF
  rw [jd.u14]; unfold jd.g14
  refine aI (by omega) ?_
  refine (hs.kept hu).Ry (by omega) (by omega) fun x' b1 m1 d1 hx' hx1=>?_
  rw [Int.toNat_natCast] at hx'
  obtain rfl:x=x':=by rw [hx] at hx'; cases hx'; rfl
  refine (ht.kept hu).Ry (by omega) (by omega) fun y' p1 q1 r1 hy' hy1=>?_
  rw [Int.toNat_natCast] at hy'
  obtain rfl:y=y':=by rw [hy] at hy'; cases hy'; rfl
  have hxl:=hx1.len
  have:x.length≤1048576:=hsm x (List.mem_of_getElem? hx)
  exact rP (ET hx1.sl hy1.sl (by omega)) (fun h v hv=>hF h v (Kept.trans hu hv)) fun h v hv=>aA (by omega) (hN h v (Kept.trans hu hv))
 ·rw [jd.u14]; unfold jd.g14
  refine az (by omega) ?_
  exact hT
end
end Go.Mir
set_option maxRecDepth 100000
namespace Go.Mir
open Go Go.E Go.RowKit Go.Tr
section
variable {w:World} {a a1:OA} {n c n1 c1:Nat} {F F':Nat→Prop}
theorem QA {x y:lD} {s1 s2 s3 s4 t1 t2 t3 t4:SH} (h1:LsI F w s1.a s1.n s1.c x.leaves) (h2:Ls (vP .i64).sl F w s2.a s2.n s2.c x.values) (h3:LsI F w s3.a s3.n s3.c x.outputs) (h4:Ls tL F w s4.a s4.n s4.c x.lists)
  (g1:LsI F' w t1.a t1.n t1.c y.leaves) (g2:Ls (vP .i64).sl F' w t2.a t2.n t2.c y.values) (g3:LsI F' w t3.a t3.n t3.c y.outputs) (g4:Ls tL F' w t4.a t4.n t4.c y.lists) (hm:x.sm) :
  Pure Go.Proofs.Tryz.prog 62 #[vB x s1 s2 s3 s4,vB y t1 t2 t3 t4] w (.bool (jh (x=y))):=by
 obtain ⟨m1,m2,m2',m3,m4,m4'⟩:=hm
 refine fJ.calls (R:=fun v' u=>v'=_∧Below w.heap.size w u) ?_
 unfold fJ fJ.g0
 refine vG (cs:=(rG x s1 s2 s3 s4).toArray) fun w1 hx1 hk1=>vG (cs:=(rG y t1 t2 t3 t4).toArray) fun w2 hy hk2=>?_
 have hx:=hx1.kept hk2
 have hk:=Kept.trans hk1 hk2
 refine ⟨_,hx 0 _ rfl,_,hy 0 _ rfl,oJ (fun e0=>?_) fun e0=>⟨by rw [bY (fun h=>e0 (by rw [h]))],hk⟩⟩
 refine ⟨_,_,_,hx 1 _ rfl,_,_,_,hy 1 _ rfl,FQ (uG (h1.kept hk).sl (g1.kept hk).sl (by have:=h1.len; omega)) (fun e1 u1 hu1=>?_) fun e1 u1 hu1=>⟨by rw [bY (fun h=>e1 (by rw [h]))],Kept.trans hk hu1⟩⟩
 have hk':=Kept.trans hk hu1
 refine ⟨_,_,_,hx.kept hu1 2 _ rfl,_,_,_,hy.kept hu1 2 _ rfl,FQ (MK (h2.kept hk') (g2.kept hk') (by have:=h2.len; omega) m2') (fun e2 u2 hu2=>?_) fun e2 u2 hu2=>⟨by rw [bY (fun h=>e2 (by rw [h]))],Kept.trans hk' hu2⟩⟩
 have hu12:=Kept.trans hu1 hu2
 have hk2':=Kept.trans hk hu12
 refine ⟨_,_,_,hx.kept hu12 3 _ rfl,_,_,_,hy.kept hu12 3 _ rfl,FQ (uG (h3.kept hk2').sl (g3.kept hk2').sl (by have:=h3.len; omega)) (fun e3 u3 hu3=>?_) fun e3 u3 hu3=>⟨by rw [bY (fun h=>e3 (by rw [h]))],Kept.trans hk2' hu3⟩⟩
 have hu13:=Kept.trans hu12 hu3
 have hk3:=Kept.trans hk hu13
 refine ⟨_,_,_,hx.kept hu13 4 _ rfl,_,_,_,hy.kept hu13 4 _ rfl,N9 (O8 (h4.kept hk3) (g4.kept hk3) (by have:=h4.len; omega) m4') fun u4 hu4=>⟨?_,Kept.trans hk3 hu4⟩⟩
 rw [pX (p:=x.lists=y.lists) (q:=x=y) ⟨fun h=>OM e0 e1 e2 e3 h,fun h=>by rw [h]⟩]
theorem PO {xs ys:List lD} (hs:Ls tB F w a n c xs) (ht:Ls tB F' w a1 n1 c1 ys) (hm:n≤1048576) (hsm:∀ x∈xs,x.sm):Pure Go.Proofs.Tryz.prog 61 #[.slice a n c,.slice a1 n1 c1,.func (.func 62) #[] #[]] w (.bool (jh (xs=ys))):=by
 refine gX.calls (R:=fun v' u=>v'=_∧Below w.heap.size w u) ?_
 unfold gX gX.g0
 have hl:=hs.len
 have hl2:=ht.len
 refine iJ (fun h=>⟨by rw [bY]; intro e; subst e; omega,Below.refl _ _⟩) fun h=>?_
 refine ⟨n+1,eqS (xs:=xs) (ys:=ys) (L:=fun k i w=>gX.l14 _ k a1 n1 c1 a n c n i w) hl (by omega) (W:=Kept w) (T:=fun u=>Value.bool true = .bool (jh (xs=ys))∧Kept w u) (Fl:=fun u=>Value.bool false = .bool (jh (xs=ys))∧Kept w u) ?_ (fun k u hu hT=>?_) (fun e u hu=>⟨by rw [gm e],hu⟩) (fun e u hu=>⟨by rw [bY e],hu⟩) n 0 w (by omega) rfl (Kept.refl w)⟩
 ·intro k i u x y hu hi hx hy hN hF
  rw [gX.u14]; unfold gX.g14
  refine aI (by omega) ?_
  refine (hs.kept hu).rdB (by omega) (by omega) fun x' b1 m1 d1 b2 m2 d2 b3 m3 d3 b4 m4 d4 hx' hx1 hx2 hx3 hx4=>?_
  rw [Int.toNat_natCast] at hx'
  obtain rfl:x=x':=by rw [hx] at hx'; cases hx'; rfl
  refine boxS (zs:=[.int .i64 0,.slice none 0 0,.slice none 0 0,.slice none 0 0,.slice none 0 0]) (vs:=rG x ⟨b1,m1,d1⟩ ⟨b2,m2,d2⟩ ⟨b3,m3,d3⟩ ⟨b4,m4,d4⟩) rfl fun u1 hA1 _ hk1=>?_
  refine ((ht.kept hu).kept hk1).rdB (by omega) (by omega) fun y' p1 q1 r1 p2 q2 r2 p3 q3 r3 p4 q4 r4 hy' hy1 hy2 hy3 hy4=>?_
  rw [Int.toNat_natCast] at hy'
  obtain rfl:y=y':=by rw [hy] at hy'; cases hy'; rfl
  refine boxS (zs:=[.int .i64 0,.slice none 0 0,.slice none 0 0,.slice none 0 0,.slice none 0 0]) (vs:=rG y ⟨p1,q1,r1⟩ ⟨p2,q2,r2⟩ ⟨p3,q3,r3⟩ ⟨p4,q4,r4⟩) rfl fun u2 hA2 _ hk2=>?_
  refine (hA1.kept hk2).ldB (hA2.ldB ?_)
  have hk:=Kept.trans hk1 hk2
  exact rP (QA (s1:=⟨b1,m1,d1⟩) (s2:=⟨b2,m2,d2⟩) (s3:=⟨b3,m3,d3⟩) (s4:=⟨b4,m4,d4⟩) (t1:=⟨p1,q1,r1⟩) (t2:=⟨p2,q2,r2⟩) (t3:=⟨p3,q3,r3⟩) (t4:=⟨p4,q4,r4⟩) (hx1.kept hk) (hx2.kept hk) (hx3.kept hk) (hx4.kept hk) (hy1.kept hk2) (hy2.kept hk2) (hy3.kept hk2) (hy4.kept hk2) (hsm x (List.mem_of_getElem? hx))) (fun h v hv=>hF h v (Kept.trans (Kept.trans hu hk) hv)) fun h v hv=>aA (by omega) (hN h v (Kept.trans (Kept.trans hu hk) hv))
 ·rw [gX.u14]; unfold gX.g14
  refine az (by omega) ?_
  exact hT
theorem Ru {x y:fV} {s t s' t':SH} (hx:lH F w x s t) (hy:lH F' w y s' t'):Pure Go.Proofs.Tryz.prog 39 #[vF x s t,vF y s' t'] w (.bool (jh (x=y))):=by
 refine iq.calls (R:=fun v' u=>v'=_∧Below w.heap.size w u) ?_
 unfold iq iq.g0
 obtain ⟨m1,m2,m3⟩:=hx.sm
 refine vG (cs:=(nG x s t).toArray) fun w1 hA1 hk1=>vG (cs:=(nG y s' t').toArray) fun w2 hB hk2=>?_
 have hA:=hA1.kept hk2
 have hk:=Kept.trans hk1 hk2
 refine ⟨_,hA 0 _ rfl,_,hB 0 _ rfl,oJ (fun e0=>?_) fun e0=>⟨by rw [bY (fun h=>e0 (by rw [h]))],hk⟩⟩
 refine ⟨_,hA 1 _ rfl,_,hB 1 _ rfl,oJ (fun e1=>?_) fun e1=>⟨by rw [bY (fun h=>e1 (by rw [h]))],hk⟩⟩
 refine ⟨_,_,_,hA 2 _ rfl,_,_,_,hB 2 _ rfl,FQ (ET (hx.bs.kept hk).sl (hy.bs.kept hk).sl (by have:=hx.bs.len; omega)) (fun e2 u1 hu1=>?_) fun e2 u1 hu1=>⟨by rw [bY (fun h=>e2 (by rw [h]))],Kept.trans hk hu1⟩⟩
 refine ⟨_,_,_,hA.kept hu1 3 _ rfl,_,_,_,hB.kept hu1 3 _ rfl,N9 (PO (hx.ks.kept (Kept.trans hk hu1)) (hy.ks.kept (Kept.trans hk hu1)) (by have:=hx.ks.len; omega) m3) fun u2 hu2=>⟨?_,Kept.trans (Kept.trans hk hu1) hu2⟩⟩
 rw [pX (p:=x.blocks=y.blocks) (q:=x=y) ⟨fun h=>Jc e0 e1 e2 h,fun h=>by rw [h]⟩]
end
end Go.Mir
set_option maxRecDepth 100000
namespace Go.Mir
open Go Go.E Go.RowKit Go.Tr
section
variable {w:World} {a a1:OA} {n c n1 c1:Nat} {F F':Nat→Prop}
theorem FN {xs ys:List Int} (hs:LsI F w a n c xs) (ht:LsI F' w a1 n1 c1 ys) (hm:n≤1048576):Pure Go.Proofs.Tryz.prog 33 #[.slice a n c,.slice a1 n1 c1] w (.bool (jh (xs=ys))):=by
 refine aJ.calls (R:=fun v' u=>v'=_∧Below w.heap.size w u) ?_
 unfold aJ aJ.g0
 have hl:=hs.len
 have hl2:=ht.len
 refine iJ (fun h=>⟨by rw [bY]; intro e; subst e; omega,Below.refl _ _⟩) fun h=>?_
 refine ⟨n+1,eqS (xs:=xs) (ys:=ys) (L:=fun k i w=>aJ.l14 _ k a n c a1 n1 c1 n i w) hl (by omega) (W:=Kept w) (T:=fun u=>Value.bool true = .bool (jh (xs=ys))∧Kept w u) (Fl:=fun u=>Value.bool false = .bool (jh (xs=ys))∧Kept w u) ?_ (fun k u hu hT=>?_) (fun e u hu=>⟨by rw [gm e],hu⟩) (fun e u hu=>⟨by rw [bY e],hu⟩) n 0 w (by omega) rfl (Kept.refl w)⟩
 ·intro k i u x y hu hi hx hy hN hF
  rw [aJ.u14]; unfold aJ.g14
  refine aI (by omega) ?_
  refine (hs.kept hu).rdI (by omega) (by omega) fun x' hx'=>?_
  rw [Int.toNat_natCast] at hx'
  obtain rfl:x=x':=by rw [hx] at hx'; cases hx'; rfl
  refine (ht.kept hu).rdI (by omega) (by omega) fun y' hy'=>?_
  rw [Int.toNat_natCast] at hy'
  obtain rfl:y=y':=by rw [hy] at hy'; cases hy'; rfl
  exact iJ (fun h=>hF h u hu) fun h=>aA (by omega) (hN h u hu)
 ·rw [aJ.u14]; unfold aJ.g14
  refine az (by omega) ?_
  exact hT
theorem CX {xs ys:List Int} (hs:LsI F w a n c xs) (ht:LsI F' w a1 n1 c1 ys) (hm:n≤1048576):Pure Go.Proofs.Tryz.prog 34 #[.slice a n c,.slice a1 n1 c1] w (.bool (jh (xs=ys))):=by
 rw [← EK]
 exact P8 hs.sl ht.sl (by omega)
theorem pW {xs ys:List dF} (hs:Ls tC F w a n c xs) (ht:Ls tC F' w a1 n1 c1 ys) (hm:vX xs):Pure Go.Proofs.Tryz.prog 58 #[.slice a n c,.slice a1 n1 c1] w (.bool (jh (xs=ys))):=by
 refine aT.calls (R:=fun v' u=>v'=_∧Below w.heap.size w u) ?_
 unfold aT aT.g0
 have hl:=hs.len
 have hl2:=ht.len
 have hmx:xs.length≤1073741824:=hm.1
 refine iJ (fun h=>⟨by rw [bY]; intro e; subst e; omega,Below.refl _ _⟩) fun h=>?_
 refine ⟨n+1,eqS (xs:=xs) (ys:=ys) (L:=fun k i w=>aT.l14 _ k a1 n1 c1 a n c n i w) hl (by omega) (W:=Kept w) (T:=fun u=>Value.bool true = .bool (jh (xs=ys))∧Kept w u) (Fl:=fun u=>Value.bool false = .bool (jh (xs=ys))∧Kept w u) ?_ (fun k u hu hT=>?_) (fun e u hu=>⟨by rw [gm e],hu⟩) (fun e u hu=>⟨by rw [bY e],hu⟩) n 0 w (by omega) rfl (Kept.refl w)⟩
 ·intro k i u x y hu hi hx hy hN hF
  rw [aT.u14]; unfold aT.g14
  refine aI (by omega) ?_
  refine (hs.kept hu).rdC (by omega) (by omega) fun x' a' n' c' hx' hcx=>?_
  rw [Int.toNat_natCast] at hx'
  obtain rfl:x=x':=by rw [hx] at hx'; cases hx'; rfl
  refine boxS (zs:=[.float .f64 0,.slice none 0 0,.int .i64 0,.int .i64 0,.int .i64 0]) (vs:=enC x ⟨a',n',c'⟩) rfl fun u1 hA1 _ hk1=>?_
  refine ((ht.kept hu).kept hk1).rdC (by omega) (by omega) fun y' a2 n2 c2 hy' hcy=>?_
  rw [Int.toNat_natCast] at hy'
  obtain rfl:y=y':=by rw [hy] at hy'; cases hy'; rfl
  refine boxS (zs:=[.float .f64 0,.slice none 0 0,.int .i64 0,.int .i64 0,.int .i64 0]) (vs:=enC y ⟨a2,n2,c2⟩) rfl fun u2 hA2 _ hk2=>?_
  have hA1':=hA1.kept hk2
  have hk:=Kept.trans hk1 hk2
  have no:x≠y→∀ v,Below u2.heap.size u2 v→_:=fun h v hv=>hF h v (Kept.trans (Kept.trans hu hk) hv)
  refine ⟨_,hA1' 0 _ rfl,_,fb _ _,_,hA2 0 _ rfl,_,fb _ _,iJ (fun e0=>no fun h=>e0 (by rw [h])) fun e0=>?_⟩
  have hcl:=hcx.len
  have hsm:x.bH.length≤1048576:=hm.2 x (List.mem_of_getElem? hx)
  refine ⟨_,_,_,hA1' 1 _ rfl,_,_,_,hA2 1 _ rfl,jh (x.bH=y.bH),fun v hv=>pq (CX (n:=n') (hcx.kept (Kept.trans hk hv)) (hcy.kept (Kept.trans hk2 hv)) (by omega)) hv,?_⟩
  refine (aH _ _ _).2 ⟨fun e1=>no fun h=>(by rw [gm (by rw [h])] at e1; cases e1),fun e1=>?_⟩
  refine ⟨_,hA1' 2 _ rfl,_,hA2 2 _ rfl,iJ (fun e2=>no fun h=>e2 (by rw [h])) fun e2=>?_⟩
  refine ⟨_,hA1' 3 _ rfl,_,hA2 3 _ rfl,iJ (fun e3=>no fun h=>e3 (by rw [h])) fun e3=>?_⟩
  refine ⟨_,hA1' 4 _ rfl,_,hA2 4 _ rfl,fun v hv=>iJ (fun e4=>no (fun h=>e4 (by rw [h])) v hv) fun e4=>aA (by omega) ?_⟩
  refine hN (P7 (by omega) (Classical.byContradiction fun h=>by rw [bY h] at e1; cases e1) e2 e3 e4) v (Kept.trans (Kept.trans hu hk) hv)
 ·rw [aT.u14]; unfold aT.g14
  refine az (by omega) ?_
  exact hT
theorem Df {xs ys:List ed} (hs:Ls tL F w a n c xs) (ht:Ls tL F' w a1 n1 c1 ys) (hm:n≤1073741824) (hsm:∀ x∈xs,x.sm):Pure Go.Proofs.Tryz.prog 35 #[.slice a n c,.slice a1 n1 c1] w (.bool (jh (xs=ys))):=by
 refine aK.calls (R:=fun v' u=>v'=_∧Below w.heap.size w u) ?_
 unfold aK aK.g0
 have hl:=hs.len
 have hl2:=ht.len
 refine iJ (fun h=>⟨by rw [bY]; intro e; subst e; omega,Below.refl _ _⟩) fun h=>?_
 refine ⟨n+1,eqS (xs:=xs) (ys:=ys) (L:=fun k i w=>aK.l14 _ k a1 n1 c1 a n c n i w) hl (by omega) (W:=Kept w) (T:=fun u=>Value.bool true = .bool (jh (xs=ys))∧Kept w u) (Fl:=fun u=>Value.bool false = .bool (jh (xs=ys))∧Kept w u) ?_ (fun k u hu hT=>?_) (fun e u hu=>⟨by rw [gm e],hu⟩) (fun e u hu=>⟨by rw [bY e],hu⟩) n 0 w (by omega) rfl (Kept.refl w)⟩
 ·intro k i u x y hu hi hx hy hN hF
  rw [aK.u14]; unfold aK.g14
  refine aI (by omega) ?_
  refine (hs.kept hu).rdL (by omega) (by omega) fun x' b1 m1 d1 b2 m2 d2 b3 m3 d3 hx' hx1 hx2 hx3=>?_
  rw [Int.toNat_natCast] at hx'
  obtain rfl:x=x':=by rw [hx] at hx'; cases hx'; rfl
  refine boxS (zs:=[.int .i64 0,.slice none 0 0,.slice none 0 0,.slice none 0 0]) (vs:=enL x ⟨b1,m1,d1⟩ ⟨b2,m2,d2⟩ ⟨b3,m3,d3⟩) rfl fun u1 hA1 _ hk1=>?_
  refine ((ht.kept hu).kept hk1).rdL (by omega) (by omega) fun y' p1 q1 r1 p2 q2 r2 p3 q3 r3 hy' hy1 hy2 hy3=>?_
  rw [Int.toNat_natCast] at hy'
  obtain rfl:y=y':=by rw [hy] at hy'; cases hy'; rfl
  refine boxS (zs:=[.int .i64 0,.slice none 0 0,.slice none 0 0,.slice none 0 0]) (vs:=enL y ⟨p1,q1,r1⟩ ⟨p2,q2,r2⟩ ⟨p3,q3,r3⟩) rfl fun u2 hA2 _ hk2=>?_
  have hA:=hA1.kept hk2
  have hk:=Kept.trans hk1 hk2
  have hw:=Kept.trans hu hk
  obtain ⟨z1,z2,z3⟩:=hsm x (List.mem_of_getElem? hx)
  refine ⟨_,hA 0 _ rfl,_,hA2 0 _ rfl,iJ (fun e0=>hF (fun h=>e0 (by rw [h])) u2 hw) fun e0=>?_⟩
  refine ⟨_,_,_,hA 1 _ rfl,_,_,_,hA2 1 _ rfl,rP (pW (hx1.kept hk) (hy1.kept hk2) z1) (fun e1 v1 hv1=>hF (fun h=>e1 (by rw [h])) v1 (Kept.trans hw hv1)) fun e1 v1 hv1=>?_⟩
  refine ⟨_,_,_,hA.kept hv1 2 _ rfl,_,_,_,hA2.kept hv1 2 _ rfl,rP (pW (hx2.kept (Kept.trans hk hv1)) (hy2.kept (Kept.trans hk2 hv1)) z2) (fun e2 v2 hv2=>hF (fun h=>e2 (by rw [h])) v2 (Kept.trans (Kept.trans hw hv1) hv2)) fun e2 v2 hv2=>?_⟩
  have hv:=Kept.trans hv1 hv2
  refine ⟨_,_,_,hA.kept hv 3 _ rfl,_,_,_,hA2.kept hv 3 _ rfl,rP (pW (hx3.kept (Kept.trans hk hv)) (hy3.kept (Kept.trans hk2 hv)) z3) (fun e3 v3 hv3=>hF (fun h=>e3 (by rw [h])) v3 (Kept.trans (Kept.trans hw hv) hv3)) fun e3 v3 hv3=>?_⟩
  exact aA (by omega) (hN (OJ e0 e1 e2 e3) v3 (Kept.trans (Kept.trans hw hv) hv3))
 ·rw [aK.u14]; unfold aK.g14
  refine az (by omega) ?_
  exact hT
theorem xX {x y:fV} {s t s' t':SH} (hx:lH F w x s t) (hy:lH F' w y s' t'):Pure Go.Proofs.Tryz.prog 12 #[vF x s t,vF y s' t'] w (.bool (jh (x=y))):=by
 refine aC.calls (R:=fun v' u=>v'=_∧Below w.heap.size w u) ?_
 unfold aC aC.g0
 obtain ⟨M1,M2,M3⟩:=hx.sm
 refine vG (cs:=(nG x s t).toArray) fun w1 hA1 hk1=>vG (cs:=(nG y s' t').toArray) fun w2 hB hk2=>?_
 have hA:=hA1.kept hk2
 have hk:=Kept.trans hk1 hk2
 refine ⟨_,hA 0 _ rfl,_,hB 0 _ rfl,iJ (fun e0=>⟨by rw [bY (fun h=>e0 (by rw [h]))],hk⟩) fun e0=>?_⟩
 refine ⟨_,hA 1 _ rfl,_,hB 1 _ rfl,iJ (fun e1=>⟨by rw [bY (fun h=>e1 (by rw [h]))],hk⟩) fun e1=>?_⟩
 refine ⟨_,_,_,hA 2 _ rfl,_,_,_,hB 2 _ rfl,rP (FN (hx.bs.kept hk) (hy.bs.kept hk) (by have:=hx.bs.len; omega)) (fun e2 u1 hu1=>⟨by rw [bY (fun h=>e2 (by rw [h]))],Kept.trans hk hu1⟩) fun e2 u1 hu1=>?_⟩
 have hks:=hx.ks.kept (Kept.trans hk hu1)
 have hks':=hy.ks.kept (Kept.trans hk hu1)
 have hl:=hks.len
 have hl2:=hks'.len
 refine ⟨_,_,_,hA.kept hu1 3 _ rfl,_,_,_,hB.kept hu1 3 _ rfl,iJ (fun h=>⟨by rw [bY]; intro e; subst e; omega,Kept.trans hk hu1⟩) fun h=>?_⟩
 refine ⟨_,_,_,hA.kept hu1 3 _ rfl,?_⟩
 refine ⟨t.n+1,eqS (xs:=x.blocks) (ys:=y.blocks) (L:=fun k i w=>aC.l14 _ k (some (na w1)) t.a t.n t.c t.n i w) hl (by omega) (W:=Kept u1) (T:=fun u=>Value.bool true = .bool (jh (x=y))∧Kept w u) (Fl:=fun u=>Value.bool false = .bool (jh (x=y))∧Kept w u) ?_ (fun k u hu hT=>?_) (fun e u hu=>⟨by rw [gm (Jc e0 e1 e2 e)],Kept.trans (Kept.trans hk hu1) hu⟩) (fun e u hu=>⟨by rw [bY (fun h=>e (by rw [h]))],Kept.trans (Kept.trans hk hu1) hu⟩) t.n 0 u1 (by omega) rfl (Kept.refl u1)⟩
 ·intro k i u b b' hu hi hxb hyb hN hF
  rw [aC.u14]; unfold aC.g14
  refine aI (by omega) ?_
  refine (hks.kept hu).rdB (by omega) (by omega) fun x' b1 m1 d1 b2 m2 d2 b3 m3 d3 b4 m4 d4 hx' hx1 hx2 hx3 hx4=>?_
  rw [Int.toNat_natCast] at hx'
  obtain rfl:b=x':=by rw [hxb] at hx'; cases hx'; rfl
  refine boxS (zs:=[.int .i64 0,.slice none 0 0,.slice none 0 0,.slice none 0 0,.slice none 0 0]) (vs:=rG b ⟨b1,m1,d1⟩ ⟨b2,m2,d2⟩ ⟨b3,m3,d3⟩ ⟨b4,m4,d4⟩) rfl fun v1 hC1 _ hj1=>?_
  refine ⟨_,_,_,((hB.kept hu1).kept hu).kept hj1 3 _ rfl,?_⟩
  refine ((hks'.kept hu).kept hj1).rdB (by omega) (by omega) fun y' p1 q1 r1 p2 q2 r2 p3 q3 r3 p4 q4 r4 hy' hy1 hy2 hy3 hy4=>?_
  rw [Int.toNat_natCast] at hy'
  obtain rfl:b'=y':=by rw [hyb] at hy'; cases hy'; rfl
  refine boxS (zs:=[.int .i64 0,.slice none 0 0,.slice none 0 0,.slice none 0 0,.slice none 0 0]) (vs:=rG b' ⟨p1,q1,r1⟩ ⟨p2,q2,r2⟩ ⟨p3,q3,r3⟩ ⟨p4,q4,r4⟩) rfl fun v2 hC2 _ hj2=>?_
  have hC:=hC1.kept hj2
  have hj:=Kept.trans hj1 hj2
  have hw:=Kept.trans hu hj
  obtain ⟨z1,z2,z2',z3,z4,z4'⟩   := M3 b (List.mem_of_getElem? hxb)
  refine ⟨_,hC 0 _ rfl,_,hC2 0 _ rfl,iJ (fun e0=>hF (fun h=>e0 (by rw [h])) v2 hw) fun f0=>?_⟩
  refine ⟨_,_,_,hC 1 _ rfl,_,_,_,hC2 1 _ rfl,rP (CX (n:=m1) (hx1.kept hj) (hy1.kept hj2) (by have:=hx1.len; omega)) (fun e1 v3 hv3=>hF (fun h=>e1 (by rw [h])) v3 (Kept.trans hw hv3)) fun f1 v3 hv3=>?_⟩
  have g3:=Kept.trans hj hv3
  have g3':=Kept.trans hj2 hv3
  refine ⟨_,_,_,hC.kept hv3 3 _ rfl,_,_,_,hC2.kept hv3 3 _ rfl,rP (CX (n:=m3) (hx3.kept g3) (hy3.kept g3') (by have:=hx3.len; omega)) (fun e1 v4 hv4=>hF (fun h=>e1 (by rw [h])) v4 (Kept.trans (Kept.trans hw hv3) hv4)) fun f3 v4 hv4=>?_⟩
  have hv34:=Kept.trans hv3 hv4
  have hl3:m2=b.values.length:=hx2.len
  have hl4:q2=b'.values.length:=hy2.len
  refine ⟨_,_,_,hC.kept hv34 2 _ rfl,_,_,_,hC2.kept hv34 2 _ rfl,iJ (fun (e:(m2:Int)≠(q2:Int))=>hF (fun h=>by subst h; omega) v4 (Kept.trans hw hv34)) fun (f2:(m2:Int)=(q2:Int))=>?_⟩
  refine ⟨_,_,_,hC.kept hv34 4 _ rfl,_,_,_,hC2.kept hv34 4 _ rfl,rP (Df (n:=m4) (hx4.kept (Kept.trans hj hv34)) (hy4.kept (Kept.trans hj2 hv34)) (by have:=hx4.len; omega) z4') (fun e1 v5 hv5=>hF (fun h=>e1 (by rw [h])) v5 (Kept.trans (Kept.trans hw hv34) hv5)) fun f4 v5 hv5=>?_⟩
  have hv35:=Kept.trans hv34 hv5
  refine ⟨_,_,_,hC.kept hv35 2 _ rfl,?_⟩
  have hx2':=hx2.kept (Kept.trans hj hv35)
  have hy2':=hy2.kept (Kept.trans hj2 hv35)
  refine ⟨m2+1,eqS (xs:=b.values) (ys:=b'.values) (L:=fun q j w=>aC.l38 _ (aC.l14 _ k) q (some (na w1)) (some (na u)) (some (na v1)) t.a t.n t.c t.n i m2 j w) (by omega) (by omega) (W:=Kept v5) (T:=fun u=>aC.l14 _ k (some (na w1)) t.a t.n t.c t.n ((i+1:Nat):Int) u) (Fl:=fun u=>Value.bool false = .bool (jh (x=y))∧Kept w u) ?_ (fun q u hu hT=>?_) (fun e u' hu'=>hN (OM f0 f1 e f3 f4) u' (Kept.trans (Kept.trans hw hv35) hu')) (fun e u' hu'=>hF (fun h=>e (by rw [h])) u' (Kept.trans (Kept.trans hw hv35) hu')) m2 0 v5 (by omega) rfl (Kept.refl v5)⟩
  ·intro q j u6 x6 y6 hu6 hj6 hx6 hy6 hN6 hF6
   unfold aC.l38 aC.g38
   refine aI (by omega) ?_
   refine bI ?_
   refine ⟨_,_,_,(hC.kept hv35).kept hu6 2 _ rfl,?_⟩
   refine (hx2'.kept hu6).Ry (by omega) (by omega) fun x7 b7 m7 d7 hx7 hs7=>?_
   rw [Int.toNat_natCast] at hx7
   obtain rfl:x6=x7:=by rw [hx6] at hx7; cases hx7; rfl
   refine bI ?_
   refine ⟨_,_,_,(hC2.kept hv35).kept hu6 2 _ rfl,?_⟩
   refine (hy2'.kept hu6).Ry (by omega) (by omega) fun y7 b8 m8 d8 hy7 hs8=>?_
   rw [Int.toNat_natCast] at hy7
   obtain rfl:y6=y7:=by rw [hy6] at hy7; cases hy7; rfl
   have hz:x6.length≤1048576:=z2' x6 (List.mem_of_getElem? hx6)
   exact rP (FN hs7 hs8 (by have:=hs7.len; omega)) (fun h v hv=>hF6 h v (Kept.trans hu6 hv)) fun h v hv=>aA (by omega) (hN6 h v (Kept.trans hu6 hv))
  ·unfold aC.l38 aC.g38
   refine az (by omega) ?_
   exact aA (by omega) hT
 ·rw [aC.u14]; unfold aC.g14
  refine az (by omega) ?_
  exact hT
end
end Go.Mir
set_option maxRecDepth 100000
namespace Go.Mir
open Go Go.E Go.RowKit Go.Tr Go.Ss
section
variable {w:World} {a a1:OA} {n c n1 c1:Nat} {F F':Nat→Prop} {p:Addr}
def CE (z:Nat):Int:=if iG z=true then 18437736874454810625 else if Int.fdiv (z:Int) (2 ^ (min (63:Int).toNat 64))=0 then IntKind.u64.wrap (9218868437227405312+z) else IntKind.u64.wrap (9218868437227405312 - Kt .andNot .u64 z 9223372036854775808)
theorem VT (z:Nat):Pure Go.Proofs.Tryz.prog 74 #[.float .f64 z] w (.int .u64 (CE z)):=by
 refine jl.calls (R:=fun v' u=>v'=_∧Below w.heap.size w u) ?_
 unfold jl jl.g0
 refine ⟨_,fb _ _,(aH _ _ _).2 ⟨fun h=>⟨by unfold CE; rw [if_pos (show iG z=true from h)],Below.refl _ _⟩,fun h=>nC rfl ?_⟩⟩
 have hn:¬ iG z=true:=by intro h'; rw [show (FloatKind.f64.format.order z z != some .eq)=iG z from rfl,h'] at h; cases h
 refine oJ (fun e=>nC rfl ⟨by unfold CE; rw [if_neg hn,if_pos e],Below.refl _ _⟩) fun e=>nC rfl (nC rfl ⟨by unfold CE; rw [if_neg hn,if_neg e],Below.refl _ _⟩)
def Ld (x y:Int):Int:=if x<y then -1 else if x>y then 1 else 0
theorem Ew (x y:Int):decide (Ld x y<0)=decide (x<y):=by
 unfold Ld
 by_cases h:x<y
 ·simp [h]
 ·by_cases h2:x>y
  ·simp [h,h2]
  ·simp [h,h2]
theorem DV (x:Int):Pure Go.Proofs.Tryz.prog 102 #[.int .u64 x] w (.bool false):=by
 refine fG.calls (R:=fun v' u=>v'=_∧Below w.heap.size w u) ?_
 unfold fG fG.g0
 exact ⟨by simp,Below.refl _ _⟩
theorem Ea (x:Int):Pure Go.Proofs.Tryz.prog 104 #[.int .i64 x] w (.bool false):=by
 refine cmp_isNaN_int.calls (R:=fun v' u=>v'=_∧Below w.heap.size w u) ?_
 unfold cmp_isNaN_int cmp_isNaN_int.g0
 exact ⟨by simp,Below.refl _ _⟩
theorem D6 (x y:Int):Pure Go.Proofs.Tryz.prog 91 #[.int .u64 x,.int .u64 y] w (.int .i64 (Ld x y)):=by
 refine dW.calls (R:=fun v' u=>v'=_∧Below w.heap.size w u) ?_
 unfold dW dW.g0
 refine E.CallsD.mono (DV x) fun v u ⟨hv,hk⟩=>⟨_,hv,E.CallsD.mono (DV y) fun v' u' ⟨hv',hk'⟩=>⟨_,hv',?_⟩⟩
 have hkk:=Kept.trans hk hk'
 refine DR (DR ((aH _ _ _).2 ⟨fun h=>⟨by unfold Ld; rw [if_pos (by simpa using h)],hkk⟩,fun h=>(aH _ _ _).2 ⟨fun h2=>⟨by unfold Ld; rw [if_neg (by simpa using h),if_pos (by simpa using h2)],hkk⟩,fun h2=>⟨by unfold Ld; rw [if_neg (by simpa using h),if_neg (by simpa using h2)],hkk⟩⟩⟩))
theorem Dh (x y:Int):Pure Go.Proofs.Tryz.prog 94 #[.int .i64 x,.int .i64 y] w (.int .i64 (Ld x y)):=by
 refine cmp_Compare_int.calls (R:=fun v' u=>v'=_∧Below w.heap.size w u) ?_
 unfold cmp_Compare_int cmp_Compare_int.g0
 refine E.CallsD.mono (Ea x) fun v u ⟨hv,hk⟩=>⟨_,hv,E.CallsD.mono (Ea y) fun v' u' ⟨hv',hk'⟩=>⟨_,hv',?_⟩⟩
 have hkk:=Kept.trans hk hk'
 refine DR (DR ((aH _ _ _).2 ⟨fun h=>⟨by unfold Ld; rw [if_pos (by simpa using h)],hkk⟩,fun h=>(aH _ _ _).2 ⟨fun h2=>⟨by unfold Ld; rw [if_neg (by simpa using h),if_pos (by simpa using h2)],hkk⟩,fun h2=>⟨by unfold Ld; rw [if_neg (by simpa using h),if_neg (by simpa using h2)],hkk⟩⟩⟩))
def ltC (x y:tK):Bool:=decide (CE x.thr<CE y.thr)
def ltL (x y:sH):Bool:=decide (x.feature<y.feature)
theorem Tf (x:tK):Pure Go.Proofs.Tryz.prog 73 #[wS x] w (.int .u64 (CE x.thr)):=by
 refine iV.calls (R:=fun v' u=>v'=_∧Below w.heap.size w u) ?_
 unfold iV iV.g0
 refine vG (cs:=(kX x).toArray) fun w1 hA hk=>⟨_,hA 0 _ rfl,E.CallsD.mono (VT x.thr) fun v u ⟨hv,hu⟩=>⟨_,hv,rfl,Kept.trans hk hu⟩⟩
theorem Si (x:sH):Pure Go.Proofs.Tryz.prog 76 #[ql x] w (.int .i64 x.feature):=by
 refine iR.calls (R:=fun v' u=>v'=_∧Below w.heap.size w u) ?_
 unfold iR iR.g0
 exact vG (cs:=(fZ x).toArray) fun w1 hA hk=>⟨_,hA 0 _ rfl,rfl,hk⟩
theorem Rw (hp:w.cell? p=some (.func (.func 73) #[] #[])) (x y:tK):E.CallsD Go.Proofs.Tryz.prog 90 #[wS x,wS y,.pointer (some p)] w fun v u=>∃ r:Int,v = .int .i64 r∧decide (r<0)=ltC x y∧Kept w u:=by
 refine gJ.calls (R:=fun v u=>∃ r:Int,v = .int .i64 r∧decide (r<0)=ltC x y∧Kept w u) ?_
 unfold gJ gJ.g0
 refine vG (cs:=(kX x).toArray) fun w1 hA hk1=>vG (cs:=(kX y).toArray) fun w2 hB hk2=>?_
 have hA':=hA.kept hk2
 have hk:=Kept.trans hk1 hk2
 refine ⟨_,BX hk hp,⟨_,hA' 0 _ rfl,_,_,_,hA' 1 _ rfl,_,hA' 2 _ rfl,_,hA' 3 _ rfl,_,hA' 4 _ rfl,⟨_,fun u hu=>pq (Tf x) hu,?_⟩⟩⟩
 refine ⟨_,BX hk hp,⟨_,hB 0 _ rfl,_,_,_,hB 1 _ rfl,_,hB 2 _ rfl,_,hB 3 _ rfl,_,hB 4 _ rfl,⟨_,fun u hu=>pq (Tf y) hu,?_⟩⟩⟩
 exact ⟨_,fun u hu=>pq (D6 (CE x.thr) (CE y.thr)) hu,fun u hu=>⟨_,rfl,Ew _ _,Kept.trans hk hu⟩⟩
theorem Oj (hp:w.cell? p=some (.func (.func 76) #[] #[])) (x y:sH):E.CallsD Go.Proofs.Tryz.prog 93 #[ql x,ql y,.pointer (some p)] w fun v u=>∃ r:Int,v = .int .i64 r∧decide (r<0)=ltL x y∧Kept w u:=by
 refine fH.calls (R:=fun v u=>∃ r:Int,v = .int .i64 r∧decide (r<0)=ltL x y∧Kept w u) ?_
 unfold fH fH.g0
 refine vG (cs:=(fZ x).toArray) fun w1 hA hk1=>vG (cs:=(fZ y).toArray) fun w2 hB hk2=>?_
 have hA':=hA.kept hk2
 have hk:=Kept.trans hk1 hk2
 refine ⟨_,BX hk hp,⟨_,hA' 0 _ rfl,_,_,_,hA' 1 _ rfl,_,_,_,hA' 2 _ rfl,_,_,_,hA' 3 _ rfl,⟨_,fun u hu=>pq (Si x) hu,?_⟩⟩⟩
 refine ⟨_,BX hk hp,⟨_,hB 0 _ rfl,_,_,_,hB 1 _ rfl,_,_,_,hB 2 _ rfl,_,_,_,hB 3 _ rfl,⟨_,fun u hu=>pq (Si y) hu,?_⟩⟩⟩
 exact ⟨_,fun u hu=>pq (Dh x.feature y.feature) hu,fun u hu=>⟨_,rfl,Ew _ _,Kept.trans hk hu⟩⟩
theorem wkC:Wk ltC:=Em fun x:tK=>CE x.thr
theorem wkL:Wk ltL:=Em fun x:sH=>x.feature
theorem BZ {g:Nat} {xs:List tK} (hs:n≤1152921504606846975) (h:aO 5 kX 76 w a n c xs g):E.CallsD Go.Proofs.Tryz.prog 72 #[.slice a n c,.func (.func 73) #[] #[]] w fun v u=>v = .tuple #[]∧aO 5 kX 76 u a n c (sorted ltC xs) g∧Only g w u:=by
 refine iT.calls (R:=fun v u=>v = .tuple #[]∧aO 5 kX 76 u a n c (sorted ltC xs) g∧Only g w u) ?_
 unfold iT iT.g0
 refine vG fun w1 hA hk=>?_
 have hp:w1.cell? (na w)=some (.func (.func 73) #[] #[]):=by have:=hA 0 _ rfl; rwa [add_zero] at this
 have hg:g≤w.heap.size:=Row.le h
 refine E.CallsD.mono (Gt (p:=na w) (lt:=ltC) (X:=fun u=>u.cell? (na w)=some (.func (.func 73) #[] #[])) (G:=fun _=>True) wkC hs (fun u v hu ho=>ho.cell (fun hk=>by have hk':(na w).block+1=g:=hk; have:(na w).block=w.heap.size:=rfl; omega) hu) (fun u x y hx _ _=>Rw hx x y) (h.kept hk) hp (fun _ _=>trivial) (R:=fun v u=>v = .tuple #[]∧aO 5 kX 76 u a n c (sorted ltC xs) g∧Only g w u) fun u h1 _ h3=>⟨rfl,h1,(Kept.mod (S:=fun k=>k+1=g) hk).trans h3 (fun _ _ h=>h) (fun _ _ h=>h)⟩) fun v u h=>⟨h.1,rfl,h.2⟩
theorem zy {g:Nat} {xs:List sH} (hs:n≤1152921504606846975) (h:aO 4 fZ 74 w a n c xs g):E.CallsD Go.Proofs.Tryz.prog 75 #[.slice a n c,.func (.func 76) #[] #[]] w fun v u=>v = .tuple #[]∧aO 4 fZ 74 u a n c (sorted ltL xs) g∧Only g w u:=by
 refine iC.calls (R:=fun v u=>v = .tuple #[]∧aO 4 fZ 74 u a n c (sorted ltL xs) g∧Only g w u) ?_
 unfold iC iC.g0
 refine vG fun w1 hA hk=>?_
 have hp:w1.cell? (na w)=some (.func (.func 76) #[] #[]):=by have:=hA 0 _ rfl; rwa [add_zero] at this
 have hg:g≤w.heap.size:=Row.le h
 refine E.CallsD.mono (DK (p:=na w) (lt:=ltL) (X:=fun u=>u.cell? (na w)=some (.func (.func 76) #[] #[])) (G:=fun _=>True) wkL hs (fun u v hu ho=>ho.cell (fun hk=>by have hk':(na w).block+1=g:=hk; have:(na w).block=w.heap.size:=rfl; omega) hu) (fun u x y hx _ _=>Oj hx x y) (h.kept hk) hp (fun _ _=>trivial) (R:=fun v u=>v = .tuple #[]∧aO 4 fZ 74 u a n c (sorted ltL xs) g∧Only g w u) fun u h1 _ h3=>⟨rfl,h1,(Kept.mod (S:=fun k=>k+1=g) hk).trans h3 (fun _ _ h=>h) (fun _ _ h=>h)⟩) fun v u h=>⟨h.1,rfl,h.2⟩
end
end Go.Mir
set_option maxRecDepth 100000
namespace Go.Mir
open Go Go.E Go.RowKit Go.Tr Go.Ss Go.ChangeShapes
abbrev tI':Nat:=3
abbrev tC':Nat:=76
abbrev tL':Nat:=74
abbrev rX:=HOK tI' tC' tL'
abbrev RS:=ROK tI' tC'
section
variable {w u:World} {a a1:OA} {n c n1 c1:Nat} {F F' S:Nat→Prop} {p:Addr} {B:Nat}
theorem tu {e size g:Nat} {cs:List Value} (h:Row w e size a n c cs g) (hm:Only g w u):CK (rO a w) u:=by
 rcases h.2 with ⟨h0,rfl,_⟩ | ⟨b,cur,h1,rfl,_⟩
 ·exact fun ad v hc=>hm.cell (fun hk=>by have hk':ad.block+1=g:=hk; omega) hc
 ·exact CK.hide (hm.weak fun k _ hk=>by have hk':k+1=g:=hk; show k=b; omega)
theorem zT {e size g:Nat} {cs:List Value} {v:Value} (h:Row w e size a n c cs g) (hb:p.block+1≠g) (hc:w.cell? p=some v):(rO a w).cell? p=some v:=by
 rcases h.2 with ⟨h0,rfl,_⟩ | ⟨b,cur,h1,rfl,_⟩
 ·exact hc
 ·exact JV hc (fun h=>hb (by rw [h1,h]))
theorem VR:fE Go.Proofs.Tryz.prog 53 tI' 1 8:=sliceT (by kernel_rfl)
theorem Xw:fE Go.Proofs.Tryz.prog 72 tC' 5 56:=sliceT (by kernel_rfl)
theorem WZ:fE Go.Proofs.Tryz.prog 64 tL' 4 80:=sliceT (by kernel_rfl)
theorem Nz {x:dF} {s:SH} (hs:LsI F w s.a s.n s.c x.bH) (hm:x.sm):E.CallsD Go.Proofs.Tryz.prog 71 #[vC x s] w fun v u=>∃ s':SH,v=vC x s'∧COK tI' w.heap.size u (x,s')∧Kept w u:=by
 refine gG.calls (R:=fun v u=>∃ s':SH,v=vC x s'∧COK tI' w.heap.size u (x,s')∧Kept w u) ?_
 unfold gG gG.g0
 have hl:=hs.len
 have hm':x.bH.length≤1048576:=hm
 refine bU (bU ?_)
 have b0:=Blk.new w (enC x s).toArray tC'
 have k1:=Kept.new w (.cells (enC x s).toArray tC')
 generalize hw1:w.alloc (.cells (enC x s).toArray tC')=w1 at b0 k1
 have hsz:w1.heap.size=w.heap.size+1:=by rw [← hw1]; simp
 have z0:=Blk.new w1 #[.float .f64 0,.slice none 0 0,.int .i64 0,.int .i64 0,.int .i64 0] tC'
 have k2:=Kept.new w1 (.cells #[.float .f64 0,.slice none 0 0,.int .i64 0,.int .i64 0,.int .i64 0] tC')
 generalize hw2:w1.alloc (.cells #[.float .f64 0,.slice none 0 0,.int .i64 0,.int .i64 0,.int .i64 0] tC')=w2 at z0 k2
 have b1:=b0.keep k2
 have k:=Kept.trans k1 k2
 have hA:AtL w2 (na w) (enC x s):=by simpa using AtL.blk (b:=w) b1
 refine ⟨_,_,_,hA 1 _ rfl,Arr.pushes (P:=Go.Proofs.Tryz.prog) (en:=eI) (e:=tI') VR (Arr.nil _ _ _) (fun _=>rfl) (hs.kept k).sl (by show 0+s.n≤maxLen; simp only [maxLen]; omega) (by omega) fun a' c' g' u ha hg ho=>⟨_,_,_,rfl,?_⟩⟩
 have hku:Kept w2 u:=Mod.kept (S:=fun k=>k+1=0) ho (fun k _ h=>by have h':k+1=0:=h; omega)
 have b2:=b1.keep hku
 have z1:=z0.keep hku
 have kw:=Kept.trans k hku
 rw [fQ,addr_add,Nat.add_zero]
 refine ⟨b2.ok (by simp),bU ?_⟩
 have b3:Blk (u.setCell ⟨w.heap.size,1,none⟩ (.slice a' (0+s.n) c')) w.heap.size (enC x ⟨a',0+s.n,c'⟩).toArray tC':=b2.set 1 (.slice a' (0+s.n) c')
 have ho3:=Only.set u w.heap.size 1 (.slice a' (0+s.n) c')
 have z3:=z1.mod ho3 (fun hk=>by have hk':w1.heap.size+1=w.heap.size+1:=hk; omega)
 generalize u.setCell ⟨w.heap.size,1,none⟩ (.slice a' (0+s.n) c')=u3 at b3 ho3 z3
 have hA3:AtL u3 (na w) (enC x ⟨a',0+s.n,c'⟩):=by simpa using AtL.blk (b:=w) b3
 refine hA3.ldC ?_
 refine wrA (vs:=enC x ⟨a',0+s.n,c'⟩) z3 rfl fun u4 b4 ho4=>?_
 have hA4:AtL u4 (na w1) (enC x ⟨a',0+s.n,c'⟩):=by simpa using AtL.blk (b:=w1) b4
 refine hA4.ldC ?_
 have hfr:From w.heap.size w u4:=((Kept.mod (S:=fun k=>w.heap.size≤k) kw).trans ho3 (U:=fun k=>w.heap.size≤k) (fun _ _ h=>h) (fun k _ h=>by have h':k+1=w.heap.size+1:=h; show w.heap.size≤k; omega)).trans ho4 (fun _ _ h=>h) (fun k _ h=>by have h':k+1=w1.heap.size+1:=h; show w.heap.size≤k; omega)
 refine ⟨⟨a',0+s.n,c'⟩,rfl,⟨g',?_,?_⟩,From.kept hfr⟩
 ·have hsz2:w2.heap.size=w1.heap.size+1:=by rw [← hw2]; simp
  rw [List.nil_append] at ha
  refine (ha.mod ho3 fun k hk hS=>?_).mod ho4 fun k hk hS=>?_
  ·have hS':k+1=w.heap.size+1:=hS; omega
  ·have hS':k+1=w1.heap.size+1:=hS; omega
 ·have hsz2:w2.heap.size=w1.heap.size+1:=by rw [← hw2]; simp
  omega
end
end Go.Mir
set_option maxRecDepth 100000
namespace Go.Mir
open Go Go.E Go.RowKit Go.Tr Go.Ss Go.ChangeShapes
section
variable {w u:World} {a a1:OA} {n c n1 c1:Nat} {F F' S:Nat→Prop} {p q:Addr} {B mb i j:Nat} {H:List HE} {x:HE} {r:RC}
theorem Jz:tC'≠tL':=by decide
theorem Ik:tI'≠tC':=by decide
theorem Qe:tI'≠tL':=by decide
theorem uH (x:CD):(lX x).length=5:=rfl
theorem zL (x:CD):∀ v∈lX x,v.oneCell'=true:=by
 intro v hv
 simp only [lX,enC,List.mem_cons,List.not_mem_nil,or_false] at hv
 rcases hv with h | h | h | h | h <;> subst h <;> rfl
theorem Uj (hH:rX B w mb H) (hx:x∈H) (hr:RS B w r):x.p+1≠r.2.2:=fun hk=>by
 obtain ⟨cur,hb⟩:=hr.blk hk
 exact Jz (hb.ne (hH.box x hx).1)
theorem Ro (hH:rX B w mb H) (hx:x∈H) (hr:x.rs[j]?=some r):w.cell? ⟨x.p,j+1,none⟩=some r.1.v:=by
 rw [(hH.box x hx).1.cell]
 simp [HE.cells,List.getElem?_map,hr]
theorem addRow (hH:rX B w mb H) (hB:B≤w.heap.size) (hx:H[i]?=some x) (hr:x.rs[j]?=some r) {cu:dF} {s:SH} (hq:AtL w q (enC cu s)) (hqr:q.block+1≠r.2.2) (hs:LsI F w s.a s.n s.c cu.bH) (hm:cu.sm) (hlen:r.2.1.length≤1073741824) {K:World→Prop}
  (hk:∀ r' u,r'.2.1.map (·.1)=r.2.1.map (·.1)++[cu]→rX B u mb (H.set i { x with rs:=x.rs.set j r' })→Mod (fun k=>k+1=r.2.2∨k=x.p) w u→K u) :
  ∃ wm:World,CK wm w∧(cL wm ((⟨x.p,0,none⟩:Addr).add (j+1)) fun a n c=>ldC wm q fun z a1 n1 c1 x2 x3 x4=>E.CallsD Go.Proofs.Tryz.prog 71 #[oI z a1 n1 c1 x2 x3 x4] w fun v u=>∃ z a1 n1 c1 x2 x3 x4,v=oI z a1 n1 c1 x2 x3 x4∧(CK wm u ∧
   (nw (u.alloc (.cells (oG z a1 n1 c1 x2 x3 x4) 76)) fun w1=>CK wm w1∧(dm Go.Proofs.Tryz.prog (Builtin.append_ #[72,72] 72 #[.slice a n c,.slice (some (na u)) 1 1]) w1 fun v2 u2=>∃ a2 n2 c2,v2 = .slice a2 n2 c2 ∧
    (CK wm u2∧st u2 (((⟨x.p,0,none⟩:Addr).add (j+1)).add 0) (.slice a2 n2 c2) K))))):=by
 have hxm:=List.mem_of_getElem? hx
 have hrok:=hH.row x hxm r (List.mem_of_getElem? hr)
 have hn:=hrok.1.len uH (by omega)
 have hpg:=Uj hH hxm hrok
 refine ⟨rO r.1.a w,tu hrok.1 (Mod.refl _),?_⟩
 refine ⟨_,_,_,zT hrok.1 (by rw [add_block]; exact hpg) (by rw [addr_add,Nat.zero_add]; exact Ro hH hxm hr),?_⟩
 have hq':AtL (rO r.1.a w) q (enC cu s):=fun k v hk=>zT hrok.1 (by rw [add_block]; exact hqr) (hq k v hk)
 refine hq'.ldC ?_
 refine E.CallsD.mono (Nz hs hm) fun v u ⟨s',hv,hC,hk1⟩=>⟨_,_,_,_,_,_,_,hv,tu hrok.1 (Kept.mod hk1),bU ⟨tu hrok.1 (Kept.mod (Kept.trans hk1 (Kept.new u _))),?_⟩⟩
 refine aO.oz (P:=Go.Proofs.Tryz.prog) (ys:=[((cu,s'):CD)]) (m:=1) Xw uH (by omega) (hrok.1.kept hk1) zL rfl rfl (by omega) (by simp only [maxLen]; omega) (by omega) fun a' c' g' u2 hrow hg _ ho=>?_
 have hm2:Only r.2.2 w u2:=(Kept.mod (S:=fun k=>k+1=r.2.2) hk1).trans ho (fun _ _ h=>h) (fun _ _ h=>h)
 have tI:∀ k cur,Blk w k cur tI'→¬ (k+1=r.2.2):=fun k cur hb hk=>by
  obtain ⟨cur',hb'⟩:=hrok.blk hk
  exact Ik (hb.ne hb')
 have tIu:∀ k cur,Blk u k cur tI'→¬ (k+1=r.2.2):=fun k cur hb hk=>by
  obtain ⟨cur',hb'⟩:=(hrok.kept hk1).blk hk
  exact Ik (hb.ne hb')
 have hsz:=hk1.size
 have hr':RS B u2 (⟨a',r.1.n+1,c'⟩,r.2.1++[(cu,s')],g'):=by
  refine ⟨hrow,by have:=hrok.2.1; show g'=0∨B<g'; omega,fun y hy=>?_⟩
  rcases List.mem_append.1 hy with hy | hy
  ·exact (hrok.2.2 y hy).mod hm2 tI
  ·obtain rfl:y=(cu,s'):=by simpa using hy
   obtain ⟨g,h1,h2⟩:=hC.mod ho tIu
   exact ⟨g,h1,by omega⟩
 refine ⟨_,_,_,rfl,tu hrok.1 hm2,?_⟩
 obtain ⟨hok,hH',hon⟩:=hH.grow Ik Qe Jz hx hr hm2 hr' (by show g'=r.2.2∨w.heap.size<g'; omega)
 rw [addr_add,addr_add,Nat.zero_add,Nat.add_zero]
 exact ⟨hok,bU (hk _ _ (by simp) hH' (hm2.trans hon (fun _ _ h => .inl h) (fun k _ h => .inr (by have h':k+1=x.p+1:=h; omega))))⟩
end
end Go.Mir
set_option maxRecDepth 100000
namespace Go.Mir
open Go Go.E Go.RowKit Go.Tr Go.Ss Go.ChangeShapes
def uo (x:ND) (c:dF) (e:ed):ed :=
 let e1:=if x.kind=3 then { e with bH:=e.bH++[c] } else { e with numbers:=e.numbers++[c] }
 if x.missing=2 then { e1 with lost:=e1.lost++[c] } else e1
def vK (f:Int) (L:List ed):List ed:=if f∈L.map ed.feature then L else L++[⟨f,[],[],[]⟩]
def nI (L:List ed) (p:ND×dF):List ed:=(vK p.1.feature L).map fun e=>if e.feature=p.1.feature then uo p.1 p.2 e else e
def qA (k:Nat) (nodes:List ND) (m:MkD):Option (ND×dF):=(nodes[m.node.toNat]?).map fun x=>(x,⟨x.thr,x.bH,(k:Int),m.frm,m.to⟩)
noncomputable def qJ (k:Nat) (nodes:List ND):List (ND×dF):=(gV nodes).filterMap (qA k nodes)
noncomputable def dZ:List TD→Nat→List (ND×dF)
 | [],_=>[]
 | t::ts,k=>qJ k t.nodes++dZ ts (k+1)
def HY (h:HE) (k:Nat):List dF:=((h.rs[k]?).getD sS).2.1.map (·.1)
def dHE (h:HE):ed:=⟨h.f,HY h 0,HY h 1,HY h 2⟩
theorem map_set {L:List ed} {i:Nat} {e:ed} {f:Int} (g:ed→ed) (hn:(L.map ed.feature).Nodup) (he:L[i]?=some e) (hf:e.feature=f):L.set i (g e)=L.map fun e=>if e.feature=f then g e else e:=by
 apply List.ext_getElem?
 intro q
 rw [List.getElem?_set,List.getElem?_map]
 split
 ·rename_i h; subst h
  rw [if_pos (List.getElem?_eq_some_iff.1 he).1,he]
  simp [hf]
 ·rename_i hq
  cases hy:L[q]? with
  | none=>rfl
  | some y =>
   have:y.feature≠f:=fun h=>hq (by
    have h1:=(List.getElem?_eq_some_iff.1 he).1
    have h2:=(List.getElem?_eq_some_iff.1 hy).1
    refine kz hn (by simpa using h1) (by simpa using h2) ?_
    simp only [List.getElem_map]
    rw [(List.getElem?_eq_some_iff.1 he).2,(List.getElem?_eq_some_iff.1 hy).2,hf,h])
   simp [this]
section
variable {w u:World} {a a1:OA} {n c n1 c1:Nat} {F F' S:Nat→Prop} {p q:Addr} {B mb i j:Nat} {H:List HE} {x:HE} {r:RC}
def Tch (w u:World):Prop:=∀ b cur e,Blk w b cur e→e≠tC'→e≠tL'→Blk u b cur e
theorem Tch.refl (w:World):Tch w w:=fun _ _ _ h _ _=>h
theorem Tch.trans {v:World} (h:Tch w u) (k:Tch u v):Tch w v:=fun b cur e hb h1 h2=>k b cur e (h b cur e hb h1 h2) h1 h2
theorem Tch.kept (h:Kept w u):Tch w u:=fun b cur e hb _ _=>hb.keep h
theorem Tch.row {e size g:Nat} {cs:List Value} (h:Tch w u) (hr:Row w e size a n c cs g) (h1:e≠tC') (h2:e≠tL'):Row u e size a n c cs g:=by
 refine ⟨hr.1,?_⟩
 rcases hr.2 with h0 | ⟨b,cur,e0,ha,hb,h3⟩
 ·exact .inl h0
 ·exact .inr ⟨b,cur,e0,ha,h b cur e hb h1 h2,h3⟩
theorem KO (hH:rX B w mb H) (hx:x∈H) (hr:RS B w r) (hm:Mod (fun k=>k+1=r.2.2∨k=x.p) w u):Tch w u:=fun b cur e hb h1 h2=>hb.mod hm fun hk=>by
 rcases hk with hk | hk
 ·obtain ⟨cur',hb'⟩:=hr.blk hk; exact h1 (hb.ne hb')
 ·subst hk; exact h2 (hb.ne (hH.box x hx).1)
theorem Eu (hH:rX B w mb H) (hx:x∈H) (hr:RS B w r) (hm:Mod (fun k=>k+1=r.2.2∨k=x.p) w u):From B w u:=hm.weak fun k _ hk=>by
 have:=(hH.box x hx).2.1
 have:=hr.2.1
 show B≤k
 rcases hk with hk | hk <;> omega
def Lens (N:Nat) (H:List HE):Prop:=∀ x∈H,∀ r∈x.rs,r.2.1.length≤N
theorem Lens.mono {N M:Nat} (h:Lens N H) (hn:N≤M):Lens M H:=fun x hx r hr=>Nat.le_trans (h x hx r hr) hn
theorem Lens.set {N:Nat} (h:Lens N H) (hx:H[i]?=some x) {r':RC} (hr':r'.2.1.length≤N):Lens N (H.set i { x with rs:=x.rs.set j r' }):=fun y hy s hs=>by
 rcases mem_set hy with rfl | ⟨q,_,hq⟩
 ·rcases mem_set hs with rfl | ⟨l,_,hl⟩
  ·exact hr'
  ·exact h x (List.mem_of_getElem? hx) s (List.mem_of_getElem? hl)
 ·exact h y (List.mem_of_getElem? hq) s hs
theorem F6 (h3:x.rs.length=3) {r':RC}:dHE { x with rs:=x.rs.set 0 r' }={ dHE x with numbers:=r'.2.1.map (·.1) }:=by
 unfold dHE HY
 simp [List.getElem?_set,h3]
theorem NY (h3:x.rs.length=3) {r':RC}:dHE { x with rs:=x.rs.set 1 r' }={ dHE x with bH:=r'.2.1.map (·.1) }:=by
 unfold dHE HY
 simp [List.getElem?_set,h3]
theorem NL (h3:x.rs.length=3) {r':RC}:dHE { x with rs:=x.rs.set 2 r' }={ dHE x with lost:=r'.2.1.map (·.1) }:=by
 unfold dHE HY
 simp [List.getElem?_set,h3]
theorem pR (h3:x.rs.length=3) {k:Nat} (hk:k<3):∃ r,x.rs[k]?=some r∧r∈x.rs∧HY x k=r.2.1.map (·.1):=by
 refine ⟨x.rs[k]'(by omega),List.getElem?_eq_getElem (by omega),List.getElem_mem _,?_⟩
 unfold HY
 rw [List.getElem?_eq_getElem (by omega)]
 rfl
abbrev tM':Nat:=135
abbrev tN':Nat:=56
variable {nd:ND} {m:MkD} {k0:Nat} {pm pn:Nat} {N:Nat}
theorem SI {R:VP} {b34:bJ.T34} {m7:Option Nat} {p9 a27 a39:OA} {n27 c27 n39 c39:Nat} {x28 x29 x40:Int} {jx:Nat} (hjx:jx<1048576)
  (hH:rX B w mb H) (hB:B≤w.heap.size) (hx:H[i]?=some x) (bn:Blk w pn (enN nd a n c).toArray tN') {cu:dF} (hq:AtL w p (enC cu ⟨a,n,c⟩)) (hqr:∀ r,x.rs[2]?=some r→p.block+1≠r.2.2) (hs:LsI F w a n c cu.bH) (hm:cu.sm) (hl:Lens N H) (hN:N≤1073741824)
  (hk:∀ H' u,rX B u mb H'→H'.map dHE=(H.map dHE).set i (if nd.missing=2 then { dHE x with lost:=(dHE x).lost++[cu] } else dHE x)→Tch w u→From B w u→Lens (N+1) H'→b34 m7 k0 p9 a27 n27 c27 x28 x29 a39 n39 c39 x40 ((jx+1:Nat):Int) u) :
  bJ.g65 R b34 m7 k0 p9 (some ⟨pn,0,none⟩) (some ⟨x.p,0,none⟩) (some p) a27 n27 c27 x28 x29 a39 n39 c39 x40 jx w:=by
 unfold bJ.g65
 have hxm:=List.mem_of_getElem? hx
 have h3:=(hH.box x hxm).2.2
 refine bI ⟨nd.missing,by rw [addr_add,Nat.zero_add,bn.cell]; rfl,oJ (fun e2=>?_) fun e2=>aA (by omega) ?_⟩
 ·obtain ⟨r,hr,hrm,hrd⟩:=pR (x:=x) h3 (k:=2) (by omega)
  have K0:∀ (r':RC) u,r'.2.1.map (·.1)=r.2.1.map (·.1)++[cu]→rX B u mb (H.set i { x with rs:=x.rs.set 2 r' })→Mod (fun k=>k+1=r.2.2∨k=x.p) w u→inc (jx:Int) fun t=>b34 m7 k0 p9 a27 n27 c27 x28 x29 a39 n39 c39 x40 t u:=by
   intro r' u hd hH' hmod
   refine aA (by omega) (hk _ u hH' ?_ (KO hH hxm (hH.row x hxm r hrm) hmod) (Eu hH hxm (hH.row x hxm r hrm) hmod) ((hl.mono (by omega)).set hx ?_))
   ·rw [List.map_set,NL h3,hd,if_pos e2]
    unfold dHE
    simp [hrd]
   ·have h1:=congrArg List.length hd
    simp at h1
    have h2:=hl x hxm r hrm
    omega
  exact addRow hH hB hx hr hq (hqr r hr) hs hm (by have:=hl x hxm r hrm; omega) K0
 ·refine hk H w hH ?_ (Tch.refl w) (From.refl B w) (hl.mono (by omega))
  rw [if_neg e2]
  apply List.ext_getElem?
  intro q
  rw [List.getElem?_set]
  split
  ·rename_i h; subst h
   rw [List.length_map,if_pos (List.getElem?_eq_some_iff.1 hx).1,List.getElem?_map,hx]; rfl
  ·rfl
theorem tJ {α β:Type} {f:α→β} {l:List α} {i:Nat} {x:α} (h:l[i]?=some x):(l.map f)[i]?=some (f x):=by rw [List.getElem?_map,h]; rfl
theorem Vw {R:VP} {b18:bJ.T18} {b34:bJ.T34} {m7:Option Nat} {p9 a27 a39:OA} {n27 c27 n39 c39:Nat} {x28 x29 x40:Int} {jx:Nat} (hjx:jx<1048576)
  (hH:rX B w mb H) (hB:B≤w.heap.size) (hx:H[i]?=some x) (bm:Blk w pm (enM m).toArray tM') (bn:Blk w pn (enN nd a n c).toArray tN') (hs:LsI F w a n c nd.bH) (hF:∀ b,F b→b<B) (hm:nd.bH.length≤1048576) (hl:Lens N H) (hN:N≤1073741800)
  (hk:∀ H' u,rX B u mb H'→H'.map dHE=(H.map dHE).set i (uo nd ⟨nd.thr,nd.bH,k0,m.frm,m.to⟩ (dHE x))→Tch w u→From B w u→Lens (N+2) H'→b34 m7 k0 p9 a27 n27 c27 x28 x29 a39 n39 c39 x40 ((jx+1:Nat):Int) u) :
  bJ.j57 R b18 b34 m7 k0 p9 (some ⟨pm,0,none⟩) (some ⟨pn,0,none⟩) (some ⟨x.p,0,none⟩) a27 n27 c27 x28 x29 a39 n39 c39 x40 jx w:=by
 unfold bJ.j57 bJ.g57
 have hxm:=List.mem_of_getElem? hx
 have h3:=(hH.box x hxm).2.2
 have cn:∀ {k:Nat} {v:Value} {w:World},Blk w pn (enN nd a n c).toArray tN'→(enN nd a n c)[k]?=some v→w.cell? ((⟨pn,0,none⟩:Addr).add k)=some v:=fun h hv=>by rw [addr_add,Nat.zero_add,h.cell]; simpa using hv
 have cm:∀ {k:Nat} {v:Value},(enM m)[k]?=some v→w.cell? ((⟨pm,0,none⟩:Addr).add k)=some v:=fun hv=>by rw [addr_add,Nat.zero_add,bm.cell]; simpa using hv
 refine bI ⟨_,cn bn rfl,bI ⟨_,_,_,cn bn rfl,bI ⟨_,cm rfl,bI ⟨_,cm rfl,?_⟩⟩⟩⟩
 refine boxS (zs:=[.float .f64 0,.slice none 0 0,.int .i64 0,.int .i64 0,.int .i64 0]) (vs:=enC ⟨nd.thr,nd.bH,k0,m.frm,m.to⟩ ⟨a,n,c⟩) (e:=tC') rfl fun w1 hA bA hk1=>?_
 have hH1:=hH.kept hk1
 have hsz:B≤w1.heap.size:=Nat.le_trans hB hk1.size
 have bn1:=bn.keep hk1
 have gle:∀ r∈x.rs,r.2.2≤w.heap.size:=fun r hr=>Row.le (hH.row x hxm r hr).1
 have apart:∀ r∈x.rs,(na w).block+1≠r.2.2:=fun r hr h=>by have:=gle r hr; have e:(na w).block=w.heap.size:=rfl; omega
 have fin:∀ (j:Nat) (r r':RC) (u:World) (y:ed),j<2→x.rs[j]?=some r→r'.2.1.map (·.1)=r.2.1.map (·.1)++[(⟨nd.thr,nd.bH,k0,m.frm,m.to⟩:dF)]→dHE { x with rs:=x.rs.set j r' }=y→(if nd.missing=2 then { y with lost:=y.lost++[(⟨nd.thr,nd.bH,k0,m.frm,m.to⟩:dF)] } else y)=uo nd ⟨nd.thr,nd.bH,k0,m.frm,m.to⟩ (dHE x) →
   rX B u mb (H.set i { x with rs:=x.rs.set j r' })→Mod (fun k=>k+1=r.2.2∨k=x.p) w1 u→bJ.j65 R b18 b34 m7 k0 p9 (some ⟨pn,0,none⟩) (some ⟨x.p,0,none⟩) (some (na w)) a27 n27 c27 x28 x29 a39 n39 c39 x40 jx u:=by
  intro j r r' u y hj2 hr hd hy hupd hH' hmod
  have hrm:=List.mem_of_getElem? hr
  have hrok:=hH1.row x hxm r hrm
  have tch:=KO hH1 hxm hrok hmod
  have fr:=Eu hH1 hxm hrok hmod
  have hil:=(List.getElem?_eq_some_iff.1 hx).1
  have hx':(H.set i { x with rs:=x.rs.set j r' })[i]?=some { x with rs:=x.rs.set j r' }:=by rw [List.getElem?_set,if_pos rfl,if_pos hil]
  have hAu:AtL u (na w) (enC (⟨nd.thr,nd.bH,k0,m.frm,m.to⟩:dF) ⟨a,n,c⟩):=hA.mod hmod fun hk=>by
   rcases hk with hk | hk
   ·exact apart r hrm hk
   ·have:=(hH.box x hxm).1.lt
    have e:(na w).block=w.heap.size:=rfl
    omega
  have hsu:LsI F u a n c nd.bH:=(hs.kept hk1).mod fr fun b hb hBb=>by have:=hF b hb; have h':B≤b:=hBb; omega
  unfold bJ.j65
  refine SI (x:={ x with rs:=x.rs.set j r' }) (i:=i) hjx hH' (Nat.le_trans hsz hmod.size) hx' (tch _ _ _ bn1 (by decide) (by decide)) hAu (fun r2 hr2=>?_) hsu hm (Lens.set (N:=N+1) (hl.mono (by omega)) hx ?_) (by omega) fun H' v hH2 hd2 tch2 fr2 hl2=>?_
  ·have:x.rs[2]?=some r2:=by
    rw [List.getElem?_set,if_neg (by omega)] at hr2
    exact hr2
   exact apart r2 (List.mem_of_getElem? this)
  ·have h1:=congrArg List.length hd
   simp at h1
   have h2:=hl x hxm r hrm
   omega
  ·refine hk H' v hH2 ?_ ((Tch.kept hk1).trans (tch.trans tch2)) ?_ hl2
   ·rw [hd2,hy,hupd,List.map_set,List.set_set]
   ·exact ((Kept.mod (S:=fun k=>B≤k) hk1).trans fr (fun _ _ h=>h) (fun _ _ h=>h)).trans fr2 (fun _ _ h=>h) (fun _ _ h=>h)
 refine ⟨_,cn bn1 rfl,oJ (fun e3=>?_) fun e3=>?_⟩
 ·obtain ⟨r,hr,hrm,hrd⟩:=pR (x:=x) h3 (k:=1) (by omega)
  refine addRow hH1 hsz hx hr hA (apart r hrm) (hs.kept hk1) hm (by have:=hl x hxm r hrm; omega) fun r' u hd hH' hmod=>fin 1 r r' u _ (by omega) hr hd (NY h3) ?_ hH' hmod
  unfold uo
  rw [if_pos e3,hd]
  unfold dHE
  simp [hrd]
 ·obtain ⟨r,hr,hrm,hrd⟩:=pR (x:=x) h3 (k:=0) (by omega)
  refine addRow hH1 hsz hx hr hA (apart r hrm) (hs.kept hk1) hm (by have:=hl x hxm r hrm; omega) fun r' u hd hH' hmod=>fin 0 r r' u _ (by omega) hr hd (F6 h3) ?_ hH' hmod
  unfold uo
  rw [if_neg e3,hd]
  unfold dHE
  simp [hrd]
end
end Go.Mir
set_option maxRecDepth 100000
namespace Go.Mir
open Go Go.E Go.RowKit Go.Tr Go.Ss Go.ChangeShapes
section
variable {w u:World} {a a1:OA} {n c n1 c1:Nat} {F F' S:Nat→Prop} {p q:Addr} {B mb i j:Nat} {H:List HE} {x:HE} {r:RC} {ms:List MkD} {nodes:List ND}
theorem t130:(Go.Proofs.Tryz.prog).underlying 130=some (.map 3 93):=by kernel_rfl
theorem PD:LP Go.Proofs.Tryz.prog 3 (enK .i64):=TT (by kernel_rfl)
theorem Xf (w:World):(zeroValue 93).run Go.Proofs.Tryz.prog w = .ok (.pointer none) w:=by kernel_rfl
theorem oC (hH:rX B w mb H):(H.map HE.f).Nodup:=by
 have:=hH.map.nodup PD
 rw [List.map_map] at this
 exact this
theorem Qc (hH:rX B w mb H) {f:Int} {v:Value} (h:lh (H.map HE.kv) f=some v):∃ (i:Nat) (x:HE),H[i]?=some x∧x.f=f∧v = .pointer (some ⟨x.p,0,none⟩):=by
 obtain ⟨x,hx,he⟩:=List.mem_map.1 (NK h)
 obtain ⟨i,hi⟩:=List.getElem?_of_mem hx
 cases he
 exact ⟨i,x,hi,rfl,rfl⟩
theorem NJ {f:Int} (h:lh (H.map HE.kv) f=none):f∉H.map HE.f:=by
 have:=Bl.1 h
 rw [List.map_map] at this
 exact this
theorem qK (H:List HE):(H.map dHE).map ed.feature=H.map HE.f:=by rw [List.map_map]; rfl
theorem Wh (h:SlK 3 enM w a n ms) {i:Int} {K:Int→Int→Int→Prop} (h0:0≤i) (hi:i<n) (hk:∀ m,ms[i.toNat]?=some m→K m.node m.frm m.to) :
  ix a n i fun q=>cI w ((q.add (i.toNat*3)).add 0) .i64 fun x0=>cI w ((q.add (i.toNat*3)).add 1) .i64 fun x1=>cI w ((q.add (i.toNat*3)).add 2) .i64 fun x2=>K x0 x1 x2:=by
 have hi':i.toNat<n:=by omega
 refine h.read hi' fun p hp=>dJ ⟨h0,hi⟩ ⟨_,?_,_,?_,_,?_,hk _ (List.getElem?_eq_getElem (h.len ▸ hi'))⟩
 ·rw [add_add]; exact hp 0 _ rfl
 ·rw [add_add]; exact hp 1 _ rfl
 ·rw [add_add]; exact hp 2 _ rfl
abbrev tT':Nat:=50
theorem DU {R:VP} {b18:bJ.T18} {k0:Nat} {a27:OA} {n27 c27:Nat} {x28 x29 o:Int} {pt g0:Nat} {w0:World} {L0:List ed} {N:Nat} (hN:N+2*ms.length≤1073741700) (hms:ms.length≤4096) (hn:n=ms.length)
  (bt:Blk w0 pt #[.int .i64 o,.slice a1 n1 c1] tT') (hnodes:Ls tN F w0 a1 n1 c1 nodes) (hF:∀ b,F b→b<B) (hin:∀ m∈ms,∃ (i:Nat) (x:ND),m.node=(i:Int)∧nodes[i]?=some x) (hsh:Short 1048576 nodes) (hmk:aO 3 enM tM' w0 a n c ms g0)
  (hfin:∀ H' u,rX B u mb H'→H'.map dHE=(ms.filterMap (qA k0 nodes)).foldl nI L0→Tch w0 u→From B w0 u→Lens (N+2*ms.length) H'→inc x29 fun t=>b18 (some mb) a27 n27 c27 x28 t u) :
  ∀ (k j:Nat) (w:World) (H:List HE),j+k=n→rX B w mb H→B≤w.heap.size→H.map dHE=((ms.take j).filterMap (qA k0 nodes)).foldl nI L0→Tch w0 w→From B w0 w→Lens (N+2*j) H →
   bJ.l34 R b18 (k+1) (some mb) k0 (some ⟨pt,0,none⟩) a27 n27 c27 x28 x29 a n c n j w
 | 0,j,w,H,hj,hH,hB,hd,ht,hf,hl=>by
  unfold bJ.l34 bJ.g34
  refine az (by omega) ?_
  obtain rfl:j=ms.length:=by omega
  rw [List.take_length] at hd
  exact hfin H w hH hd ht hf hl
 | k+1,j,w,H,hj,hH,hB,hd,ht,hf,hl=>by
  unfold bJ.l34 bJ.g34
  refine aI (by omega) ?_
  have hmk':aO 3 enM tM' w a n c ms g0:=ht.row hmk (by decide) (by decide)
  refine Wh (hmk'.slk su (by omega)) (by omega) (by omega) fun m hm=>?_
  rw [Int.toNat_natCast] at hm
  refine boxS (zs:=[.int .i64 0,.int .i64 0,.int .i64 0]) (vs:=enM m) (e:=tM') rfl fun w1 hAm bm hk1=>?_
  have bt1:=(ht _ _ _ bt (by decide) (by decide)).keep hk1
  refine ⟨_,_,_,show w1.cell? ((⟨pt,0,none⟩:Addr).add 1)=some (.slice a1 n1 c1) by (rw [addr_add,Nat.zero_add,bt1.cell]; rfl),?_⟩
  refine ⟨_,hAm 0 _ rfl,?_⟩
  obtain ⟨q,nd,hq,hnd⟩:=hin m (List.mem_of_getElem? hm)
  have hnodes1:Ls tN F w1 a1 n1 c1 nodes:=((hnodes.mod hf fun b hb hBb=>by have:=hF b hb; have h':B≤b:=hBb; omega)).kept hk1
  have hql:q<n1:=by rw [hnodes1.len]; exact (List.getElem?_eq_some_iff.1 hnd).1
  refine hnodes1.rdN (by omega) (by omega) fun nd' a2 n2 c2 hnd' hcats=>?_
  have hnn:nd'=nd:=by rw [hq,Int.toNat_natCast,hnd] at hnd'; cases hnd'; rfl
  subst hnn
  refine boxS (zs:=[.int .u8 0,.int .i64 0,.int .i64 0,.float .f64 0,.slice none 0 0,.int .u8 0,.int .i64 0,.int .i64 0]) (vs:=enN nd' a2 n2 c2) (e:=tN') rfl fun w2 hAn bn hk2=>?_
  have hk12:=Kept.trans hk1 hk2
  have hH2:=hH.kept hk12
  refine ⟨_,hAn 2 _ rfl,?_⟩
  have hcut:qA k0 nodes m=some (nd',⟨nd'.thr,nd'.bH,k0,m.frm,m.to⟩):=by unfold qA; rw [hq,Int.toNat_natCast,hnd]; rfl
  have hnext:((ms.take (j+1)).filterMap (qA k0 nodes)).foldl nI L0=nI (H.map dHE) (nd',⟨nd'.thr,nd'.bH,k0,m.frm,m.to⟩):=by
   rw [take_snoc hm,List.filterMap_append,List.foldl_append,← hd]
   simp [hcut]
  have go:∀ (H1:List HE) (i:Nat) (x:HE) (u:World),rX B u mb H1→H1[i]?=some x→x.f=nd'.feature→H1.map dHE=vK nd'.feature (H.map dHE)→Tch w2 u→From B w2 u→Lens (N+2*j) H1 →
    bJ.j57 R b18 (bJ.l34 R b18 (k+1)) (some mb) k0 (some ⟨pt,0,none⟩) (some (na w)) (some (na w1)) (some ⟨x.p,0,none⟩) a27 n27 c27 x28 x29 a n c n j u:=by
   intro H1 i x u hH1 hx hxf hens ht1 hf1 hl1
   have hsz:B≤u.heap.size:=Nat.le_trans (Nat.le_trans hB hk12.size) hf1.size
   refine Vw (m:=m) (nd:=nd') (F:=F) (by omega) hH1 hsz hx (ht1 _ _ _ (bm.keep hk2) (by decide) (by decide)) (ht1 _ _ _ bn (by decide) (by decide)) ((hcats.kept hk2).mod hf1 fun b hb hBb=>by have:=hF b hb; have h':B≤b:=hBb; omega) hF (hsh nd' (List.mem_of_getElem? hnd)) hl1 (by omega) fun H' v hH' hd' ht' hf' hl'=>?_
   refine DU hN hms hn bt hnodes hF hin hsh hmk hfin k (j+1) v H' (by omega) hH' (Nat.le_trans hsz hf'.size) ?_ (ht.trans ((Tch.kept hk12).trans (ht1.trans ht'))) ?_ (hl'.mono (by omega))
   ·rw [hnext,hd']
    have hi:=tJ (f:=dHE) hx
    rw [map_set (f:=nd'.feature) (uo nd' ⟨nd'.thr,nd'.bH,k0,m.frm,m.to⟩) (by rw [qK]; exact oC hH1) hi hxf,hens]
    rfl
   ·exact ((hf.trans (Kept.mod (S:=fun _=>False) hk12) (U:=fun k=>B≤k) (fun _ _ h=>h) (fun _ _ h=>h.elim)).trans hf1 (fun _ _ h=>h) (fun _ _ h=>h)).trans hf' (fun _ _ h=>h) (fun _ _ h=>h)
  refine iU.lookup PD t130 Xf hH2.map ?_
  cases hg:lh (H.map HE.kv) nd'.feature with
  | none =>
   have hnf:=NJ hg
   refine ⟨none,rfl,?_⟩
   refine F7 ⟨_,hAn 2 _ rfl,?_⟩
   have b3:Blk (w2.alloc (.cells (uk nd'.feature none 0 0 none 0 0 none 0 0) 74)) w2.heap.size (HE.cells ⟨nd'.feature,w2.heap.size,[sS,sS,sS]⟩).toArray tL':=Blk.new w2 _ _
   have hk3:Kept w2 (w2.alloc (.cells (uk nd'.feature none 0 0 none 0 0 none 0 0) 74)):=Kept.new w2 _
   refine bU ?_
   have hc2:(w2.alloc (.cells (uk nd'.feature none 0 0 none 0 0 none 0 0) 74)).cell? ((na w1).add 2)=some (.int .i64 nd'.feature):=(hAn.kept hk3) 2 _ rfl
   refine Exists.intro nd'.feature (And.intro hc2 ?_)
   have hm3:=hH2.map.kept hk3
   have hh:∀ R,(∀ u,iU (enK .i64) u mb (oP (H.map HE.kv) nd'.feature (.pointer (some (na w2))))→Only (mb+1) (w2.alloc (.cells (uk nd'.feature none 0 0 none 0 0 none 0 0) 74)) u→R undef u)→dm Go.Proofs.Tryz.prog (do Instr.mapUpdate 130 (.map (some mb)) (enK .i64 nd'.feature) (.pointer (some (na w2))); pure undef) (w2.alloc (.cells (uk nd'.feature none 0 0 none 0 0 none 0 0) 74)) R:=fun R hR=>iU.update PD t130 hm3 hR
   refine hh _ fun u hu ho=>?_
   have hnew:=hH2.push (Nat.le_trans hB hk12.size) hnf b3 hk3 hu ho
   refine go (H++[⟨nd'.feature,w2.heap.size,[sS,sS,sS]⟩]) H.length ⟨nd'.feature,w2.heap.size,[sS,sS,sS]⟩ u hnew (by simp) rfl ?_ (fun b cur e hb _ _=>(hb.keep hk3).mod ho fun hk=>?_) ?_ ?_
   ·unfold vK
    rw [if_neg (by rw [qK]; exact hnf),List.map_append]
    rfl
   ·obtain rfl:b=mb:=by have hk':b+1=mb+1:=hk; omega
    exact hH2.map.kQ hb
   ·exact (Kept.mod (S:=fun k=>B≤k) hk3).trans ho (fun _ _ h=>h) (fun k _ hk=>by have hk':k+1=mb+1:=hk; have:=hH.mB; show B≤k; omega)
   ·intro y hy r hr
    rcases List.mem_append.1 hy with hy | hy
    ·exact hl y hy r hr
    ·obtain rfl:=by simpa using hy
     have:r=sS:=by simpa using hr
     subst this
     exact Nat.zero_le _
  | some v =>
   obtain ⟨i,x,hx,hxf,rfl⟩:=Qc hH hg
   refine ⟨_,rfl,DR ?_⟩
   refine go H i x w2 hH2 hx hxf ?_ (Tch.refl w2) (From.refl B w2) hl
   unfold vK
   rw [if_pos (by rw [qK,← hxf]; exact List.mem_map_of_mem (List.mem_of_getElem? hx))]
end
end Go.Mir
set_option maxRecDepth 100000
namespace Go.Mir
open Go Go.E Go.RowKit Go.Tr Go.Ss Go.ChangeShapes
def ltD (x y:dF):Bool:=decide (CE x.thr<CE y.thr)
def ltF (x y:ed):Bool:=decide (x.feature<y.feature)
def xH (e:ed):ed:={ e with numbers:=sorted ltD e.numbers }
noncomputable def jr (ts:List TD):List ed:=sorted ltF (((dZ ts 0).foldl nI []).map xH)
def Sr (x:CD):tK:=⟨x.1.thr,x.2,x.1.tree,x.1.frm,x.1.to⟩
def Ar (h:HE):sH:=⟨h.f,((h.rs[0]?).getD sS).1,((h.rs[1]?).getD sS).1,((h.rs[2]?).getD sS).1⟩
theorem KF (l:List CD):(l.map Sr).flatMap kX=l.flatMap lX:=by
 induction l with
 | nil=>rfl
 | cons x l ih=>rw [List.map_cons,List.flatMap_cons,List.flatMap_cons,ih]; rfl
theorem Dy (l:List CD):sorted ltC (l.map Sr)=(sorted (fun a b=>ltD a.1 b.1) l).map Sr:=kD Sr l
theorem Gf (l:List CD):(sorted (fun a b=>ltD a.1 b.1) l).map (·.1)=sorted ltD (l.map (·.1)):=(kD (fun x:CD=>x.1) l).symm
section
variable {w u:World} {a a1:OA} {n c n1 c1:Nat} {F F' S:Nat→Prop} {p q:Addr} {B mb i j:Nat} {H:List HE} {x:HE} {r:RC}
theorem lM {κ:Type} [DecidableEq κ] {en:κ→Value} {b r:Nat} {L rem:List (κ×Value)} {cs:Array Value} {e:Nat} (h:Rng en w b r L rem) (hb:Blk w r cs e):False:=by
 obtain ⟨es,c,s,se,l,h1,_⟩:=h
 unfold Blk at hb
 rw [h1] at hb
 cases hb
theorem sortRow (hH:rX B w mb H) (hx:H[i]?=some x) (hr:x.rs[0]?=some r) (hl:r.2.1.length≤1073741824) {K:World→Prop}
  (hk:∀ u,rX B u mb (H.set i { x with rs:=x.rs.set 0 (r.1,sorted (fun a b=>ltD a.1 b.1) r.2.1,r.2.2) })→Only r.2.2 w u→K u) :
  E.CallsD Go.Proofs.Tryz.prog 72 #[.slice r.1.a r.1.n r.1.c,.func (.func 73) #[] #[]] w fun v u=>v = .tuple #[]∧K u:=by
 have hrok:=hH.row x (List.mem_of_getElem? hx) r (List.mem_of_getElem? hr)
 have hn:=hrok.1.len uH (by omega)
 have h0:aO 5 kX tC' w r.1.a r.1.n r.1.c (r.2.1.map Sr) r.2.2:=by
  have:=hrok.1
  unfold aO at this ⊢
  rw [KF]
  exact this
 refine E.CallsD.mono (BZ (by omega) h0) fun v u ⟨hv,h1,ho⟩=>⟨hv,hk u (hH.turn Ik Qe Jz hx hr ho ⟨?_,hrok.2.1,fun y hy=>?_⟩ rfl rfl) ho⟩
 ·rw [Dy] at h1
  show aO 5 lX tC' u r.1.a r.1.n r.1.c (sorted (fun a b=>ltD a.1 b.1) r.2.1) r.2.2
  unfold aO at h1 ⊢
  rw [← KF]
  exact h1
 ·have hy':=(sorted_perm _ r.2.1).mem_iff.1 hy
  refine (hrok.2.2 y hy').mod ho fun k cur hb hk=>?_
  obtain ⟨cur',hb'⟩:=hrok.blk hk
  exact Ik (hb.ne hb')
theorem Hg (x:sH):∀ v∈fZ x,v.oneCell'=true:=by
 intro v hv
 simp only [fZ,List.mem_cons,List.not_mem_nil,or_false] at hv
 rcases hv with h | h | h | h <;> subst h <;> rfl
theorem DW (hH:rX B w mb H) (hx:x∈H):AtL w ⟨x.p,0,none⟩ (fZ (Ar x)):=by
 obtain ⟨hb,_,h3⟩:=hH.box x hx
 intro j v hj
 rw [addr_add,Nat.zero_add,hb.cell]
 obtain ⟨r0,e0,_,_⟩:=pR (x:=x) h3 (k:=0) (by omega)
 obtain ⟨r1,e1,_,_⟩:=pR (x:=x) h3 (k:=1) (by omega)
 obtain ⟨r2,e2,_,_⟩:=pR (x:=x) h3 (k:=2) (by omega)
 have:fZ (Ar x)=x.cells:=by
  unfold Ar HE.cells
  rw [e0,e1,e2]
  obtain ⟨f,p,rs⟩:=x
  match rs,h3 with
  | [s0,s1,s2],_=>simp at e0 e1 e2; subst e0; subst e1; subst e2; rfl
 rw [← this]
 simpa using hj
theorem Ue {r':RC} (hx:H[i]?=some x):(H.set i { x with rs:=x.rs.set j r' }).map HE.kv=H.map HE.kv:=by
 rw [List.map_set]
 apply List.ext_getElem?
 intro q
 rw [List.getElem?_set]
 split
 ·rename_i e; subst e; rw [List.length_map,if_pos (List.getElem?_eq_some_iff.1 hx).1,List.getElem?_map,hx]; rfl
 ·rfl
def Part (D:List Int) (H:List HE) (L:List ed):Prop:=H.map dHE=L.map fun e=>if e.feature∈D then xH e else e
theorem wV {D:List Int} {L:List ed} (h:Part D H L):H.map HE.f=L.map ed.feature:=by
 rw [← qK,h,List.map_map]
 refine List.map_congr_left fun e _=>?_
 simp only [Function.comp]
 split <;> rfl
theorem Qj {D:List Int} {L:List ed} (h:Part D H L) (hx:H[i]?=some x):∃ e,L[i]?=some e∧e.feature=x.f∧dHE x=if e.feature∈D then xH e else e:=by
 have h1:=tJ (f:=dHE) hx
 rw [h,List.getElem?_map] at h1
 obtain ⟨e,he,h2⟩:=Option.map_eq_some_iff.1 h1
 refine ⟨e,he,?_,h2.symm⟩
 have:(dHE x).feature=x.f:=rfl
 rw [← this,← h2]
 split <;> rfl
theorem OZ {κ:Type} [DecidableEq κ] {en:κ→Value} {b r:Nat} {L rem:List (κ×Value)} (h:Rng en w b r L rem):b≠r:=by
 obtain ⟨es,c,s,se,l,h1,h2,_⟩:=h
 rintro rfl
 rw [h1] at h2
 cases h2
theorem Gq {g:Nat} (h:Only g w u) (hg:g=0):Kept w u:=Mod.kept (S:=fun k=>k+1=g) h (fun k _ hk=>by have h':k+1=g:=hk; omega)
theorem Jh {e size g:Nat} {cs:List Value} (hH:rX B w mb H) (hr:Row w e size a n c cs g) (he:e=tL') (hgp:∀ y∈H,y.p+1≠g) (ho:Only g w u):rX B u mb H:=by
 subst he
 rcases Nat.eq_zero_or_pos g with h0 | h0
 ·exact hH.kept (Gq ho h0)
 ·obtain ⟨b,hb⟩:∃ b,g=b+1:=⟨g - 1,by omega⟩
  subst hb
  obtain ⟨cur,hblk⟩:=Row.blk hr rfl
  exact hH.apart Qe Jz ho hblk fun y hy e=>hgp y hy (by omega)
theorem Dl {e size g r:Nat} {cs:List Value} {L rem:List (Int×Value)} (hR:Rng (enK .i64) w mb r L rem) (hr:Row w e size a n c cs g) (ho:Only g w u):Rng (enK .i64) u mb r L rem :=
 hR.mod ho (fun hk=>by obtain ⟨cur,hb⟩:=Row.blk hr hk; exact hR.map.kQ hb) fun hk=>by obtain ⟨cur,hb⟩:=Row.blk hr hk; exact lM hR hb
theorem H5 {O:List HE} (hnd:(H.map HE.f).Nodup) (hO:∀ z∈O,z∈H) (hp:(O.map HE.kv).Perm (H.map HE.kv)):O.Perm H:=by
 have inj:∀ x∈H,∀ y∈H,x.f=y.f→x=y:=fun x hx y hy hf=>by
  obtain ⟨i,hi⟩:=List.getElem?_of_mem hx
  obtain ⟨j,hj⟩:=List.getElem?_of_mem hy
  have li:=(List.getElem?_eq_some_iff.1 hi).1
  have lj:=(List.getElem?_eq_some_iff.1 hj).1
  have:i=j:=kz hnd (by simpa using li) (by simpa using lj) (by
   simp only [List.getElem_map]
   rw [(List.getElem?_eq_some_iff.1 hi).2,(List.getElem?_eq_some_iff.1 hj).2,hf])
  subst this
  rw [hi] at hj
  cases hj
  rfl
 have hf:(O.map HE.f).Perm (H.map HE.f):=by
  have:=hp.map (·.1)
  rwa [List.map_map,List.map_map] at this
 have n1:O.Nodup:=kU HE.f (hf.nodup_iff.2 hnd)
 have n2:H.Nodup:=kU HE.f hnd
 refine (List.perm_ext_iff_of_nodup n1 n2).2 fun z=>⟨hO z,fun hz=>?_⟩
 obtain ⟨y,hy,he⟩:=List.mem_map.1 (hp.mem_iff.2 (List.mem_map_of_mem (f:=HE.kv) hz))
 have:y.f=z.f:=congrArg Prod.fst he
 rw [← inj y (hO y hy) z hz this]
 exact hy
theorem FX (h3:x.rs.length=3) (hr:x.rs[0]?=some r):dHE { x with rs:=x.rs.set 0 (r.1,sorted (fun a b=>ltD a.1 b.1) r.2.1,r.2.2) }=xH (dHE x):=by
 rw [F6 h3]
 unfold xH
 have:(dHE x).numbers=r.2.1.map (·.1):=by unfold dHE HY; rw [hr]; rfl
 rw [this,← Gf]
theorem Ku {D:List Int} {L:List ed} {y:HE} (h:Part D H L) (hnd:(L.map ed.feature).Nodup) (hx:H[i]?=some x) (hxD:x.f∉D) (hy:dHE y=xH (dHE x)):Part (D++[x.f]) (H.set i y) L:=by
 obtain ⟨e,he,hf,hd⟩:=Qj h hx
 rw [if_neg (by rw [hf]; exact hxD)] at hd
 unfold Part at h ⊢
 rw [List.map_set,h,hy,hd]
 apply List.ext_getElem?
 intro q
 rw [List.getElem?_set]
 split
 ·rename_i hq; subst hq
  rw [if_pos (by rw [List.length_map]; exact (List.getElem?_eq_some_iff.1 he).1),List.getElem?_map,he]
  simp [hf]
 ·rename_i hq
  rw [List.getElem?_map,List.getElem?_map]
  cases hz:L[q]? with
  | none=>rfl
  | some z =>
   have:z.feature≠x.f:=fun hzf=>hq (kz hnd (by simpa using (List.getElem?_eq_some_iff.1 he).1) (by simpa using (List.getElem?_eq_some_iff.1 hz).1) (by
    simp only [List.getElem_map]
    rw [(List.getElem?_eq_some_iff.1 he).2,(List.getElem?_eq_some_iff.1 hz).2,hf,hzf]))
   simp [this]
theorem Oq {R:VP} {r:Nat} {w0:World} {L0:List ed} {N:Nat} (hN:N≤1073741824) (hL:L0.length≤1073741824) (hnd:(L0.map ed.feature).Nodup)
  (hfin:∀ H' u a n c g,rX B u mb H'→Part (L0.map ed.feature) H' L0→From B w0 u→aO 4 fZ tL' u a n c ((sorted (fun a b=>decide (a.f<b.f)) H').map Ar) g→(g=0∨B<g)→R (.tuple #[.slice a n c,.int .i64 0]) u) :
  ∀ (k:Nat) (w:World) (H:List HE) (rem:List (Int×Value)) (O:List HE) (a:OA) (n c g:Nat),rem.length=k→rX B w mb H→B≤w.heap.size→Rng (enK .i64) w mb r (H.map HE.kv) rem→B≤r→aO 4 fZ tL' w a n c (O.map Ar) g→(g=0∨B<g)→(∀ y∈H,y.p+1≠g) →
   (∀ z∈O,z∈H)→(O.map HE.kv++rem).Perm (H.map HE.kv)→Part (O.map HE.f) H L0→Lens N H→From B w0 w→bJ.l78 R (k+1) a n c (some ⟨r,0,none⟩) w:=by
 intro k
 induction k with
 | zero =>
  intro w H rem O a n c g hk hH hB hrng hr hout hg hgp hO hperm hpart hl hf
  have hrem:rem=[]:=List.eq_nil_of_length_eq_zero hk
  subst hrem
  rw [List.append_nil] at hperm
  have hOH:=H5 (oC hH) hO hperm
  have hn:=aO.len (k:=4) (en:=fZ) (fun _=>rfl) (by omega) hout
  have hHl:H.length=L0.length:=by have:=congrArg List.length (wV hpart); simpa using this
  have hOl:=hOH.length_eq
  rw [List.length_map] at hn
  rw [bJ.u78]; unfold bJ.g78
  refine hrng.next (fun _ => .inl ⟨rfl,?_⟩) (fun u r1 x r2 h=>by simp at h)
  unfold bJ.j81 bJ.g81
  refine DR (E.CallsD.mono (zy (by omega) hout) fun v u ⟨hv,h1,ho⟩=>⟨hv,hfin H u a n c g (Jh hH hout rfl hgp ho) ?_ (hf.trans ho (fun _ _ h=>h) (fun k _ hk=>by have hk':k+1=g:=hk; show B≤k; omega)) ?_ hg⟩)
  ·have hfe:∀ f,f∈O.map HE.f↔f∈L0.map ed.feature:=fun f=>by rw [← wV hpart]; exact (hOH.map HE.f).mem_iff
   unfold Part at hpart ⊢
   rw [hpart]
   refine List.map_congr_left fun e _=>?_
   simp only [hfe]
  ·rw [kD] at h1
   have e:sorted (fun a b=>ltL (Ar a) (Ar b)) O=sorted (fun a b=>decide (a.f<b.f)) H:=Dx (key:=HE.f) hOH ((hOH.map HE.f).nodup_iff.2 (oC hH))
   rw [e] at h1
   exact h1
 | succ k ih =>
  intro w H rem O a n c g hk hH hB hrng hr hout hg hgp hO hperm hpart hl hf
  rw [bJ.u78]; unfold bJ.g78
  refine hrng.next (fun h=>by rw [h] at hk; cases hk) (fun u r1 x r2 hrem hrng' ho hent => .inr ⟨_,_,rfl,?_⟩)
  unfold bJ.j81 bJ.g81
  refine F7 (dm.of hent ⟨_,_,rfl,?_⟩)
  have hxm:x∈H.map HE.kv:=hperm.mem_iff.1 (List.mem_append_right _ (by rw [hrem]; simp))
  obtain ⟨y,hy,hyx⟩:=List.mem_map.1 hxm
  subst hyx
  obtain ⟨i,hi⟩:=List.getElem?_of_mem hy
  have h3:=(hH.box y hy).2.2
  have hne:r≠mb:=Ne.symm (OZ hrng)
  have hu:rX B u mb H:=hH.other ho (fun k cur e hb hk=>by
   have hk':k+1=r+1:=hk
   obtain rfl:k=r:=by omega
   exact lM hrng hb) (fun hk=>hne (by have hk':mb+1=r+1:=hk; omega))
  have hout1:aO 4 fZ tL' u a n c (O.map Ar) g:=hout.mod ho fun k hk hS=>by
   obtain ⟨cur,hb⟩:=Row.blk hout hk
   have hS':k+1=r+1:=hS
   obtain rfl:k=r:=by omega
   exact lM hrng hb
  have hf1:From B w0 u:=hf.trans ho (fun _ _ h=>h) (fun k _ hk=>by have hk':k+1=r+1:=hk; show B≤k; omega)
  obtain ⟨r0,hr0,hr0m,_⟩:=pR (x:=y) h3 (k:=0) (by omega)
  have hcell:=DW hu hy
  show cL u ((⟨y.p,0,none⟩:Addr).add 1) _
  have hc1:u.cell? ((⟨y.p,0,none⟩:Addr).add 1)=some (.slice r0.1.a r0.1.n r0.1.c):=by
   have:=hcell 1 _ rfl
   rw [this]
   simp [Ar,hr0]
  refine ⟨_,_,_,hc1,?_⟩
  refine sortRow hu hi hr0 (by have:=hl y hy r0 hr0m; omega) fun u1 hH1 ho1=>?_
  have hrok:=hu.row y hy r0 hr0m
  have hil:=(List.getElem?_eq_some_iff.1 hi).1
  obtain ⟨y2,hy2⟩:∃ y2:HE,y2={ y with rs:=y.rs.set 0 (r0.1,sorted (fun a b=>ltD a.1 b.1) r0.2.1,r0.2.2) }:=⟨_,rfl⟩
  rw [← hy2] at hH1
  have hi2:(H.set i y2)[i]?=some y2:=by rw [List.getElem?_set,if_pos rfl,if_pos hil]
  have hy2m:=List.mem_of_getElem? hi2
  have hcell2:=DW hH1 hy2m
  have hy2p:y2.p=y.p:=by rw [hy2]
  have hy2f:y2.f=y.f:=by rw [hy2]
  rw [hy2p] at hcell2
  show Go.E.ldL u1 (⟨y.p,0,none⟩:Addr) _
  have hout2:aO 4 fZ tL' u1 a n c (O.map Ar) g:=hout1.mod ho1 fun k hk hS=>by
   obtain ⟨cur,hb⟩:=Row.blk hout1 hk
   obtain ⟨cur',hb'⟩:=hrok.blk hS
   exact Jz (hb'.ne hb)
  refine ⟨_,hcell2 0 _ rfl,_,_,_,hcell2 1 _ rfl,_,_,_,hcell2 2 _ rfl,_,_,_,hcell2 3 _ rfl,?_⟩
  have hn:=aO.len (k:=4) (en:=fZ) (fun _=>rfl) (by omega) hout2
  rw [List.length_map] at hn
  have hHl:H.length=L0.length:=by have:=congrArg List.length (wV hpart); simpa using this
  have hOl:O.length≤H.length:=by have:=hperm.length_eq; simp at this; omega
  have hkv2:(H.set i y2).map HE.kv=H.map HE.kv:=by rw [hy2]; exact Ue hi
  have hps:∀ z∈H.set i y2,∃ z'∈H,z'.p=z.p:=fun z hz=>by
   rcases mem_set hz with rfl | ⟨q,_,hq⟩
   ·exact ⟨y,hy,hy2p.symm⟩
   ·exact ⟨z,List.mem_of_getElem? hq,rfl⟩
  refine aO.oz (P:=Go.Proofs.Tryz.prog) (en:=fZ) (ys:=[Ar y2]) (m:=1) WZ (fun _=>rfl) (by omega) hout2 Hg rfl rfl (by omega) (by simp only [maxLen]; omega) (by omega) fun a' c' g' u2 hout3 hg' _ ho2=>⟨_,_,_,rfl,?_⟩
  have hgp1:∀ z∈H.set i y2,z.p+1≠g:=fun z hz=>by obtain ⟨z',hz',e⟩:=hps z hz; rw [← e]; exact hgp z' hz'
  have hsz1:B≤u1.heap.size:=Nat.le_trans (Nat.le_trans hB ho.size) ho1.size
  have hynO:y.f∉O.map HE.f:=fun hmem=>by
   have hnd2:((O.map HE.kv++rem).map (·.1)).Nodup:=((hperm.map (·.1)).nodup_iff).2 (by rw [List.map_map]; exact oC hH)
   rw [List.map_append,hrem] at hnd2
   have:=(List.nodup_append.1 hnd2).2.2 y.f (by rw [List.map_map]; exact hmem) y.f (by simp)
   exact this rfl
  refine ih u2 (H.set i y2) (r1++r2) (O++[y2]) a' (n+1) c' g' (by rw [hrem] at hk; simp at hk ⊢; omega) (Jh hH1 hout2 rfl hgp1 ho2) (Nat.le_trans hsz1 ho2.size) ?_ hr ?_ (by omega) ?_ ?_ ?_ ?_ ?_ ?_
  ·rw [hkv2]
   exact Dl (Dl hrng' (hrok.1) ho1) hout2 ho2
  ·rw [List.map_append]; exact hout3
  ·intro z hz
   have hzl:=(hH1.box z hz).1.lt
   have:=hgp1 z hz
   omega
  ·intro z hz
   rcases List.mem_append.1 hz with hz | hz
   ·obtain ⟨q,hq⟩:=List.getElem?_of_mem (hO z hz)
    refine List.mem_of_getElem? (i:=q) ?_
    rw [List.getElem?_set,if_neg ?_]
    ·exact hq
    ·rintro rfl
     rw [hi] at hq
     cases hq
     exact hynO (List.mem_map_of_mem hz)
   ·obtain rfl:z=y2:=by simpa using hz
    exact hy2m
  ·rw [hkv2]
   refine List.Perm.trans ?_ hperm
   rw [hrem,List.map_append,List.append_assoc]
   have:y2.kv=y.kv:=by rw [hy2]
   simp only [List.map_cons,List.map_nil,this,List.singleton_append]
   exact List.Perm.append_left _ List.perm_middle.symm
  ·rw [List.map_append,List.map_cons,List.map_nil,hy2f]
   exact Ku hpart hnd hi hynO (by rw [hy2]; exact FX h3 hr0)
  ·rw [hy2]
   refine hl.set hi ?_
   have:=(sorted_perm (fun a b=>ltD a.1 b.1) r0.2.1).length_eq
   show (sorted (fun a b=>ltD a.1 b.1) r0.2.1).length≤N
   rw [this]
   exact hl y hy r0 hr0m
  ·have hrB:=hrok.2.1
   exact (hf1.trans ho1 (fun _ _ h=>h) (fun k _ hk=>by have hk':k+1=r0.2.2:=hk; show B≤k; omega)).trans ho2 (fun _ _ h=>h) (fun k _ hk=>by have hk':k+1=g:=hk; show B≤k; omega)
end
end Go.Mir
