/- Part of a proof; no conditions. -/
import Derived.Test.YtmjlipmapfofmaaGreatKA
import Derived.Test.YtmjlipmapfofmaaGreatED
import Derived.Test.YtmjlipmapfofmaaGreatSA
set_option linter.unusedVariables false
set_option linter.unusedSimpArgs false
set_option linter.unusedSectionVars false
set_option maxRecDepth 100000
open Go.Proofs.Tryz (prog)
namespace Go.Mir
open Go Go.E Go.RowKit Go.Tr
section
variable{w:World}{a a1:OA}{n c n1 c1:Nat}{F F':Nat->Prop}
theorem Ux{x y:cZ}(h0:x.thr=y.thr)(h1:x.aT=y.aT)(h2:x.tree=y.tree)(h3:x.frm=y.frm)(h4:x.to=y.to):x=y:=by cases x;cases y;simp_all
theorem Ur{x y:dL}(h0:x.feature=y.feature)(h1:x.numbers=y.numbers)(h2:x.aT=y.aT)(h3:x.lost=y.lost):x=y:=by cases x;cases y;simp_all
theorem Ud{x y:kJ}(h0:x.first=y.first)(h1:x.leaves=y.leaves)(h2:x.values=y.values)(h3:x.outputs=y.outputs)(h4:x.lists=y.lists):x=y:=by cases x;cases y;simp_all
theorem I7{x y:fC}(h0:x.features=y.features)(h1:x.outputs=y.outputs)(h2:x.base=y.base)(h3:x.blocks=y.blocks):x=y:=by cases x;cases y;simp_all
abbrev vC(x:cZ)(s:SH):Value:=qZ x.thr s.a s.n s.c x.tree x.frm x.to
abbrev vL(x:dL)(s t u:SH):Value:=D6 x.feature s.a s.n s.c t.a t.n t.c u.a u.n u.c
abbrev vB(x:kJ)(s t u v:SH):Value:=AX x.first s.a s.n s.c t.a t.n t.c u.a u.n u.c v.a v.n v.c
abbrev vF(x:fC)(s t:SH):Value:=kE x.features x.outputs s.a s.n s.c t.a t.n t.c
abbrev vFr(f o:Int)(s t:SH):Value:=kE f o s.a s.n s.c t.a t.n t.c
theorem VJ{x y:cZ}{s t:SH}(hs:LsI F w s.a s.n s.c x.aT)(ht:LsI F' w t.a t.n t.c y.aT)(hm:x.sm):Pure prog 83 #[vC x s,vC y t] w (.bool (jW (x=y))):=by
 refine gG.calls (R:=λv' u=>v'=_/\Below w.heap.size w u) ?_;unfold gG gG.g0;refine yE (cs:=(enC x s).toArray) λw1 hx1 hk1=>yE (cs:=(enC y t).toArray) λw2 hy hk2=>?_;have hx:=hx1.kept hk2;have hk:=zg1 hk1 hk2;have no:x≠y->∀u,Below w2.heap.size w2 u->(Value.bool false = .bool (jW (x=y))/\Below w.heap.size w u):=λh u hu=>⟨by rw[dG h],zg1 hk hu⟩;refine⟨_,hx 0 _ rfl,_,fb _ _,_,hy 0 _ rfl,_,fb _ _,nN (λe0=>?_) λe0=>no λh=>e0 (by rw[h])⟩;have hl:=hs.len;refine⟨_,_,_,hx 1 _ rfl,_,_,_,hy 1 _ rfl,jW (x.aT=y.aT),λu hu=>pq (yA ((hs.kept (zg1 hk hu)).sl) ((ht.kept (zg1 hk hu)).sl) (by have:x.aT.length<=1048576:=hm;omega)) hu,?_⟩;refine(aQ _ _ _).2 ⟨λe1=>?_,λe1=>no λh=>by rw[iG (by rw[h])]at e1;cases e1⟩;refine⟨_,hx 2 _ rfl,_,hy 2 _ rfl,nN (λe2=>?_) λe2=>no λh=>e2 (by rw[h])⟩;refine⟨_,hx 3 _ rfl,_,hy 3 _ rfl,nN (λe3=>?_) λe3=>no λh=>e3 (by rw[h])⟩;refine⟨_,hx 4 _ rfl,_,hy 4 _ rfl,λu hu=>⟨?_,zg1 hk hu⟩⟩;have h1:x.aT=y.aT:=ze4 λh=>by rw[dG h]at e1;cases e1
 by_cases e4:x.to=y.to
 .rw[iG (Ux (by omega) h1 e2 e3 e4),e4];simp
 .rw[dG (λh=>e4 (by rw[h]))];simp[e4]
theorem VB{xs ys:List cZ}(hs:Ls tC F w a n c xs)(ht:Ls tC F' w a1 n1 c1 ys)(hm:nz xs):Pure prog 82 #[.slice a n c,.slice a1 n1 c1,.func (.func 83) #[] #[]] w (.bool (jW (xs=ys))):=by
 refine lW.calls (R:=λv' u=>v'=_/\Below w.heap.size w u) ?_;unfold lW lW.g0;have hl:=hs.len;have hl2:=ht.len;have hmx:xs.length<=1073741824:=hm.1;refine ja (λh=>⟨by rw[dG];intro e;subst e;omega,Below.refl _ _⟩) λh=>?_;refine⟨n+1,eqS (xs:=xs) (ys:=ys) (L:=λk i w=>lW.l14 _ k a1 n1 c1 a n c n i w) hl (by omega) (W:=Kept w) (T:=λu=>Value.bool true = .bool (jW (xs=ys))/\Kept w u) (Fl:=λu=>Value.bool false = .bool (jW (xs=ys))/\Kept w u) ?_ (λk u hu hT=>?_) (λe u hu=>⟨by rw[iG e],hu⟩) (λe u hu=>⟨by rw[dG e],hu⟩) n 0 w (by omega) rfl (Kept.refl w)⟩
 .intro k i u x y hu hi hx hy hN hF;rw[lW.u14];unfold lW.g14;refine aH (by omega) ?_;refine(hs.kept hu).rdC (by omega) (by omega) λx' a' n' c' hx' hcx=>?_;rw[za3]at hx';obtain rfl:x=x':=by rw[hx]at hx';cases hx';rfl
  refine boxS (zs:=[.float .f64 0,.slice none 0 0,.int .i64 0,.int .i64 0,.int .i64 0]) (vs:=enC x ⟨a',n',c'⟩) rfl λu1 hA1 _ hk1=>?_;refine((ht.kept hu).kept hk1).rdC (by omega) (by omega) λy' a2 n2 c2 hy' hcy=>?_;rw[za3]at hy';obtain rfl:y=y':=by rw[hy]at hy';cases hy';rfl
  refine boxS (zs:=[.float .f64 0,.slice none 0 0,.int .i64 0,.int .i64 0,.int .i64 0]) (vs:=enC y ⟨a2,n2,c2⟩) rfl λu2 hA2 _ hk2=>?_;refine(hA1.kept hk2).ldC (hA2.ldC ?_);exact uT (VJ (s:=⟨a',n',c'⟩) (t:=⟨a2,n2,c2⟩) (hcx.kept (zg1 hk1 hk2)) (hcy.kept hk2) (hm.2 x (za0 hx))) (λh v hv=>hF h v (zg1 (zg1 (zg1 hu hk1) hk2) hv)) λh v hv=>aC (by omega) (hN h v (zg1 (zg1 (zg1 hu hk1) hk2) hv))
 .rw[lW.u14];unfold lW.g14;refine aA (by omega) ?_;exact hT
theorem Gn{xs ys:List cZ}(hs:Ls tC F w a n c xs)(ht:Ls tC F' w a1 n1 c1 ys)(hm:nz xs):Pure prog 66 #[.slice a n c,.slice a1 n1 c1] w (.bool (jW (xs=ys))):=by
 refine iQ.calls (R:=λv' u=>v'=_/\Below w.heap.size w u) ?_;unfold iQ iQ.g0;exact QR (VB hs ht hm) λu hu=>⟨rfl,hu⟩
theorem SA{x y:dL}{s1 s2 s3 t1 t2 t3:SH}(h1:Ls tC F w s1.a s1.n s1.c x.numbers)(h2:Ls tC F w s2.a s2.n s2.c x.aT)(h3:Ls tC F w s3.a s3.n s3.c x.lost)(g1:Ls tC F' w t1.a t1.n t1.c y.numbers)(g2:Ls tC F' w t2.a t2.n t2.c y.aT)(g3:Ls tC F' w t3.a t3.n t3.c y.lost)(hm:x.sm) :
  Pure prog 65 #[vL x s1 s2 s3,vL y t1 t2 t3] w (.bool (jW (x=y))):=by
 refine fF.calls (R:=λv' u=>v'=_/\Below w.heap.size w u) ?_;unfold fF fF.g0;refine yE (cs:=(enL x s1 s2 s3).toArray) λw1 hx1 hk1=>yE (cs:=(enL y t1 t2 t3).toArray) λw2 hy hk2=>?_;have hx:=hx1.kept hk2;have hk:=zg1 hk1 hk2;refine⟨_,hx 0 _ rfl,_,hy 0 _ rfl,nN (λe0=>?_) λe0=>⟨by rw[dG (λh=>e0 (by rw[h]))],hk⟩⟩;refine⟨_,_,_,hx 1 _ rfl,_,_,_,hy 1 _ rfl,LZ (Gn (h1.kept hk) (g1.kept hk) hm.1) (λe1 u1 hu1=>?_) λe1 u1 hu1=>⟨by rw[dG (λh=>e1 (by rw[h]))],zg1 hk hu1⟩⟩;refine⟨_,_,_,hx.kept hu1 2 _ rfl,_,_,_,hy.kept hu1 2 _ rfl,LZ (Gn (h2.kept (zg1 hk hu1)) (g2.kept (zg1 hk hu1)) hm.2.1) (λe2 u2 hu2=>?_) λe2 u2 hu2=>⟨by rw[dG (λh=>e2 (by rw[h]))],zg1 (zg1 hk hu1) hu2⟩⟩;have hk':=zg1 (zg1 hk hu1) hu2;refine⟨_,_,_,hx.kept (zg1 hu1 hu2) 3 _ rfl,_,_,_,hy.kept (zg1 hu1 hu2) 3 _ rfl,QR (Gn (h3.kept hk') (g3.kept hk') hm.2.2) λu3 hu3=>⟨?_,zg1 hk' hu3⟩⟩;rw[yX (p:=x.lost=y.lost) (q:=x=y) ⟨λh=>Ur e0 e1 e2 h,λh=>by rw[h]⟩]
theorem QH{xs ys:List dL}(hs:Ls tL F w a n c xs)(ht:Ls tL F' w a1 n1 c1 ys)(hm:n<=1073741824)(hsm:∀x∈xs,x.sm):Pure prog 64 #[.slice a n c,.slice a1 n1 c1,.func (.func 65) #[] #[]] w (.bool (jW (xs=ys))):=by
 refine jD.calls (R:=λv' u=>v'=_/\Below w.heap.size w u) ?_;unfold jD jD.g0;have hl:=hs.len;have hl2:=ht.len;have hmx:n<=1073741824:=hm;refine ja (λh=>⟨by rw[dG];intro e;subst e;omega,Below.refl _ _⟩) λh=>?_;refine⟨n+1,eqS (xs:=xs) (ys:=ys) (L:=λk i w=>jD.l14 _ k a1 n1 c1 a n c n i w) hl (by omega) (W:=Kept w) (T:=λu=>Value.bool true = .bool (jW (xs=ys))/\Kept w u) (Fl:=λu=>Value.bool false = .bool (jW (xs=ys))/\Kept w u) ?_ (λk u hu hT=>?_) (λe u hu=>⟨by rw[iG e],hu⟩) (λe u hu=>⟨by rw[dG e],hu⟩) n 0 w (by omega) rfl (Kept.refl w)⟩
 .intro k i u x y hu hi hx hy hN hF;rw[jD.u14];unfold jD.g14;refine aH (by omega) ?_;refine(hs.kept hu).rdL (by omega) (by omega) λx' b1 m1 d1 b2 m2 d2 b3 m3 d3 hx' hx1 hx2 hx3=>?_;rw[za3]at hx';obtain rfl:x=x':=by rw[hx]at hx';cases hx';rfl
  refine boxS (zs:=[.int .i64 0,.slice none 0 0,.slice none 0 0,.slice none 0 0]) (vs:=enL x ⟨b1,m1,d1⟩ ⟨b2,m2,d2⟩ ⟨b3,m3,d3⟩) rfl λu1 hA1 _ hk1=>?_;refine((ht.kept hu).kept hk1).rdL (by omega) (by omega) λy' p1 q1 r1 p2 q2 r2 p3 q3 r3 hy' hy1 hy2 hy3=>?_;rw[za3]at hy';obtain rfl:y=y':=by rw[hy]at hy';cases hy';rfl
  refine boxS (zs:=[.int .i64 0,.slice none 0 0,.slice none 0 0,.slice none 0 0]) (vs:=enL y ⟨p1,q1,r1⟩ ⟨p2,q2,r2⟩ ⟨p3,q3,r3⟩) rfl λu2 hA2 _ hk2=>?_;refine(hA1.kept hk2).ldL (hA2.ldL ?_);have hk:=zg1 hk1 hk2;exact uT (SA (s1:=⟨b1,m1,d1⟩) (s2:=⟨b2,m2,d2⟩) (s3:=⟨b3,m3,d3⟩) (t1:=⟨p1,q1,r1⟩) (t2:=⟨p2,q2,r2⟩) (t3:=⟨p3,q3,r3⟩) (hx1.kept hk) (hx2.kept hk) (hx3.kept hk) (hy1.kept hk2) (hy2.kept hk2) (hy3.kept hk2) (hsm x (za0 hx))) (λh v hv=>hF h v (zg1 (zg1 hu hk) hv)) λh v hv=>aC (by omega) (hN h v (zg1 (zg1 hu hk) hv))
 .rw[jD.u14];unfold jD.g14;refine aA (by omega) ?_;exact hT
theorem SK{xs ys:List (List Int)}(hs:Ls (vJ .i64).sl F w a n c xs)(ht:Ls (vJ .i64).sl F' w a1 n1 c1 ys)(hm:n<=1048576)(hsm:∀x∈xs,x.length<=1048576):Pure prog 63 #[.slice a n c,.slice a1 n1 c1,.func (.func 60) #[] #[]] w (.bool (jW (xs=ys))):=by
 refine jC.calls (R:=λv' u=>v'=_/\Below w.heap.size w u) ?_;unfold jC jC.g0;have hl:=hs.len;have hl2:=ht.len;have hmx:n<=1048576:=hm;refine ja (λh=>⟨by rw[dG];intro e;subst e;omega,Below.refl _ _⟩) λh=>?_;refine⟨n+1,eqS (xs:=xs) (ys:=ys) (L:=λk i w=>jC.l14 _ k a1 n1 c1 a n c n i w) hl (by omega) (W:=Kept w) (T:=λu=>Value.bool true = .bool (jW (xs=ys))/\Kept w u) (Fl:=λu=>Value.bool false = .bool (jW (xs=ys))/\Kept w u) ?_ (λk u hu hT=>?_) (λe u hu=>⟨by rw[iG e],hu⟩) (λe u hu=>⟨by rw[dG e],hu⟩) n 0 w (by omega) rfl (Kept.refl w)⟩
 .intro k i u x y hu hi hx hy hN hF;rw[jC.u14];unfold jC.g14;refine aH (by omega) ?_;refine(hs.kept hu).RQ (by omega) (by omega) λx' b1 m1 d1 hx' hx1=>?_;rw[za3]at hx';obtain rfl:x=x':=by rw[hx]at hx';cases hx';rfl
  refine(ht.kept hu).RQ (by omega) (by omega) λy' p1 q1 r1 hy' hy1=>?_;rw[za3]at hy';obtain rfl:y=y':=by rw[hy]at hy';cases hy';rfl
  have hxl:=hx1.len;have:x.length<=1048576:=hsm x (za0 hx);exact uT (JD hx1.sl hy1.sl (by omega)) (λh v hv=>hF h v (zg1 hu hv)) λh v hv=>aC (by omega) (hN h v (zg1 hu hv))
 .rw[jC.u14];unfold jC.g14;refine aA (by omega) ?_;exact hT
end
section
variable{w:World}{a a1:OA}{n c n1 c1:Nat}{F F':Nat->Prop}
theorem V9{x y:kJ}{s1 s2 s3 s4 t1 t2 t3 t4:SH}(h1:LsI F w s1.a s1.n s1.c x.leaves)(h2:Ls (vJ .i64).sl F w s2.a s2.n s2.c x.values)(h3:LsI F w s3.a s3.n s3.c x.outputs)(h4:Ls tL F w s4.a s4.n s4.c x.lists)
  (g1:LsI F' w t1.a t1.n t1.c y.leaves) (g2:Ls (vJ .i64).sl F' w t2.a t2.n t2.c y.values) (g3:LsI F' w t3.a t3.n t3.c y.outputs) (g4:Ls tL F' w t4.a t4.n t4.c y.lists) (hm:x.sm) :
  Pure prog 62 #[vB x s1 s2 s3 s4,vB y t1 t2 t3 t4] w (.bool (jW (x=y))):=by
 obtain⟨m1,m2,m2',m3,m4,m4'⟩:=hm;refine gp.calls (R:=λv' u=>v'=_/\Below w.heap.size w u) ?_;unfold gp gp.g0;refine yE (cs:=(mG x s1 s2 s3 s4).toArray) λw1 hx1 hk1=>yE (cs:=(mG y t1 t2 t3 t4).toArray) λw2 hy hk2=>?_;have hx:=hx1.kept hk2;have hk:=zg1 hk1 hk2;refine⟨_,hx 0 _ rfl,_,hy 0 _ rfl,nN (λe0=>?_) λe0=>⟨by rw[dG (λh=>e0 (by rw[h]))],hk⟩⟩;refine⟨_,_,_,hx 1 _ rfl,_,_,_,hy 1 _ rfl,LZ (yA (h1.kept hk).sl (g1.kept hk).sl (by have:=h1.len;omega)) (λe1 u1 hu1=>?_) λe1 u1 hu1=>⟨by rw[dG (λh=>e1 (by rw[h]))],zg1 hk hu1⟩⟩;have hk':=zg1 hk hu1;refine⟨_,_,_,hx.kept hu1 2 _ rfl,_,_,_,hy.kept hu1 2 _ rfl,LZ (SK (h2.kept hk') (g2.kept hk') (by have:=h2.len;omega) m2') (λe2 u2 hu2=>?_) λe2 u2 hu2=>⟨by rw[dG (λh=>e2 (by rw[h]))],zg1 hk' hu2⟩⟩;have hu12:=zg1 hu1 hu2;have hk2':=zg1 hk hu12;refine⟨_,_,_,hx.kept hu12 3 _ rfl,_,_,_,hy.kept hu12 3 _ rfl,LZ (yA (h3.kept hk2').sl (g3.kept hk2').sl (by have:=h3.len;omega)) (λe3 u3 hu3=>?_) λe3 u3 hu3=>⟨by rw[dG (λh=>e3 (by rw[h]))],zg1 hk2' hu3⟩⟩;have hu13:=zg1 hu12 hu3;have hk3:=zg1 hk hu13;refine⟨_,_,_,hx.kept hu13 4 _ rfl,_,_,_,hy.kept hu13 4 _ rfl,QR (QH (h4.kept hk3) (g4.kept hk3) (by have:=h4.len;omega) m4') λu4 hu4=>⟨?_,zg1 hk3 hu4⟩⟩;rw[yX (p:=x.lists=y.lists) (q:=x=y) ⟨λh=>Ud e0 e1 e2 e3 h,λh=>by rw[h]⟩]
theorem VU{xs ys:List kJ}(hs:Ls tB F w a n c xs)(ht:Ls tB F' w a1 n1 c1 ys)(hm:n<=1048576)(hsm:∀x∈xs,x.sm):Pure prog 61 #[.slice a n c,.slice a1 n1 c1,.func (.func 62) #[] #[]] w (.bool (jW (xs=ys))):=by
 refine iL.calls (R:=λv' u=>v'=_/\Below w.heap.size w u) ?_;unfold iL iL.g0;have hl:=hs.len;have hl2:=ht.len;refine ja (λh=>⟨by rw[dG];intro e;subst e;omega,Below.refl _ _⟩) λh=>?_;refine⟨n+1,eqS (xs:=xs) (ys:=ys) (L:=λk i w=>iL.l14 _ k a1 n1 c1 a n c n i w) hl (by omega) (W:=Kept w) (T:=λu=>Value.bool true = .bool (jW (xs=ys))/\Kept w u) (Fl:=λu=>Value.bool false = .bool (jW (xs=ys))/\Kept w u) ?_ (λk u hu hT=>?_) (λe u hu=>⟨by rw[iG e],hu⟩) (λe u hu=>⟨by rw[dG e],hu⟩) n 0 w (by omega) rfl (Kept.refl w)⟩
 .intro k i u x y hu hi hx hy hN hF;rw[iL.u14];unfold iL.g14;refine aH (by omega) ?_;refine(hs.kept hu).rdB (by omega) (by omega) λx' b1 m1 d1 b2 m2 d2 b3 m3 d3 b4 m4 d4 hx' hx1 hx2 hx3 hx4=>?_;rw[za3]at hx';obtain rfl:x=x':=by rw[hx]at hx';cases hx';rfl
  refine boxS (zs:=[.int .i64 0,.slice none 0 0,.slice none 0 0,.slice none 0 0,.slice none 0 0]) (vs:=mG x ⟨b1,m1,d1⟩ ⟨b2,m2,d2⟩ ⟨b3,m3,d3⟩ ⟨b4,m4,d4⟩) rfl λu1 hA1 _ hk1=>?_;refine((ht.kept hu).kept hk1).rdB (by omega) (by omega) λy' p1 q1 r1 p2 q2 r2 p3 q3 r3 p4 q4 r4 hy' hy1 hy2 hy3 hy4=>?_;rw[za3]at hy';obtain rfl:y=y':=by rw[hy]at hy';cases hy';rfl
  refine boxS (zs:=[.int .i64 0,.slice none 0 0,.slice none 0 0,.slice none 0 0,.slice none 0 0]) (vs:=mG y ⟨p1,q1,r1⟩ ⟨p2,q2,r2⟩ ⟨p3,q3,r3⟩ ⟨p4,q4,r4⟩) rfl λu2 hA2 _ hk2=>?_;refine(hA1.kept hk2).ldB (hA2.ldB ?_);have hk:=zg1 hk1 hk2;exact uT (V9 (s1:=⟨b1,m1,d1⟩) (s2:=⟨b2,m2,d2⟩) (s3:=⟨b3,m3,d3⟩) (s4:=⟨b4,m4,d4⟩) (t1:=⟨p1,q1,r1⟩) (t2:=⟨p2,q2,r2⟩) (t3:=⟨p3,q3,r3⟩) (t4:=⟨p4,q4,r4⟩) (hx1.kept hk) (hx2.kept hk) (hx3.kept hk) (hx4.kept hk) (hy1.kept hk2) (hy2.kept hk2) (hy3.kept hk2) (hy4.kept hk2) (hsm x (za0 hx))) (λh v hv=>hF h v (zg1 (zg1 hu hk) hv)) λh v hv=>aC (by omega) (hN h v (zg1 (zg1 hu hk) hv))
 .rw[iL.u14];unfold iL.g14;refine aA (by omega) ?_;exact hT
theorem Vh{x y:fC}{s t s' t':SH}(hx:jr F w x s t)(hy:jr F' w y s' t'):Pure prog 39 #[vF x s t,vF y s' t'] w (.bool (jW (x=y))):=by
 refine iU.calls (R:=λv' u=>v'=_/\Below w.heap.size w u) ?_;unfold iU iU.g0;obtain⟨m1,m2,m3⟩:=hx.sm;refine yE (cs:=(jo x s t).toArray) λw1 hA1 hk1=>yE (cs:=(jo y s' t').toArray) λw2 hB hk2=>?_;have hA:=hA1.kept hk2;have hk:=zg1 hk1 hk2;refine⟨_,hA 0 _ rfl,_,hB 0 _ rfl,nN (λe0=>?_) λe0=>⟨by rw[dG (λh=>e0 (by rw[h]))],hk⟩⟩;refine⟨_,hA 1 _ rfl,_,hB 1 _ rfl,nN (λe1=>?_) λe1=>⟨by rw[dG (λh=>e1 (by rw[h]))],hk⟩⟩;refine⟨_,_,_,hA 2 _ rfl,_,_,_,hB 2 _ rfl,LZ (JD (hx.bs.kept hk).sl (hy.bs.kept hk).sl (by have:=hx.bs.len;omega)) (λe2 u1 hu1=>?_) λe2 u1 hu1=>⟨by rw[dG (λh=>e2 (by rw[h]))],zg1 hk hu1⟩⟩;refine⟨_,_,_,hA.kept hu1 3 _ rfl,_,_,_,hB.kept hu1 3 _ rfl,QR (VU (hx.ks.kept (zg1 hk hu1)) (hy.ks.kept (zg1 hk hu1)) (by have:=hx.ks.len;omega) m3) λu2 hu2=>⟨?_,zg1 (zg1 hk hu1) hu2⟩⟩;rw[yX (p:=x.blocks=y.blocks) (q:=x=y) ⟨λh=>I7 e0 e1 e2 h,λh=>by rw[h]⟩]
end
section
variable{w:World}{a a1:OA}{n c n1 c1:Nat}{F F':Nat->Prop}
theorem IQ{xs ys:List Int}(hs:LsI F w a n c xs)(ht:LsI F' w a1 n1 c1 ys)(hm:n<=1048576):Pure prog 33 #[.slice a n c,.slice a1 n1 c1] w (.bool (jW (xs=ys))):=by
 refine aU.calls (R:=λv' u=>v'=_/\Below w.heap.size w u) ?_;unfold aU aU.g0;have hl:=hs.len;have hl2:=ht.len;refine ja (λh=>⟨by rw[dG];intro e;subst e;omega,Below.refl _ _⟩) λh=>?_;refine⟨n+1,eqS (xs:=xs) (ys:=ys) (L:=λk i w=>aU.l14 _ k a n c a1 n1 c1 n i w) hl (by omega) (W:=Kept w) (T:=λu=>Value.bool true = .bool (jW (xs=ys))/\Kept w u) (Fl:=λu=>Value.bool false = .bool (jW (xs=ys))/\Kept w u) ?_ (λk u hu hT=>?_) (λe u hu=>⟨by rw[iG e],hu⟩) (λe u hu=>⟨by rw[dG e],hu⟩) n 0 w (by omega) rfl (Kept.refl w)⟩
 .intro k i u x y hu hi hx hy hN hF;rw[aU.u14];unfold aU.g14;refine aH (by omega) ?_;refine(hs.kept hu).rdI (by omega) (by omega) λx' hx'=>?_;rw[za3]at hx';obtain rfl:x=x':=by rw[hx]at hx';cases hx';rfl
  refine(ht.kept hu).rdI (by omega) (by omega) λy' hy'=>?_;rw[za3]at hy';obtain rfl:y=y':=by rw[hy]at hy';cases hy';rfl
  exact ja (λh=>hF h u hu) λh=>aC (by omega) (hN h u hu)
 .rw[aU.u14];unfold aU.g14;refine aA (by omega) ?_;exact hT
theorem GR{xs ys:List Int}(hs:LsI F w a n c xs)(ht:LsI F' w a1 n1 c1 ys)(hm:n<=1048576):Pure prog 34 #[.slice a n c,.slice a1 n1 c1] w (.bool (jW (xs=ys))):=by
 rw[<- TP];exact Uc hs.sl ht.sl (by omega)
theorem sV{xs ys:List cZ}(hs:Ls tC F w a n c xs)(ht:Ls tC F' w a1 n1 c1 ys)(hm:nz xs):Pure prog 58 #[.slice a n c,.slice a1 n1 c1] w (.bool (jW (xs=ys))):=by
 refine bJ.calls (R:=λv' u=>v'=_/\Below w.heap.size w u) ?_;unfold bJ bJ.g0;have hl:=hs.len;have hl2:=ht.len;have hmx:xs.length<=1073741824:=hm.1;refine ja (λh=>⟨by rw[dG];intro e;subst e;omega,Below.refl _ _⟩) λh=>?_;refine⟨n+1,eqS (xs:=xs) (ys:=ys) (L:=λk i w=>bJ.l14 _ k a1 n1 c1 a n c n i w) hl (by omega) (W:=Kept w) (T:=λu=>Value.bool true = .bool (jW (xs=ys))/\Kept w u) (Fl:=λu=>Value.bool false = .bool (jW (xs=ys))/\Kept w u) ?_ (λk u hu hT=>?_) (λe u hu=>⟨by rw[iG e],hu⟩) (λe u hu=>⟨by rw[dG e],hu⟩) n 0 w (by omega) rfl (Kept.refl w)⟩
 .intro k i u x y hu hi hx hy hN hF;rw[bJ.u14];unfold bJ.g14;refine aH (by omega) ?_;refine(hs.kept hu).rdC (by omega) (by omega) λx' a' n' c' hx' hcx=>?_;rw[za3]at hx';obtain rfl:x=x':=by rw[hx]at hx';cases hx';rfl
  refine boxS (zs:=[.float .f64 0,.slice none 0 0,.int .i64 0,.int .i64 0,.int .i64 0]) (vs:=enC x ⟨a',n',c'⟩) rfl λu1 hA1 _ hk1=>?_;refine((ht.kept hu).kept hk1).rdC (by omega) (by omega) λy' a2 n2 c2 hy' hcy=>?_;rw[za3]at hy';obtain rfl:y=y':=by rw[hy]at hy';cases hy';rfl
  refine boxS (zs:=[.float .f64 0,.slice none 0 0,.int .i64 0,.int .i64 0,.int .i64 0]) (vs:=enC y ⟨a2,n2,c2⟩) rfl λu2 hA2 _ hk2=>?_;have hA1':=hA1.kept hk2;have hk:=zg1 hk1 hk2;have no:x≠y->∀v,Below u2.heap.size u2 v->_:=λh v hv=>hF h v (zg1 (zg1 hu hk) hv);refine⟨_,hA1' 0 _ rfl,_,fb _ _,_,hA2 0 _ rfl,_,fb _ _,ja (λe0=>no λh=>e0 (by rw[h])) λe0=>?_⟩;have hcl:=hcx.len;have hsm:x.aT.length<=1048576:=hm.2 x (za0 hx);refine⟨_,_,_,hA1' 1 _ rfl,_,_,_,hA2 1 _ rfl,jW (x.aT=y.aT),λv hv=>pq (GR (n:=n') (hcx.kept (zg1 hk hv)) (hcy.kept (zg1 hk2 hv)) (by omega)) hv,?_⟩;refine(aQ _ _ _).2 ⟨λe1=>no λh=>(by rw[iG (by rw[h])]at e1;cases e1),λe1=>?_⟩;refine⟨_,hA1' 2 _ rfl,_,hA2 2 _ rfl,ja (λe2=>no λh=>e2 (by rw[h])) λe2=>?_⟩;refine⟨_,hA1' 3 _ rfl,_,hA2 3 _ rfl,ja (λe3=>no λh=>e3 (by rw[h])) λe3=>?_⟩;refine⟨_,hA1' 4 _ rfl,_,hA2 4 _ rfl,λv hv=>ja (λe4=>no (λh=>e4 (by rw[h])) v hv) λe4=>aC (by omega) ?_⟩;refine hN (Ux (by omega) (ze4 λh=>by rw[dG h]at e1;cases e1) e2 e3 e4) v (zg1 (zg1 hu hk) hv)
 .rw[bJ.u14];unfold bJ.g14;refine aA (by omega) ?_;exact hT
theorem GL{xs ys:List dL}(hs:Ls tL F w a n c xs)(ht:Ls tL F' w a1 n1 c1 ys)(hm:n<=1073741824)(hsm:∀x∈xs,x.sm):Pure prog 35 #[.slice a n c,.slice a1 n1 c1] w (.bool (jW (xs=ys))):=by
 refine aW.calls (R:=λv' u=>v'=_/\Below w.heap.size w u) ?_;unfold aW aW.g0;have hl:=hs.len;have hl2:=ht.len;refine ja (λh=>⟨by rw[dG];intro e;subst e;omega,Below.refl _ _⟩) λh=>?_;refine⟨n+1,eqS (xs:=xs) (ys:=ys) (L:=λk i w=>aW.l14 _ k a1 n1 c1 a n c n i w) hl (by omega) (W:=Kept w) (T:=λu=>Value.bool true = .bool (jW (xs=ys))/\Kept w u) (Fl:=λu=>Value.bool false = .bool (jW (xs=ys))/\Kept w u) ?_ (λk u hu hT=>?_) (λe u hu=>⟨by rw[iG e],hu⟩) (λe u hu=>⟨by rw[dG e],hu⟩) n 0 w (by omega) rfl (Kept.refl w)⟩
 .intro k i u x y hu hi hx hy hN hF;rw[aW.u14];unfold aW.g14;refine aH (by omega) ?_;refine(hs.kept hu).rdL (by omega) (by omega) λx' b1 m1 d1 b2 m2 d2 b3 m3 d3 hx' hx1 hx2 hx3=>?_;rw[za3]at hx';obtain rfl:x=x':=by rw[hx]at hx';cases hx';rfl
  refine boxS (zs:=[.int .i64 0,.slice none 0 0,.slice none 0 0,.slice none 0 0]) (vs:=enL x ⟨b1,m1,d1⟩ ⟨b2,m2,d2⟩ ⟨b3,m3,d3⟩) rfl λu1 hA1 _ hk1=>?_;refine((ht.kept hu).kept hk1).rdL (by omega) (by omega) λy' p1 q1 r1 p2 q2 r2 p3 q3 r3 hy' hy1 hy2 hy3=>?_;rw[za3]at hy';obtain rfl:y=y':=by rw[hy]at hy';cases hy';rfl
  refine boxS (zs:=[.int .i64 0,.slice none 0 0,.slice none 0 0,.slice none 0 0]) (vs:=enL y ⟨p1,q1,r1⟩ ⟨p2,q2,r2⟩ ⟨p3,q3,r3⟩) rfl λu2 hA2 _ hk2=>?_;have hA:=hA1.kept hk2;have hk:=zg1 hk1 hk2;have hw:=zg1 hu hk;obtain⟨z1,z2,z3⟩:=hsm x (za0 hx);refine⟨_,hA 0 _ rfl,_,hA2 0 _ rfl,ja (λe0=>hF (λh=>e0 (by rw[h])) u2 hw) λe0=>?_⟩;refine⟨_,_,_,hA 1 _ rfl,_,_,_,hA2 1 _ rfl,uT (sV (hx1.kept hk) (hy1.kept hk2) z1) (λe1 v1 hv1=>hF (λh=>e1 (by rw[h])) v1 (zg1 hw hv1)) λe1 v1 hv1=>?_⟩;refine⟨_,_,_,hA.kept hv1 2 _ rfl,_,_,_,hA2.kept hv1 2 _ rfl,uT (sV (hx2.kept (zg1 hk hv1)) (hy2.kept (zg1 hk2 hv1)) z2) (λe2 v2 hv2=>hF (λh=>e2 (by rw[h])) v2 (zg1 (zg1 hw hv1) hv2)) λe2 v2 hv2=>?_⟩;have hv:=zg1 hv1 hv2;refine⟨_,_,_,hA.kept hv 3 _ rfl,_,_,_,hA2.kept hv 3 _ rfl,uT (sV (hx3.kept (zg1 hk hv)) (hy3.kept (zg1 hk2 hv)) z3) (λe3 v3 hv3=>hF (λh=>e3 (by rw[h])) v3 (zg1 (zg1 hw hv) hv3)) λe3 v3 hv3=>?_⟩;exact aC (by omega) (hN (Ur e0 e1 e2 e3) v3 (zg1 (zg1 hw hv) hv3))
 .rw[aW.u14];unfold aW.g14;refine aA (by omega) ?_;exact hT
theorem BQ{x y:fC}{s t s' t':SH}(hx:jr F w x s t)(hy:jr F' w y s' t'):Pure prog 12 #[vF x s t,vF y s' t'] w (.bool (jW (x=y))):=by
 refine aO.calls (R:=λv' u=>v'=_/\Below w.heap.size w u) ?_;unfold aO aO.g0;obtain⟨M1,M2,M3⟩:=hx.sm;refine yE (cs:=(jo x s t).toArray) λw1 hA1 hk1=>yE (cs:=(jo y s' t').toArray) λw2 hB hk2=>?_;have hA:=hA1.kept hk2;have hk:=zg1 hk1 hk2;refine⟨_,hA 0 _ rfl,_,hB 0 _ rfl,ja (λe0=>⟨by rw[dG (λh=>e0 (by rw[h]))],hk⟩) λe0=>?_⟩;refine⟨_,hA 1 _ rfl,_,hB 1 _ rfl,ja (λe1=>⟨by rw[dG (λh=>e1 (by rw[h]))],hk⟩) λe1=>?_⟩;refine⟨_,_,_,hA 2 _ rfl,_,_,_,hB 2 _ rfl,uT (IQ (hx.bs.kept hk) (hy.bs.kept hk) (by have:=hx.bs.len;omega)) (λe2 u1 hu1=>⟨by rw[dG (λh=>e2 (by rw[h]))],zg1 hk hu1⟩) λe2 u1 hu1=>?_⟩;have hks:=hx.ks.kept (zg1 hk hu1);have hks':=hy.ks.kept (zg1 hk hu1);have hl:=hks.len;have hl2:=hks'.len;refine⟨_,_,_,hA.kept hu1 3 _ rfl,_,_,_,hB.kept hu1 3 _ rfl,ja (λh=>⟨by rw[dG];intro e;subst e;omega,zg1 hk hu1⟩) λh=>?_⟩;refine⟨_,_,_,hA.kept hu1 3 _ rfl,?_⟩;refine⟨t.n+1,eqS (xs:=x.blocks) (ys:=y.blocks) (L:=λk i w=>aO.l14 _ k (some (na w1)) t.a t.n t.c t.n i w) hl (by omega) (W:=Kept u1) (T:=λu=>Value.bool true = .bool (jW (x=y))/\Kept w u) (Fl:=λu=>Value.bool false = .bool (jW (x=y))/\Kept w u) ?_ (λk u hu hT=>?_) (λe u hu=>⟨by rw[iG (I7 e0 e1 e2 e)],zg1 (zg1 hk hu1) hu⟩) (λe u hu=>⟨by rw[dG (λh=>e (by rw[h]))],zg1 (zg1 hk hu1) hu⟩) t.n 0 u1 (by omega) rfl (Kept.refl u1)⟩
 .intro k i u b b' hu hi hxb hyb hN hF;rw[aO.u14];unfold aO.g14;refine aH (by omega) ?_;refine(hks.kept hu).rdB (by omega) (by omega) λx' b1 m1 d1 b2 m2 d2 b3 m3 d3 b4 m4 d4 hx' hx1 hx2 hx3 hx4=>?_;rw[za3]at hx';obtain rfl:b=x':=by rw[hxb]at hx';cases hx';rfl
  refine boxS (zs:=[.int .i64 0,.slice none 0 0,.slice none 0 0,.slice none 0 0,.slice none 0 0]) (vs:=mG b ⟨b1,m1,d1⟩ ⟨b2,m2,d2⟩ ⟨b3,m3,d3⟩ ⟨b4,m4,d4⟩) rfl λv1 hC1 _ hj1=>?_;refine⟨_,_,_,((hB.kept hu1).kept hu).kept hj1 3 _ rfl,?_⟩;refine((hks'.kept hu).kept hj1).rdB (by omega) (by omega) λy' p1 q1 r1 p2 q2 r2 p3 q3 r3 p4 q4 r4 hy' hy1 hy2 hy3 hy4=>?_;rw[za3]at hy';obtain rfl:b'=y':=by rw[hyb]at hy';cases hy';rfl
  refine boxS (zs:=[.int .i64 0,.slice none 0 0,.slice none 0 0,.slice none 0 0,.slice none 0 0]) (vs:=mG b' ⟨p1,q1,r1⟩ ⟨p2,q2,r2⟩ ⟨p3,q3,r3⟩ ⟨p4,q4,r4⟩) rfl λv2 hC2 _ hj2=>?_;have hC:=hC1.kept hj2;have hj:=zg1 hj1 hj2;have hw:=zg1 hu hj;obtain⟨z1,z2,z2',z3,z4,z4'⟩   := M3 b (za0 hxb);refine⟨_,hC 0 _ rfl,_,hC2 0 _ rfl,ja (λe0=>hF (λh=>e0 (by rw[h])) v2 hw) λf0=>?_⟩;refine⟨_,_,_,hC 1 _ rfl,_,_,_,hC2 1 _ rfl,uT (GR (n:=m1) (hx1.kept hj) (hy1.kept hj2) (by have:=hx1.len;omega)) (λe1 v3 hv3=>hF (λh=>e1 (by rw[h])) v3 (zg1 hw hv3)) λf1 v3 hv3=>?_⟩;have g3:=zg1 hj hv3;have g3':=zg1 hj2 hv3;refine⟨_,_,_,hC.kept hv3 3 _ rfl,_,_,_,hC2.kept hv3 3 _ rfl,uT (GR (n:=m3) (hx3.kept g3) (hy3.kept g3') (by have:=hx3.len;omega)) (λe1 v4 hv4=>hF (λh=>e1 (by rw[h])) v4 (zg1 (zg1 hw hv3) hv4)) λf3 v4 hv4=>?_⟩;have hv34:=zg1 hv3 hv4;have hl3:m2=b.values.length:=hx2.len;have hl4:q2=b'.values.length:=hy2.len;refine⟨_,_,_,hC.kept hv34 2 _ rfl,_,_,_,hC2.kept hv34 2 _ rfl,ja (λ(e:(m2:Int)≠(q2:Int))=>hF (λh=>by subst h;omega) v4 (zg1 hw hv34)) λ(f2:(m2:Int)=(q2:Int))=>?_⟩;refine⟨_,_,_,hC.kept hv34 4 _ rfl,_,_,_,hC2.kept hv34 4 _ rfl,uT (GL (n:=m4) (hx4.kept (zg1 hj hv34)) (hy4.kept (zg1 hj2 hv34)) (by have:=hx4.len;omega) z4') (λe1 v5 hv5=>hF (λh=>e1 (by rw[h])) v5 (zg1 (zg1 hw hv34) hv5)) λf4 v5 hv5=>?_⟩;have hv35:=zg1 hv34 hv5;refine⟨_,_,_,hC.kept hv35 2 _ rfl,?_⟩;have hx2':=hx2.kept (zg1 hj hv35);have hy2':=hy2.kept (zg1 hj2 hv35);refine⟨m2+1,eqS (xs:=b.values) (ys:=b'.values) (L:=λq j w=>aO.l38 _ (aO.l14 _ k) q (some (na w1)) (some (na u)) (some (na v1)) t.a t.n t.c t.n i m2 j w) (by omega) (by omega) (W:=Kept v5) (T:=λu=>aO.l14 _ k (some (na w1)) t.a t.n t.c t.n ((i+1:Nat):Int) u) (Fl:=λu=>Value.bool false = .bool (jW (x=y))/\Kept w u) ?_ (λq u hu hT=>?_) (λe u' hu'=>hN (Ud f0 f1 e f3 f4) u' (zg1 (zg1 hw hv35) hu')) (λe u' hu'=>hF (λh=>e (by rw[h])) u' (zg1 (zg1 hw hv35) hu')) m2 0 v5 (by omega) rfl (Kept.refl v5)⟩
  .intro q j u6 x6 y6 hu6 hj6 hx6 hy6 hN6 hF6;unfold aO.l38 aO.g38;refine aH (by omega) ?_;refine dE ?_;refine⟨_,_,_,(hC.kept hv35).kept hu6 2 _ rfl,?_⟩;refine(hx2'.kept hu6).RQ (by omega) (by omega) λx7 b7 m7 d7 hx7 hs7=>?_;rw[za3]at hx7;obtain rfl:x6=x7:=by rw[hx6]at hx7;cases hx7;rfl
   refine dE ?_;refine⟨_,_,_,(hC2.kept hv35).kept hu6 2 _ rfl,?_⟩;refine(hy2'.kept hu6).RQ (by omega) (by omega) λy7 b8 m8 d8 hy7 hs8=>?_;rw[za3]at hy7;obtain rfl:y6=y7:=by rw[hy6]at hy7;cases hy7;rfl
   have hz:x6.length<=1048576:=z2' x6 (za0 hx6);exact uT (IQ hs7 hs8 (by have:=hs7.len;omega)) (λh v hv=>hF6 h v (zg1 hu6 hv)) λh v hv=>aC (by omega) (hN6 h v (zg1 hu6 hv))
  .unfold aO.l38 aO.g38;refine aA (by omega) ?_;exact aC (by omega) hT
 .rw[aO.u14];unfold aO.g14;refine aA (by omega) ?_;exact hT
end
end Go.Mir
namespace Go.Mir
open Go Go.E Go.RowKit Go.Tr Go.Ss
section
variable{w:World}{a:OA}{n c:Nat}{p:Addr}
def G7(z:Nat):Int:=if iC z=true then 18437736874454810625 else if Int.fdiv (z:Int) (2 ^ (min (63:Int).toNat 64))=0 then IntKind.u64.wrap (9218868437227405312+z) else IntKind.u64.wrap (9218868437227405312 - Qo .andNot .u64 z 9223372036854775808)
theorem Zx(z:Nat):Pure prog 74 #[.float .f64 z] w (.int .u64 (G7 z)):=by
 refine jH.calls (R:=λv' u=>v'=_/\Below w.heap.size w u) ?_;unfold jH jH.g0;refine⟨_,fb _ _,(aQ _ _ _).2 ⟨λh=>⟨by unfold G7;rw[if_pos (show iC z=true from h)],Below.refl _ _⟩,λh=>nH rfl ?_⟩⟩;have hn:¬ iC z=true:=by intro h';rw[show(FloatKind.f64.format.order z z != some .eq)=iC z from rfl,h']at h;cases h
 refine nN (λe=>nH rfl ⟨by unfold G7;rw[if_neg hn,if_pos e],Below.refl _ _⟩) λe=>nH rfl (nH rfl ⟨by unfold G7;rw[if_neg hn,if_neg e],Below.refl _ _⟩)
def QC(x y:Int):Int:=if x<y then -1 else if x>y then 1 else 0
theorem Jz(x y:Int):decide (QC x y<0)=decide (x<y):=by
 unfold QC
 by_cases h:x<y
 .simp[h]
 .by_cases h2:x>y
  .simp[h,h2]
  .simp[h,h2]
theorem IK(x:Int):Pure prog 102 #[.int .u64 x] w (.bool false):=by
 refine gq.calls (R:=λv' u=>v'=_/\Below w.heap.size w u) ?_;unfold gq gq.g0;exact⟨by simp,Below.refl _ _⟩
theorem JL(x:Int):Pure prog 104 #[.int .i64 x] w (.bool false):=by
 refine cmp_isNaN_int.calls (R:=λv' u=>v'=_/\Below w.heap.size w u) ?_;unfold cmp_isNaN_int cmp_isNaN_int.g0;exact⟨by simp,Below.refl _ _⟩
theorem Gz(x y:Int):Pure prog 91 #[.int .u64 x,.int .u64 y] w (.int .i64 (QC x y)):=by
 refine fE.calls (R:=λv' u=>v'=_/\Below w.heap.size w u) ?_;unfold fE fE.g0;refine zg0 (IK x) λv u ⟨hv,hk⟩=>⟨_,hv,zg0 (IK y) λv' u' ⟨hv',hk'⟩=>⟨_,hv',?_⟩⟩;have hkk:=zg1 hk hk';refine GG (GG ((aQ _ _ _).2 ⟨λh=>⟨by unfold QC;rw[if_pos (by simpa using h)],hkk⟩,λh=>(aQ _ _ _).2 ⟨λh2=>⟨by unfold QC;rw[if_neg (by simpa using h),if_pos (by simpa using h2)],hkk⟩,λh2=>⟨by unfold QC;rw[if_neg (by simpa using h),if_neg (by simpa using h2)],hkk⟩⟩⟩))
theorem GI(x y:Int):Pure prog 94 #[.int .i64 x,.int .i64 y] w (.int .i64 (QC x y)):=by
 refine cmp_Compare_int.calls (R:=λv' u=>v'=_/\Below w.heap.size w u) ?_;unfold cmp_Compare_int cmp_Compare_int.g0;refine zg0 (JL x) λv u ⟨hv,hk⟩=>⟨_,hv,zg0 (JL y) λv' u' ⟨hv',hk'⟩=>⟨_,hv',?_⟩⟩;have hkk:=zg1 hk hk';refine GG (GG ((aQ _ _ _).2 ⟨λh=>⟨by unfold QC;rw[if_pos (by simpa using h)],hkk⟩,λh=>(aQ _ _ _).2 ⟨λh2=>⟨by unfold QC;rw[if_neg (by simpa using h),if_pos (by simpa using h2)],hkk⟩,λh2=>⟨by unfold QC;rw[if_neg (by simpa using h),if_neg (by simpa using h2)],hkk⟩⟩⟩))
def ltC(x y:xh):Bool:=decide (G7 x.thr<G7 y.thr)
def ltL(x y:vV):Bool:=decide (x.feature<y.feature)
theorem Xi(x:xh):Pure prog 73 #[yR x] w (.int .u64 (G7 x.thr)):=by
 refine jl.calls (R:=λv' u=>v'=_/\Below w.heap.size w u) ?_;unfold jl jl.g0;refine yE (cs:=(mQ x).toArray) λw1 hA hk=>⟨_,hA 0 _ rfl,zg0 (Zx x.thr) λv u ⟨hv,hu⟩=>⟨_,hv,rfl,zg1 hk hu⟩⟩
theorem Yn(x:vV):Pure prog 76 #[tJ x] w (.int .i64 x.feature):=by
 refine jm.calls (R:=λv' u=>v'=_/\Below w.heap.size w u) ?_;unfold jm jm.g0;exact yE (cs:=(gZ x).toArray) λw1 hA hk=>⟨_,hA 0 _ rfl,rfl,hk⟩
theorem Ws(hp:w.cell? p=some (.func (.func 73) #[] #[]))(x y:xh):E.CallsD prog 90 #[yR x,yR y,.pointer (some p)] w λv u=>∃r:Int,v = .int .i64 r/\decide (r<0)=ltC x y/\Kept w u:=by
 refine iy.calls (R:=λv u=>∃r:Int,v = .int .i64 r/\decide (r<0)=ltC x y/\Kept w u) ?_;unfold iy iy.g0;refine yE (cs:=(mQ x).toArray) λw1 hA hk1=>yE (cs:=(mQ y).toArray) λw2 hB hk2=>?_;have hA':=hA.kept hk2;have hk:=zg1 hk1 hk2;refine⟨_,Ff hk hp,⟨_,hA' 0 _ rfl,_,_,_,hA' 1 _ rfl,_,hA' 2 _ rfl,_,hA' 3 _ rfl,_,hA' 4 _ rfl,⟨_,λu hu=>pq (Xi x) hu,?_⟩⟩⟩;refine⟨_,Ff hk hp,⟨_,hB 0 _ rfl,_,_,_,hB 1 _ rfl,_,hB 2 _ rfl,_,hB 3 _ rfl,_,hB 4 _ rfl,⟨_,λu hu=>pq (Xi y) hu,?_⟩⟩⟩;exact⟨_,λu hu=>pq (Gz (G7 x.thr) (G7 y.thr)) hu,λu hu=>⟨_,rfl,Jz _ _,zg1 hk hu⟩⟩
theorem QO(hp:w.cell? p=some (.func (.func 76) #[] #[]))(x y:vV):E.CallsD prog 93 #[tJ x,tJ y,.pointer (some p)] w λv u=>∃r:Int,v = .int .i64 r/\decide (r<0)=ltL x y/\Kept w u:=by
 refine gI.calls (R:=λv u=>∃r:Int,v = .int .i64 r/\decide (r<0)=ltL x y/\Kept w u) ?_;unfold gI gI.g0;refine yE (cs:=(gZ x).toArray) λw1 hA hk1=>yE (cs:=(gZ y).toArray) λw2 hB hk2=>?_;have hA':=hA.kept hk2;have hk:=zg1 hk1 hk2;refine⟨_,Ff hk hp,⟨_,hA' 0 _ rfl,_,_,_,hA' 1 _ rfl,_,_,_,hA' 2 _ rfl,_,_,_,hA' 3 _ rfl,⟨_,λu hu=>pq (Yn x) hu,?_⟩⟩⟩;refine⟨_,Ff hk hp,⟨_,hB 0 _ rfl,_,_,_,hB 1 _ rfl,_,_,_,hB 2 _ rfl,_,_,_,hB 3 _ rfl,⟨_,λu hu=>pq (Yn y) hu,?_⟩⟩⟩;exact⟨_,λu hu=>pq (GI x.feature y.feature) hu,λu hu=>⟨_,rfl,Jz _ _,zg1 hk hu⟩⟩
theorem wkC:Wk ltC:=F7 λx:xh=>G7 x.thr
theorem wkL:Wk ltL:=F7 λx:vV=>x.feature
theorem FX{g:Nat}{xs:List xh}(hs:n<=1152921504606846975)(h:aK 5 mQ 76 w a n c xs g):E.CallsD prog 72 #[.slice a n c,.func (.func 73) #[] #[]] w λv u=>v = .tuple #[]/\aK 5 mQ 76 u a n c (sorted ltC xs) g/\Only g w u:=by
 refine jk.calls (R:=λv u=>v = .tuple #[]/\aK 5 mQ 76 u a n c (sorted ltC xs) g/\Only g w u) ?_;unfold jk jk.g0;refine yE λw1 hA hk=>?_;have hp:w1.cell? (na w)=some (.func (.func 73) #[] #[]):=by have:=hA 0 _ rfl;rwa [add_zero]at this
 have hg:g<=w.heap.size:=Row.le h;refine zg0 (KY (p:=na w) (lt:=ltC) (X:=λu=>u.cell? (na w)=some (.func (.func 73) #[] #[])) (G:=λ_=>True) wkC hs (λu v hu ho=>ho.cell (λhk=>by have hk':(na w).block+1=g:=hk;have:(na w).block=w.heap.size:=rfl;omega) hu) (λu x y hx _ _=>Ws hx x y) (h.kept hk) hp (λ_ _=>trivial) (R:=λv u=>v = .tuple #[]/\aK 5 mQ 76 u a n c (sorted ltC xs) g/\Only g w u) λu h1 _ h3=>⟨rfl,h1,(Kept.mod (S:=λk=>k+1=g) hk).trans h3 zg7 zg7⟩) λv u h=>⟨h.1,rfl,h.2⟩
theorem DJ{g:Nat}{xs:List vV}(hs:n<=1152921504606846975)(h:aK 4 gZ 74 w a n c xs g):E.CallsD prog 75 #[.slice a n c,.func (.func 76) #[] #[]] w λv u=>v = .tuple #[]/\aK 4 gZ 74 u a n c (sorted ltL xs) g/\Only g w u:=by
 refine iM.calls (R:=λv u=>v = .tuple #[]/\aK 4 gZ 74 u a n c (sorted ltL xs) g/\Only g w u) ?_;unfold iM iM.g0;refine yE λw1 hA hk=>?_;have hp:w1.cell? (na w)=some (.func (.func 76) #[] #[]):=by have:=hA 0 _ rfl;rwa [add_zero]at this
 have hg:g<=w.heap.size:=Row.le h;refine zg0 (GH (p:=na w) (lt:=ltL) (X:=λu=>u.cell? (na w)=some (.func (.func 76) #[] #[])) (G:=λ_=>True) wkL hs (λu v hu ho=>ho.cell (λhk=>by have hk':(na w).block+1=g:=hk;have:(na w).block=w.heap.size:=rfl;omega) hu) (λu x y hx _ _=>QO hx x y) (h.kept hk) hp (λ_ _=>trivial) (R:=λv u=>v = .tuple #[]/\aK 4 gZ 74 u a n c (sorted ltL xs) g/\Only g w u) λu h1 _ h3=>⟨rfl,h1,(Kept.mod (S:=λk=>k+1=g) hk).trans h3 zg7 zg7⟩) λv u h=>⟨h.1,rfl,h.2⟩
end
end Go.Mir
namespace Go.Mir
open Go Go.E Go.RowKit Go.Tr Go.Ss Go.ChangeShapes
abbrev tI':Nat:=3
abbrev tC':Nat:=76
abbrev tL':Nat:=74
abbrev wP:=HOK tI' tC' tL'
abbrev Ye:=ROK tI' tC'
section
variable{w u:World}{a:OA}{n c:Nat}{F S:Nat->Prop}{p:Addr}
theorem pU{e size g:Nat}{cs:List Value}(h:Row w e size a n c cs g)(hm:Only g w u):CK (uG a w) u:=by
 rcases h.2 with ⟨h0,rfl,_⟩ | ⟨b,cur,h1,rfl,_⟩
 .exactλad v hc=>hm.cell (λhk=>by have hk':ad.block+1=g:=hk;omega) hc
 .exact CK.hide (hm.weak λk _ hk=>by have hk':k+1=g:=hk;show k=b;omega)
theorem Ag{e size g:Nat}{cs:List Value}{v:Value}(h:Row w e size a n c cs g)(hb:p.block+1≠g)(hc:w.cell? p=some v):(uG a w).cell? p=some v:=by
 rcases h.2 with ⟨h0,rfl,_⟩ | ⟨b,cur,h1,rfl,_⟩
 .exact hc
 .exact OD hc (λh=>hb (by rw[h1,h]))
theorem Yw:fV prog 53 tI' 1 8:=sliceT (by kernel_rfl)
theorem a0W:fV prog 72 tC' 5 56:=sliceT (by kernel_rfl)
theorem a1o:fV prog 64 tL' 4 80:=sliceT (by kernel_rfl)
theorem QV{x:cZ}{s:SH}(hs:LsI F w s.a s.n s.c x.aT)(hm:x.sm):E.CallsD prog 71 #[vC x s] w λv u=>∃s':SH,v=vC x s'/\COK tI' w.heap.size u (x,s')/\Kept w u:=by
 refine iD.calls (R:=λv u=>∃s':SH,v=vC x s'/\COK tI' w.heap.size u (x,s')/\Kept w u) ?_;unfold iD iD.g0;have hl:=hs.len;have hm':x.aT.length<=1048576:=hm;refine bZ (bZ ?_);have b0:=Blk.new w (enC x s).toArray tC';have k1:=zg3 w (.cells (enC x s).toArray tC');generalize hw1:w.alloc (.cells (enC x s).toArray tC')=w1 at b0 k1;have hsz:w1.heap.size=w.heap.size+1:=by rw[<- hw1];simp
 have z0:=Blk.new w1 #[.float .f64 0,.slice none 0 0,.int .i64 0,.int .i64 0,.int .i64 0] tC';have k2:=zg3 w1 (.cells #[.float .f64 0,.slice none 0 0,.int .i64 0,.int .i64 0,.int .i64 0] tC');generalize hw2:w1.alloc (.cells #[.float .f64 0,.slice none 0 0,.int .i64 0,.int .i64 0,.int .i64 0] tC')=w2 at z0 k2;have b1:=b0.keep k2;have k:=zg1 k1 k2;have hA:AtL w2 (na w) (enC x s):=by simpa using AtL.blk (b:=w) b1
 refine⟨_,_,_,hA 1 _ rfl,Arr.pushes (P:=prog) (en:=eI) (e:=tI') Yw (Arr.nil _ _ _) (λ_=>rfl) (hs.kept k).sl (by show 0+s.n<=maxLen;simp only[maxLen];omega) (by omega) λa' c' g' u ha hg ho=>⟨_,_,_,rfl,?_⟩⟩;have hku:Kept w2 u:=Mod.kept (S:=λk=>k+1=0) ho (λk _ h=>by have h':k+1=0:=h;omega);have b2:=b1.keep hku;have z1:=z0.keep hku;have kw:=zg1 k hku;rw[gK,addr_add,zd2];refine⟨b2.ok (by simp),bZ ?_⟩;have b3:Blk (u.setCell ⟨w.heap.size,1,none⟩ (.slice a' (0+s.n) c')) w.heap.size (enC x ⟨a',0+s.n,c'⟩).toArray tC':=b2.set 1 (.slice a' (0+s.n) c');have ho3:=zg5 u w.heap.size 1 (.slice a' (0+s.n) c');have z3:=z1.mod ho3 (λhk=>by have hk':w1.heap.size+1=w.heap.size+1:=hk;omega);generalize u.setCell ⟨w.heap.size,1,none⟩ (.slice a' (0+s.n) c')=u3 at b3 ho3 z3;have hA3:AtL u3 (na w) (enC x ⟨a',0+s.n,c'⟩):=by simpa using AtL.blk (b:=w) b3
 refine hA3.ldC ?_;refine wrA (vs:=enC x ⟨a',0+s.n,c'⟩) z3 rfl λu4 b4 ho4=>?_;have hA4:AtL u4 (na w1) (enC x ⟨a',0+s.n,c'⟩):=by simpa using AtL.blk (b:=w1) b4
 refine hA4.ldC ?_;have hfr:From w.heap.size w u4:=((Kept.mod (S:=λk=>w.heap.size<=k) kw).trans ho3 (U:=λk=>w.heap.size<=k) (λ_ _ h=>h) (λk _ h=>by have h':k+1=w.heap.size+1:=h;show w.heap.size<=k;omega)).trans ho4 (λ_ _ h=>h) (λk _ h=>by have h':k+1=w1.heap.size+1:=h;show w.heap.size<=k;omega);refine⟨⟨a',0+s.n,c'⟩,rfl,⟨g',?_,?_⟩,zg4 hfr⟩
 .have hsz2:w2.heap.size=w1.heap.size+1:=by rw[<- hw2];simp
  rw[zc9]at ha;refine(ha.mod ho3 λk hk hS=>?_).mod ho4 λk hk hS=>?_
  .have hS':k+1=w.heap.size+1:=hS;omega
  .have hS':k+1=w1.heap.size+1:=hS;omega
 .have hsz2:w2.heap.size=w1.heap.size+1:=by rw[<- hw2];simp
  omega
end
section
variable{w u:World}{a a1:OA}{n c n1 c1:Nat}{F S:Nat->Prop}{p q:Addr}{B mb i j:Nat}{H:List HE}{x:HE}{r:RC}
theorem Q4:tC'≠tL':=by decide
theorem Pj:tI'≠tC':=by decide
theorem V4:tI'≠tL':=by decide
theorem yu(x:CD):(nJ x).length=5:=rfl
theorem yI(x:CD):∀v∈nJ x,v.oneCell'=true:=by
 intro v hv;simp only[nJ,enC,zb3,zf9,or_false]at hv
 rcases hv with h | h | h | h | h <;> subst h <;> rfl
theorem XZ(hH:wP B w mb H)(hx:x∈H)(hr:Ye B w r):x.p+1≠r.2.2:=λhk=>by
 obtain⟨cur,hb⟩:=hr.blk hk;exact Q4 (hb.ne (hH.box x hx).1)
theorem WQ(hH:wP B w mb H)(hx:x∈H)(hr:x.rs[j]?=some r):w.cell? ⟨x.p,j+1,none⟩=some r.1.v:=by
 rw[(hH.box x hx).1.cell];simp[HE.cells,zc1,hr]
theorem addRow(hH:wP B w mb H)(hB:B<=w.heap.size)(hx:H[i]?=some x)(hr:x.rs[j]?=some r){cu:cZ}{s:SH}(hq:AtL w q (enC cu s))(hqr:q.block+1≠r.2.2)(hs:LsI F w s.a s.n s.c cu.aT)(hm:cu.sm)(hlen:r.2.1.length<=1073741824){K:zg6}
  (hk:∀r' u,r'.2.1.map (·.1)=r.2.1.map (·.1)++[cu]->wP B u mb (H.set i { x with rs:=x.rs.set j r' })->Mod (λk=>k+1=r.2.2\/k=x.p) w u->K u) :
  ∃wm:World,CK wm w/\(cL wm ((⟨x.p,0,none⟩:Addr).add (j+1)) λa n c=>ldC wm q λz a1 n1 c1 x2 x3 x4=>E.CallsD prog 71 #[qZ z a1 n1 c1 x2 x3 x4] w λv u=>∃z a1 n1 c1 x2 x3 x4,v=qZ z a1 n1 c1 x2 x3 x4/\(CK wm u /\
   (nw (u.alloc (.cells (oG z a1 n1 c1 x2 x3 x4) 76)) λw1=>CK wm w1/\(dC prog (Builtin.append_ #[72,72] 72 #[.slice a n c,.slice (some (na u)) 1 1]) w1 λv2 u2=>∃a2 n2 c2,v2 = .slice a2 n2 c2 /\
    (CK wm u2/\st u2 (((⟨x.p,0,none⟩:Addr).add (j+1)).add 0) (.slice a2 n2 c2) K))))):=by
 have hxm:=za0 hx;have hrok:=hH.row x hxm r (za0 hr);have hn:=hrok.1.len yu (by omega);have hpg:=XZ hH hxm hrok;refine⟨uG r.1.a w,pU hrok.1 (Mod.refl _),?_⟩;refine⟨_,_,_,Ag hrok.1 (by rw[add_block];exact hpg) (by rw[addr_add,zd1];exact WQ hH hxm hr),?_⟩;have hq':AtL (uG r.1.a w) q (enC cu s):=λk v hk=>Ag hrok.1 (by rw[add_block];exact hqr) (hq k v hk);refine hq'.ldC ?_;refine zg0 (QV hs hm) λv u ⟨s',hv,hC,hk1⟩=>⟨_,_,_,_,_,_,_,hv,pU hrok.1 (Kept.mod hk1),bZ ⟨pU hrok.1 (Kept.mod (zg1 hk1 (zg3 u _))),?_⟩⟩;refine aK.pY (P:=prog) (ys:=[((cu,s'):CD)]) (m:=1) a0W yu (by omega) (hrok.1.kept hk1) yI rfl rfl (by omega) (by simp only[maxLen];omega) (by omega) λa' c' g' u2 hrow hg _ ho=>?_;have hm2:Only r.2.2 w u2:=(Kept.mod (S:=λk=>k+1=r.2.2) hk1).trans ho zg7 zg7;have tI:∀k cur,Blk w k cur tI'->¬ (k+1=r.2.2):=λk cur hb hk=>by
  obtain⟨cur',hb'⟩:=hrok.blk hk;exact Pj (hb.ne hb')
 have tIu:∀k cur,Blk u k cur tI'->¬ (k+1=r.2.2):=λk cur hb hk=>by
  obtain⟨cur',hb'⟩:=(hrok.kept hk1).blk hk;exact Pj (hb.ne hb')
 have hsz:=hk1.size;have hr':Ye B u2 (⟨a',r.1.n+1,c'⟩,r.2.1++[(cu,s')],g'):=by
  refine⟨hrow,by have:=hrok.2.1;show g'=0\/B<g';omega,λy hy=>?_⟩
  rcases zb2.1 hy with hy | hy
  .exact(hrok.2.2 y hy).mod hm2 tI
  .obtain rfl:y=(cu,s'):=by simpa using hy
   obtain⟨g,h1,h2⟩:=hC.mod ho tIu;exact⟨g,h1,by omega⟩
 refine⟨_,_,_,rfl,pU hrok.1 hm2,?_⟩;obtain⟨hok,hH',hon⟩:=hH.grow Pj V4 Q4 hx hr hm2 hr' (by show g'=r.2.2\/w.heap.size<g';omega);rw[addr_add,addr_add,zd1,zd2];exact⟨hok,bZ (hk _ _ (by simp) hH' (hm2.trans hon (λ_ _ h => .inl h) (λk _ h => .inr (by have h':k+1=x.p+1:=h;omega))))⟩
end
def vI(x:ND)(c:cZ)(e:dL):dL :=
 let e1:=if x.kind=3 then { e with aT:=e.aT++[c] } else { e with numbers:=e.numbers++[c] }
 if x.missing=2 then { e1 with lost:=e1.lost++[c] } else e1
def xX(f:Int)(L:List dL):List dL:=if f∈L.map dL.feature then L else L++[⟨f,[],[],[]⟩]
def nM(L:List dL)(p:ND×cZ):List dL:=(xX p.1.feature L).map λe=>if e.feature=p.1.feature then vI p.1 p.2 e else e
def sU(k:Nat)(nodes:List ND)(m:MkD):Option (ND×cZ):=(nodes[m.node.toNat]?).map λx=>(x,⟨x.thr,x.aT,(k:Int),m.frm,m.to⟩)
noncomputable def kP(k:Nat)(nodes:List ND):List (ND×cZ):=(iq nodes).filterMap (sU k nodes)
noncomputable def dH:List TD->Nat->List (ND×cZ)
 | [],_=>[]
 |t::ts,k=>kP k t.nodes++dH ts (k+1)
def MS(h:HE)(k:Nat):List cZ:=((h.rs[k]?).getD wH).2.1.map (·.1)
def dHE(h:HE):dL:=⟨h.f,MS h 0,MS h 1,MS h 2⟩
theorem map_set{L:List dL}{i:Nat}{e:dL}{f:Int}(g:dL->dL)(hn:(L.map dL.feature).Nodup)(he:L[i]?=some e)(hf:e.feature=f):L.set i (g e)=L.map λe=>if e.feature=f then g e else e:=by
 apply List.ext_getElem?;intro q;rw[zf4,zc1]
 split
 .rename_i h;subst h;rw[if_pos (za1.1 he).1,he];simp[hf]
 .rename_i hq
  cases hy:L[q]? with
  |none=>rfl
  |some y=>
   have:y.feature≠f:=λh=>hq (by
    have h1:=(za1.1 he).1;have h2:=(za1.1 hy).1;refine lD hn (by simpa using h1) (by simpa using h2) ?_;simp only[List.getElem_map];rw[(za1.1 he).2,(za1.1 hy).2,hf,h])
   simp[this]
section
variable{w u:World}{a:OA}{n c:Nat}{F S:Nat->Prop}{p q:Addr}{B mb i j:Nat}{H:List HE}{x:HE}{r:RC}
def Tch(w u:World):Prop:=∀b cur e,Blk w b cur e->e≠tC'->e≠tL'->Blk u b cur e
theorem Tch.refl(w:World):Tch w w:=λ_ _ _ h _ _=>h
theorem Tch.trans{v:World}(h:Tch w u)(k:Tch u v):Tch w v:=λb cur e hb h1 h2=>k b cur e (h b cur e hb h1 h2) h1 h2
theorem Tch.kept(h:Kept w u):Tch w u:=λb cur e hb _ _=>hb.keep h
theorem Tch.row{e size g:Nat}{cs:List Value}(h:Tch w u)(hr:Row w e size a n c cs g)(h1:e≠tC')(h2:e≠tL'):Row u e size a n c cs g:=by
 refine⟨hr.1,?_⟩
 rcases hr.2 with h0 | ⟨b,cur,e0,ha,hb,h3⟩
 .exact .inl h0
 .exact .inr ⟨b,cur,e0,ha,h b cur e hb h1 h2,h3⟩
theorem OM(hH:wP B w mb H)(hx:x∈H)(hr:Ye B w r)(hm:Mod (λk=>k+1=r.2.2\/k=x.p) w u):Tch w u:=λb cur e hb h1 h2=>hb.mod hm λhk=>by
 rcases hk with hk | hk
 .obtain⟨cur',hb'⟩:=hr.blk hk;exact h1 (hb.ne hb')
 .subst hk;exact h2 (hb.ne (hH.box x hx).1)
theorem J6(hH:wP B w mb H)(hx:x∈H)(hr:Ye B w r)(hm:Mod (λk=>k+1=r.2.2\/k=x.p) w u):From B w u:=hm.weak λk _ hk=>by
 have:=(hH.box x hx).2.1;have:=hr.2.1;show B<=k
 rcases hk with hk | hk <;> omega
def Lens(N:Nat)(H:List HE):Prop:=∀x∈H,∀r∈x.rs,r.2.1.length<=N
theorem Lens.mono{N M:Nat}(h:Lens N H)(hn:N<=M):Lens M H:=λx hx r hr=>zb5 (h x hx r hr) hn
theorem Lens.set{N:Nat}(h:Lens N H)(hx:H[i]?=some x){r':RC}(hr':r'.2.1.length<=N):Lens N (H.set i { x with rs:=x.rs.set j r' }):=λy hy s hs=>by
 rcases mem_set hy with rfl | ⟨q,_,hq⟩
 .rcases mem_set hs with rfl | ⟨l,_,hl⟩
  .exact hr'
  .exact h x (za0 hx) s (za0 hl)
 .exact h y (za0 hq) s hs
theorem J7(h3:x.rs.length=3){r':RC}:dHE { x with rs:=x.rs.set 0 r' }={ dHE x with numbers:=r'.2.1.map (·.1) }:=by
 unfold dHE MS;simp[zf4,h3]
theorem TL(h3:x.rs.length=3){r':RC}:dHE { x with rs:=x.rs.set 1 r' }={ dHE x with aT:=r'.2.1.map (·.1) }:=by
 unfold dHE MS;simp[zf4,h3]
theorem RJ(h3:x.rs.length=3){r':RC}:dHE { x with rs:=x.rs.set 2 r' }={ dHE x with lost:=r'.2.1.map (·.1) }:=by
 unfold dHE MS;simp[zf4,h3]
theorem sF(h3:x.rs.length=3){k:Nat}(hk:k<3):∃r,x.rs[k]?=some r/\r∈x.rs/\MS x k=r.2.1.map (·.1):=by
 refine⟨x.rs[k]'(by omega),za2 (by omega),List.getElem_mem _,?_⟩;unfold MS;rw[za2 (by omega)];rfl
abbrev tM':Nat:=135
abbrev tN':Nat:=56
variable{nd:ND}{m:MkD}{k0 pm pn N:Nat}
theorem Y1{R:VP}{b34:bY.T34}{m7:Option Nat}{p9 a27 a39:OA}{n27 c27 n39 c39:Nat}{x28 x29 x40:Int}{jx:Nat}(hjx:jx<1048576)
  (hH:wP B w mb H) (hB:B<=w.heap.size) (hx:H[i]?=some x) (bn:Blk w pn (enN nd a n c).toArray tN') {cu:cZ} (hq:AtL w p (enC cu ⟨a,n,c⟩)) (hqr:∀r,x.rs[2]?=some r->p.block+1≠r.2.2) (hs:LsI F w a n c cu.aT) (hm:cu.sm) (hl:Lens N H) (hN:N<=1073741824)
  (hk:∀H' u,wP B u mb H'->H'.map dHE=(H.map dHE).set i (if nd.missing=2 then { dHE x with lost:=(dHE x).lost++[cu] } else dHE x)->Tch w u->From B w u->Lens (N+1) H'->b34 m7 k0 p9 a27 n27 c27 x28 x29 a39 n39 c39 x40 ((jx+1:Nat):Int) u) :
  bY.g65 R b34 m7 k0 p9 (some ⟨pn,0,none⟩) (some ⟨x.p,0,none⟩) (some p) a27 n27 c27 x28 x29 a39 n39 c39 x40 jx w:=by
 unfold bY.g65;have hxm:=za0 hx;have h3:=(hH.box x hxm).2.2;refine dE ⟨nd.missing,by rw[addr_add,zd1,bn.cell];rfl,nN (λe2=>?_) λe2=>aC (by omega) ?_⟩
 .obtain⟨r,hr,hrm,hrd⟩:=sF (x:=x) h3 (k:=2) (by omega);have K0:∀(r':RC) u,r'.2.1.map (·.1)=r.2.1.map (·.1)++[cu]->wP B u mb (H.set i { x with rs:=x.rs.set 2 r' })->Mod (λk=>k+1=r.2.2\/k=x.p) w u->inc (jx:Int) λt=>b34 m7 k0 p9 a27 n27 c27 x28 x29 a39 n39 c39 x40 t u:=by
   intro r' u hd hH' hmod;refine aC (by omega) (hk _ u hH' ?_ (OM hH hxm (hH.row x hxm r hrm) hmod) (J6 hH hxm (hH.row x hxm r hrm) hmod) ((hl.mono (by omega)).set hx ?_))
   .rw[List.map_set,RJ h3,hd,if_pos e2];unfold dHE;simp[hrd]
   .have h1:=congrArg List.length hd;simp at h1;have h2:=hl x hxm r hrm;omega
  exact addRow hH hB hx hr hq (hqr r hr) hs hm (by have:=hl x hxm r hrm;omega) K0
 .refine hk H w hH ?_ (Tch.refl w) (From.refl B w) (hl.mono (by omega));rw[if_neg e2];apply List.ext_getElem?;intro q;rw[zf4]
  split
  .rename_i h;subst h;rw[za7,if_pos (za1.1 hx).1,zc1,hx];rfl
  .rfl
theorem xE{α β:Type}{f:α->β}{l:List α}{i:Nat}{x:α}(h:l[i]?=some x):(l.map f)[i]?=some (f x):=by rw[zc1,h];rfl
theorem ZH{R:VP}{b18:bY.T18}{b34:bY.T34}{m7:Option Nat}{p9 a27 a39:OA}{n27 c27 n39 c39:Nat}{x28 x29 x40:Int}{jx:Nat}(hjx:jx<1048576)
  (hH:wP B w mb H) (hB:B<=w.heap.size) (hx:H[i]?=some x) (bm:Blk w pm (enM m).toArray tM') (bn:Blk w pn (enN nd a n c).toArray tN') (hs:LsI F w a n c nd.aT) (hF:∀b,F b->b<B) (hm:nd.aT.length<=1048576) (hl:Lens N H) (hN:N<=1073741800)
  (hk:∀H' u,wP B u mb H'->H'.map dHE=(H.map dHE).set i (vI nd ⟨nd.thr,nd.aT,k0,m.frm,m.to⟩ (dHE x))->Tch w u->From B w u->Lens (N+2) H'->b34 m7 k0 p9 a27 n27 c27 x28 x29 a39 n39 c39 x40 ((jx+1:Nat):Int) u) :
  bY.j57 R b18 b34 m7 k0 p9 (some ⟨pm,0,none⟩) (some ⟨pn,0,none⟩) (some ⟨x.p,0,none⟩) a27 n27 c27 x28 x29 a39 n39 c39 x40 jx w:=by
 unfold bY.j57 bY.g57;have hxm:=za0 hx;have h3:=(hH.box x hxm).2.2;have cn:∀ {k:Nat} {v:Value} {w:World},Blk w pn (enN nd a n c).toArray tN'->(enN nd a n c)[k]?=some v->w.cell? ((⟨pn,0,none⟩:Addr).add k)=some v:=λh hv=>by rw[addr_add,zd1,h.cell];simpa using hv
 have cm:∀ {k:Nat} {v:Value},(enM m)[k]?=some v->w.cell? ((⟨pm,0,none⟩:Addr).add k)=some v:=λhv=>by rw[addr_add,zd1,bm.cell];simpa using hv
 refine dE ⟨_,cn bn rfl,dE ⟨_,_,_,cn bn rfl,dE ⟨_,cm rfl,dE ⟨_,cm rfl,?_⟩⟩⟩⟩;refine boxS (zs:=[.float .f64 0,.slice none 0 0,.int .i64 0,.int .i64 0,.int .i64 0]) (vs:=enC ⟨nd.thr,nd.aT,k0,m.frm,m.to⟩ ⟨a,n,c⟩) (e:=tC') rfl λw1 hA bA hk1=>?_;have hH1:=hH.kept hk1;have hsz:B<=w1.heap.size:=zb5 hB hk1.size;have bn1:=bn.keep hk1;have gle:∀r∈x.rs,r.2.2<=w.heap.size:=λr hr=>Row.le (hH.row x hxm r hr).1;have apart:∀r∈x.rs,(na w).block+1≠r.2.2:=λr hr h=>by have:=gle r hr;have e:(na w).block=w.heap.size:=rfl;omega
 have fin:∀(j:Nat) (r r':RC) (u:World) (y:dL),j<2->x.rs[j]?=some r->r'.2.1.map (·.1)=r.2.1.map (·.1)++[(⟨nd.thr,nd.aT,k0,m.frm,m.to⟩:cZ)]->dHE { x with rs:=x.rs.set j r' }=y->(if nd.missing=2 then { y with lost:=y.lost++[(⟨nd.thr,nd.aT,k0,m.frm,m.to⟩:cZ)] } else y)=vI nd ⟨nd.thr,nd.aT,k0,m.frm,m.to⟩ (dHE x) ->
   wP B u mb (H.set i { x with rs:=x.rs.set j r' })->Mod (λk=>k+1=r.2.2\/k=x.p) w1 u->bY.j65 R b18 b34 m7 k0 p9 (some ⟨pn,0,none⟩) (some ⟨x.p,0,none⟩) (some (na w)) a27 n27 c27 x28 x29 a39 n39 c39 x40 jx u:=by
  intro j r r' u y hj2 hr hd hy hupd hH' hmod;have hrm:=za0 hr;have hrok:=hH1.row x hxm r hrm;have tch:=OM hH1 hxm hrok hmod;have fr:=J6 hH1 hxm hrok hmod;have hil:=(za1.1 hx).1;have hx':(H.set i { x with rs:=x.rs.set j r' })[i]?=some { x with rs:=x.rs.set j r' }:=by rw[zf4,if_pos rfl,if_pos hil]
  have hAu:AtL u (na w) (enC (⟨nd.thr,nd.aT,k0,m.frm,m.to⟩:cZ) ⟨a,n,c⟩):=hA.mod hmod λhk=>by
   rcases hk with hk | hk
   .exact apart r hrm hk
   .have:=(hH.box x hxm).1.lt;have e:(na w).block=w.heap.size:=rfl;omega
  have hsu:LsI F u a n c nd.aT:=(hs.kept hk1).mod fr λb hb hBb=>by have:=hF b hb;have h':B<=b:=hBb;omega
  unfold bY.j65;refine Y1 (x:={ x with rs:=x.rs.set j r' }) (i:=i) hjx hH' (zb5 hsz hmod.size) hx' (tch _ _ _ bn1 (by decide) (by decide)) hAu (λr2 hr2=>?_) hsu hm (Lens.set (N:=N+1) (hl.mono (by omega)) hx ?_) (by omega) λH' v hH2 hd2 tch2 fr2 hl2=>?_
  .have:x.rs[2]?=some r2:=by
    rw[zf4,if_neg (by omega)]at hr2;exact hr2
   exact apart r2 (za0 this)
  .have h1:=congrArg List.length hd;simp at h1;have h2:=hl x hxm r hrm;omega
  .refine hk H' v hH2 ?_ ((Tch.kept hk1).trans (tch.trans tch2)) ?_ hl2
   .rw[hd2,hy,hupd,List.map_set,List.set_set]
   .exact((Kept.mod (S:=λk=>B<=k) hk1).trans fr zg7 zg7).trans fr2 zg7 zg7
 refine⟨_,cn bn1 rfl,nN (λe3=>?_) λe3=>?_⟩
 .obtain⟨r,hr,hrm,hrd⟩:=sF (x:=x) h3 (k:=1) (by omega);refine addRow hH1 hsz hx hr hA (apart r hrm) (hs.kept hk1) hm (by have:=hl x hxm r hrm;omega) λr' u hd hH' hmod=>fin 1 r r' u _ (by omega) hr hd (TL h3) ?_ hH' hmod;unfold vI;rw[if_pos e3,hd];unfold dHE;simp[hrd]
 .obtain⟨r,hr,hrm,hrd⟩:=sF (x:=x) h3 (k:=0) (by omega);refine addRow hH1 hsz hx hr hA (apart r hrm) (hs.kept hk1) hm (by have:=hl x hxm r hrm;omega) λr' u hd hH' hmod=>fin 0 r r' u _ (by omega) hr hd (J7 h3) ?_ hH' hmod;unfold vI;rw[if_neg e3,hd];unfold dHE;simp[hrd]
end
section
variable{w u:World}{a a1:OA}{n c n1 c1:Nat}{F S:Nat->Prop}{p q:Addr}{B mb i j:Nat}{H:List HE}{x:HE}{r:RC}{ms:List MkD}{nodes:List ND}
theorem t130:(prog).underlying 130=some (.map 3 93):=by kernel_rfl
theorem WL:Rj prog 3 (enK .i64):=Xl (by kernel_rfl)
theorem a1h(w:World):(zeroValue 93).run prog w = .ok (.pointer none) w:=by kernel_rfl
theorem qh(hH:wP B w mb H):(H.map HE.f).Nodup:=by
 have:=hH.map.nodup WL;rw[ze6]at this;exact this
theorem Wl(hH:wP B w mb H){f:Int}{v:Value}(h:nI (H.map HE.kv) f=some v):∃(i:Nat) (x:HE),H[i]?=some x/\x.f=f/\v = .pointer (some ⟨x.p,0,none⟩):=by
 obtain⟨x,hx,he⟩:=zd4.1 (SB h);obtain⟨i,hi⟩:=List.getElem?_of_mem hx;cases he;exact⟨i,x,hi,rfl,rfl⟩
theorem RY{f:Int}(h:nI (H.map HE.kv) f=none):f∉H.map HE.f:=by
 have:=Fp.1 h;rw[ze6]at this;exact this
theorem um(H:List HE):(H.map dHE).map dL.feature=H.map HE.f:=by rw[ze6];rfl
theorem a0m(h:SlK 3 enM w a n ms){i:Int}{K:Int->Int->Int->Prop}(h0:0<=i)(hi:i<n)(hk:∀m,ms[i.toNat]?=some m->K m.node m.frm m.to) :
  ix a n i λq=>cI w ((q.add (i.toNat*3)).add 0) .i64 λx0=>cI w ((q.add (i.toNat*3)).add 1) .i64 λx1=>cI w ((q.add (i.toNat*3)).add 2) .i64 λx2=>K x0 x1 x2:=by
 have hi':i.toNat<n:=by omega
 refine h.read hi' λp hp=>dK ⟨h0,hi⟩ ⟨_,?_,_,?_,_,?_,hk _ (za2 (h.len ▸ hi'))⟩
 .rw[add_add];exact hp 0 _ rfl
 .rw[add_add];exact hp 1 _ rfl
 .rw[add_add];exact hp 2 _ rfl
abbrev tT':Nat:=50
theorem Ik{R:VP}{b18:bY.T18}{k0:Nat}{a27:OA}{n27 c27:Nat}{x28 x29 o:Int}{pt g0:Nat}{w0:World}{L0:List dL}{N:Nat}(hN:N+2*ms.length<=1073741700)(hms:ms.length<=4096)(hn:n=ms.length)
  (bt:Blk w0 pt #[.int .i64 o,.slice a1 n1 c1] tT') (hnodes:Ls tN F w0 a1 n1 c1 nodes) (hF:∀b,F b->b<B) (hin:∀m∈ms,∃(i:Nat) (x:ND),m.node=(i:Int)/\nodes[i]?=some x) (hsh:Short 1048576 nodes) (hmk:aK 3 enM tM' w0 a n c ms g0)
  (hfin:∀H' u,wP B u mb H'->H'.map dHE=(ms.filterMap (sU k0 nodes)).foldl nM L0->Tch w0 u->From B w0 u->Lens (N+2*ms.length) H'->inc x29 λt=>b18 (some mb) a27 n27 c27 x28 t u) :
  ∀(k j:Nat) (w:World) (H:List HE),j+k=n->wP B w mb H->B<=w.heap.size->H.map dHE=((ms.take j).filterMap (sU k0 nodes)).foldl nM L0->Tch w0 w->From B w0 w->Lens (N+2*j) H ->
   bY.l34 R b18 (k+1) (some mb) k0 (some ⟨pt,0,none⟩) a27 n27 c27 x28 x29 a n c n j w
 |0,j,w,H,hj,hH,hB,hd,ht,hf,hl=>by
  unfold bY.l34 bY.g34;refine aA (by omega) ?_;obtain rfl:j=ms.length:=by omega
  rw[zd3]at hd;exact hfin H w hH hd ht hf hl
 |k+1,j,w,H,hj,hH,hB,hd,ht,hf,hl=>by
  unfold bY.l34 bY.g34;refine aH (by omega) ?_;have hmk':aK 3 enM tM' w a n c ms g0:=ht.row hmk (by decide) (by decide);refine a0m (hmk'.slk wE (by omega)) (by omega) (by omega) λm hm=>?_;rw[za3]at hm;refine boxS (zs:=[.int .i64 0,.int .i64 0,.int .i64 0]) (vs:=enM m) (e:=tM') rfl λw1 hAm bm hk1=>?_;have bt1:=(ht _ _ _ bt (by decide) (by decide)).keep hk1;refine⟨_,_,_,show w1.cell? ((⟨pt,0,none⟩:Addr).add 1)=some (.slice a1 n1 c1) by(rw[addr_add,zd1,bt1.cell];rfl),?_⟩;refine⟨_,hAm 0 _ rfl,?_⟩;obtain⟨q,nd,hq,hnd⟩:=hin m (za0 hm);have hnodes1:Ls tN F w1 a1 n1 c1 nodes:=((hnodes.mod hf λb hb hBb=>by have:=hF b hb;have h':B<=b:=hBb;omega)).kept hk1;have hql:q<n1:=by rw[hnodes1.len];exact(za1.1 hnd).1
  refine hnodes1.rdN (by omega) (by omega) λnd' a2 n2 c2 hnd' hcats=>?_;have hnn:nd'=nd:=by rw[hq,za3,hnd]at hnd';cases hnd';rfl
  subst hnn;refine boxS (zs:=[.int .u8 0,.int .i64 0,.int .i64 0,.float .f64 0,.slice none 0 0,.int .u8 0,.int .i64 0,.int .i64 0]) (vs:=enN nd' a2 n2 c2) (e:=tN') rfl λw2 hAn bn hk2=>?_;have hk12:=zg1 hk1 hk2;have hH2:=hH.kept hk12;refine⟨_,hAn 2 _ rfl,?_⟩;have hcut:sU k0 nodes m=some (nd',⟨nd'.thr,nd'.aT,k0,m.frm,m.to⟩):=by unfold sU;rw[hq,za3,hnd];rfl
  have hnext:((ms.take (j+1)).filterMap (sU k0 nodes)).foldl nM L0=nM (H.map dHE) (nd',⟨nd'.thr,nd'.aT,k0,m.frm,m.to⟩):=by
   rw[take_snoc hm,List.filterMap_append,List.foldl_append,<- hd];simp[hcut]
  have go:∀(H1:List HE) (i:Nat) (x:HE) (u:World),wP B u mb H1->H1[i]?=some x->x.f=nd'.feature->H1.map dHE=xX nd'.feature (H.map dHE)->Tch w2 u->From B w2 u->Lens (N+2*j) H1 ->
    bY.j57 R b18 (bY.l34 R b18 (k+1)) (some mb) k0 (some ⟨pt,0,none⟩) (some (na w)) (some (na w1)) (some ⟨x.p,0,none⟩) a27 n27 c27 x28 x29 a n c n j u:=by
   intro H1 i x u hH1 hx hxf hens ht1 hf1 hl1;have hsz:B<=u.heap.size:=zb5 (zb5 hB hk12.size) hf1.size;refine ZH (m:=m) (nd:=nd') (F:=F) (by omega) hH1 hsz hx (ht1 _ _ _ (bm.keep hk2) (by decide) (by decide)) (ht1 _ _ _ bn (by decide) (by decide)) ((hcats.kept hk2).mod hf1 λb hb hBb=>by have:=hF b hb;have h':B<=b:=hBb;omega) hF (hsh nd' (za0 hnd)) hl1 (by omega) λH' v hH' hd' ht' hf' hl'=>?_;refine Ik hN hms hn bt hnodes hF hin hsh hmk hfin k (j+1) v H' (by omega) hH' (zb5 hsz hf'.size) ?_ (ht.trans ((Tch.kept hk12).trans (ht1.trans ht'))) ?_ (hl'.mono (by omega))
   .rw[hnext,hd'];have hi:=xE (f:=dHE) hx;rw[map_set (f:=nd'.feature) (vI nd' ⟨nd'.thr,nd'.aT,k0,m.frm,m.to⟩) (by rw[um];exact qh hH1) hi hxf,hens];rfl
   .exact((hf.trans (Kept.mod (S:=λ_=>False) hk12) (U:=λk=>B<=k) (λ_ _ h=>h) (λ_ _ h=>h.elim)).trans hf1 zg7 zg7).trans hf' zg7 zg7
  refine ji.lookup WL t130 a1h hH2.map ?_
  cases hg:nI (H.map HE.kv) nd'.feature with
  |none=>
   have hnf:=RY hg;refine⟨none,rfl,?_⟩;refine LW ⟨_,hAn 2 _ rfl,?_⟩;have b3:Blk (w2.alloc (.cells (uf nd'.feature none 0 0 none 0 0 none 0 0) 74)) w2.heap.size (HE.cells ⟨nd'.feature,w2.heap.size,[wH,wH,wH]⟩).toArray tL':=Blk.new w2 _ _;have hk3:Kept w2 (w2.alloc (.cells (uf nd'.feature none 0 0 none 0 0 none 0 0) 74)):=zg3 w2 _;refine bZ ?_;have hc2:(w2.alloc (.cells (uf nd'.feature none 0 0 none 0 0 none 0 0) 74)).cell? ((na w1).add 2)=some (.int .i64 nd'.feature):=(hAn.kept hk3) 2 _ rfl;refine za4 nd'.feature (And.intro hc2 ?_);have hm3:=hH2.map.kept hk3;have hh:∀R,(∀u,ji (enK .i64) u mb (rP (H.map HE.kv) nd'.feature (.pointer (some (na w2))))->Only (mb+1) (w2.alloc (.cells (uf nd'.feature none 0 0 none 0 0 none 0 0) 74)) u->R undef u)->dC prog (do Instr.mapUpdate 130 (.map (some mb)) (enK .i64 nd'.feature) (.pointer (some (na w2)));pure undef) (w2.alloc (.cells (uf nd'.feature none 0 0 none 0 0 none 0 0) 74)) R:=λR hR=>ji.update WL t130 hm3 hR;refine hh _ λu hu ho=>?_;have hnew:=hH2.push (zb5 hB hk12.size) hnf b3 hk3 hu ho;refine go (H++[⟨nd'.feature,w2.heap.size,[wH,wH,wH]⟩]) H.length ⟨nd'.feature,w2.heap.size,[wH,wH,wH]⟩ u hnew (by simp) rfl ?_ (λb cur e hb _ _=>(hb.keep hk3).mod ho λhk=>?_) ?_ ?_
   .unfold xX;rw[if_neg (by rw[um];exact hnf),zb8];rfl
   .obtain rfl:b=mb:=by have hk':b+1=mb+1:=hk;omega
    exact hH2.map.lJ hb
   .exact(Kept.mod (S:=λk=>B<=k) hk3).trans ho (λ_ _ h=>h) (λk _ hk=>by have hk':k+1=mb+1:=hk;have:=hH.mB;show B<=k;omega)
   .intro y hy r hr
    rcases zb2.1 hy with hy | hy
    .exact hl y hy r hr
    .obtain rfl:=by simpa using hy
     have:r=wH:=by simpa using hr
     subst this;exact Nat.zero_le _
  |some v=>
   obtain⟨i,x,hx,hxf,rfl⟩:=Wl hH hg;refine⟨_,rfl,GG ?_⟩;refine go H i x w2 hH2 hx hxf ?_ (Tch.refl w2) (From.refl B w2) hl;unfold xX;rw[if_pos (by rw[um,<- hxf];exact ze8 (za0 hx))]
end
def ltD(x y:cZ):Bool:=decide (G7 x.thr<G7 y.thr)
def ltF(x y:dL):Bool:=decide (x.feature<y.feature)
def Az(e:dL):dL:={ e with numbers:=sorted ltD e.numbers }
noncomputable def dN(ts:List TD):List dL:=sorted ltF (((dH ts 0).foldl nM []).map Az)
def Y5(x:CD):xh:=⟨x.1.thr,x.2,x.1.tree,x.1.frm,x.1.to⟩
def Eu(h:HE):vV:=⟨h.f,((h.rs[0]?).getD wH).1,((h.rs[1]?).getD wH).1,((h.rs[2]?).getD wH).1⟩
theorem Qj(l:List CD):(l.map Y5).flatMap mQ=l.flatMap nJ:=by
 induction l with
 |nil=>rfl
 |cons x l ih=>rw[ze0,zd9,zd9,ih];rfl
theorem Gm(l:List CD):sorted ltC (l.map Y5)=(sorted (λa b=>ltD a.1 b.1) l).map Y5:=lH Y5 l
theorem KW(l:List CD):(sorted (λa b=>ltD a.1 b.1) l).map (·.1)=sorted ltD (l.map (·.1)):=(lH (λx:CD=>x.1) l).symm
section
variable{w u:World}{a:OA}{n c n1:Nat}{S:Nat->Prop}{p q:Addr}{B mb i j:Nat}{H:List HE}{x:HE}{r:RC}
theorem nV{κ:Type}[DecidableEq κ]{en:κ->Value}{b r:Nat}{L rem:List (κ×Value)}{cs:Array Value}{e:Nat}(h:Rng en w b r L rem)(hb:Blk w r cs e):False:=by
 obtain⟨es,c,s,se,l,h1,_⟩:=h;unfold Blk at hb;rw[h1]at hb;cases hb
theorem sortRow(hH:wP B w mb H)(hx:H[i]?=some x)(hr:x.rs[0]?=some r)(hl:r.2.1.length<=1073741824){K:zg6}
  (hk:∀u,wP B u mb (H.set i { x with rs:=x.rs.set 0 (r.1,sorted (λa b=>ltD a.1 b.1) r.2.1,r.2.2) })->Only r.2.2 w u->K u) :
  E.CallsD prog 72 #[.slice r.1.a r.1.n r.1.c,.func (.func 73) #[] #[]] w λv u=>v = .tuple #[]/\K u:=by
 have hrok:=hH.row x (za0 hx) r (za0 hr);have hn:=hrok.1.len yu (by omega);have h0:aK 5 mQ tC' w r.1.a r.1.n r.1.c (r.2.1.map Y5) r.2.2:=by
  have:=hrok.1;unfold aK at this ⊢;rw[Qj];exact this
 refine zg0 (FX (by omega) h0) λv u ⟨hv,h1,ho⟩=>⟨hv,hk u (hH.turn Pj V4 Q4 hx hr ho ⟨?_,hrok.2.1,λy hy=>?_⟩ rfl rfl) ho⟩
 .rw[Gm]at h1;show aK 5 nJ tC' u r.1.a r.1.n r.1.c (sorted (λa b=>ltD a.1 b.1) r.2.1) r.2.2;unfold aK at h1 ⊢;rw[<- Qj];exact h1
 .have hy':=(sorted_perm _ r.2.1).mem_iff.1 hy;refine(hrok.2.2 y hy').mod ho λk cur hb hk=>?_;obtain⟨cur',hb'⟩:=hrok.blk hk;exact Pj (hb.ne hb')
theorem LH(x:vV):∀v∈gZ x,v.oneCell'=true:=by
 intro v hv;simp only[gZ,zb3,zf9,or_false]at hv
 rcases hv with h | h | h | h <;> subst h <;> rfl
theorem J5(hH:wP B w mb H)(hx:x∈H):AtL w ⟨x.p,0,none⟩ (gZ (Eu x)):=by
 obtain⟨hb,_,h3⟩:=hH.box x hx;intro j v hj;rw[addr_add,zd1,hb.cell];obtain⟨r0,e0,_,_⟩:=sF (x:=x) h3 (k:=0) (by omega);obtain⟨r1,e1,_,_⟩:=sF (x:=x) h3 (k:=1) (by omega);obtain⟨r2,e2,_,_⟩:=sF (x:=x) h3 (k:=2) (by omega);have:gZ (Eu x)=x.cells:=by
  unfold Eu HE.cells;rw[e0,e1,e2];obtain⟨f,p,rs⟩:=x
  match rs,h3 with
  | [s0,s1,s2],_=>simp at e0 e1 e2;subst e0;subst e1;subst e2;rfl
 rw[<- this];simpa using hj
theorem XT{r':RC}(hx:H[i]?=some x):(H.set i { x with rs:=x.rs.set j r' }).map HE.kv=H.map HE.kv:=by
 rw[List.map_set];apply List.ext_getElem?;intro q;rw[zf4]
 split
 .rename_i e;subst e;rw[za7,if_pos (za1.1 hx).1,zc1,hx];rfl
 .rfl
def Part(D:List Int)(H:List HE)(L:List dL):Prop:=H.map dHE=L.map λe=>if e.feature∈D then Az e else e
theorem zA{D:List Int}{L:List dL}(h:Part D H L):H.map HE.f=L.map dL.feature:=by
 rw[<- um,h,ze6];refine List.map_congr_left λe _=>?_;simp only[Function.comp]
 split <;> rfl
theorem Vl{D:List Int}{L:List dL}(h:Part D H L)(hx:H[i]?=some x):∃e,L[i]?=some e/\e.feature=x.f/\dHE x=if e.feature∈D then Az e else e:=by
 have h1:=xE (f:=dHE) hx;rw[h,zc1]at h1;obtain⟨e,he,h2⟩:=zd7.1 h1;refine⟨e,he,?_,h2.symm⟩;have:(dHE x).feature=x.f:=rfl;rw[<- this,<- h2]
 split <;> rfl
theorem U8{κ:Type}[DecidableEq κ]{en:κ->Value}{b r:Nat}{L rem:List (κ×Value)}(h:Rng en w b r L rem):b≠r:=by
 obtain⟨es,c,s,se,l,h1,h2,_⟩:=h;rintro rfl;rw[h1]at h2;cases h2
theorem ML{g:Nat}(h:Only g w u)(hg:g=0):Kept w u:=Mod.kept (S:=λk=>k+1=g) h (λk _ hk=>by have h':k+1=g:=hk;omega)
theorem Ny{e size g:Nat}{cs:List Value}(hH:wP B w mb H)(hr:Row w e size a n c cs g)(he:e=tL')(hgp:∀y∈H,y.p+1≠g)(ho:Only g w u):wP B u mb H:=by
 subst he
 rcases Nat.eq_zero_or_pos g with h0 | h0
 .exact hH.kept (ML ho h0)
 .obtain⟨b,hb⟩:∃b,g=b+1:=⟨g - 1,by omega⟩;subst hb;obtain⟨cur,hblk⟩:=Row.blk hr rfl;exact hH.apart V4 Q4 ho hblk λy hy e=>hgp y hy (by omega)
theorem He{e size g r:Nat}{cs:List Value}{L rem:List (Int×Value)}(hR:Rng (enK .i64) w mb r L rem)(hr:Row w e size a n c cs g)(ho:Only g w u):Rng (enK .i64) u mb r L rem :=
 hR.mod ho (λhk=>by obtain⟨cur,hb⟩:=Row.blk hr hk;exact hR.map.lJ hb) λhk=>by obtain⟨cur,hb⟩:=Row.blk hr hk;exact nV hR hb
theorem Ky{O:List HE}(hnd:(H.map HE.f).Nodup)(hO:∀z∈O,z∈H)(hp:(O.map HE.kv).Perm (H.map HE.kv)):O.Perm H:=by
 have inj:∀x∈H,∀y∈H,x.f=y.f->x=y:=λx hx y hy hf=>by
  obtain⟨i,hi⟩:=List.getElem?_of_mem hx;obtain⟨j,hj⟩:=List.getElem?_of_mem hy;have li:=(za1.1 hi).1;have lj:=(za1.1 hj).1;have:i=j:=lD hnd (by simpa using li) (by simpa using lj) (by
   simp only[List.getElem_map];rw[(za1.1 hi).2,(za1.1 hj).2,hf])
  subst this;rw[hi]at hj;cases hj;rfl
 have hf:(O.map HE.f).Perm (H.map HE.f):=by
  have:=hp.map (·.1)
  rwa [ze6,ze6]at this
 have n1:O.Nodup:=mW HE.f (hf.nodup_iff.2 hnd);have n2:H.Nodup:=mW HE.f hnd;refine(List.perm_ext_iff_of_nodup n1 n2).2 λz=>⟨hO z,λhz=>?_⟩;obtain⟨y,hy,he⟩:=zd4.1 (hp.mem_iff.2 (ze8 (f:=HE.kv) hz));have:y.f=z.f:=congrArg Prod.fst he;rw[<- inj y (hO y hy) z hz this];exact hy
theorem Kv(h3:x.rs.length=3)(hr:x.rs[0]?=some r):dHE { x with rs:=x.rs.set 0 (r.1,sorted (λa b=>ltD a.1 b.1) r.2.1,r.2.2) }=Az (dHE x):=by
 rw[J7 h3];unfold Az;have:(dHE x).numbers=r.2.1.map (·.1):=by unfold dHE MS;rw[hr];rfl
 rw[this,<- KW]
theorem OQ{D:List Int}{L:List dL}{y:HE}(h:Part D H L)(hnd:(L.map dL.feature).Nodup)(hx:H[i]?=some x)(hxD:x.f∉D)(hy:dHE y=Az (dHE x)):Part (D++[x.f]) (H.set i y) L:=by
 obtain⟨e,he,hf,hd⟩:=Vl h hx;rw[if_neg (by rw[hf];exact hxD)]at hd;unfold Part at h ⊢;rw[List.map_set,h,hy,hd];apply List.ext_getElem?;intro q;rw[zf4]
 split
 .rename_i hq;subst hq;rw[if_pos (by rw[za7];exact(za1.1 he).1),zc1,he];simp[hf]
 .rename_i hq;rw[zc1,zc1]
  cases hz:L[q]? with
  |none=>rfl
  |some z=>
   have:z.feature≠x.f:=λhzf=>hq (lD hnd (by simpa using(za1.1 he).1) (by simpa using(za1.1 hz).1) (by
    simp only[List.getElem_map];rw[(za1.1 he).2,(za1.1 hz).2,hf,hzf]))
   simp[this]
theorem Tq{R:VP}{r:Nat}{w0:World}{L0:List dL}{N:Nat}(hN:N<=1073741824)(hL:L0.length<=1073741824)(hnd:(L0.map dL.feature).Nodup)
  (hfin:∀H' u a n c g,wP B u mb H'->Part (L0.map dL.feature) H' L0->From B w0 u->aK 4 gZ tL' u a n c ((sorted (λa b=>decide (a.f<b.f)) H').map Eu) g->(g=0\/B<g)->R (.tuple #[.slice a n c,.int .i64 0]) u) :
  ∀(k:Nat) (w:World) (H:List HE) (rem:List (Int×Value)) (O:List HE) (a:OA) (n c g:Nat),rem.length=k->wP B w mb H->B<=w.heap.size->Rng (enK .i64) w mb r (H.map HE.kv) rem->B<=r->aK 4 gZ tL' w a n c (O.map Eu) g->(g=0\/B<g)->(∀y∈H,y.p+1≠g) ->
   (∀z∈O,z∈H)->(O.map HE.kv++rem).Perm (H.map HE.kv)->Part (O.map HE.f) H L0->Lens N H->From B w0 w->bY.l78 R (k+1) a n c (some ⟨r,0,none⟩) w:=by
 intro k
 induction k with
 |zero=>
  intro w H rem O a n c g hk hH hB hrng hr hout hg hgp hO hperm hpart hl hf;have hrem:rem=[]:=za9 hk;subst hrem;rw[zc8]at hperm;have hOH:=Ky (qh hH) hO hperm;have hn:=aK.len (k:=4) (en:=gZ) (λ_=>rfl) (by omega) hout;have hHl:H.length=L0.length:=by have:=congrArg List.length (zA hpart);simpa using this
  have hOl:=hOH.length_eq;rw[za7]at hn;rw[bY.u78];unfold bY.g78;refine hrng.next (λ_ => .inl ⟨rfl,?_⟩) (λu r1 x r2 h=>by simp at h);unfold bY.j81 bY.g81;refine GG (zg0 (DJ (by omega) hout) λv u ⟨hv,h1,ho⟩=>⟨hv,hfin H u a n c g (Ny hH hout rfl hgp ho) ?_ (hf.trans ho (λ_ _ h=>h) (λk _ hk=>by have hk':k+1=g:=hk;show B<=k;omega)) ?_ hg⟩)
  .have hfe:∀f,f∈O.map HE.f↔f∈L0.map dL.feature:=λf=>by rw[<- zA hpart];exact(hOH.map HE.f).mem_iff
   unfold Part at hpart ⊢;rw[hpart];refine List.map_congr_left λe _=>?_;simp only[hfe]
  .rw[lH]at h1;have e:sorted (λa b=>ltL (Eu a) (Eu b)) O=sorted (λa b=>decide (a.f<b.f)) H:=Hq (key:=HE.f) hOH ((hOH.map HE.f).nodup_iff.2 (qh hH));rw[e]at h1;exact h1
 |succ k ih=>
  intro w H rem O a n c g hk hH hB hrng hr hout hg hgp hO hperm hpart hl hf;rw[bY.u78];unfold bY.g78;refine hrng.next (λh=>by rw[h]at hk;cases hk) (λu r1 x r2 hrem hrng' ho hent => .inr ⟨_,_,rfl,?_⟩);unfold bY.j81 bY.g81;refine LW (dC.of hent ⟨_,_,rfl,?_⟩);have hxm:x∈H.map HE.kv:=hperm.mem_iff.1 (List.mem_append_right _ (by rw[hrem];simp));obtain⟨y,hy,hyx⟩:=zd4.1 hxm;subst hyx;obtain⟨i,hi⟩:=List.getElem?_of_mem hy;have h3:=(hH.box y hy).2.2;have hne:r≠mb:=Ne.symm (U8 hrng);have hu:wP B u mb H:=hH.other ho (λk cur e hb hk=>by
   have hk':k+1=r+1:=hk;obtain rfl:k=r:=by omega
   exact nV hrng hb) (λhk=>hne (by have hk':mb+1=r+1:=hk;omega))
  have hout1:aK 4 gZ tL' u a n c (O.map Eu) g:=hout.mod ho λk hk hS=>by
   obtain⟨cur,hb⟩:=Row.blk hout hk;have hS':k+1=r+1:=hS;obtain rfl:k=r:=by omega
   exact nV hrng hb
  have hf1:From B w0 u:=hf.trans ho (λ_ _ h=>h) (λk _ hk=>by have hk':k+1=r+1:=hk;show B<=k;omega);obtain⟨r0,hr0,hr0m,_⟩:=sF (x:=y) h3 (k:=0) (by omega);have hcell:=J5 hu hy;show cL u ((⟨y.p,0,none⟩:Addr).add 1) _;have hc1:u.cell? ((⟨y.p,0,none⟩:Addr).add 1)=some (.slice r0.1.a r0.1.n r0.1.c):=by
   have:=hcell 1 _ rfl;rw[this];simp[Eu,hr0]
  refine⟨_,_,_,hc1,?_⟩;refine sortRow hu hi hr0 (by have:=hl y hy r0 hr0m;omega) λu1 hH1 ho1=>?_;have hrok:=hu.row y hy r0 hr0m;have hil:=(za1.1 hi).1;obtain⟨y2,hy2⟩:∃y2:HE,y2={ y with rs:=y.rs.set 0 (r0.1,sorted (λa b=>ltD a.1 b.1) r0.2.1,r0.2.2) }:=⟨_,rfl⟩;rw[<- hy2]at hH1;have hi2:(H.set i y2)[i]?=some y2:=by rw[zf4,if_pos rfl,if_pos hil]
  have hy2m:=za0 hi2;have hcell2:=J5 hH1 hy2m;have hy2p:y2.p=y.p:=by rw[hy2]
  have hy2f:y2.f=y.f:=by rw[hy2]
  rw[hy2p]at hcell2;show Go.E.ldL u1 (⟨y.p,0,none⟩:Addr) _;have hout2:aK 4 gZ tL' u1 a n c (O.map Eu) g:=hout1.mod ho1 λk hk hS=>by
   obtain⟨cur,hb⟩:=Row.blk hout1 hk;obtain⟨cur',hb'⟩:=hrok.blk hS;exact Q4 (hb'.ne hb)
  refine⟨_,hcell2 0 _ rfl,_,_,_,hcell2 1 _ rfl,_,_,_,hcell2 2 _ rfl,_,_,_,hcell2 3 _ rfl,?_⟩;have hn:=aK.len (k:=4) (en:=gZ) (λ_=>rfl) (by omega) hout2;rw[za7]at hn;have hHl:H.length=L0.length:=by have:=congrArg List.length (zA hpart);simpa using this
  have hOl:O.length<=H.length:=by have:=hperm.length_eq;simp at this;omega
  have hkv2:(H.set i y2).map HE.kv=H.map HE.kv:=by rw[hy2];exact XT hi
  have hps:∀z∈H.set i y2,∃z'∈H,z'.p=z.p:=λz hz=>by
   rcases mem_set hz with rfl | ⟨q,_,hq⟩
   .exact⟨y,hy,hy2p.symm⟩
   .exact⟨z,za0 hq,rfl⟩
  refine aK.pY (P:=prog) (en:=gZ) (ys:=[Eu y2]) (m:=1) a1o (λ_=>rfl) (by omega) hout2 LH rfl rfl (by omega) (by simp only[maxLen];omega) (by omega) λa' c' g' u2 hout3 hg' _ ho2=>⟨_,_,_,rfl,?_⟩;have hgp1:∀z∈H.set i y2,z.p+1≠g:=λz hz=>by obtain⟨z',hz',e⟩:=hps z hz;rw[<- e];exact hgp z' hz'
  have hsz1:B<=u1.heap.size:=zb5 (zb5 hB ho.size) ho1.size;have hynO:y.f∉O.map HE.f:=λhmem=>by
   have hnd2:((O.map HE.kv++rem).map (·.1)).Nodup:=((hperm.map (·.1)).nodup_iff).2 (by rw[ze6];exact qh hH);rw[zb8,hrem]at hnd2;have:=(List.nodup_append.1 hnd2).2.2 y.f (by rw[ze6];exact hmem) y.f (by simp);exact this rfl
  refine ih u2 (H.set i y2) (r1++r2) (O++[y2]) a' (n+1) c' g' (by rw[hrem]at hk;simp at hk ⊢;omega) (Ny hH1 hout2 rfl hgp1 ho2) (zb5 hsz1 ho2.size) ?_ hr ?_ (by omega) ?_ ?_ ?_ ?_ ?_ ?_
  .rw[hkv2];exact He (He hrng' (hrok.1) ho1) hout2 ho2
  .rw[zb8];exact hout3
  .intro z hz;have hzl:=(hH1.box z hz).1.lt;have:=hgp1 z hz;omega
  .intro z hz
   rcases zb2.1 hz with hz | hz
   .obtain⟨q,hq⟩:=List.getElem?_of_mem (hO z hz);refine za0 (i:=q) ?_;rw[zf4,if_neg ?_]
    .exact hq
    .rintro rfl;rw[hi]at hq;cases hq;exact hynO (ze8 hz)
   .obtain rfl:z=y2:=by simpa using hz
    exact hy2m
  .rw[hkv2];refine List.Perm.trans ?_ hperm;rw[hrem,zb8,za5];have:y2.kv=y.kv:=by rw[hy2]
   simp only[ze0,List.map_nil,this,List.singleton_append];exact List.Perm.append_left _ zf7.symm
  .rw[zb8,ze0,List.map_nil,hy2f];exact OQ hpart hnd hi hynO (by rw[hy2];exact Kv h3 hr0)
  .rw[hy2];refine hl.set hi ?_;have:=(sorted_perm (λa b=>ltD a.1 b.1) r0.2.1).length_eq;show(sorted (λa b=>ltD a.1 b.1) r0.2.1).length<=N;rw[this];exact hl y hy r0 hr0m
  .have hrB:=hrok.2.1;exact(hf1.trans ho1 (λ_ _ h=>h) (λk _ hk=>by have hk':k+1=r0.2.2:=hk;show B<=k;omega)).trans ho2 (λ_ _ h=>h) (λk _ hk=>by have hk':k+1=g:=hk;show B<=k;omega)
end
end Go.Mir
