/- Part of a proof; no conditions. -/
import Derived.Test.YtmjlipmapfofmaaGreatSSA
import Derived.Test.YtmjlipmapfofmaaGreatED
import Derived.Test.YtmjlipmapfofmaaGreatTMA
set_option linter.unusedVariables false
set_option linter.unusedSimpArgs false
set_option linter.unusedSectionVars false
open Go.Proofs.Tryz (prog)
namespace Go.Mir
open Go Go.E Go.RowKit Go.Ss
noncomputable abbrev qX(x:yh):Value:=Ae x.nd.kind x.nd.value x.nd.feature x.nd.thr x.nd.aT.a x.nd.aT.n x.nd.aT.c x.nd.missing x.nd.left x.nd.right x.frm x.to
abbrev yx(lt:yh->yh->Bool)(X:zg6)(G:yh->Prop):Prop:=∀w x y,X w->G x->G y->E.CallsD prog 80 #[qX x,qX y] w λv u=>∃r:Int,v = .int .i64 r/\decide (r<0)=lt x y/\Kept w u
noncomputable def kW(a:OA)(n c g:Nat)(lt:yh->yh->Bool)(X:zg6)(G:yh->Prop)(wk:Wk lt)(hs:n<=1152921504606846975)(hX:∀w u,X w->Only g w u->X u)(hc:yx lt X G):SM yh :=
 smK prog (λw q K=>mf w q λk v f z a n c m l r s t=>K ⟨⟨k,v,f,z,⟨a,n,c⟩,m,l,r⟩,s,t⟩) (λw q x K=>ug w q x.nd.kind x.nd.value x.nd.feature x.nd.thr x.nd.aT.a x.nd.aT.n x.nd.aT.c x.nd.missing x.nd.left x.nd.right x.frm x.to K) 10 a n c 115 g uM lt 80 (λx y => #[qX x,qX y]) X G (λ_=>rfl) (by omega) wk hs
  (λw q x K h hk=>⟨_,h 0 _ rfl,_,h 1 _ rfl,_,h 2 _ rfl,_,h 3 _ rfl,_,_,_,h 4 _ rfl,_,h 5 _ rfl,_,h 6 _ rfl,_,h 7 _ rfl,_,h 8 _ rfl,_,h 9 _ rfl,hk⟩) (λw q x K h=>h) hX hc
section
variable{a:OA}{n c g:Nat}{lt:yh->yh->Bool}{X:zg6}{G:yh->Prop}(wk:Wk lt)(hs:n<=1152921504606846975)(hX:∀w u,X w->Only g w u->X u)(hc:yx lt X G)
theorem O6:(kW a n c g lt X G wk hs hX hc).TS λx1 x2 x3 w R=>E.CallsD prog 118 #[.slice a n c,.int .i64 x1,.int .i64 x2,.int .i64 x3,.func (.func 80) #[] #[]] w R :=
 λP x q y s w R hxy hH hR=>jg.calls (za4 (p:=λk=>jg.l3 R k a n c _ _ _ 0 w) _ ((kW a n c g lt X G wk hs hX hc).DD (l:=λk z w=>jg.l3 R k a n c _ _ _ z w) (λk z w h=>(jg.u3 ..).mpr h) hxy rfl rfl rfl hR x.length 0 w (zd1 _) ((kW a n c g lt X G wk hs hX hc).refl _) (by rw[CX];exact hH)))
theorem OJ:(kW a n c g lt X G wk hs hX hc).P7 λx1 x2 x3 w R=>E.CallsD prog 115 #[.slice a n c,.int .i64 x1,.int .i64 x2,.int .i64 x3,.func (.func 80) #[] #[]] w R:=by
 intro P L R' Q w R hL hR' hH hR;have hn:=SM.Ak _ hH;have hln:(P++L++R'++Q).length=P.length+L.length+R'.length+Q.length:=by simp;omega
 have hn':(kW a n c g lt X G wk hs hX hc).n=n:=rfl;refine iZ.calls ?_;unfold iZ iZ.g0;refine nH (y:=((L.length:Nat):Int)) (by rw[l9 (by omega) (by omega)];omega) (nH (y:=((R'.length:Nat):Int)) (by rw[l9 (by omega) (by omega)];omega) ?_);exact za4 _ ((kW a n c g lt X G wk hs hX hc).Gi (O6 wk hs hX hc) (l:=λk i j w=>iZ.l6 R k a n c (P.length+L.length:Nat) i j w) (λk i j w h=>(iZ.u6 ..).mpr h) (F:=P++R'++L++Q) hR _ P L R' Q w (zb4 _) hL hR' rfl rfl ((kW a n c g lt X G wk hs hX hc).refl _) hH)
theorem Qr:∀N,(kW a n c g lt X G wk hs hX hc).CG (λx1 x2 x3 w R=>E.CallsD prog 108 #[.slice a n c,.int .i64 x1,.int .i64 x2,.int .i64 x3,.func (.func 80) #[] #[]] w R) N :=
 (kW a n c g lt X G wk hs hX hc).symMerge (OJ wk hs hX hc) (l29:=λR k i x w=>dZ.l29 R k a n c i x w) (l71:=λR k i x w=>dZ.l71 R k a n c i x w) (l10:=λR k x1 i j w=>dZ.l10 R k a n c x1 i j w) (l52:=λR k x2 i j w=>dZ.l52 R k a n c x2 i j w)
  (Ai:=λR k x1 x2 x3 mid n' s r q w=>dZ.Ai R k a n c x1 x2 x3 mid n' s r q w) (λR k x10 x w h=>(dZ.u29 ..).mpr h) (λR k x14 x w h=>(dZ.u71 ..).mpr h) (λR k x1 i j w h=>(dZ.u10 ..).mpr h) (λR k x2 i j w h=>(dZ.u52 ..).mpr h) (λR k a' m b mid n' q s r w h=>(dZ.Yq ..).mpr h) (λR x1 x2 x3 w h=>dZ.calls h)
theorem NW:(kW a n c g lt X G wk hs hX hc).KL λx1 x2 w R=>E.CallsD prog 107 #[.slice a n c,.int .i64 x1,.int .i64 x2,.func (.func 80) #[] #[]] w R :=
 (kW a n c g lt X G wk hs hX hc).Gt (l3:=λR k x1 x2 x8 w=>iY.l3 R k a n c x1 x2 x8 w) (l15:=λR k0 k x1 x2 x8 x w=>iY.l15 R (iY.l3 R k0) k a n c x1 x2 x8 x w) (λR k x1 x2 x8 w h=>(iY.u3 ..).mpr h) (λR k0 k x1 x2 x8 x w h=>h) (λR x1 x2 w h=>iY.calls h)
end
theorem AA{a:OA}{n c g:Nat}{lt:yh->yh->Bool}{X:zg6}{G:yh->Prop}(wk:Wk lt)(hs:n<=1152921504606846975)(hX:∀w u,X w->Only g w u->X u)(hc:yx lt X G){R:VP}{w:World}{xs:List yh}(h:aK 10 uM 115 w a n c xs g)(hx:X w)(hG:∀x∈xs,G x)
  (hR:∀u,aK 10 uM 115 u a n c (sorted lt xs) g->X u->Only g w u->R (.tuple #[]) u):E.CallsD prog 98 #[.slice a n c,.int .i64 n,.func (.func 80) #[] #[]] w R :=
 eu.calls ((kW a n c g lt X G wk hs hX hc).stable (R:=R) (NW wk hs hX hc) (Qr wk hs hX hc) (l6:=λk x y w=>eu.l6 R k a n c n 20 x y w) (l22:=λk x w=>eu.l22 R k a n c n x w)
  (l34:=λk k' x6 x y w=>eu.l34 R (eu.l22 R k) k' a n c n x6 x y w) (λk x y w h=>(eu.u6 ..).mpr h) (λk x w h=>(eu.u22 ..).mpr h) (λk k' x6 x y w h=>h) (xs:=xs) ⟨h,hx,hG⟩ λu hu ru=>hR u hu.1 hu.2.1 ru)
theorem FN{a:OA}{n c g:Nat}{lt:yh->yh->Bool}{X:zg6}{G:yh->Prop}(wk:Wk lt)(hs:n<=1152921504606846975)(hX:∀w u,X w->Only g w u->X u)(hc:yx lt X G){R:VP}{w:World}{xs:List yh}(h:aK 10 uM 115 w a n c xs g)(hx:X w)(hG:∀x∈xs,G x)
  (hR:∀u,aK 10 uM 115 u a n c (sorted lt xs) g->X u->Only g w u->R (.tuple #[]) u):E.CallsD prog 79 #[.slice a n c,.func (.func 80) #[] #[]] w R :=
 jX.calls (zg0 (AA wk hs hX hc (R:=λv u=>v = .tuple #[]/\R (.tuple #[]) u) h hx hG λu a b c=>⟨rfl,hR u a b c⟩) λv u h=>h)
noncomputable abbrev yR(x:xh):Value:=qZ x.thr x.aT.a x.aT.n x.aT.c x.tree x.frm x.to
abbrev JC(p:Addr)(lt:xh->xh->Bool)(X:zg6)(G:xh->Prop):Prop:=∀w x y,X w->G x->G y->E.CallsD prog 90 #[yR x,yR y,.pointer (some p)] w λv u=>∃r:Int,v = .int .i64 r/\decide (r<0)=lt x y/\Kept w u
noncomputable def y9(a:OA)(n c g:Nat)(p:Addr)(lt:xh->xh->Bool)(X:zg6)(G:xh->Prop)(wk:Wk lt)(hs:n<=1152921504606846975)(hX:∀w u,X w->Only g w u->X u)(hc:JC p lt X G):SM xh :=
 smK prog (λw q K=>nK w q λz a n c x y v=>K ⟨z,⟨a,n,c⟩,x,y,v⟩) (λw q x K=>xZ w q x.thr x.aT.a x.aT.n x.aT.c x.tree x.frm x.to K) 5 a n c 76 g mQ lt 90 (λx y => #[yR x,yR y,.pointer (some p)]) X G (λ_=>rfl) (by omega) wk hs
  (λw q x K h hk=>⟨_,h 0 _ rfl,_,_,_,h 1 _ rfl,_,h 2 _ rfl,_,h 3 _ rfl,_,h 4 _ rfl,hk⟩) (λw q x K h=>h) hX hc
section
variable{a:OA}{n c g:Nat}{p:Addr}{lt:xh->xh->Bool}{X:zg6}{G:xh->Prop}(wk:Wk lt)(hs:n<=1152921504606846975)(hX:∀w u,X w->Only g w u->X u)(hc:JC p lt X G)
theorem Vw:(y9 a n c g p lt X G wk hs hX hc).TS λx1 x2 x3 w R=>E.CallsD prog 119 #[.slice a n c,.int .i64 x1,.int .i64 x2,.int .i64 x3,.func (.func 90) #[] #[.pointer (some p)]] w R :=
 λP x q y s w R hxy hH hR=>lL.calls (za4 (p:=λk=>lL.l3 R k a n c _ _ _ 0 w) _ ((y9 a n c g p lt X G wk hs hX hc).DD (l:=λk z w=>lL.l3 R k a n c _ _ _ z w) (λk z w h=>(lL.u3 ..).mpr h) hxy rfl rfl rfl hR x.length 0 w (zd1 _) ((y9 a n c g p lt X G wk hs hX hc).refl _) (by rw[CX];exact hH)))
theorem Wi:(y9 a n c g p lt X G wk hs hX hc).P7 λx1 x2 x3 w R=>E.CallsD prog 116 #[.slice a n c,.int .i64 x1,.int .i64 x2,.int .i64 x3,.func (.func 90) #[] #[.pointer (some p)]] w R:=by
 intro P L R' Q w R hL hR' hH hR;have hn:=SM.Ak _ hH;have hln:(P++L++R'++Q).length=P.length+L.length+R'.length+Q.length:=by simp;omega
 have hn':(y9 a n c g p lt X G wk hs hX hc).n=n:=rfl;refine kY.calls ?_;unfold kY kY.g0;refine nH (y:=((L.length:Nat):Int)) (by rw[l9 (by omega) (by omega)];omega) (nH (y:=((R'.length:Nat):Int)) (by rw[l9 (by omega) (by omega)];omega) ?_);exact za4 _ ((y9 a n c g p lt X G wk hs hX hc).Gi (Vw wk hs hX hc) (l:=λk i j w=>kY.l6 R k a n c (P.length+L.length:Nat) p i j w) (λk i j w h=>(kY.u6 ..).mpr h) (F:=P++R'++L++Q) hR _ P L R' Q w (zb4 _) hL hR' rfl rfl ((y9 a n c g p lt X G wk hs hX hc).refl _) hH)
theorem UY:∀N,(y9 a n c g p lt X G wk hs hX hc).CG (λx1 x2 x3 w R=>E.CallsD prog 110 #[.slice a n c,.int .i64 x1,.int .i64 x2,.int .i64 x3,.func (.func 90) #[] #[.pointer (some p)]] w R) N :=
 (y9 a n c g p lt X G wk hs hX hc).symMerge (Wi wk hs hX hc) (l29:=λR k i x w=>ik.l29 R k a n c i x w) (l71:=λR k i x w=>ik.l71 R k a n c i x w) (l10:=λR k x1 i j w=>ik.l10 R k a n c x1 p i j w) (l52:=λR k x2 i j w=>ik.l52 R k a n c x2 p i j w)
  (Ai:=λR k x1 x2 x3 mid n' s r q w=>ik.Ai R k a n c x1 x2 x3 p mid n' s r q w) (λR k x10 x w h=>(ik.u29 ..).mpr h) (λR k x14 x w h=>(ik.u71 ..).mpr h) (λR k x1 i j w h=>(ik.u10 ..).mpr h) (λR k x2 i j w h=>(ik.u52 ..).mpr h) (λR k a' m b mid n' q s r w h=>(ik.Yq ..).mpr h) (λR x1 x2 x3 w h=>ik.calls h)
theorem WC:(y9 a n c g p lt X G wk hs hX hc).KL λx1 x2 w R=>E.CallsD prog 109 #[.slice a n c,.int .i64 x1,.int .i64 x2,.func (.func 90) #[] #[.pointer (some p)]] w R :=
 (y9 a n c g p lt X G wk hs hX hc).Gt (l3:=λR k x1 x2 x8 w=>kX.l3 R k a n c x1 x2 p x8 w) (l15:=λR k0 k x1 x2 x8 x w=>kX.l15 R (kX.l3 R k0) k a n c x1 x2 p x8 x w) (λR k x1 x2 x8 w h=>(kX.u3 ..).mpr h) (λR k0 k x1 x2 x8 x w h=>h) (λR x1 x2 w h=>kX.calls h)
end
theorem Ez{a:OA}{n c g:Nat}{p:Addr}{lt:xh->xh->Bool}{X:zg6}{G:xh->Prop}(wk:Wk lt)(hs:n<=1152921504606846975)(hX:∀w u,X w->Only g w u->X u)(hc:JC p lt X G){R:VP}{w:World}{xs:List xh}(h:aK 5 mQ 76 w a n c xs g)(hx:X w)(hG:∀x∈xs,G x)
  (hR:∀u,aK 5 mQ 76 u a n c (sorted lt xs) g->X u->Only g w u->R (.tuple #[]) u):E.CallsD prog 101 #[.slice a n c,.int .i64 n,.func (.func 90) #[] #[.pointer (some p)]] w R :=
 fU.calls ((y9 a n c g p lt X G wk hs hX hc).stable (R:=R) (WC wk hs hX hc) (UY wk hs hX hc) (l6:=λk x y w=>fU.l6 R k a n c n p 20 x y w) (l22:=λk x w=>fU.l22 R k a n c n p x w)
  (l34:=λk k' x6 x y w=>fU.l34 R (fU.l22 R k) k' a n c n p x6 x y w) (λk x y w h=>(fU.u6 ..).mpr h) (λk x w h=>(fU.u22 ..).mpr h) (λk k' x6 x y w h=>h) (xs:=xs) ⟨h,hx,hG⟩ λu hu ru=>hR u hu.1 hu.2.1 ru)
theorem KY{a:OA}{n c g:Nat}{p:Addr}{lt:xh->xh->Bool}{X:zg6}{G:xh->Prop}(wk:Wk lt)(hs:n<=1152921504606846975)(hX:∀w u,X w->Only g w u->X u)(hc:JC p lt X G){R:VP}{w:World}{xs:List xh}(h:aK 5 mQ 76 w a n c xs g)(hx:X w)(hG:∀x∈xs,G x)
  (hR:∀u,aK 5 mQ 76 u a n c (sorted lt xs) g->X u->Only g w u->R (.tuple #[]) u):E.CallsD prog 89 #[.slice a n c,.func (.func 90) #[] #[.pointer (some p)]] w R :=
 oL.calls (zg0 (Ez wk hs hX hc (R:=λv u=>v = .tuple #[]/\R (.tuple #[]) u) h hx hG λu a b c=>⟨rfl,hR u a b c⟩) λv u h=>h)
noncomputable abbrev tJ(x:vV):Value:=D6 x.feature x.numbers.a x.numbers.n x.numbers.c x.aT.a x.aT.n x.aT.c x.lost.a x.lost.n x.lost.c
abbrev D7(p:Addr)(lt:vV->vV->Bool)(X:zg6)(G:vV->Prop):Prop:=∀w x y,X w->G x->G y->E.CallsD prog 93 #[tJ x,tJ y,.pointer (some p)] w λv u=>∃r:Int,v = .int .i64 r/\decide (r<0)=lt x y/\Kept w u
noncomputable def pK(a:OA)(n c g:Nat)(p:Addr)(lt:vV->vV->Bool)(X:zg6)(G:vV->Prop)(wk:Wk lt)(hs:n<=1152921504606846975)(hX:∀w u,X w->Only g w u->X u)(hc:D7 p lt X G):SM vV :=
 smK prog (λw q K=>rU w q λf a n c a1 n1 c1 a2 n2 c2=>K ⟨f,⟨a,n,c⟩,⟨a1,n1,c1⟩,⟨a2,n2,c2⟩⟩) (λw q x K=>Es w q x.feature x.numbers.a x.numbers.n x.numbers.c x.aT.a x.aT.n x.aT.c x.lost.a x.lost.n x.lost.c K) 4 a n c 74 g gZ lt 93 (λx y => #[tJ x,tJ y,.pointer (some p)]) X G (λ_=>rfl) (by omega) wk hs
  (λw q x K h hk=>⟨_,h 0 _ rfl,_,_,_,h 1 _ rfl,_,_,_,h 2 _ rfl,_,_,_,h 3 _ rfl,hk⟩) (λw q x K h=>h) hX hc
section
variable{a:OA}{n c g:Nat}{p:Addr}{lt:vV->vV->Bool}{X:zg6}{G:vV->Prop}(wk:Wk lt)(hs:n<=1152921504606846975)(hX:∀w u,X w->Only g w u->X u)(hc:D7 p lt X G)
theorem TY:(pK a n c g p lt X G wk hs hX hc).TS λx1 x2 x3 w R=>E.CallsD prog 120 #[.slice a n c,.int .i64 x1,.int .i64 x2,.int .i64 x3,.func (.func 93) #[] #[.pointer (some p)]] w R :=
 λP x q y s w R hxy hH hR=>jS.calls (za4 (p:=λk=>jS.l3 R k a n c _ _ _ 0 w) _ ((pK a n c g p lt X G wk hs hX hc).DD (l:=λk z w=>jS.l3 R k a n c _ _ _ z w) (λk z w h=>(jS.u3 ..).mpr h) hxy rfl rfl rfl hR x.length 0 w (zd1 _) ((pK a n c g p lt X G wk hs hX hc).refl _) (by rw[CX];exact hH)))
theorem RF:(pK a n c g p lt X G wk hs hX hc).P7 λx1 x2 x3 w R=>E.CallsD prog 117 #[.slice a n c,.int .i64 x1,.int .i64 x2,.int .i64 x3,.func (.func 93) #[] #[.pointer (some p)]] w R:=by
 intro P L R' Q w R hL hR' hH hR;have hn:=SM.Ak _ hH;have hln:(P++L++R'++Q).length=P.length+L.length+R'.length+Q.length:=by simp;omega
 have hn':(pK a n c g p lt X G wk hs hX hc).n=n:=rfl;refine jA.calls ?_;unfold jA jA.g0;refine nH (y:=((L.length:Nat):Int)) (by rw[l9 (by omega) (by omega)];omega) (nH (y:=((R'.length:Nat):Int)) (by rw[l9 (by omega) (by omega)];omega) ?_);exact za4 _ ((pK a n c g p lt X G wk hs hX hc).Gi (TY wk hs hX hc) (l:=λk i j w=>jA.l6 R k a n c (P.length+L.length:Nat) p i j w) (λk i j w h=>(jA.u6 ..).mpr h) (F:=P++R'++L++Q) hR _ P L R' Q w (zb4 _) hL hR' rfl rfl ((pK a n c g p lt X G wk hs hX hc).refl _) hH)
theorem Rn:∀N,(pK a n c g p lt X G wk hs hX hc).CG (λx1 x2 x3 w R=>E.CallsD prog 112 #[.slice a n c,.int .i64 x1,.int .i64 x2,.int .i64 x3,.func (.func 93) #[] #[.pointer (some p)]] w R) N :=
 (pK a n c g p lt X G wk hs hX hc).symMerge (RF wk hs hX hc) (l29:=λR k i x w=>fK.l29 R k a n c i x w) (l71:=λR k i x w=>fK.l71 R k a n c i x w) (l10:=λR k x1 i j w=>fK.l10 R k a n c x1 p i j w) (l52:=λR k x2 i j w=>fK.l52 R k a n c x2 p i j w)
  (Ai:=λR k x1 x2 x3 mid n' s r q w=>fK.Ai R k a n c x1 x2 x3 p mid n' s r q w) (λR k x10 x w h=>(fK.u29 ..).mpr h) (λR k x14 x w h=>(fK.u71 ..).mpr h) (λR k x1 i j w h=>(fK.u10 ..).mpr h) (λR k x2 i j w h=>(fK.u52 ..).mpr h) (λR k a' m b mid n' q s r w h=>(fK.Yq ..).mpr h) (λR x1 x2 x3 w h=>fK.calls h)
theorem RS:(pK a n c g p lt X G wk hs hX hc).KL λx1 x2 w R=>E.CallsD prog 111 #[.slice a n c,.int .i64 x1,.int .i64 x2,.func (.func 93) #[] #[.pointer (some p)]] w R :=
 (pK a n c g p lt X G wk hs hX hc).Gt (l3:=λR k x1 x2 x8 w=>jy.l3 R k a n c x1 x2 p x8 w) (l15:=λR k0 k x1 x2 x8 x w=>jy.l15 R (jy.l3 R k0) k a n c x1 x2 p x8 x w) (λR k x1 x2 x8 w h=>(jy.u3 ..).mpr h) (λR k0 k x1 x2 x8 x w h=>h) (λR x1 x2 w h=>jy.calls h)
end
theorem Eg{a:OA}{n c g:Nat}{p:Addr}{lt:vV->vV->Bool}{X:zg6}{G:vV->Prop}(wk:Wk lt)(hs:n<=1152921504606846975)(hX:∀w u,X w->Only g w u->X u)(hc:D7 p lt X G){R:VP}{w:World}{xs:List vV}(h:aK 4 gZ 74 w a n c xs g)(hx:X w)(hG:∀x∈xs,G x)
  (hR:∀u,aK 4 gZ 74 u a n c (sorted lt xs) g->X u->Only g w u->R (.tuple #[]) u):E.CallsD prog 103 #[.slice a n c,.int .i64 n,.func (.func 93) #[] #[.pointer (some p)]] w R :=
 fG.calls ((pK a n c g p lt X G wk hs hX hc).stable (R:=R) (RS wk hs hX hc) (Rn wk hs hX hc) (l6:=λk x y w=>fG.l6 R k a n c n p 20 x y w) (l22:=λk x w=>fG.l22 R k a n c n p x w)
  (l34:=λk k' x6 x y w=>fG.l34 R (fG.l22 R k) k' a n c n p x6 x y w) (λk x y w h=>(fG.u6 ..).mpr h) (λk x w h=>(fG.u22 ..).mpr h) (λk k' x6 x y w h=>h) (xs:=xs) ⟨h,hx,hG⟩ λu hu ru=>hR u hu.1 hu.2.1 ru)
theorem GH{a:OA}{n c g:Nat}{p:Addr}{lt:vV->vV->Bool}{X:zg6}{G:vV->Prop}(wk:Wk lt)(hs:n<=1152921504606846975)(hX:∀w u,X w->Only g w u->X u)(hc:D7 p lt X G){R:VP}{w:World}{xs:List vV}(h:aK 4 gZ 74 w a n c xs g)(hx:X w)(hG:∀x∈xs,G x)
  (hR:∀u,aK 4 gZ 74 u a n c (sorted lt xs) g->X u->Only g w u->R (.tuple #[]) u):E.CallsD prog 92 #[.slice a n c,.func (.func 93) #[] #[.pointer (some p)]] w R :=
 lN.calls (zg0 (Eg wk hs hX hc (R:=λv u=>v = .tuple #[]/\R (.tuple #[]) u) h hx hG λu a b c=>⟨rfl,hR u a b c⟩) λv u h=>h)
end Go.Mir
