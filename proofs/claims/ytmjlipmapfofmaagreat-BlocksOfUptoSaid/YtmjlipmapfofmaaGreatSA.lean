/- Part of a proof of laws of the seat YtmjlipmapfofmaaGreat: functions' weakest preconditions, each checked by the kernel, contracts out of them, plain lemmas; no conditions. -/
import Derived.Test.YtmjlipmapfofmaaGreatSSA
import Derived.Test.YtmjlipmapfofmaaGreatED
import Derived.Test.YtmjlipmapfofmaaGreatTMA
set_option linter.unusedVariables false
set_option linter.unusedSimpArgs false
set_option linter.unusedSectionVars false
set_option linter.unusedVariables false
namespace Go.Mir
open Go Go.E Go.RowKit Go.Ss
noncomputable abbrev oH (x:uQ):Value:=wG x.nd.kind x.nd.value x.nd.feature x.nd.thr x.nd.bH.a x.nd.bH.n x.nd.bH.c x.nd.missing x.nd.left x.nd.right x.frm x.to
abbrev uI (lt:uQ→uQ→Bool) (X:World→Prop) (G:uQ→Prop):Prop:=∀ w x y,X w→G x→G y→E.CallsD Go.Proofs.Tryz.prog 80 #[oH x,oH y] w fun v u=>∃ r:Int,v = .int .i64 r∧decide (r<0)=lt x y∧Kept w u
noncomputable def jR (a:OA) (n c g:Nat) (lt:uQ→uQ→Bool) (X:World→Prop) (G:uQ→Prop) (wk:Wk lt) (hs:n≤1152921504606846975) (hX:∀ w u,X w→Only g w u→X u) (hc:uI lt X G):SM uQ :=
 smK Go.Proofs.Tryz.prog (fun w q K=>lC w q fun k v f z a n c m l r s t=>K ⟨⟨k,v,f,z,⟨a,n,c⟩,m,l,r⟩,s,t⟩) (fun w q x K=>xI w q x.nd.kind x.nd.value x.nd.feature x.nd.thr x.nd.bH.a x.nd.bH.n x.nd.bH.c x.nd.missing x.nd.left x.nd.right x.frm x.to K) 10 a n c 115 g qH lt 80 (fun x y => #[oH x,oH y]) X G (fun _=>rfl) (by omega) wk hs
  (fun w q x K h hk=>⟨_,h 0 _ rfl,_,h 1 _ rfl,_,h 2 _ rfl,_,h 3 _ rfl,_,_,_,h 4 _ rfl,_,h 5 _ rfl,_,h 6 _ rfl,_,h 7 _ rfl,_,h 8 _ rfl,_,h 9 _ rfl,hk⟩) (fun w q x K h=>h) hX hc
section
variable {a:OA} {n c g:Nat} {lt:uQ→uQ→Bool} {X:World→Prop} {G:uQ→Prop} (wk:Wk lt) (hs:n≤1152921504606846975) (hX:∀ w u,X w→Only g w u→X u) (hc:uI lt X G)
theorem IK:(jR a n c g lt X G wk hs hX hc).NQ fun x1 x2 x3 w R=>E.CallsD Go.Proofs.Tryz.prog 118 #[.slice a n c,.int .i64 x1,.int .i64 x2,.int .i64 x3,.func (.func 80) #[] #[]] w R :=
 fun P x q y s w R hxy hH hR=>iQ.calls (Exists.intro (p:=fun k=>iQ.l3 R k a n c _ _ _ 0 w) _ ((jR a n c g lt X G wk hs hX hc).zl (l:=fun k z w=>iQ.l3 R k a n c _ _ _ z w) (fun k z w h=>(iQ.u3 ..).mpr h) hxy rfl rfl rfl hR x.length 0 w (Nat.zero_add _) ((jR a n c g lt X G wk hs hX hc).refl _) (by rw [zJ]; exact hH)))
theorem JL:(jR a n c g lt X G wk hs hX hc).JX fun x1 x2 x3 w R=>E.CallsD Go.Proofs.Tryz.prog 115 #[.slice a n c,.int .i64 x1,.int .i64 x2,.int .i64 x3,.func (.func 80) #[] #[]] w R:=by
 intro P L R' Q w R hL hR' hH hR
 have hn:=SM.xm _ hH
 have hln:(P++L++R'++Q).length=P.length+L.length+R'.length+Q.length:=by simp; omega
 have hn':(jR a n c g lt X G wk hs hX hc).n=n:=rfl
 refine iI.calls ?_
 unfold iI iI.g0
 refine nC (y:=((L.length:Nat):Int)) (by rw [nY (by omega) (by omega)]; omega) (nC (y:=((R'.length:Nat):Int)) (by rw [nY (by omega) (by omega)]; omega) ?_)
 exact Exists.intro _ ((jR a n c g lt X G wk hs hX hc).DD (IK wk hs hX hc) (l:=fun k i j w=>iI.l6 R k a n c (P.length+L.length:Nat) i j w) (fun k i j w h=>(iI.u6 ..).mpr h) (F:=P++R'++L++Q) hR _ P L R' Q w (Nat.le_refl _) hL hR' rfl rfl ((jR a n c g lt X G wk hs hX hc).refl _) hH)
theorem KG:∀ N,(jR a n c g lt X G wk hs hX hc).zM (fun x1 x2 x3 w R=>E.CallsD Go.Proofs.Tryz.prog 108 #[.slice a n c,.int .i64 x1,.int .i64 x2,.int .i64 x3,.func (.func 80) #[] #[]] w R) N :=
 (jR a n c g lt X G wk hs hX hc).symMerge (JL wk hs hX hc) (l29:=fun R k i x w=>dI.l29 R k a n c i x w) (l71:=fun R k i x w=>dI.l71 R k a n c i x w) (l10:=fun R k x1 i j w=>dI.l10 R k a n c x1 i j w) (l52:=fun R k x2 i j w=>dI.l52 R k a n c x2 i j w)
  (xk:=fun R k x1 x2 x3 mid n' s r q w=>dI.xk R k a n c x1 x2 x3 mid n' s r q w) (fun R k x10 x w h=>(dI.u29 ..).mpr h) (fun R k x14 x w h=>(dI.u71 ..).mpr h) (fun R k x1 i j w h=>(dI.u10 ..).mpr h) (fun R k x2 i j w h=>(dI.u52 ..).mpr h) (fun R k a' m b mid n' q s r w h=>(dI.TK ..).mpr h) (fun R x1 x2 x3 w h=>dI.calls h)
theorem Kr:(jR a n c g lt X G wk hs hX hc).Gh fun x1 x2 w R=>E.CallsD Go.Proofs.Tryz.prog 107 #[.slice a n c,.int .i64 x1,.int .i64 x2,.func (.func 80) #[] #[]] w R :=
 (jR a n c g lt X G wk hs hX hc).CZ (l3:=fun R k x1 x2 x8 w=>iE.l3 R k a n c x1 x2 x8 w) (l15:=fun R k0 k x1 x2 x8 x w=>iE.l15 R (iE.l3 R k0) k a n c x1 x2 x8 x w) (fun R k x1 x2 x8 w h=>(iE.u3 ..).mpr h) (fun R k0 k x1 x2 x8 x w h=>h) (fun R x1 x2 w h=>iE.calls h)
end
theorem xG {a:OA} {n c g:Nat} {lt:uQ→uQ→Bool} {X:World→Prop} {G:uQ→Prop} (wk:Wk lt) (hs:n≤1152921504606846975) (hX:∀ w u,X w→Only g w u→X u) (hc:uI lt X G) {R:VP} {w:World} {xs:List uQ} (h:aO 10 qH 115 w a n c xs g) (hx:X w) (hG:∀ x∈xs,G x)
  (hR:∀ u,aO 10 qH 115 u a n c (sorted lt xs) g→X u→Only g w u→R (.tuple #[]) u):E.CallsD Go.Proofs.Tryz.prog 98 #[.slice a n c,.int .i64 n,.func (.func 80) #[] #[]] w R :=
 dL.calls ((jR a n c g lt X G wk hs hX hc).stable (R:=R) (Kr wk hs hX hc) (KG wk hs hX hc) (l6:=fun k x y w=>dL.l6 R k a n c n 20 x y w) (l22:=fun k x w=>dL.l22 R k a n c n x w)
  (l34:=fun k k' x6 x y w=>dL.l34 R (dL.l22 R k) k' a n c n x6 x y w) (fun k x y w h=>(dL.u6 ..).mpr h) (fun k x w h=>(dL.u22 ..).mpr h) (fun k k' x6 x y w h=>h) (xs:=xs) ⟨h,hx,hG⟩ fun u hu ru=>hR u hu.1 hu.2.1 ru)
theorem BL {a:OA} {n c g:Nat} {lt:uQ→uQ→Bool} {X:World→Prop} {G:uQ→Prop} (wk:Wk lt) (hs:n≤1152921504606846975) (hX:∀ w u,X w→Only g w u→X u) (hc:uI lt X G) {R:VP} {w:World} {xs:List uQ} (h:aO 10 qH 115 w a n c xs g) (hx:X w) (hG:∀ x∈xs,G x)
  (hR:∀ u,aO 10 qH 115 u a n c (sorted lt xs) g→X u→Only g w u→R (.tuple #[]) u):E.CallsD Go.Proofs.Tryz.prog 79 #[.slice a n c,.func (.func 80) #[] #[]] w R :=
 jw.calls (E.CallsD.mono (xG wk hs hX hc (R:=fun v u=>v = .tuple #[]∧R (.tuple #[]) u) h hx hG fun u a b c=>⟨rfl,hR u a b c⟩) fun v u h=>h)
noncomputable abbrev wS (x:tK):Value:=oI x.thr x.bH.a x.bH.n x.bH.c x.tree x.frm x.to
abbrev ES (p:Addr) (lt:tK→tK→Bool) (X:World→Prop) (G:tK→Prop):Prop:=∀ w x y,X w→G x→G y→E.CallsD Go.Proofs.Tryz.prog 90 #[wS x,wS y,.pointer (some p)] w fun v u=>∃ r:Int,v = .int .i64 r∧decide (r<0)=lt x y∧Kept w u
noncomputable def uw (a:OA) (n c g:Nat) (p:Addr) (lt:tK→tK→Bool) (X:World→Prop) (G:tK→Prop) (wk:Wk lt) (hs:n≤1152921504606846975) (hX:∀ w u,X w→Only g w u→X u) (hc:ES p lt X G):SM tK :=
 smK Go.Proofs.Tryz.prog (fun w q K=>mi w q fun z a n c x y v=>K ⟨z,⟨a,n,c⟩,x,y,v⟩) (fun w q x K=>vw w q x.thr x.bH.a x.bH.n x.bH.c x.tree x.frm x.to K) 5 a n c 76 g kX lt 90 (fun x y => #[wS x,wS y,.pointer (some p)]) X G (fun _=>rfl) (by omega) wk hs
  (fun w q x K h hk=>⟨_,h 0 _ rfl,_,_,_,h 1 _ rfl,_,h 2 _ rfl,_,h 3 _ rfl,_,h 4 _ rfl,hk⟩) (fun w q x K h=>h) hX hc
section
variable {a:OA} {n c g:Nat} {p:Addr} {lt:tK→tK→Bool} {X:World→Prop} {G:tK→Prop} (wk:Wk lt) (hs:n≤1152921504606846975) (hX:∀ w u,X w→Only g w u→X u) (hc:ES p lt X G)
theorem PV:(uw a n c g p lt X G wk hs hX hc).NQ fun x1 x2 x3 w R=>E.CallsD Go.Proofs.Tryz.prog 119 #[.slice a n c,.int .i64 x1,.int .i64 x2,.int .i64 x3,.func (.func 90) #[] #[.pointer (some p)]] w R :=
 fun P x q y s w R hxy hH hR=>kF.calls (Exists.intro (p:=fun k=>kF.l3 R k a n c _ _ _ 0 w) _ ((uw a n c g p lt X G wk hs hX hc).zl (l:=fun k z w=>kF.l3 R k a n c _ _ _ z w) (fun k z w h=>(kF.u3 ..).mpr h) hxy rfl rfl rfl hR x.length 0 w (Nat.zero_add _) ((uw a n c g p lt X G wk hs hX hc).refl _) (by rw [zJ]; exact hH)))
theorem Qu:(uw a n c g p lt X G wk hs hX hc).JX fun x1 x2 x3 w R=>E.CallsD Go.Proofs.Tryz.prog 116 #[.slice a n c,.int .i64 x1,.int .i64 x2,.int .i64 x3,.func (.func 90) #[] #[.pointer (some p)]] w R:=by
 intro P L R' Q w R hL hR' hH hR
 have hn:=SM.xm _ hH
 have hln:(P++L++R'++Q).length=P.length+L.length+R'.length+Q.length:=by simp; omega
 have hn':(uw a n c g p lt X G wk hs hX hc).n=n:=rfl
 refine jO.calls ?_
 unfold jO jO.g0
 refine nC (y:=((L.length:Nat):Int)) (by rw [nY (by omega) (by omega)]; omega) (nC (y:=((R'.length:Nat):Int)) (by rw [nY (by omega) (by omega)]; omega) ?_)
 exact Exists.intro _ ((uw a n c g p lt X G wk hs hX hc).DD (PV wk hs hX hc) (l:=fun k i j w=>jO.l6 R k a n c (P.length+L.length:Nat) p i j w) (fun k i j w h=>(jO.u6 ..).mpr h) (F:=P++R'++L++Q) hR _ P L R' Q w (Nat.le_refl _) hL hR' rfl rfl ((uw a n c g p lt X G wk hs hX hc).refl _) hH)
theorem Pz:∀ N,(uw a n c g p lt X G wk hs hX hc).zM (fun x1 x2 x3 w R=>E.CallsD Go.Proofs.Tryz.prog 110 #[.slice a n c,.int .i64 x1,.int .i64 x2,.int .i64 x3,.func (.func 90) #[] #[.pointer (some p)]] w R) N :=
 (uw a n c g p lt X G wk hs hX hc).symMerge (Qu wk hs hX hc) (l29:=fun R k i x w=>gu.l29 R k a n c i x w) (l71:=fun R k i x w=>gu.l71 R k a n c i x w) (l10:=fun R k x1 i j w=>gu.l10 R k a n c x1 p i j w) (l52:=fun R k x2 i j w=>gu.l52 R k a n c x2 p i j w)
  (xk:=fun R k x1 x2 x3 mid n' s r q w=>gu.xk R k a n c x1 x2 x3 p mid n' s r q w) (fun R k x10 x w h=>(gu.u29 ..).mpr h) (fun R k x14 x w h=>(gu.u71 ..).mpr h) (fun R k x1 i j w h=>(gu.u10 ..).mpr h) (fun R k x2 i j w h=>(gu.u52 ..).mpr h) (fun R k a' m b mid n' q s r w h=>(gu.TK ..).mpr h) (fun R x1 x2 x3 w h=>gu.calls h)
theorem QS:(uw a n c g p lt X G wk hs hX hc).Gh fun x1 x2 w R=>E.CallsD Go.Proofs.Tryz.prog 109 #[.slice a n c,.int .i64 x1,.int .i64 x2,.func (.func 90) #[] #[.pointer (some p)]] w R :=
 (uw a n c g p lt X G wk hs hX hc).CZ (l3:=fun R k x1 x2 x8 w=>jQ.l3 R k a n c x1 x2 p x8 w) (l15:=fun R k0 k x1 x2 x8 x w=>jQ.l15 R (jQ.l3 R k0) k a n c x1 x2 p x8 x w) (fun R k x1 x2 x8 w h=>(jQ.u3 ..).mpr h) (fun R k0 k x1 x2 x8 x w h=>h) (fun R x1 x2 w h=>jQ.calls h)
end
theorem BO {a:OA} {n c g:Nat} {p:Addr} {lt:tK→tK→Bool} {X:World→Prop} {G:tK→Prop} (wk:Wk lt) (hs:n≤1152921504606846975) (hX:∀ w u,X w→Only g w u→X u) (hc:ES p lt X G) {R:VP} {w:World} {xs:List tK} (h:aO 5 kX 76 w a n c xs g) (hx:X w) (hG:∀ x∈xs,G x)
  (hR:∀ u,aO 5 kX 76 u a n c (sorted lt xs) g→X u→Only g w u→R (.tuple #[]) u):E.CallsD Go.Proofs.Tryz.prog 101 #[.slice a n c,.int .i64 n,.func (.func 90) #[] #[.pointer (some p)]] w R :=
 eY.calls ((uw a n c g p lt X G wk hs hX hc).stable (R:=R) (QS wk hs hX hc) (Pz wk hs hX hc) (l6:=fun k x y w=>eY.l6 R k a n c n p 20 x y w) (l22:=fun k x w=>eY.l22 R k a n c n p x w)
  (l34:=fun k k' x6 x y w=>eY.l34 R (eY.l22 R k) k' a n c n p x6 x y w) (fun k x y w h=>(eY.u6 ..).mpr h) (fun k x w h=>(eY.u22 ..).mpr h) (fun k k' x6 x y w h=>h) (xs:=xs) ⟨h,hx,hG⟩ fun u hu ru=>hR u hu.1 hu.2.1 ru)
theorem Gt {a:OA} {n c g:Nat} {p:Addr} {lt:tK→tK→Bool} {X:World→Prop} {G:tK→Prop} (wk:Wk lt) (hs:n≤1152921504606846975) (hX:∀ w u,X w→Only g w u→X u) (hc:ES p lt X G) {R:VP} {w:World} {xs:List tK} (h:aO 5 kX 76 w a n c xs g) (hx:X w) (hG:∀ x∈xs,G x)
  (hR:∀ u,aO 5 kX 76 u a n c (sorted lt xs) g→X u→Only g w u→R (.tuple #[]) u):E.CallsD Go.Proofs.Tryz.prog 89 #[.slice a n c,.func (.func 90) #[] #[.pointer (some p)]] w R :=
 mY.calls (E.CallsD.mono (BO wk hs hX hc (R:=fun v u=>v = .tuple #[]∧R (.tuple #[]) u) h hx hG fun u a b c=>⟨rfl,hR u a b c⟩) fun v u h=>h)
noncomputable abbrev ql (x:sH):Value:=zQ x.feature x.numbers.a x.numbers.n x.numbers.c x.bH.a x.bH.n x.bH.c x.lost.a x.lost.n x.lost.c
abbrev Ae (p:Addr) (lt:sH→sH→Bool) (X:World→Prop) (G:sH→Prop):Prop:=∀ w x y,X w→G x→G y→E.CallsD Go.Proofs.Tryz.prog 93 #[ql x,ql y,.pointer (some p)] w fun v u=>∃ r:Int,v = .int .i64 r∧decide (r<0)=lt x y∧Kept w u
noncomputable def ni (a:OA) (n c g:Nat) (p:Addr) (lt:sH→sH→Bool) (X:World→Prop) (G:sH→Prop) (wk:Wk lt) (hs:n≤1152921504606846975) (hX:∀ w u,X w→Only g w u→X u) (hc:Ae p lt X G):SM sH :=
 smK Go.Proofs.Tryz.prog (fun w q K=>qg w q fun f a n c a1 n1 c1 a2 n2 c2=>K ⟨f,⟨a,n,c⟩,⟨a1,n1,c1⟩,⟨a2,n2,c2⟩⟩) (fun w q x K=>Cm w q x.feature x.numbers.a x.numbers.n x.numbers.c x.bH.a x.bH.n x.bH.c x.lost.a x.lost.n x.lost.c K) 4 a n c 74 g fZ lt 93 (fun x y => #[ql x,ql y,.pointer (some p)]) X G (fun _=>rfl) (by omega) wk hs
  (fun w q x K h hk=>⟨_,h 0 _ rfl,_,_,_,h 1 _ rfl,_,_,_,h 2 _ rfl,_,_,_,h 3 _ rfl,hk⟩) (fun w q x K h=>h) hX hc
section
variable {a:OA} {n c g:Nat} {p:Addr} {lt:sH→sH→Bool} {X:World→Prop} {G:sH→Prop} (wk:Wk lt) (hs:n≤1152921504606846975) (hX:∀ w u,X w→Only g w u→X u) (hc:Ae p lt X G)
theorem LC:(ni a n c g p lt X G wk hs hX hc).NQ fun x1 x2 x3 w R=>E.CallsD Go.Proofs.Tryz.prog 120 #[.slice a n c,.int .i64 x1,.int .i64 x2,.int .i64 x3,.func (.func 93) #[] #[.pointer (some p)]] w R :=
 fun P x q y s w R hxy hH hR=>jm.calls (Exists.intro (p:=fun k=>jm.l3 R k a n c _ _ _ 0 w) _ ((ni a n c g p lt X G wk hs hX hc).zl (l:=fun k z w=>jm.l3 R k a n c _ _ _ z w) (fun k z w h=>(jm.u3 ..).mpr h) hxy rfl rfl rfl hR x.length 0 w (Nat.zero_add _) ((ni a n c g p lt X G wk hs hX hc).refl _) (by rw [zJ]; exact hH)))
theorem LY:(ni a n c g p lt X G wk hs hX hc).JX fun x1 x2 x3 w R=>E.CallsD Go.Proofs.Tryz.prog 117 #[.slice a n c,.int .i64 x1,.int .i64 x2,.int .i64 x3,.func (.func 93) #[] #[.pointer (some p)]] w R:=by
 intro P L R' Q w R hL hR' hH hR
 have hn:=SM.xm _ hH
 have hln:(P++L++R'++Q).length=P.length+L.length+R'.length+Q.length:=by simp; omega
 have hn':(ni a n c g p lt X G wk hs hX hc).n=n:=rfl
 refine jb.calls ?_
 unfold jb jb.g0
 refine nC (y:=((L.length:Nat):Int)) (by rw [nY (by omega) (by omega)]; omega) (nC (y:=((R'.length:Nat):Int)) (by rw [nY (by omega) (by omega)]; omega) ?_)
 exact Exists.intro _ ((ni a n c g p lt X G wk hs hX hc).DD (LC wk hs hX hc) (l:=fun k i j w=>jb.l6 R k a n c (P.length+L.length:Nat) p i j w) (fun k i j w h=>(jb.u6 ..).mpr h) (F:=P++R'++L++Q) hR _ P L R' Q w (Nat.le_refl _) hL hR' rfl rfl ((ni a n c g p lt X G wk hs hX hc).refl _) hH)
theorem Nh:∀ N,(ni a n c g p lt X G wk hs hX hc).zM (fun x1 x2 x3 w R=>E.CallsD Go.Proofs.Tryz.prog 112 #[.slice a n c,.int .i64 x1,.int .i64 x2,.int .i64 x3,.func (.func 93) #[] #[.pointer (some p)]] w R) N :=
 (ni a n c g p lt X G wk hs hX hc).symMerge (LY wk hs hX hc) (l29:=fun R k i x w=>eu.l29 R k a n c i x w) (l71:=fun R k i x w=>eu.l71 R k a n c i x w) (l10:=fun R k x1 i j w=>eu.l10 R k a n c x1 p i j w) (l52:=fun R k x2 i j w=>eu.l52 R k a n c x2 p i j w)
  (xk:=fun R k x1 x2 x3 mid n' s r q w=>eu.xk R k a n c x1 x2 x3 p mid n' s r q w) (fun R k x10 x w h=>(eu.u29 ..).mpr h) (fun R k x14 x w h=>(eu.u71 ..).mpr h) (fun R k x1 i j w h=>(eu.u10 ..).mpr h) (fun R k x2 i j w h=>(eu.u52 ..).mpr h) (fun R k a' m b mid n' q s r w h=>(eu.TK ..).mpr h) (fun R x1 x2 x3 w h=>eu.calls h)
theorem O9:(ni a n c g p lt X G wk hs hX hc).Gh fun x1 x2 w R=>E.CallsD Go.Proofs.Tryz.prog 111 #[.slice a n c,.int .i64 x1,.int .i64 x2,.func (.func 93) #[] #[.pointer (some p)]] w R :=
 (ni a n c g p lt X G wk hs hX hc).CZ (l3:=fun R k x1 x2 x8 w=>ja.l3 R k a n c x1 x2 p x8 w) (l15:=fun R k0 k x1 x2 x8 x w=>ja.l15 R (ja.l3 R k0) k a n c x1 x2 p x8 x w) (fun R k x1 x2 x8 w h=>(ja.u3 ..).mpr h) (fun R k0 k x1 x2 x8 x w h=>h) (fun R x1 x2 w h=>ja.calls h)
end
theorem zO {a:OA} {n c g:Nat} {p:Addr} {lt:sH→sH→Bool} {X:World→Prop} {G:sH→Prop} (wk:Wk lt) (hs:n≤1152921504606846975) (hX:∀ w u,X w→Only g w u→X u) (hc:Ae p lt X G) {R:VP} {w:World} {xs:List sH} (h:aO 4 fZ 74 w a n c xs g) (hx:X w) (hG:∀ x∈xs,G x)
  (hR:∀ u,aO 4 fZ 74 u a n c (sorted lt xs) g→X u→Only g w u→R (.tuple #[]) u):E.CallsD Go.Proofs.Tryz.prog 103 #[.slice a n c,.int .i64 n,.func (.func 93) #[] #[.pointer (some p)]] w R :=
 dX.calls ((ni a n c g p lt X G wk hs hX hc).stable (R:=R) (O9 wk hs hX hc) (Nh wk hs hX hc) (l6:=fun k x y w=>dX.l6 R k a n c n p 20 x y w) (l22:=fun k x w=>dX.l22 R k a n c n p x w)
  (l34:=fun k k' x6 x y w=>dX.l34 R (dX.l22 R k) k' a n c n p x6 x y w) (fun k x y w h=>(dX.u6 ..).mpr h) (fun k x w h=>(dX.u22 ..).mpr h) (fun k k' x6 x y w h=>h) (xs:=xs) ⟨h,hx,hG⟩ fun u hu ru=>hR u hu.1 hu.2.1 ru)
theorem DK {a:OA} {n c g:Nat} {p:Addr} {lt:sH→sH→Bool} {X:World→Prop} {G:sH→Prop} (wk:Wk lt) (hs:n≤1152921504606846975) (hX:∀ w u,X w→Only g w u→X u) (hc:Ae p lt X G) {R:VP} {w:World} {xs:List sH} (h:aO 4 fZ 74 w a n c xs g) (hx:X w) (hG:∀ x∈xs,G x)
  (hR:∀ u,aO 4 fZ 74 u a n c (sorted lt xs) g→X u→Only g w u→R (.tuple #[]) u):E.CallsD Go.Proofs.Tryz.prog 92 #[.slice a n c,.func (.func 93) #[] #[.pointer (some p)]] w R :=
 kN.calls (E.CallsD.mono (zO wk hs hX hc (R:=fun v u=>v = .tuple #[]∧R (.tuple #[]) u) h hx hG fun u a b c=>⟨rfl,hR u a b c⟩) fun v u h=>h)
end Go.Mir
