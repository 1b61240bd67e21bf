/- Part of a proof of laws of the seat Ytmjlipmapfofmaa: functions' weakest preconditions, each checked by the kernel, contracts out of them, plain lemmas; no conditions. -/
import Derived.Test.YtmjlipmapfofmaaSSA
import Derived.Test.YtmjlipmapfofmaaED
import Derived.Test.YtmjlipmapfofmaaTMA
set_option linter.unusedVariables false
set_option linter.unusedSimpArgs false
set_option linter.unusedSectionVars false
set_option linter.unusedVariables false
namespace Go.Mir
open Go Go.E Go.RowKit Go.Ss
noncomputable abbrev nN (x:uu):Value:=vW x.nd.kind x.nd.value x.nd.feature x.nd.thr x.nd.aI.a x.nd.aI.n x.nd.aI.c x.nd.missing x.nd.left x.nd.right x.frm x.to
abbrev uo (lt:uu→uu→Bool) (X:World→Prop) (G:uu→Prop):Prop:=∀ w x y,X w→G x→G y→E.CallsD Go.Proofs.Try.prog 82 #[nN x,nN y] w fun v u=>∃ r:Int,v = .int .i64 r∧decide (r<0)=lt x y∧Kept w u
noncomputable def jh (a:OA) (n c g:Nat) (lt:uu→uu→Bool) (X:World→Prop) (G:uu→Prop) (wk:Wk lt) (hs:n≤1152921504606846975) (hX:∀ w u,X w→Only g w u→X u) (hc:uo lt X G):SM uu :=
 smK Go.Proofs.Try.prog (fun w q K=>l9 w q fun k v f z a n c m l r s t=>K ⟨⟨k,v,f,z,⟨a,n,c⟩,m,l,r⟩,s,t⟩) (fun w q x K=>wH w q x.nd.kind x.nd.value x.nd.feature x.nd.thr x.nd.aI.a x.nd.aI.n x.nd.aI.c x.nd.missing x.nd.left x.nd.right x.frm x.to K) 10 a n c 126 g pO lt 82 (fun x y => #[nN x,nN y]) X G (fun _=>rfl) (by omega) wk hs
  (fun w q x K h hk=>⟨_,h 0 _ rfl,_,h 1 _ rfl,_,h 2 _ rfl,_,h 3 _ rfl,_,_,_,h 4 _ rfl,_,h 5 _ rfl,_,h 6 _ rfl,_,h 7 _ rfl,_,h 8 _ rfl,_,h 9 _ rfl,hk⟩) (fun w q x K h=>h) hX hc
section
variable {a:OA} {n c g:Nat} {lt:uu→uu→Bool} {X:World→Prop} {G:uu→Prop} (wk:Wk lt) (hs:n≤1152921504606846975) (hX:∀ w u,X w→Only g w u→X u) (hc:uo lt X G)
theorem J5:(jh a n c g lt X G wk hs hX hc).Ll fun x1 x2 x3 w R=>E.CallsD Go.Proofs.Try.prog 112 #[.slice a n c,.int .i64 x1,.int .i64 x2,.int .i64 x3,.func (.func 82) #[] #[]] w R :=
 fun P x q y s w R hxy hH hR=>fU.calls (Exists.intro (p:=fun k=>fU.l3 R k a n c _ _ _ 0 w) _ ((jh a n c g lt X G wk hs hX hc).yN (l:=fun k z w=>fU.l3 R k a n c _ _ _ z w) (fun k z w h=>(fU.u3 ..).mpr h) hxy rfl rfl rfl hR x.length 0 w (Nat.zero_add _) ((jh a n c g lt X G wk hs hX hc).refl _) (by rw [yh]; exact hH)))
theorem Hz:(jh a n c g lt X G wk hs hX hc).IA fun x1 x2 x3 w R=>E.CallsD Go.Proofs.Try.prog 107 #[.slice a n c,.int .i64 x1,.int .i64 x2,.int .i64 x3,.func (.func 82) #[] #[]] w R:=by
 intro P L R' Q w R hL hR' hH hR
 have hn:=SM.wE _ hH
 have hln:(P++L++R'++Q).length=P.length+L.length+R'.length+Q.length:=by simp; omega
 have hn':(jh a n c g lt X G wk hs hX hc).n=n:=rfl
 refine fO.calls ?_
 unfold fO fO.g0
 refine o8 (y:=((L.length:Nat):Int)) (by rw [pJ (by omega) (by omega)]; omega) (o8 (y:=((R'.length:Nat):Int)) (by rw [pJ (by omega) (by omega)]; omega) ?_)
 exact Exists.intro _ ((jh a n c g lt X G wk hs hX hc).D7 (J5 wk hs hX hc) (l:=fun k i j w=>fO.l6 R k a n c (P.length+L.length:Nat) i j w) (fun k i j w h=>(fO.u6 ..).mpr h) (F:=P++R'++L++Q) hR _ P L R' Q w (Nat.le_refl _) hL hR' rfl rfl ((jh a n c g lt X G wk hs hX hc).refl _) hH)
theorem IX:∀ N,(jh a n c g lt X G wk hs hX hc).zh (fun x1 x2 x3 w R=>E.CallsD Go.Proofs.Try.prog 101 #[.slice a n c,.int .i64 x1,.int .i64 x2,.int .i64 x3,.func (.func 82) #[] #[]] w R) N :=
 (jh a n c g lt X G wk hs hX hc).symMerge (Hz wk hs hX hc) (l29:=fun R k i x w=>bF.l29 R k a n c i x w) (l71:=fun R k i x w=>bF.l71 R k a n c i x w) (l10:=fun R k x1 i j w=>bF.l10 R k a n c x1 i j w) (l52:=fun R k x2 i j w=>bF.l52 R k a n c x2 i j w)
  (wF:=fun R k x1 x2 x3 mid n' s r q w=>bF.wF R k a n c x1 x2 x3 mid n' s r q w) (fun R k x10 x w h=>(bF.u29 ..).mpr h) (fun R k x14 x w h=>(bF.u71 ..).mpr h) (fun R k x1 i j w h=>(bF.u10 ..).mpr h) (fun R k x2 i j w h=>(bF.u52 ..).mpr h) (fun R k a' m b mid n' q s r w h=>(bF.SI ..).mpr h) (fun R x1 x2 x3 w h=>bF.calls h)
theorem Hu:(jh a n c g lt X G wk hs hX hc).Gi fun x1 x2 w R=>E.CallsD Go.Proofs.Try.prog 100 #[.slice a n c,.int .i64 x1,.int .i64 x2,.func (.func 82) #[] #[]] w R :=
 (jh a n c g lt X G wk hs hX hc).CZ (l3:=fun R k x1 x2 x8 w=>fM.l3 R k a n c x1 x2 x8 w) (l15:=fun R k0 k x1 x2 x8 x w=>fM.l15 R (fM.l3 R k0) k a n c x1 x2 x8 x w) (fun R k x1 x2 x8 w h=>(fM.u3 ..).mpr h) (fun R k0 k x1 x2 x8 x w h=>h) (fun R x1 x2 w h=>fM.calls h)
end
theorem wL {a:OA} {n c g:Nat} {lt:uu→uu→Bool} {X:World→Prop} {G:uu→Prop} (wk:Wk lt) (hs:n≤1152921504606846975) (hX:∀ w u,X w→Only g w u→X u) (hc:uo lt X G) {R:VP} {w:World} {xs:List uu} (h:au 10 pO 126 w a n c xs g) (hx:X w) (hG:∀ x∈xs,G x)
  (hR:∀ u,au 10 pO 126 u a n c (sorted lt xs) g→X u→Only g w u→R (.tuple #[]) u):E.CallsD Go.Proofs.Try.prog 93 #[.slice a n c,.int .i64 n,.func (.func 82) #[] #[]] w R :=
 bI.calls ((jh a n c g lt X G wk hs hX hc).stable (R:=R) (Hu wk hs hX hc) (IX wk hs hX hc) (l6:=fun k x y w=>bI.l6 R k a n c n 20 x y w) (l22:=fun k x w=>bI.l22 R k a n c n x w)
  (l34:=fun k k' x6 x y w=>bI.l34 R (bI.l22 R k) k' a n c n x6 x y w) (fun k x y w h=>(bI.u6 ..).mpr h) (fun k x w h=>(bI.u22 ..).mpr h) (fun k k' x6 x y w h=>h) (xs:=xs) ⟨h,hx,hG⟩ fun u hu ru=>hR u hu.1 hu.2.1 ru)
theorem Ah {a:OA} {n c g:Nat} {lt:uu→uu→Bool} {X:World→Prop} {G:uu→Prop} (wk:Wk lt) (hs:n≤1152921504606846975) (hX:∀ w u,X w→Only g w u→X u) (hc:uo lt X G) {R:VP} {w:World} {xs:List uu} (h:au 10 pO 126 w a n c xs g) (hx:X w) (hG:∀ x∈xs,G x)
  (hR:∀ u,au 10 pO 126 u a n c (sorted lt xs) g→X u→Only g w u→R (.tuple #[]) u):E.CallsD Go.Proofs.Try.prog 81 #[.slice a n c,.func (.func 82) #[] #[]] w R :=
 iP.calls (E.CallsD.mono (wL wk hs hX hc (R:=fun v u=>v = .tuple #[]∧R (.tuple #[]) u) h hx hG fun u a b c=>⟨rfl,hR u a b c⟩) fun v u h=>h)
noncomputable abbrev uD (x:sO):Value:=pX x.thr x.aI.a x.aI.n x.aI.c x.tree x.frm x.to
abbrev Ej (p:Addr) (lt:sO→sO→Bool) (X:World→Prop) (G:sO→Prop):Prop:=∀ w x y,X w→G x→G y→E.CallsD Go.Proofs.Try.prog 88 #[uD x,uD y,.pointer (some p)] w fun v u=>∃ r:Int,v = .int .i64 r∧decide (r<0)=lt x y∧Kept w u
noncomputable def tH (a:OA) (n c g:Nat) (p:Addr) (lt:sO→sO→Bool) (X:World→Prop) (G:sO→Prop) (wk:Wk lt) (hs:n≤1152921504606846975) (hX:∀ w u,X w→Only g w u→X u) (hc:Ej p lt X G):SM sO :=
 smK Go.Proofs.Try.prog (fun w q K=>oW w q fun z a n c x y v=>K ⟨z,⟨a,n,c⟩,x,y,v⟩) (fun w q x K=>D9 w q x.thr x.aI.a x.aI.n x.aI.c x.tree x.frm x.to K) 5 a n c 72 g jU lt 88 (fun x y => #[uD x,uD y,.pointer (some p)]) X G (fun _=>rfl) (by omega) wk hs
  (fun w q x K h hk=>⟨_,h 0 _ rfl,_,_,_,h 1 _ rfl,_,h 2 _ rfl,_,h 3 _ rfl,_,h 4 _ rfl,hk⟩) (fun w q x K h=>h) hX hc
section
variable {a:OA} {n c g:Nat} {p:Addr} {lt:sO→sO→Bool} {X:World→Prop} {G:sO→Prop} (wk:Wk lt) (hs:n≤1152921504606846975) (hX:∀ w u,X w→Only g w u→X u) (hc:Ej p lt X G)
theorem OX:(tH a n c g p lt X G wk hs hX hc).Ll fun x1 x2 x3 w R=>E.CallsD Go.Proofs.Try.prog 113 #[.slice a n c,.int .i64 x1,.int .i64 x2,.int .i64 x3,.func (.func 88) #[] #[.pointer (some p)]] w R :=
 fun P x q y s w R hxy hH hR=>jM.calls (Exists.intro (p:=fun k=>jM.l3 R k a n c _ _ _ 0 w) _ ((tH a n c g p lt X G wk hs hX hc).yN (l:=fun k z w=>jM.l3 R k a n c _ _ _ z w) (fun k z w h=>(jM.u3 ..).mpr h) hxy rfl rfl rfl hR x.length 0 w (Nat.zero_add _) ((tH a n c g p lt X G wk hs hX hc).refl _) (by rw [yh]; exact hH)))
theorem PL:(tH a n c g p lt X G wk hs hX hc).IA fun x1 x2 x3 w R=>E.CallsD Go.Proofs.Try.prog 110 #[.slice a n c,.int .i64 x1,.int .i64 x2,.int .i64 x3,.func (.func 88) #[] #[.pointer (some p)]] w R:=by
 intro P L R' Q w R hL hR' hH hR
 have hn:=SM.wE _ hH
 have hln:(P++L++R'++Q).length=P.length+L.length+R'.length+Q.length:=by simp; omega
 have hn':(tH a n c g p lt X G wk hs hX hc).n=n:=rfl
 refine je.calls ?_
 unfold je je.g0
 refine o8 (y:=((L.length:Nat):Int)) (by rw [pJ (by omega) (by omega)]; omega) (o8 (y:=((R'.length:Nat):Int)) (by rw [pJ (by omega) (by omega)]; omega) ?_)
 exact Exists.intro _ ((tH a n c g p lt X G wk hs hX hc).D7 (OX wk hs hX hc) (l:=fun k i j w=>je.l6 R k a n c (P.length+L.length:Nat) p i j w) (fun k i j w h=>(je.u6 ..).mpr h) (F:=P++R'++L++Q) hR _ P L R' Q w (Nat.le_refl _) hL hR' rfl rfl ((tH a n c g p lt X G wk hs hX hc).refl _) hH)
theorem Qr:∀ N,(tH a n c g p lt X G wk hs hX hc).zh (fun x1 x2 x3 w R=>E.CallsD Go.Proofs.Try.prog 104 #[.slice a n c,.int .i64 x1,.int .i64 x2,.int .i64 x3,.func (.func 88) #[] #[.pointer (some p)]] w R) N :=
 (tH a n c g p lt X G wk hs hX hc).symMerge (PL wk hs hX hc) (l29:=fun R k i x w=>dX.l29 R k a n c i x w) (l71:=fun R k i x w=>dX.l71 R k a n c i x w) (l10:=fun R k x1 i j w=>dX.l10 R k a n c x1 p i j w) (l52:=fun R k x2 i j w=>dX.l52 R k a n c x2 p i j w)
  (wF:=fun R k x1 x2 x3 mid n' s r q w=>dX.wF R k a n c x1 x2 x3 p mid n' s r q w) (fun R k x10 x w h=>(dX.u29 ..).mpr h) (fun R k x14 x w h=>(dX.u71 ..).mpr h) (fun R k x1 i j w h=>(dX.u10 ..).mpr h) (fun R k x2 i j w h=>(dX.u52 ..).mpr h) (fun R k a' m b mid n' q s r w h=>(dX.SI ..).mpr h) (fun R x1 x2 x3 w h=>dX.calls h)
theorem PG:(tH a n c g p lt X G wk hs hX hc).Gi fun x1 x2 w R=>E.CallsD Go.Proofs.Try.prog 103 #[.slice a n c,.int .i64 x1,.int .i64 x2,.func (.func 88) #[] #[.pointer (some p)]] w R :=
 (tH a n c g p lt X G wk hs hX hc).CZ (l3:=fun R k x1 x2 x8 w=>jg.l3 R k a n c x1 x2 p x8 w) (l15:=fun R k0 k x1 x2 x8 x w=>jg.l15 R (jg.l3 R k0) k a n c x1 x2 p x8 x w) (fun R k x1 x2 x8 w h=>(jg.u3 ..).mpr h) (fun R k0 k x1 x2 x8 x w h=>h) (fun R x1 x2 w h=>jg.calls h)
end
theorem A7 {a:OA} {n c g:Nat} {p:Addr} {lt:sO→sO→Bool} {X:World→Prop} {G:sO→Prop} (wk:Wk lt) (hs:n≤1152921504606846975) (hX:∀ w u,X w→Only g w u→X u) (hc:Ej p lt X G) {R:VP} {w:World} {xs:List sO} (h:au 5 jU 72 w a n c xs g) (hx:X w) (hG:∀ x∈xs,G x)
  (hR:∀ u,au 5 jU 72 u a n c (sorted lt xs) g→X u→Only g w u→R (.tuple #[]) u):E.CallsD Go.Proofs.Try.prog 96 #[.slice a n c,.int .i64 n,.func (.func 88) #[] #[.pointer (some p)]] w R :=
 dG.calls ((tH a n c g p lt X G wk hs hX hc).stable (R:=R) (PG wk hs hX hc) (Qr wk hs hX hc) (l6:=fun k x y w=>dG.l6 R k a n c n p 20 x y w) (l22:=fun k x w=>dG.l22 R k a n c n p x w)
  (l34:=fun k k' x6 x y w=>dG.l34 R (dG.l22 R k) k' a n c n p x6 x y w) (fun k x y w h=>(dG.u6 ..).mpr h) (fun k x w h=>(dG.u22 ..).mpr h) (fun k k' x6 x y w h=>h) (xs:=xs) ⟨h,hx,hG⟩ fun u hu ru=>hR u hu.1 hu.2.1 ru)
theorem FU {a:OA} {n c g:Nat} {p:Addr} {lt:sO→sO→Bool} {X:World→Prop} {G:sO→Prop} (wk:Wk lt) (hs:n≤1152921504606846975) (hX:∀ w u,X w→Only g w u→X u) (hc:Ej p lt X G) {R:VP} {w:World} {xs:List sO} (h:au 5 jU 72 w a n c xs g) (hx:X w) (hG:∀ x∈xs,G x)
  (hR:∀ u,au 5 jU 72 u a n c (sorted lt xs) g→X u→Only g w u→R (.tuple #[]) u):E.CallsD Go.Proofs.Try.prog 87 #[.slice a n c,.func (.func 88) #[] #[.pointer (some p)]] w R :=
 lK.calls (E.CallsD.mono (A7 wk hs hX hc (R:=fun v u=>v = .tuple #[]∧R (.tuple #[]) u) h hx hG fun u a b c=>⟨rfl,hR u a b c⟩) fun v u h=>h)
noncomputable abbrev oL (x:rQ):Value:=yB x.feature x.numbers.a x.numbers.n x.numbers.c x.aI.a x.aI.n x.aI.c x.lost.a x.lost.n x.lost.c
abbrev zo (p:Addr) (lt:rQ→rQ→Bool) (X:World→Prop) (G:rQ→Prop):Prop:=∀ w x y,X w→G x→G y→E.CallsD Go.Proofs.Try.prog 91 #[oL x,oL y,.pointer (some p)] w fun v u=>∃ r:Int,v = .int .i64 r∧decide (r<0)=lt x y∧Kept w u
noncomputable def lX (a:OA) (n c g:Nat) (p:Addr) (lt:rQ→rQ→Bool) (X:World→Prop) (G:rQ→Prop) (wk:Wk lt) (hs:n≤1152921504606846975) (hX:∀ w u,X w→Only g w u→X u) (hc:zo p lt X G):SM rQ :=
 smK Go.Proofs.Try.prog (fun w q K=>sV w q fun f a n c a1 n1 c1 a2 n2 c2=>K ⟨f,⟨a,n,c⟩,⟨a1,n1,c1⟩,⟨a2,n2,c2⟩⟩) (fun w q x K=>GY w q x.feature x.numbers.a x.numbers.n x.numbers.c x.aI.a x.aI.n x.aI.c x.lost.a x.lost.n x.lost.c K) 4 a n c 69 g dW lt 91 (fun x y => #[oL x,oL y,.pointer (some p)]) X G (fun _=>rfl) (by omega) wk hs
  (fun w q x K h hk=>⟨_,h 0 _ rfl,_,_,_,h 1 _ rfl,_,_,_,h 2 _ rfl,_,_,_,h 3 _ rfl,hk⟩) (fun w q x K h=>h) hX hc
section
variable {a:OA} {n c g:Nat} {p:Addr} {lt:rQ→rQ→Bool} {X:World→Prop} {G:rQ→Prop} (wk:Wk lt) (hs:n≤1152921504606846975) (hX:∀ w u,X w→Only g w u→X u) (hc:zo p lt X G)
theorem Na:(lX a n c g p lt X G wk hs hX hc).Ll fun x1 x2 x3 w R=>E.CallsD Go.Proofs.Try.prog 114 #[.slice a n c,.int .i64 x1,.int .i64 x2,.int .i64 x3,.func (.func 91) #[] #[.pointer (some p)]] w R :=
 fun P x q y s w R hxy hH hR=>iH.calls (Exists.intro (p:=fun k=>iH.l3 R k a n c _ _ _ 0 w) _ ((lX a n c g p lt X G wk hs hX hc).yN (l:=fun k z w=>iH.l3 R k a n c _ _ _ z w) (fun k z w h=>(iH.u3 ..).mpr h) hxy rfl rfl rfl hR x.length 0 w (Nat.zero_add _) ((lX a n c g p lt X G wk hs hX hc).refl _) (by rw [yh]; exact hH)))
theorem LU:(lX a n c g p lt X G wk hs hX hc).IA fun x1 x2 x3 w R=>E.CallsD Go.Proofs.Try.prog 111 #[.slice a n c,.int .i64 x1,.int .i64 x2,.int .i64 x3,.func (.func 91) #[] #[.pointer (some p)]] w R:=by
 intro P L R' Q w R hL hR' hH hR
 have hn:=SM.wE _ hH
 have hln:(P++L++R'++Q).length=P.length+L.length+R'.length+Q.length:=by simp; omega
 have hn':(lX a n c g p lt X G wk hs hX hc).n=n:=rfl
 refine ik.calls ?_
 unfold ik ik.g0
 refine o8 (y:=((L.length:Nat):Int)) (by rw [pJ (by omega) (by omega)]; omega) (o8 (y:=((R'.length:Nat):Int)) (by rw [pJ (by omega) (by omega)]; omega) ?_)
 exact Exists.intro _ ((lX a n c g p lt X G wk hs hX hc).D7 (Na wk hs hX hc) (l:=fun k i j w=>ik.l6 R k a n c (P.length+L.length:Nat) p i j w) (fun k i j w h=>(ik.u6 ..).mpr h) (F:=P++R'++L++Q) hR _ P L R' Q w (Nat.le_refl _) hL hR' rfl rfl ((lX a n c g p lt X G wk hs hX hc).refl _) hH)
theorem Xq:∀ N,(lX a n c g p lt X G wk hs hX hc).zh (fun x1 x2 x3 w R=>E.CallsD Go.Proofs.Try.prog 106 #[.slice a n c,.int .i64 x1,.int .i64 x2,.int .i64 x3,.func (.func 91) #[] #[.pointer (some p)]] w R) N :=
 (lX a n c g p lt X G wk hs hX hc).symMerge (LU wk hs hX hc) (l29:=fun R k i x w=>dm.l29 R k a n c i x w) (l71:=fun R k i x w=>dm.l71 R k a n c i x w) (l10:=fun R k x1 i j w=>dm.l10 R k a n c x1 p i j w) (l52:=fun R k x2 i j w=>dm.l52 R k a n c x2 p i j w)
  (wF:=fun R k x1 x2 x3 mid n' s r q w=>dm.wF R k a n c x1 x2 x3 p mid n' s r q w) (fun R k x10 x w h=>(dm.u29 ..).mpr h) (fun R k x14 x w h=>(dm.u71 ..).mpr h) (fun R k x1 i j w h=>(dm.u10 ..).mpr h) (fun R k x2 i j w h=>(dm.u52 ..).mpr h) (fun R k a' m b mid n' q s r w h=>(dm.SI ..).mpr h) (fun R x1 x2 x3 w h=>dm.calls h)
theorem Lt:(lX a n c g p lt X G wk hs hX hc).Gi fun x1 x2 w R=>E.CallsD Go.Proofs.Try.prog 105 #[.slice a n c,.int .i64 x1,.int .i64 x2,.func (.func 91) #[] #[.pointer (some p)]] w R :=
 (lX a n c g p lt X G wk hs hX hc).CZ (l3:=fun R k x1 x2 x8 w=>ig.l3 R k a n c x1 x2 p x8 w) (l15:=fun R k0 k x1 x2 x8 x w=>ig.l15 R (ig.l3 R k0) k a n c x1 x2 p x8 x w) (fun R k x1 x2 x8 w h=>(ig.u3 ..).mpr h) (fun R k0 k x1 x2 x8 x w h=>h) (fun R x1 x2 w h=>ig.calls h)
end
theorem yu {a:OA} {n c g:Nat} {p:Addr} {lt:rQ→rQ→Bool} {X:World→Prop} {G:rQ→Prop} (wk:Wk lt) (hs:n≤1152921504606846975) (hX:∀ w u,X w→Only g w u→X u) (hc:zo p lt X G) {R:VP} {w:World} {xs:List rQ} (h:au 4 dW 69 w a n c xs g) (hx:X w) (hG:∀ x∈xs,G x)
  (hR:∀ u,au 4 dW 69 u a n c (sorted lt xs) g→X u→Only g w u→R (.tuple #[]) u):E.CallsD Go.Proofs.Try.prog 98 #[.slice a n c,.int .i64 n,.func (.func 91) #[] #[.pointer (some p)]] w R :=
 di.calls ((lX a n c g p lt X G wk hs hX hc).stable (R:=R) (Lt wk hs hX hc) (Xq wk hs hX hc) (l6:=fun k x y w=>di.l6 R k a n c n p 20 x y w) (l22:=fun k x w=>di.l22 R k a n c n p x w)
  (l34:=fun k k' x6 x y w=>di.l34 R (di.l22 R k) k' a n c n p x6 x y w) (fun k x y w h=>(di.u6 ..).mpr h) (fun k x w h=>(di.u22 ..).mpr h) (fun k k' x6 x y w h=>h) (xs:=xs) ⟨h,hx,hG⟩ fun u hu ru=>hR u hu.1 hu.2.1 ru)
theorem DC {a:OA} {n c g:Nat} {p:Addr} {lt:rQ→rQ→Bool} {X:World→Prop} {G:rQ→Prop} (wk:Wk lt) (hs:n≤1152921504606846975) (hX:∀ w u,X w→Only g w u→X u) (hc:zo p lt X G) {R:VP} {w:World} {xs:List rQ} (h:au 4 dW 69 w a n c xs g) (hx:X w) (hG:∀ x∈xs,G x)
  (hR:∀ u,au 4 dW 69 u a n c (sorted lt xs) g→X u→Only g w u→R (.tuple #[]) u):E.CallsD Go.Proofs.Try.prog 90 #[.slice a n c,.func (.func 91) #[] #[.pointer (some p)]] w R :=
 jJ.calls (E.CallsD.mono (yu wk hs hX hc (R:=fun v u=>v = .tuple #[]∧R (.tuple #[]) u) h hx hG fun u a b c=>⟨rfl,hR u a b c⟩) fun v u h=>h)
end Go.Mir
