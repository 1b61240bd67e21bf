/- Part of a proof of laws of the seat YtmjlipmapfofmaaGreat: functions' weakest preconditions, each checked by the kernel, contracts out of them, plain lemmas; no conditions. -/
import Derived.Test.YtmjlipmapfofmaaGreatFA
set_option linter.unusedVariables false
set_option linter.unusedSimpArgs false
set_option linter.unusedSectionVars false
set_option maxRecDepth 100000
namespace Go.Mir
open Go Go.E Go.RowKit Go.Tr Go.Ss Go.ChangeShapes
structure ng (F:Nat→Prop) (w:World) (a:OA) (n c:Nat) (ts:List TD) (d:Int):Prop where
 ls:Ls tT F w a n c ts
 old:∀ b,F b→b<w.heap.size
 max:n≤65536
 d0:0≤d
 d1:d≤65536
 ok:∀ t∈ts,t.nodes.length≤1048576∧Short 1048576 t.nodes∧lvE t.nodes=0∧pM t.nodes d=true
section
variable {w u:World} {a a1:OA} {n c n1 c1:Nat} {F F' S:Nat→Prop} {p q:Addr} {B mb i j:Nat} {H:List HE} {ts:List TD} {d:Int}
theorem ng.kept (h:ng F w a n c ts d) (hk:Kept w u):ng F u a n c ts d:=⟨h.ls.kept hk,fun b hb=>Nat.lt_of_lt_of_le (h.old b hb) hk.size,h.max,h.d0,h.d1,h.ok⟩
theorem Qn (hG:ng F w a n c ts d):Pure Go.Proofs.Tryz.prog 69 #[.slice a n c,.int .i64 d] w (.int .i64 0):=by
 refine bW.calls (R:=fun v' u=>v'=_∧Below w.heap.size w u) ?_
 unfold bW bW.g0
 have h0:=hG.d0
 have h1:=hG.d1
 have hmx:=hG.max
 have hn:=hG.ls.len
 refine az (by omega) ?_
 refine az (by omega) ?_
 refine az (by omega) ?_
 refine ⟨n+1,?_⟩
 have key:∀ (k i:Nat) (u:World),i+k=n→Kept w u→bW.l22 (fun v' u=>v' = .int .i64 0∧Below w.heap.size w u) (k+1) d a n c n i u:=by
  intro k
  induction k with
  | zero =>
   intro i u hi hu
   rw [bW.u22]; unfold bW.g22
   refine az (by omega) ?_
   exact ⟨rfl,hu⟩
  | succ k ih =>
   intro i u hi hu
   rw [bW.u22]; unfold bW.g22
   refine aI (by omega) ?_
   refine (hG.kept hu).ls.rdT (by omega) (by omega) fun t a' n' c' ht hnodes=>?_
   rw [Int.toNat_natCast] at ht
   obtain ⟨o1,o2,o3,o4⟩:=hG.ok t (List.mem_of_getElem? ht)
   have hnl:=hnodes.len
   have hGt:Good F u a' n' c' t.nodes:=⟨hnodes,(hG.kept hu).old,by omega,o2⟩
   refine uY fun w1 hb hA hk1=>⟨_,hA.c0,_,_,_,hA.c1,?_⟩
   obtain ⟨hsh,hlv⟩:=jW o3
   refine E.CallsD.mono (uK (o:=t.output) (hGt.kept hk1)) fun v u1 ⟨a2,n2,c2,hv,hnew⟩=>⟨_,_,_,_,hv,qP hsh ?_⟩
   have hl2:=hnew.len
   rw [show (nH (dw t.nodes false)).length=(dw t.nodes false).length by simp [nH]] at hl2
   refine az (by omega) ?_
   have hk2:=Kept.trans hk1 hnew.kept
   refine ⟨_,_,_,(hA.kept hnew.kept).c1,n'+1,?_⟩
   have hT:=(dY hsh)
   have inner:∀ (k2 j:Nat) (v:World),j+k2=n'→Kept u v→bW.l54 (fun v' u=>v' = .int .i64 0∧Below w.heap.size w u) (bW.l22 (fun v' u=>v' = .int .i64 0∧Below w.heap.size w u) (k+1)) (k2+1) d a n c n i a' n' c' n' j v:=by
    intro k2
    induction k2 with
    | zero =>
     intro j v hj hv
     unfold bW.l54 bW.g54
     refine az (by omega) ?_
     exact aA (by omega) (ih (i+1) v (by omega) (Kept.trans hu hv))
    | succ k2 ih2 =>
     intro j v hj hv
     unfold bW.l54 bW.g54
     refine aI (by omega) ?_
     refine (hnodes.kept hv).rdN (by omega) (by omega) fun x a5 n5 c5 hx hcs=>?_
     rw [Int.toNat_natCast] at hx
     refine oD fun v1 _ h8 hk3=>⟨_,h8.c0,?_⟩
     refine iJ (fun hne=>?_) fun he=>aA (by omega) (ih2 (j+1) v1 (by omega) (Kept.trans hv hk3))
     have hin:=(wW hT hx).1 hne
     have hft:=fits_all o4 hx hin
     refine ⟨_,h8.c2,az (by omega) (aA (by omega) (ih2 (j+1) v1 (by omega) (Kept.trans hv hk3)))⟩
   exact inner n' 0 u1 (by omega) hk2
 exact key n 0 w (by omega) (Kept.refl w)
end
end Go.Mir
set_option maxRecDepth 100000
namespace Go.Mir
open Go Go.E Go.RowKit Go.Tr Go.Ss Go.ChangeShapes
theorem xM:∀ (l:List TD) (t:TD) (k:Nat),dZ (l++[t]) k=dZ l k++qJ (k+l.length) t.nodes
 | [],t,k=>by simp [dZ]
 | x::l,t,k=>by
  rw [List.cons_append,dZ,dZ,xM l t (k+1),List.append_assoc,List.length_cons,show k+1+l.length=k+(l.length+1) by omega]
theorem Nl (L:List ed) (p:ND×dF):(nI L p).length≤L.length+1:=by
 unfold nI vK
 rw [List.length_map]
 split <;> simp
theorem BN:∀ (l:List (ND×dF)) (L:List ed),(l.foldl nI L).length≤L.length+l.length
 | [],L=>by simp
 | p::l,L=>by
  rw [List.foldl_cons,List.length_cons]
  have h1:=BN l (nI L p)
  have h2:=Nl L p
  omega
theorem lS (nodes:List ND):(gV nodes).length≤4096:=by
 unfold gV
 split
 ·rename_i h0
  have:=(PW h0).2
  have:=(mZ nodes).jJ 0
  omega
 ·simp
theorem Cf:∀ (l:List TD) (k:Nat),(dZ l k).length≤4096*l.length
 | [],k=>by simp [dZ]
 | t::l,k=>by
  rw [dZ,List.length_append,List.length_cons]
  have h1:=Cf l (k+1)
  have h2:(qJ k t.nodes).length≤4096:=Nat.le_trans (List.length_filterMap_le _ _) (lS _)
  omega
section
variable {w u:World} {a a1:OA} {n c n1 c1:Nat} {F F' S:Nat→Prop} {p q:Addr} {B mb i j:Nat} {H:List HE} {ts:List TD} {d:Int}
theorem J6 {r:RC} (hr:RS B w r) (hF:∀ b,B≤b→b<w.heap.size→F b):Ls tC F w r.1.a r.1.n r.1.c (r.2.1.map (·.1)):=by
 refine aO.lsK (T:=tC) (f:=fun x:CD=>x.1) (en:=lX) (k:=5) uH (by omega) rfl hr.1 (fun b hb=>hF b (by have:=hr.2.1; omega) (by have:=Row.le hr.1; omega)) fun x hx=>?_
 obtain ⟨g,h1,h2⟩:=hr.2.2 x hx
 exact ⟨x.2,rfl,(Arr.ls (h1:=fun _=>rfl) h1).mono fun b hb=>hF b (by omega) (by have:=Row.le h1; omega)⟩
theorem LW {g:Nat} {O:List HE} (hH:rX B w mb H) (hO:∀ x∈O,x∈H) (h:aO 4 fZ tL' w a n c (O.map Ar) g) (hg:g=0∨B<g) (hF:∀ b,B≤b→b<w.heap.size→F b):Ls tL F w a n c (O.map dHE):=by
 have h':aO 4 (fun x:HE=>fZ (Ar x)) tL' w a n c O g:=by
  unfold aO at h ⊢
  have e:(O.map Ar).flatMap fZ=O.flatMap fun x=>fZ (Ar x):=by rw [List.flatMap_map]
  rw [← e]
  exact h
 refine aO.lsK (T:=tL) (f:=dHE) (en:=fun x:HE=>fZ (Ar x)) (k:=4) (fun _=>rfl) (by omega) rfl h' (fun b hb=>hF b (by omega) (by have:=Row.le h'; omega)) fun x hx=>?_
 have hxm:=hO x hx
 have h3:=(hH.box x hxm).2.2
 obtain ⟨r0,e0,m0,d0⟩:=pR (x:=x) h3 (k:=0) (by omega)
 obtain ⟨r1,e1,m1,d1⟩:=pR (x:=x) h3 (k:=1) (by omega)
 obtain ⟨r2,e2,m2,d2⟩:=pR (x:=x) h3 (k:=2) (by omega)
 refine ⟨r0.1,r1.1,r2.1,?_,?_,?_,?_⟩
 ·show fZ (Ar x)=enL (dHE x) r0.1 r1.1 r2.1
  simp [Ar,e0,e1,e2,dHE,enL,fZ]
 ·show Ls tC F w r0.1.a r0.1.n r0.1.c (HY x 0)
  rw [d0]; exact J6 (hH.row x hxm r0 m0) hF
 ·show Ls tC F w r1.1.a r1.1.n r1.1.c (HY x 1)
  rw [d1]; exact J6 (hH.row x hxm r1 m1) hF
 ·show Ls tC F w r2.1.a r2.1.n r2.1.c (HY x 2)
  rw [d2]; exact J6 (hH.row x hxm r2 m2) hF
theorem FY (hG:ng F w a n c ts d):E.CallsD Go.Proofs.Tryz.prog 49 #[.slice a n c,.int .i64 d] w fun v u=>∃ a' n' c',v = .tuple #[.slice a' n' c',.int .i64 0]∧Ls tL (fun b=>w.heap.size≤b∧b<u.heap.size) u a' n' c' (jr ts)∧Kept w u:=by
 refine bJ.calls (R:=fun v u=>∃ a' n' c',v = .tuple #[.slice a' n' c',.int .i64 0]∧Ls tL (fun b=>w.heap.size≤b∧b<u.heap.size) u a' n' c' (jr ts)∧Kept w u) ?_
 unfold bJ bJ.g0
 refine E.CallsD.mono (Qn hG) fun v u0 ⟨hv,hk0⟩=>⟨_,hv,qP (by decide) (bU ?_)⟩
 have hmx:=hG.max
 have hn:=hG.ls.len
 have hB:w.heap.size≤u0.heap.size:=hk0.size
 have hH0:=HOK.nil (B:=w.heap.size) tI' tC' tL' u0 hB
 have hk1:=Kept.trans hk0 (Kept.new u0 (.map #[] 0))
 refine ⟨n+1,?_⟩
 have key:∀ (k i:Nat) (u:World) (H:List HE),i+k=n→rX w.heap.size u u0.heap.size H→From w.heap.size w u→H.map dHE=(dZ (ts.take i) 0).foldl nI []→Lens (8192*i) H →
   bJ.l18 (fun v u=>∃ a' n' c',v = .tuple #[.slice a' n' c',.int .i64 0]∧Ls tL (fun b=>w.heap.size≤b∧b<u.heap.size) u a' n' c' (jr ts)∧Kept w u) (k+1) (some u0.heap.size) a n c n i u:=by
  intro k
  induction k with
  | zero =>
   intro i u H hi hH hf hd hl
   rw [bJ.u18]; unfold bJ.g18
   refine az (by omega) ?_
   obtain rfl:i=ts.length:=by omega
   rw [List.take_length] at hd
   have hnd:=oC hH
   rw [← qK,hd] at hnd
   refine iU.range t130 hH.map fun u1 hrng hku=>⟨_,rfl,?_⟩
   have hlen:=BN (dZ ts 0) []
   have hlen2:=Cf ts 0
   have hHl:H.length=((dZ ts 0).foldl nI []).length:=by rw [← hd,List.length_map]
   refine ⟨H.length+1,Oq (N:=8192*ts.length) (w0:=w) (L0:=(dZ ts 0).foldl nI []) (by omega) (by simp at hlen; omega) hnd (fun H' u2 a2 n2 c2 g hH' hp hf2 hout hg=>?_) H.length u1 H (H.map HE.kv) [] none 0 0 0 (by simp) (hH.kept hku) (Nat.le_trans (Nat.le_trans (Nat.le_refl _) hf.size) hku.size) hrng hf.size (aO.nil _ _ _ _) (.inl rfl) (fun y _ h=>by omega) (fun z hz=>by cases hz) (by simp) ?_ hl (hf.aF hku)⟩
   ·refine ⟨_,_,_,rfl,?_,From.kept hf2⟩
    have hls:=LW (F:=fun b=>w.heap.size≤b∧b<u2.heap.size) hH' (fun x hx=>(sorted_perm _ H').mem_iff.1 hx) hout hg (fun b h h2=>⟨h,h2⟩)
    have e1:(sorted (fun a b=>decide (a.f<b.f)) H').map dHE=sorted ltF (H'.map dHE):=(kD (lt:=ltF) dHE H').symm
    have e2:H'.map dHE=((dZ ts 0).foldl nI []).map xH:=by
     unfold Part at hp
     rw [hp]
     refine List.map_congr_left fun e he=>?_
     rw [if_pos (List.mem_map_of_mem he)]
    rw [e1,e2] at hls
    exact hls
   ·unfold Part
    rw [hd]
    simp
  | succ k ih =>
   intro i u H hi hH hf hd hl
   rw [bJ.u18]; unfold bJ.g18
   refine aI (by omega) ?_
   have hold:∀ b,F b→b<w.heap.size:=hG.old
   have hGu:=hG.kept (From.kept hf)
   refine hGu.ls.rdT (by omega) (by omega) fun t a' n' c' ht hnodes=>?_
   rw [Int.toNat_natCast] at ht
   obtain ⟨o1,o2,o3,o4⟩:=hG.ok t (List.mem_of_getElem? ht)
   have hnl:=hnodes.len
   have hGt:Good F u a' n' c' t.nodes:=⟨hnodes,hGu.old,by omega,o2⟩
   refine uY fun w1 hb hA hk1=>⟨_,hA.c0,_,_,_,hA.c1,?_⟩
   refine E.CallsD.mono (QF (o:=t.output) (hGt.kept hk1)) fun v u1 ⟨a2,n2,c2,hv,hnew⟩=>⟨_,_,_,_,hv,n2+1,?_⟩
   have hkk:=Kept.trans hk1 hnew.kept
   have hn2:=hnew.len
   obtain ⟨g0,hmk,_,_⟩:=hnew
   have hm4:=lS t.nodes
   refine DU (N:=8192*i) (w0:=u1) (L0:=(dZ (ts.take i) 0).foldl nI []) (F:=F) (B:=w.heap.size) (nodes:=t.nodes) (ms:=gV t.nodes) (by omega) hm4 hn2 (hb.keep (by assumption)) (hnodes.kept hkk) hold (fun m hm=>?_) o2 hmk (fun H' u2 hH' hd' ht' hf' hl'=>?_) n2 0 u1 H (by omega) (hH.kept hkk) (Nat.le_trans hf.size hkk.size) (by rw [hd]; simp) (Tch.refl _) (From.refl _ _) (by simpa using hl)
   ·obtain ⟨q,x,h1,h2,_⟩:=Af o3 o4 m hm
    exact ⟨q,x,h1,h2⟩
   ·refine aA (by omega) (ih (i+1) u2 H' (by omega) hH' ((hf.aF hkk).trans hf' (fun _ _ h=>h) (fun _ _ h=>h)) ?_ (hl'.mono (by omega)))
    rw [hd',take_snoc ht,xM,List.foldl_append,List.length_take,Nat.zero_add,Nat.min_eq_left (by omega)]
    rfl
 exact key n 0 _ [] (by omega) hH0 (Kept.mod (S:=fun k=>w.heap.size≤k) hk1) (by simp [dZ]) (fun x hx=>by cases hx)
end
end Go.Mir
set_option maxRecDepth 100000
namespace Go.Mir
open Go Go.E Go.RowKit Go.Tr Go.Ss Go.ChangeShapes
noncomputable def lT (t:TD) (d out:Int):Int:=if lvE t.nodes≠0 then lvE t.nodes else if t.output<0∨out≤t.output then 6 else if pM t.nodes d then 0 else 72
noncomputable def iW (d out:Int):List TD→Int
 | []=>0
 | t::ts=>if lT t d out≠0 then lT t d out else iW d out ts
noncomputable def pF (e:ED):Int:=if e.outputs<1 then 6 else if e.outputs>64 then 6 else if (e.base.length:Int)≠e.outputs then 6 else if e.features.length>65536 then 6 else if e.trees.length>65536 then 3 else iW e.features.length e.outputs e.trees
theorem D5 {t:TD} {d out:Int} (h:lvE t.nodes≠0):lT t d out=lvE t.nodes:=by unfold lT; rw [if_pos h]
theorem Ak {t:TD} {d out:Int} (h:lvE t.nodes=0) (ho:t.output<0∨out≤t.output):lT t d out=6:=by unfold lT; rw [if_neg (by omega),if_pos ho]
theorem Jk {t:TD} {d out:Int} (h:lvE t.nodes=0) (ho:¬ (t.output<0∨out≤t.output)) (hf:pM t.nodes d=false):lT t d out=72:=by unfold lT; rw [if_neg (by omega),if_neg ho,hf]; rfl
theorem yT {t:TD} {d out:Int} (h:lvE t.nodes=0) (ho:¬ (t.output<0∨out≤t.output)) (hf:pM t.nodes d=true):lT t d out=0:=by unfold lT; rw [if_neg (by omega),if_neg ho,hf]; rfl
theorem xZ {d out:Int}:∀ {ts:List TD},iW d out ts=0→∀ t∈ts,lT t d out=0
 | [],_,t,ht=>by cases ht
 | x::ts,h,t,ht=>by
  unfold iW at h
  split at h
  ·rename_i h'; exact absurd h h'
  ·rename_i h'
   rcases List.mem_cons.1 ht with rfl | ht
   ·exact Classical.byContradiction fun hn=>h' hn
   ·exact xZ h t ht
theorem Ot {t:TD} {d out:Int} (h:lT t d out=0):lvE t.nodes=0∧0≤t.output∧t.output<out∧pM t.nodes d=true:=by
 unfold lT at h
 split at h
 ·rename_i h'; exact absurd h h'
 rename_i h1
 split at h
 ·cases h
 rename_i h2
 split at h
 ·rename_i h3; exact ⟨by omega,by omega,by omega,h3⟩
 ·cases h
theorem qw {e:ED} (h:pF e=0):1≤e.outputs∧e.outputs≤64∧(e.base.length:Int)=e.outputs∧e.features.length≤65536∧e.trees.length≤65536∧iW e.features.length e.outputs e.trees=0:=by
 unfold pF at h
 repeat (split at h; · cases h)
 exact ⟨by omega,by omega,by omega,by omega,by omega,h⟩
section
variable {w u w1:World} {a a1:OA} {n c n1 c1:Nat} {F F' S:Nat→Prop} {p q:Addr} {e:ED} {f b t:SH} {nodes:List ND}
theorem JS {d:Int} {j:Nat} {x:ND} (he:pM nodes d=(nodes.drop j).all (sF d)) (hx:nodes[j]?=some x) (h:sF d x=false):pM nodes d=false:=by
 have hd:nodes.drop j=x::nodes.drop (j+1):=by
  obtain ⟨hlt,rfl⟩:=List.getElem?_eq_some_iff.1 hx
  exact List.drop_eq_getElem_cons hlt
 rw [he,hd,List.all_cons,h]
 rfl
theorem JH {d:Int} {j:Nat} {x:ND} (he:pM nodes d=(nodes.drop j).all (sF d)) (hx:nodes[j]?=some x) (h:sF d x=true):pM nodes d=(nodes.drop (j+1)).all (sF d):=by
 have hd:nodes.drop j=x::nodes.drop (j+1):=by
  obtain ⟨hlt,rfl⟩:=List.getElem?_eq_some_iff.1 hx
  exact List.drop_eq_getElem_cons hlt
 rw [he,hd,List.all_cons,h]
 rfl
theorem yK {d out:Int} {ts:List TD} {i:Nat} {x:TD} (hx:ts[i]?=some x):iW d out (ts.drop i)=if lT x d out≠0 then lT x d out else iW d out (ts.drop (i+1)):=by
 have hd:ts.drop i=x::ts.drop (i+1):=by
  obtain ⟨hlt,rfl⟩:=List.getElem?_eq_some_iff.1 hx
  exact List.drop_eq_getElem_cons hlt
 rw [hd]; rfl
theorem KD (hG:iH F w e f b t):Pure Go.Proofs.Tryz.prog 23 #[vE e f b t] w (.int .i64 (pF e)):=by
 refine bQ.calls (R:=fun v' u=>v'=_∧Below w.heap.size w u) ?_
 unfold bQ bQ.g0
 refine vG (cs:=(enE e f b t).toArray) fun w1 hA hk1=>?_
 have lf:=hG.fs.len
 have lb:=hG.bs.len
 have lt:=hG.ts.len
 refine ⟨_,hA 2 _ rfl,eF (fun h1=>⟨by unfold pF; rw [if_pos h1],hk1⟩) fun h1=>?_⟩
 refine ⟨_,hA 2 _ rfl,eF (fun h2=>⟨by unfold pF; rw [if_neg h1,if_pos h2],hk1⟩) fun h2=>?_⟩
 refine ⟨_,_,_,hA 3 _ rfl,_,hA 2 _ rfl,iJ (fun h3=>⟨by unfold pF; rw [if_neg h1,if_neg h2,if_pos (by omega)],hk1⟩) fun h3=>?_⟩
 refine ⟨_,_,_,hA 1 _ rfl,eF (fun h4=>⟨by unfold pF; rw [if_neg h1,if_neg h2,if_neg (by omega),if_pos (by omega)],hk1⟩) fun h4=>?_⟩
 refine ⟨_,_,_,hA 4 _ rfl,eF (fun h5=>⟨by unfold pF; rw [if_neg h1,if_neg h2,if_neg (by omega),if_neg (by omega),if_pos (by omega)],hk1⟩) fun h5=>?_⟩
 have heE:pF e=iW f.n e.outputs e.trees:=by unfold pF; rw [if_neg h1,if_neg h2,if_neg (by omega),if_neg (by omega),if_neg (by omega),lf]
 rw [heE]
 refine ⟨_,_,_,hA 4 _ rfl,t.n+1,?_⟩
 have key:∀ (k i:Nat) (u:World),i+k=t.n→Kept w1 u→iW f.n e.outputs e.trees=iW f.n e.outputs (e.trees.drop i)→bQ.l22 (fun v' u=>v' = .int .i64 (iW f.n e.outputs e.trees)∧Below w.heap.size w u) (k+1) (some (na w)) t.a t.n t.c t.n i u:=by
  intro k
  induction k with
  | zero =>
   intro i u hi hu he
   rw [bQ.u22]; unfold bQ.g22
   refine az (by omega) ?_
   rw [he,List.drop_eq_nil_of_le (by omega)]
   exact ⟨rfl,Kept.trans hk1 hu⟩
  | succ k ih =>
   intro i u hi hu he
   rw [bQ.u22]; unfold bQ.g22
   refine aI (by omega) ?_
   have hGu:=hG.kept (Kept.trans hk1 hu)
   refine hGu.ts.rdT (by omega) (by omega) fun x a' n' c' hx hnodes=>?_
   rw [Int.toNat_natCast] at hx
   obtain ⟨o1,o2⟩:=hG.good x (List.mem_of_getElem? hx)
   have hnl:=hnodes.len
   have hGt:Good F u a' n' c' x.nodes:=⟨hnodes,hGu.old,by omega,o2⟩
   rw [yK hx] at he
   have bad:∀ z:Int,lT x f.n e.outputs=z→z≠0→Value.int .i64 z = .int .i64 (iW f.n e.outputs e.trees):=fun z h1 h2=>by rw [he,if_pos (by rw [h1]; exact h2),h1]
   refine uY fun w2 hb hT hk2=>⟨_,hT.c0,_,_,_,hT.c1,?_⟩
   refine E.CallsD.mono (uK (o:=x.output) (hGt.kept hk2)) fun v u1 ⟨a2,n2,c2,hv,hnew⟩=>⟨_,_,_,_,hv,?_⟩
   have hk3:=hnew.kept
   have hk:=Kept.trans (Kept.trans (Kept.trans hk1 hu) hk2) hk3
   have hl2:n2=(dw x.nodes false).length:=by have:=hnew.len; simpa [nH] using this
   refine iJ (fun hs=>⟨bad _ (by rw [D5 (by rw [(BH hs).1]; exact hs),(BH hs).1]) hs,hk⟩) fun hs=>?_
   refine eF (fun hm=>⟨bad 3 (by rw [D5 (by rw [(vZ hs (by omega)).1]; decide),(vZ hs (by omega)).1]) (by decide),hk⟩) fun hm=>?_
   have h0:lvE x.nodes=0:=by unfold lvE; rw [if_pos hs,if_neg (by omega)]
   have hT1:=hT.kept hk3
   refine ⟨_,hT1.c0,eF (fun hneg=>⟨bad 6 (Ak h0 (.inl hneg)) (by decide),hk⟩) fun hneg=>?_⟩
   refine ⟨_,hT1.c0,bI ⟨_,(hA.kept (Kept.trans (Kept.trans hu hk2) hk3)) 2 _ rfl,eF (fun hge=>⟨bad 6 (Ak h0 (.inr hge)) (by decide),hk⟩) fun hge=>?_⟩⟩
   refine ⟨_,_,_,hT1.c1,n'+1,?_⟩
   have hTr:=dY hs
   have inner:∀ (k2 j:Nat) (v:World),j+k2=n'→Kept u v→pM x.nodes f.n=(x.nodes.drop j).all (sF f.n)→bQ.l59 (fun v' u=>v' = .int .i64 (iW f.n e.outputs e.trees)∧Below w.heap.size w u) (bQ.l22 (fun v' u=>v' = .int .i64 (iW f.n e.outputs e.trees)∧Below w.heap.size w u) (k+1)) (k2+1) (some (na w)) t.a t.n t.c t.n i a' n' c' n' j v:=by
    intro k2
    induction k2 with
    | zero =>
     intro j v hj hv hf
     unfold bQ.l59 bQ.g59
     refine az (by omega) ?_
     rw [List.drop_eq_nil_of_le (by omega)] at hf
     refine aA (by omega) (ih (i+1) v (by omega) (Kept.trans hu hv) ?_)
     have e0:lT x f.n e.outputs=0:=yT h0 (by omega) hf
     rw [he,if_neg (by omega)]
    | succ k2 ih2 =>
     intro j v hj hv hf
     unfold bQ.l59 bQ.g59
     refine aI (by omega) ?_
     refine (hnodes.kept hv).rdN (by omega) (by omega) fun y a5 n5 c5 hy hcs=>?_
     rw [Int.toNat_natCast] at hy
     refine oD fun v1 _ h8 hk5=>⟨_,h8.c0,?_⟩
     have hkk:=Kept.trans hv hk5
     refine iJ (fun hne=>?_) fun hee=>aA (by omega) (ih2 (j+1) v1 (by omega) hkk (JH hf hy ?_))
     ·have hin:=(wW hTr hy).1 hne
      refine ⟨_,h8.c2,bI ⟨_,_,_,(hA.kept (Kept.trans hu hkk)) 1 _ rfl,eF (fun hge2=>⟨?_,Kept.trans (Kept.trans hk1 hu) hkk⟩) fun hge2=>aA (by omega) (ih2 (j+1) v1 (by omega) hkk (JH hf hy ?_))⟩⟩
      ·have hff:=JS hf hy (by unfold sF; rw [hin]; simp; omega)
       exact bad 72 (Jk h0 (by omega) hff) (by decide)
      ·unfold sF; rw [hin]; simp; omega
     ·have:¬ (y.inner=true):=fun hin=>(wW hTr hy).2 hin hee
      unfold sF; simp [this]
   exact inner n' 0 u1 (by omega) (Kept.trans hk2 hk3) rfl
 exact key t.n 0 w1 (by omega) (Kept.refl w1) rfl
end
end Go.Mir
set_option maxRecDepth 100000
namespace Go.Mir
open Go Go.E Go.RowKit Go.Tr Go.Ss Go.ChangeShapes
section
variable {w u w1:World} {a a1:OA} {n c n1 c1:Nat} {F F' S:Nat→Prop} {p q:Addr} {e:ED} {f b t:SH} {nodes:List ND}
theorem yD (hG:iH F w e f b t):Pure Go.Proofs.Tryz.prog 26 #[vE e f b t] w (.int .i64 (pF e)):=by
 refine aY.calls (R:=fun v' u=>v'=_∧Below w.heap.size w u) ?_
 unfold aY aY.g0
 refine vG (cs:=(enE e f b t).toArray) fun w1 hA hk1=>?_
 have lf:=hG.fs.len
 have lb:=hG.bs.len
 have lt:=hG.ts.len
 refine ⟨_,hA 2 _ rfl,eF (fun h1=>⟨by unfold pF; rw [if_pos h1],hk1⟩) fun h1=>?_⟩
 refine ⟨_,hA 2 _ rfl,eF (fun h2=>⟨by unfold pF; rw [if_neg h1,if_pos h2],hk1⟩) fun h2=>?_⟩
 refine ⟨_,_,_,hA 3 _ rfl,_,hA 2 _ rfl,iJ (fun h3=>⟨by unfold pF; rw [if_neg h1,if_neg h2,if_pos (by omega)],hk1⟩) fun h3=>?_⟩
 refine ⟨_,_,_,hA 1 _ rfl,eF (fun h4=>⟨by unfold pF; rw [if_neg h1,if_neg h2,if_neg (by omega),if_pos (by omega)],hk1⟩) fun h4=>?_⟩
 refine ⟨_,_,_,hA 4 _ rfl,eF (fun h5=>⟨by unfold pF; rw [if_neg h1,if_neg h2,if_neg (by omega),if_neg (by omega),if_pos (by omega)],hk1⟩) fun h5=>?_⟩
 have heE:pF e=iW f.n e.outputs e.trees:=by unfold pF; rw [if_neg h1,if_neg h2,if_neg (by omega),if_neg (by omega),if_neg (by omega),lf]
 rw [heE]
 refine ⟨_,_,_,hA 4 _ rfl,t.n+1,?_⟩
 have key:∀ (k i:Nat) (u:World),i+k=t.n→Kept w1 u→iW f.n e.outputs e.trees=iW f.n e.outputs (e.trees.drop i)→aY.l22 (fun v' u=>v' = .int .i64 (iW f.n e.outputs e.trees)∧Below w.heap.size w u) (k+1) (some (na w)) t.a t.n t.c t.n i u:=by
  intro k
  induction k with
  | zero =>
   intro i u hi hu he
   rw [aY.u22]; unfold aY.g22
   refine az (by omega) ?_
   rw [he,List.drop_eq_nil_of_le (by omega)]
   exact ⟨rfl,Kept.trans hk1 hu⟩
  | succ k ih =>
   intro i u hi hu he
   rw [aY.u22]; unfold aY.g22
   refine aI (by omega) ?_
   have hGu:=hG.kept (Kept.trans hk1 hu)
   refine hGu.ts.rdT (by omega) (by omega) fun x a' n' c' hx hnodes=>?_
   rw [Int.toNat_natCast] at hx
   obtain ⟨o1,o2⟩:=hG.good x (List.mem_of_getElem? hx)
   have hnl:=hnodes.len
   have hGt:Good F u a' n' c' x.nodes:=⟨hnodes,hGu.old,by omega,o2⟩
   rw [yK hx] at he
   have bad:∀ z:Int,lT x f.n e.outputs=z→z≠0→Value.int .i64 z = .int .i64 (iW f.n e.outputs e.trees):=fun z h1 h2=>by rw [he,if_pos (by rw [h1]; exact h2),h1]
   refine uY fun w2 hb hT hk2=>⟨_,hT.c0,_,_,_,hT.c1,?_⟩
   refine E.CallsD.mono (yx (o:=x.output) (hGt.kept hk2)) fun v u1 ⟨hv,hk3⟩=>⟨_,_,hv,?_⟩
   have hk:=Kept.trans (Kept.trans (Kept.trans hk1 hu) hk2) hk3
   refine iJ (fun hs=>⟨bad _ (D5 hs) hs,hk⟩) fun h0=>?_
   have hs:=(jW h0).1
   have hT1:=hT.kept hk3
   refine ⟨_,hT1.c0,eF (fun hneg=>⟨bad 6 (Ak h0 (.inl hneg)) (by decide),hk⟩) fun hneg=>?_⟩
   refine ⟨_,hT1.c0,bI ⟨_,(hA.kept (Kept.trans (Kept.trans hu hk2) hk3)) 2 _ rfl,eF (fun hge=>⟨bad 6 (Ak h0 (.inr hge)) (by decide),hk⟩) fun hge=>?_⟩⟩
   have hTr:=dY hs
   refine ⟨_,hT1.c0,_,_,_,hT1.c1,bI ⟨_,_,_,(hA.kept (Kept.trans (Kept.trans hu hk2) hk3)) 1 _ rfl,?_⟩⟩
   refine E.CallsD.mono (Ii (o:=x.output) (d:=f.n) (hGt.kept (Kept.trans hk2 hk3)) fun i y hy=>wW hTr hy) fun v u2 ⟨hv,hk4⟩=>⟨_,hv,?_⟩
   refine (aH _ _ _).2 ⟨fun hf=>⟨bad 72 (Jk h0 (by omega) (by simpa using hf)) (by decide),Kept.trans hk hk4⟩,fun hf=>aA (by omega) (ih (i+1) u2 (by omega) (Kept.trans (Kept.trans (Kept.trans hu hk2) hk3) hk4) ?_)⟩
   rw [he,if_neg (by rw [yT h0 (by omega) (by simpa using hf)]; simp)]
 exact key t.n 0 w1 (by omega) (Kept.refl w1) rfl
def iF (n b:Int):Nat→Int→List (Int×Int)
 | 0,_=>[]
 | k+1,at_=>if at_<n then (at_,if n<at_+b then n else at_+b)::iF n b k (at_+b) else []
def fB (n b:Int):Int:=if n<0 then 2 else if n>65536 then 2 else if b<1 then 2 else if b>65536 then 2 else 0
def gz (n b:Int):List (Int×Int):=if fB n b=0 then iF n b (n.toNat+1) 0 else []
abbrev nz:Nat:=61
def pI (w u:World) (a:OA) (n c:Nat) (xs:List (Int×Int)):Prop:=∃ g,aO 2 enR nz u a n c xs g∧(g=0∨w.heap.size<g)∧Kept w u
theorem pI.ls {xs:List (Int×Int)} (h:pI w u a n c xs):Ls tR (fun b=>w.heap.size≤b) u a n c xs:=by
 obtain ⟨g,h1,h2,h3⟩:=h
 have:=aO.lsK (T:=tR) (f:=id) (en:=enR) (k:=2) (F:=fun b=>w.heap.size≤b) (fun _=>rfl) (by omega) rfl h1 (fun b hb=>by omega) (fun x _=>rfl)
 simpa using this
theorem Vs:fE Go.Proofs.Tryz.prog 27 nz 2 16:=sliceT (by kernel_rfl)
theorem zW (x:Int×Int):∀ v∈enR x,v.oneCell'=true:=by
 intro v hv
 simp only [enR,List.mem_cons,List.not_mem_nil,or_false] at hv
 rcases hv with h | h <;> subst h <;> rfl
theorem xg {n b:Int} (h:fB n b=0):0≤n∧n≤65536∧1≤b∧b≤65536:=by
 unfold fB at h
 repeat (split at h; · cases h)
 omega
theorem QR (x0 x1:Int):E.CallsD Go.Proofs.Tryz.prog 29 #[.int .i64 x0,.int .i64 x1] w fun v u=>∃ a n c,v = .tuple #[.slice a n c,.int .i64 (fB x0 x1)]∧pI w u a n c (gz x0 x1):=by
 refine dD.calls (R:=fun v u=>∃ a n c,v = .tuple #[.slice a n c,.int .i64 (fB x0 x1)]∧pI w u a n c (gz x0 x1)) ?_
 unfold dD dD.g0
 have bad:fB x0 x1=2→∃ a n c,Value.tuple #[.slice none 0 0,.int .i64 2] = .tuple #[.slice a n c,.int .i64 (fB x0 x1)]∧pI w w a n c (gz x0 x1):=fun h=>by
  rw [h]
  refine ⟨none,0,0,rfl,0,?_,.inl rfl,Kept.refl w⟩
  unfold gz
  rw [if_neg (by omega)]
  exact aO.nil _ _ _ _
 refine eF (fun h1=>bad (by unfold fB; rw [if_pos h1])) fun h1=>eF (fun h2=>bad (by unfold fB; rw [if_neg h1,if_pos h2])) fun h2=>eF (fun h3=>bad (by unfold fB; rw [if_neg h1,if_neg h2,if_pos h3])) fun h3=>eF (fun h4=>bad (by unfold fB; rw [if_neg h1,if_neg h2,if_neg h3,if_pos h4])) fun h4=>?_
 have h0:fB x0 x1=0:=by unfold fB; rw [if_neg h1,if_neg h2,if_neg h3,if_neg h4]
 rw [h0]
 have hP:gz x0 x1=iF x0 x1 (x0.toNat+1) 0:=by unfold gz; rw [if_pos h0]
 rw [hP]
 refine ⟨x0.toNat+1,?_⟩
 have key:∀ (k:Nat) (at_:Int) (u:World) (a:OA) (n c g:Nat) (xs:List (Int×Int)),0≤at_→x0 - at_≤(k:Int)→(n:Int)≤at_→at_≤131072→aO 2 enR nz u a n c xs g→(g=0∨w.heap.size<g)→Kept w u→iF x0 x1 (x0.toNat+1) 0=xs++iF x0 x1 (k+1) at_ →
   dD.l16 (fun v u=>∃ a n c,v = .tuple #[.slice a n c,.int .i64 0]∧pI w u a n c (iF x0 x1 (x0.toNat+1) 0)) (k+1) x0 x1 a n c at_ u:=by
  intro k
  induction k with
  | zero =>
   intro at_ u a n c g xs h0 hk hn hm hxs hg hkw he
   rw [dD.u16]; unfold dD.g16
   have hge:¬ at_<x0:=by omega
   refine az hge ⟨_,_,_,rfl,g,?_,hg,hkw⟩
   rw [he,iF,if_neg hge,List.append_nil]
   exact hxs
  | succ k ih =>
   intro at_ u a n c g xs h0 hk hn hm hxs hg hkw he
   rw [dD.u16]; unfold dD.g16
   refine eF (fun hlt=>?_) fun hge=>?_
   ·refine bM (by omega) (by omega) (nC rfl ?_)
    refine aO.oz (P:=Go.Proofs.Tryz.prog) (en:=enR) (ys:=[(at_,if x0<at_+x1 then x0 else at_+x1)]) (m:=1) Vs (fun _=>rfl) (by omega) hxs zW rfl rfl (by omega) (by simp only [maxLen]; omega) (by omega) fun a' c' g' u2 hx2 hg' _ ho=>⟨_,_,_,rfl,bM (by omega) (by omega) ?_⟩
    have hsz:=hkw.size
    refine ih (at_+x1) u2 a' (n+1) c' g' _ (by omega) (by omega) (by omega) (by omega) hx2 (by omega) ?_ ?_
    ·exact ((Kept.mod (S:=fun k=>w.heap.size≤k) hkw).trans ho (U:=fun k=>w.heap.size≤k) (fun _ _ h=>h) (fun k _ h=>by have h':k+1=g:=h; show w.heap.size≤k; omega)).kept fun k h1 h2=>by have h2':w.heap.size≤k:=h2; omega
    ·rw [he,iF,if_pos hlt]; simp
   ·refine ⟨_,_,_,rfl,g,?_,hg,hkw⟩
    rw [he,iF,if_neg hge,List.append_nil]
    exact hxs
 exact key x0.toNat 0 w none 0 0 0 [] (by omega) (by omega) (by omega) (by omega) (aO.nil _ _ _ _) (.inl rfl) (Kept.refl w) (by simp)
end
end Go.Mir
set_option maxRecDepth 100000
namespace Go.Mir
open Go Go.E Go.RowKit Go.Tr Go.Ss Go.ChangeShapes
noncomputable def gp (t:TD):List Int:=(dw t.nodes false).map fun i=>((t.nodes[i]?).map ND.value).getD 0
noncomputable def eU (ts:List TD) (first:Int):lD:=⟨first,ts.map fun t=>((dw t.nodes false).length:Int),ts.map gp,ts.map TD.output,jr ts⟩
abbrev tB':Nat:=66
abbrev tV':Nat:=23
abbrev t64:Nat:=2
abbrev VD:=List Int×SH
abbrev PM (x:VD):List Value:=[x.2.v]
def VOK (B:Nat) (w:World) (x:VD):Prop:=∃ g,Arr eI t64 w x.2.a x.2.n x.2.c x.1 g∧(g=0∨B<g)
structure BK (B:Nat) (w:World) (pb:Nat) (first:Int) (ls:List Int) (vd:List VD) (os:List Int) (s1 s2 s3:SH) (g1 gv g3:Nat):Prop where
 box:Blk w pb #[.int .i64 first,s1.v,s2.v,s3.v,.slice none 0 0] tB'
 l:Arr eI tI' w s1.a s1.n s1.c ls g1
 v:aO 1 PM tV' w s2.a s2.n s2.c vd gv
 vo:∀ x∈vd,VOK B w x
 o:Arr eI tI' w s3.a s3.n s3.c os g3
 pB:B≤pb
 lB:g1=0∨B<g1
 vB:gv=0∨B<gv
 oB:g3=0∨B<g3
 ap:g1=0∨g1≠g3
section
variable {w u w1:World} {a a1:OA} {n c n1 c1:Nat} {F F' S:Nat→Prop} {p q:Addr} {B pb:Nat} {first:Int} {ls os:List Int} {vd:List VD} {s1 s2 s3:SH} {g1 gv g3:Nat}
theorem VOK.mod {x:VD} (h:VOK B w x) (hm:Mod S w u) (hI:∀ k cur,Blk w k cur t64→¬ S k):VOK B u x:=by
 obtain ⟨g,h1,h2⟩:=h
 exact ⟨g,h1.mod hm fun k hk=>by obtain ⟨cur,hb⟩:=Row.blk h1 hk; exact hI k cur hb,h2⟩
theorem BK.kept (h:BK B w pb first ls vd os s1 s2 s3 g1 gv g3) (hk:Kept w u):BK B u pb first ls vd os s1 s2 s3 g1 gv g3 :=
 ⟨h.box.keep hk,h.l.kept hk,h.v.kept hk,fun x hx=>(h.vo x hx).mod (S:=fun _=>False) (Kept.mod hk) (fun _ _ _ h=>h),h.o.kept hk,h.pB,h.lB,h.vB,h.oB,h.ap⟩
theorem NT (x:VD):∀ v∈PM x,v.oneCell'=true:=by
 intro v hv
 simp only [PM,List.mem_cons,List.not_mem_nil,or_false] at hv
 subst hv
 rfl
theorem VB:fE Go.Proofs.Tryz.prog 23 t64 1 8:=sliceT (by kernel_rfl)
theorem X4:fE Go.Proofs.Tryz.prog 63 tV' 1 24:=sliceT (by kernel_rfl)
theorem gq {e e' g k:Nat} {size:Nat} {cs:List Value} {cur:Array Value} (hr:Row w e size a n c cs g) (hb:Blk w k cur e') (hne:e≠e'):¬ (k+1=g):=fun hk=>by
 obtain ⟨cur',hb'⟩:=Row.blk hr hk
 exact hne (hb'.ne hb)
theorem sZ {e e' g g':Nat} {size size' n' c':Nat} {a':OA} {cs cs':List Value} (hr:Row w e size a n c cs g) (hr':Row w e' size' a' n' c' cs' g') (hne:e≠e'):∀ k,k+1=g'→¬ (k+1=g):=fun k hk=>by
 obtain ⟨cur',hb'⟩:=Row.blk hr' hk
 exact gq hr hb' hne
theorem fA {e g:Nat} {size:Nat} {cs:List Value} {cur:Array Value} {e':Nat} (hb:Blk w pb cur e') (hr:Row w e size a n c cs g) (hne:e≠e'):∀ k,k+1=g→¬ (k+1=pb+1):=fun k hk hkp=>by
 obtain ⟨cur',hb'⟩:=Row.blk hr hk
 obtain rfl:k=pb:=by omega
 exact hne (hb'.ne hb)
theorem BK.leaf (h:BK B w pb first ls vd os s1 s2 s3 g1 gv g3) (hB:B≤w.heap.size) (hn:ls.length≤65536) {x:Int} {K:World→Prop}
  (hk:∀ u s1' g1',BK B u pb first (ls++[x]) vd os s1' s2 s3 g1' gv g3→From B w u→(∀ k cur e,Blk w k cur e→e≠tI'→k≠pb→Blk u k cur e)→K u) :
  cL w ((⟨pb,0,none⟩:Addr).add 1) fun a n c=>nw (w.alloc (.cells #[.int .i64 x] 3)) fun w1=>dm Go.Proofs.Tryz.prog (Builtin.append_ #[53,53] 53 #[.slice a n c,.slice (some (na w)) 1 1]) w1 fun v u=>∃ a2 n2 c2,v = .slice a2 n2 c2∧(st u (((⟨pb,0,none⟩:Addr).add 1).add 0) (.slice a2 n2 c2) K):=by
 refine ⟨_,_,_,by rw [addr_add,Nat.zero_add,h.box.cell]; rfl,?_⟩
 have hl:=h.l.len
 refine Arr.oz (P:=Go.Proofs.Tryz.prog) (ys:=[x]) (m:=1) VR h.l (fun _=>rfl) rfl rfl (by omega) (by simp only [maxLen]; omega) (by omega) fun a' c' g' u hl' hg' _ ho=>⟨_,_,_,rfl,?_⟩
 have hbu:=h.box.mod ho (fun hk=>gq h.l h.box (by decide) hk)
 have hset:=hbu.set 1 (.slice a' (s1.n+1) c')
 have hon:=Only.set u pb 1 (.slice a' (s1.n+1) c')
 rw [addr_add,addr_add,Nat.zero_add,Nat.add_zero]
 refine ⟨hbu.ok (by simp),bU (hk _ ⟨a',s1.n+1,c'⟩ g' ?_ ?_ ?_)⟩
 ·have hv:=h.v.mod ho (sZ h.l h.v (by decide))
  have ho3:=h.o.mod ho (fun k hk hS=>by have hS':k+1=g1:=hS; have:=h.ap; have:=Row.le h.o; omega)
  have hgl:=Row.le h.o
  have hgw:=Row.le h.l
  refine ⟨hset,hl'.mod hon (fA hbu hl' (by decide)),hv.mod hon (fA hbu hv (by decide)),fun y hy=>?_,ho3.mod hon (fA hbu ho3 (by decide)),h.pB,by have:=h.lB; omega,h.vB,h.oB,by have:=h.ap; omega⟩
  refine ((h.vo y hy).mod ho fun k cur hb hk=>gq h.l hb (by decide) hk).mod hon fun k cur hb hk=>?_
  have hk':k+1=pb+1:=hk
  obtain rfl:k=pb:=by omega
  exact absurd (hb.ne hbu) (by decide)
 ·exact Mod.trans (U:=fun k=>B≤k) ho hon (fun k _ hk=>by have hk':k+1=g1:=hk; have:=h.lB; show B≤k; omega) (fun k _ hk=>by have hk':k+1=pb+1:=hk; have:=h.pB; show B≤k; omega)
 ·intro k cur e hb h1 h2
  refine (hb.mod ho fun hk=>gq h.l hb (Ne.symm h1) hk).mod hon fun hk=>?_
  have hk':k+1=pb+1:=hk
  exact h2 (by omega)
theorem BK.out (h:BK B w pb first ls vd os s1 s2 s3 g1 gv g3) (hB:B≤w.heap.size) (hn:os.length≤65536) {x:Int} {K:World→Prop}
  (hk:∀ u s3' g3',BK B u pb first ls vd (os++[x]) s1 s2 s3' g1 gv g3'→From B w u→(∀ k cur e,Blk w k cur e→e≠tI'→k≠pb→Blk u k cur e)→K u) :
  nw (w.alloc (.cells #[.int .i64 x] 3)) fun w1=>dm Go.Proofs.Tryz.prog (Builtin.append_ #[53,53] 53 #[.slice s3.a s3.n s3.c,.slice (some (na w)) 1 1]) w1 fun v u=>∃ a2 n2 c2,v = .slice a2 n2 c2∧(st u (((⟨pb,0,none⟩:Addr).add 3).add 0) (.slice a2 n2 c2) K):=by
 have hl:=h.o.len
 refine Arr.oz (P:=Go.Proofs.Tryz.prog) (ys:=[x]) (m:=1) VR h.o (fun _=>rfl) rfl rfl (by omega) (by simp only [maxLen]; omega) (by omega) fun a' c' g' u hl' hg' _ ho=>⟨_,_,_,rfl,?_⟩
 have hbu:=h.box.mod ho (fun hk=>gq h.o h.box (by decide) hk)
 have hset:=hbu.set 3 (.slice a' (s3.n+1) c')
 have hon:=Only.set u pb 3 (.slice a' (s3.n+1) c')
 rw [addr_add,addr_add,Nat.zero_add,Nat.add_zero]
 refine ⟨hbu.ok (by simp),bU (hk _ ⟨a',s3.n+1,c'⟩ g' ?_ ?_ ?_)⟩
 ·have hv:=h.v.mod ho (sZ h.o h.v (by decide))
  have ho3:=h.l.mod ho (fun k hk hS=>by have hS':k+1=g3:=hS; have:=h.ap; omega)
  have hgl:=Row.le h.o
  have hgw:=Row.le h.l
  refine ⟨hset,ho3.mod hon (fA hbu ho3 (by decide)),hv.mod hon (fA hbu hv (by decide)),fun y hy=>?_,hl'.mod hon (fA hbu hl' (by decide)),h.pB,h.lB,h.vB,by have:=h.oB; omega,by have:=h.ap; omega⟩
  refine ((h.vo y hy).mod ho fun k cur hb hk=>gq h.o hb (by decide) hk).mod hon fun k cur hb hk=>?_
  have hk':k+1=pb+1:=hk
  obtain rfl:k=pb:=by omega
  exact absurd (hb.ne hbu) (by decide)
 ·exact Mod.trans (U:=fun k=>B≤k) ho hon (fun k _ hk=>by have hk':k+1=g3:=hk; have:=h.oB; show B≤k; omega) (fun k _ hk=>by have hk':k+1=pb+1:=hk; have:=h.pB; show B≤k; omega)
 ·intro k cur e hb h1 h2
  refine (hb.mod ho fun hk=>gq h.o hb (Ne.symm h1) hk).mod hon fun hk=>?_
  have hk':k+1=pb+1:=hk
  exact h2 (by omega)
theorem BK.val (h:BK B w pb first ls vd os s1 s2 s3 g1 gv g3) (hB:B≤w.heap.size) (hn:vd.length≤65536) {x:VD} (hx:VOK B w x) {K:World→Prop}
  (hk:∀ u s2' gv',BK B u pb first ls (vd++[x]) os s1 s2' s3 g1 gv' g3→From B w u→(∀ k cur e,Blk w k cur e→e≠tV'→k≠pb→Blk u k cur e)→K u) :
  cL w ((⟨pb,0,none⟩:Addr).add 2) fun a n c=>nw (w.alloc (.cells #[.slice x.2.a x.2.n x.2.c] 23)) fun w1=>dm Go.Proofs.Tryz.prog (Builtin.append_ #[63,63] 63 #[.slice a n c,.slice (some (na w)) 1 1]) w1 fun v u=>∃ a2 n2 c2,v = .slice a2 n2 c2∧(st u (((⟨pb,0,none⟩:Addr).add 2).add 0) (.slice a2 n2 c2) K):=by
 refine ⟨_,_,_,by rw [addr_add,Nat.zero_add,h.box.cell]; rfl,?_⟩
 have hl:=aO.len (k:=1) (en:=PM) (fun _=>rfl) (by omega) h.v
 refine aO.oz (P:=Go.Proofs.Tryz.prog) (en:=PM) (ys:=[x]) (m:=1) X4 (fun _=>rfl) (by omega) h.v NT rfl rfl (by omega) (by simp only [maxLen]; omega) (by omega) fun a' c' g' u hl' hg' _ ho=>⟨_,_,_,rfl,?_⟩
 have hbu:=h.box.mod ho (fun hk=>gq h.v h.box (by decide) hk)
 have hset:=hbu.set 2 (.slice a' (s2.n+1) c')
 have hon:=Only.set u pb 2 (.slice a' (s2.n+1) c')
 rw [addr_add,addr_add,Nat.zero_add,Nat.add_zero]
 refine ⟨hbu.ok (by simp),bU (hk _ ⟨a',s2.n+1,c'⟩ g' ?_ ?_ ?_)⟩
 ·have h1:=h.l.mod ho (sZ h.v h.l (by decide))
  have h3:=h.o.mod ho (sZ h.v h.o (by decide))
  refine ⟨hset,h1.mod hon (fA hbu h1 (by decide)),hl'.mod hon (fA hbu hl' (by decide)),fun y hy=>?_,h3.mod hon (fA hbu h3 (by decide)),h.pB,h.lB,by have:=h.vB; omega,h.oB,h.ap⟩
  have hy':VOK B w y:=by
   rcases List.mem_append.1 hy with hy | hy
   ·exact h.vo y hy
   ·obtain rfl:y=x:=by simpa using hy
    exact hx
  refine (hy'.mod ho fun k cur hb hk=>gq h.v hb (by decide) hk).mod hon fun k cur hb hk=>?_
  have hk':k+1=pb+1:=hk
  obtain rfl:k=pb:=by omega
  exact absurd (hb.ne hbu) (by decide)
 ·exact Mod.trans (U:=fun k=>B≤k) ho hon (fun k _ hk=>by have hk':k+1=gv:=hk; have:=h.vB; show B≤k; omega) (fun k _ hk=>by have hk':k+1=pb+1:=hk; have:=h.pB; show B≤k; omega)
 ·intro k cur e hb h1 h2
  refine (hb.mod ho fun hk=>gq h.v hb (Ne.symm h1) hk).mod hon fun hk=>?_
  have hk':k+1=pb+1:=hk
  exact h2 (by omega)
end
end Go.Mir
set_option maxRecDepth 100000
namespace Go.Mir
open Go Go.E Go.RowKit Go.Tr Go.Ss Go.ChangeShapes
section
variable {w u w1:World} {a a1:OA} {n c n1 c1:Nat} {F F' S:Nat→Prop} {p q:Addr} {B pb:Nat} {first:Int} {ls os:List Int} {vd:List VD} {s1 s2 s3:SH} {g1 gv g3:Nat} {ts:List TD} {d:Int}
theorem Tm {g:Nat} (h:aO 1 PM tV' w a n c vd g) (hv:∀ x∈vd,VOK B w x) (hg:g=0∨B<g) (hF:∀ b,B≤b→b<w.heap.size→F b):Ls (vP .i64).sl F w a n c (vd.map (·.1)):=by
 refine aO.lsK (T:=(vP .i64).sl) (f:=fun x:VD=>x.1) (en:=PM) (k:=1) (fun _=>rfl) (by omega) rfl h (fun b hb=>hF b (by omega) (by have:=Row.le h; omega)) fun x hx=>?_
 obtain ⟨g',h1,h2⟩:=hv x hx
 exact ⟨_,_,_,rfl,(Arr.ls (h1:=fun _=>rfl) h1).mono fun b hb=>hF b (by omega) (by have:=Row.le h1; omega)⟩
theorem Ff {nodes:List ND} {b:Bool} (h:(fM iG nodes).1=0) {q:Nat} (hq:q∈dw nodes b):q<nodes.length:=by
 unfold dw at hq
 rw [if_pos h] at hq
 unfold pick at hq
 have h1:=(List.mem_filter.1 hq).1
 have hT:=dY h
 exact (hT.mem q).1 h1
structure ku (F:Nat→Prop) (w:World) (x:lD) (s1 s2 s3 s4:SH):Prop where
 l:LsI F w s1.a s1.n s1.c x.leaves
 v:Ls (vP .i64).sl F w s2.a s2.n s2.c x.values
 o:LsI F w s3.a s3.n s3.c x.outputs
 t:Ls tL F w s4.a s4.n s4.c x.lists
theorem ku.kept {x:lD} {s4:SH} (h:ku F w x s1 s2 s3 s4) (hk:Kept w u):ku F u x s1 s2 s3 s4:=⟨h.l.kept hk,h.v.kept hk,h.o.kept hk,h.t.kept hk⟩
theorem Vo (hG:ng F w a n c ts d):E.CallsD Go.Proofs.Tryz.prog 25 #[.slice a n c,.int .i64 first,.int .i64 d] w fun v u=>∃ s1 s2 s3 s4:SH,v=vB (eU ts first) s1 s2 s3 s4∧ku (fun b=>w.heap.size≤b∧b<u.heap.size) u (eU ts first) s1 s2 s3 s4∧Kept w u:=by
 refine dA.calls (R:=fun v u=>∃ s1 s2 s3 s4:SH,v=vB (eU ts first) s1 s2 s3 s4∧ku (fun b=>w.heap.size≤b∧b<u.heap.size) u (eU ts first) s1 s2 s3 s4∧Kept w u) ?_
 unfold dA dA.g0
 have hmx:=hG.max
 have hn:=hG.ls.len
 refine bU (bU ?_)
 have b6:Blk (w.alloc (.cells (oZ 0 none 0 0 none 0 0 none 0 0 none 0 0) 66)) w.heap.size #[.int .i64 0,.slice none 0 0,.slice none 0 0,.slice none 0 0,.slice none 0 0] tB':=Blk.new w _ _
 have k1:=Kept.new w (.cells (oZ 0 none 0 0 none 0 0 none 0 0 none 0 0) 66)
 have hz1:(w.alloc (.cells (oZ 0 none 0 0 none 0 0 none 0 0 none 0 0) 66)).heap.size=w.heap.size+1:=by simp
 generalize w.alloc (.cells (oZ 0 none 0 0 none 0 0 none 0 0 none 0 0) 66)=w1 at b6 k1 hz1
 have b7:Blk (w1.alloc (.cells (oZ 0 none 0 0 none 0 0 none 0 0 none 0 0) 66)) w1.heap.size #[.int .i64 0,.slice none 0 0,.slice none 0 0,.slice none 0 0,.slice none 0 0] tB':=Blk.new w1 _ _
 have k2:=Kept.new w1 (.cells (oZ 0 none 0 0 none 0 0 none 0 0 none 0 0) 66)
 generalize w1.alloc (.cells (oZ 0 none 0 0 none 0 0 none 0 0 none 0 0) 66)=w2 at b7 k2
 refine wrA (e:=tB') (vs:=[.int .i64 first,.slice none 0 0,.slice none 0 0,.slice none 0 0,.slice none 0 0]) b7 rfl fun w3 b7' ho3=>?_
 have b6':Blk w3 w.heap.size #[.int .i64 0,.slice none 0 0,.slice none 0 0,.slice none 0 0,.slice none 0 0] tB':=(b6.keep k2).mod ho3 fun hk=>by have hk':w.heap.size+1=w1.heap.size+1:=hk; omega
 have hf3:From w.heap.size w w3:=(Kept.mod (S:=fun k=>w.heap.size≤k) (Kept.trans k1 k2)).trans ho3 (fun _ _ h=>h) (fun k _ hk=>by have hk':k+1=w1.heap.size+1:=hk; show w.heap.size≤k; omega)
 have hB0:BK w.heap.size w3 w1.heap.size first [] [] [] ⟨none,0,0⟩ ⟨none,0,0⟩ ⟨none,0,0⟩ 0 0 0:=⟨b7',Arr.nil _ _ _,aO.nil _ _ _ _,(fun x hx=>by cases hx),Arr.nil _ _ _,by omega,.inl rfl,.inl rfl,.inl rfl,.inl rfl⟩
 refine ⟨n+1,?_⟩
 have key:∀ (k i:Nat) (v:World) (vd:List VD) (s1 s2 s3:SH) (g1 gv g3:Nat),i+k=n→BK w.heap.size v w1.heap.size first ((ts.take i).map fun t=>((dw t.nodes false).length:Int)) vd ((ts.take i).map TD.output) s1 s2 s3 g1 gv g3→vd.map (·.1)=(ts.take i).map gp →
   Blk v w.heap.size #[.int .i64 0,.slice none 0 0,.slice none 0 0,.slice none 0 0,.slice none 0 0] tB'→From w.heap.size w v →
   dA.l8 (fun v u=>∃ s1 s2 s3 s4:SH,v=vB (eU ts first) s1 s2 s3 s4∧ku (fun b=>w.heap.size≤b∧b<u.heap.size) u (eU ts first) s1 s2 s3 s4∧Kept w u) (k+1) a n c d (some (na w)) (some (na w1)) a n c n i v:=by
  intro k
  induction k with
  | zero =>
   intro i v vd s1 s2 s3 g1 gv g3 hi hbk hvd hb6 hf
   rw [dA.u8]; unfold dA.g8
   refine az (by omega) ?_
   obtain rfl:i=ts.length:=by omega
   rw [List.take_length] at hbk hvd
   refine E.CallsD.mono (FY (hG.kept (From.kept hf))) fun r u1 ⟨a',n',c',hr,hls,hku⟩=>⟨_,_,_,_,hr,?_⟩
   have hb:=(hbk.kept hku)
   have hset:=hb.box.set 4 (.slice a' n' c')
   have hon:=Only.set u1 w1.heap.size 4 (.slice a' n' c')
   have hlt:=hb.box.lt
   have e4:(((na w1:Addr).add 4).add 0)=⟨w1.heap.size,4,none⟩:=by rw [fQ,addr_add,Nat.add_zero]
   refine bI ?_
   rw [e4]
   refine ⟨hb.box.ok (by simp),bU ?_⟩
   have hb6u:=(hb6.keep hku).mod hon (fun hk=>by have hk':w.heap.size+1=w1.heap.size+1:=hk; omega)
   have hl1:=hb.l.mod hon (fA hb.box hb.l (by decide))
   have hv1:=hb.v.mod hon (fA hb.box hb.v (by decide))
   have ho1:=hb.o.mod hon (fA hb.box hb.o (by decide))
   have hvo1:∀ y∈vd,VOK w.heap.size (u1.setCell ⟨w1.heap.size,4,none⟩ (.slice a' n' c')) y:=fun y hy=>(hb.vo y hy).mod hon fun k cur hbk' hk=>by
    have hk':k+1=w1.heap.size+1:=hk
    obtain rfl:k=w1.heap.size:=by omega
    exact absurd (hbk'.ne hb.box) (by decide)
   have hls1:Ls tL (fun b=>v.heap.size≤b∧b<u1.heap.size) (u1.setCell ⟨w1.heap.size,4,none⟩ (.slice a' n' c')) a' n' c' (jr ts):=hls.mod hon fun b hb' hk=>by
    have hk':b+1=w1.heap.size+1:=hk
    have:=hbk.box.lt
    have hb'':v.heap.size≤b:=hb'.1
    omega
   have hsv:w.heap.size≤v.heap.size:=hf.size
   have hfu:From w.heap.size w (u1.setCell ⟨w1.heap.size,4,none⟩ (.slice a' n' c')):=(hf.aF hku).trans hon (fun _ _ h=>h) (fun k _ hk=>by have hk':k+1=w1.heap.size+1:=hk; show w.heap.size≤k; omega)
   have hsz2:(u1.setCell ⟨w1.heap.size,4,none⟩ (.slice a' n' c')).heap.size=u1.heap.size:=fP _ _ _
   generalize u1.setCell ⟨w1.heap.size,4,none⟩ (.slice a' n' c')=u2 at hset hb6u hl1 hv1 ho1 hvo1 hls1 hfu hsz2 hon
   have hA:AtL u2 (na w1) [.int .i64 first,s1.v,s2.v,s3.v,.slice a' n' c']:=by simpa using AtL.blk (b:=w1) hset
   refine bI ⟨_,hA 0 _ rfl,_,_,_,hA 1 _ rfl,_,_,_,hA 2 _ rfl,_,_,_,hA 3 _ rfl,_,_,_,hA 4 _ rfl,bI ?_⟩
   refine wrA (e:=tB') (b:=w.heap.size) (vs:=[.int .i64 first,s1.v,s2.v,s3.v,.slice a' n' c']) hb6u rfl fun u3 hb3 ho3=>?_
   have hA3:AtL u3 (na w) [.int .i64 first,s1.v,s2.v,s3.v,.slice a' n' c']:=by simpa using AtL.blk (b:=w) hb3
   refine ⟨_,hA3 0 _ rfl,_,_,_,hA3 1 _ rfl,_,_,_,hA3 2 _ rfl,_,_,_,hA3 3 _ rfl,_,_,_,hA3 4 _ rfl,?_⟩
   refine ⟨s1,s2,s3,⟨a',n',c'⟩,rfl,⟨?_,?_,?_,?_⟩,From.kept (hfu.trans ho3 (fun _ _ h=>h) (fun k _ hk=>by have hk':k+1=w.heap.size+1:=hk; show w.heap.size≤k; omega))⟩
   ·have hx:=hl1.mod ho3 (fA hb6u hl1 (by decide))
    exact (Arr.ls (h1:=fun _=>rfl) hx).mono fun b hbb=>⟨by have:=hb.lB; omega,by have:=Row.le hx; omega⟩
   ·have h3:=hv1.mod ho3 (fA hb6u hv1 (by decide))
    have:=Tm (F:=fun b=>w.heap.size≤b∧b<u3.heap.size) h3 (fun y hy=>(hvo1 y hy).mod ho3 fun k cur hbk' hk=>by
     have hk':k+1=w.heap.size+1:=hk
     obtain rfl:k=w.heap.size:=by omega
     exact absurd (hbk'.ne hb6u) (by decide)) hb.vB (fun b h h2=>⟨h,h2⟩)
    rw [hvd] at this
    exact this
   ·have hx:=ho1.mod ho3 (fA hb6u ho1 (by decide))
    exact (Arr.ls (h1:=fun _=>rfl) hx).mono fun b hbb=>⟨by have:=hb.oB; omega,by have:=Row.le hx; omega⟩
   ·exact (hls1.mod ho3 fun b hb' hk=>by
     have hk':b+1=w.heap.size+1:=hk
     have:=hb6.lt
     have hb'':v.heap.size≤b:=hb'.1
     omega).mono fun b hb'=>⟨by have hb'':v.heap.size≤b:=hb'.1; omega,by have h2:=hb'.2; have h3:=hon.size; have h4:=ho3.size; have h5:u2.heap.size=u1.heap.size:=hsz2; omega⟩
  | succ k ih =>
   intro i v vd s1 s2 s3 g1 gv g3 hi hbk hvd hb6 hf
   rw [dA.u8]; unfold dA.g8
   refine aI (by omega) ?_
   have hGv:=hG.kept (From.kept hf)
   refine hGv.ls.rdT (by omega) (by omega) fun t a' n' c' ht hnodes=>?_
   rw [Int.toNat_natCast] at ht
   obtain ⟨o1,o2,o3,o4⟩:=hG.ok t (List.mem_of_getElem? ht)
   obtain ⟨hsh,hlv⟩:=jW o3
   have hnl:=hnodes.len
   have hGt:Good F v a' n' c' t.nodes:=⟨hnodes,hGv.old,by omega,o2⟩
   have hTr:=dY hsh
   refine uY fun v1 hbt hT hk1=>⟨_,hT.c0,_,_,_,hT.c1,?_⟩
   refine E.CallsD.mono (uK (o:=t.output) (hGt.kept hk1)) fun r u1 ⟨a2,n2,c2,hr,hnew⟩=>⟨_,_,_,_,hr,?_⟩
   have hkl:=hnew.kept
   have hn2:n2=(dw t.nodes false).length:=by have:=hnew.len; simpa [nH] using this
   have hk12:=Kept.trans hk1 hkl
   obtain ⟨gl,hal,_,_⟩:=hnew
   refine dJ (by omega) ?_
   have hmk0:=Blk.new u1 (madeCells #[.int .i64 0] (((n2:Int)).toNat*1)) t64
   have hkm:=Kept.new u1 (.cells (madeCells #[.int .i64 0] (((n2:Int)).toNat*1)) t64)
   have hrow0:Arr eI t64 (u1.alloc (.cells (madeCells #[.int .i64 0] (((n2:Int)).toNat*1)) t64)) (some (na u1)) 0 n2 [] (u1.heap.size+1):=by
    refine ⟨by simp,.inr ⟨u1.heap.size,_,rfl,rfl,hmk0,Nat.zero_le _,by simp only [maxLen]; omega,?_,by simp⟩⟩
    simp [madeCells]
   refine bU ?_
   rw [Int.toNat_natCast] at hrow0 hkm
   rw [Int.toNat_natCast]
   have hkmf:From u1.heap.size u1 (u1.alloc (.cells (madeCells #[.int .i64 0] (n2*1)) t64)):=Kept.mod hkm
   refine ⟨n2+1,?_⟩
   have inner:∀ (k2 j:Nat) (z:World) (ax:OA) (nx cx gx:Nat),j+k2=n2→From u1.heap.size u1 z→Arr eI t64 z ax nx cx ((gp t).take j) gx→u1.heap.size<gx →
     dA.l27 (fun v u=>∃ s1 s2 s3 s4:SH,v=vB (eU ts first) s1 s2 s3 s4∧ku (fun b=>w.heap.size≤b∧b<u.heap.size) u (eU ts first) s1 s2 s3 s4∧Kept w u) (dA.l8 (fun v u=>∃ s1 s2 s3 s4:SH,v=vB (eU ts first) s1 s2 s3 s4∧ku (fun b=>w.heap.size≤b∧b<u.heap.size) u (eU ts first) s1 s2 s3 s4∧Kept w u) (k+1)) (k2+1) a n c d (some (na w)) (some (na w1)) (some (na v)) a2 n2 c2 ax nx cx a n c n i a2 n2 c2 n2 j z:=by
    intro k2
    induction k2 with
    | zero =>
     intro j z ax nx cx gx hj hz hx hgx
     have hkz:=From.kept hz
     have hkk:=Kept.trans hk12 hkz
     unfold dA.l27 dA.g27
     refine az (by omega) ?_
     rw [List.take_of_length_le (by simp [gp]; omega)] at hx
     have hbz:=hbk.kept hkk
     have hsz:w.heap.size≤z.heap.size:=Nat.le_trans hf.size hkk.size
     have hsv:=hf.size
     have hlen1:((ts.take i).map fun t=>((dw t.nodes false).length:Int)).length≤65536:=by simp; omega
     have hlen3:((ts.take i).map TD.output).length≤65536:=by simp; omega
     have hlen2:vd.length≤65536:=by have:=congrArg List.length hvd; simp at this; omega
     have hb6z:=hb6.keep hkk
     have hpb:w1.heap.size<v.heap.size:=hbk.box.lt
     have hbtz:=hbt.keep (Kept.trans hkl hkz)
     have hvz:VOK w.heap.size z (gp t,⟨ax,nx,cx⟩):=⟨gx,hx,.inr (by have:=hk12.size; omega)⟩
     refine hbz.leaf hsz hlen1 (x:=(n2:Int)) fun z1 s1' g1' hb1 hf1 ht1=>?_
     have hb6z1:=ht1 _ _ _ hb6z (by decide) (by omega)
     have hbt1:=ht1 _ _ _ hbtz (by decide) (by omega)
     have hvz1:VOK w.heap.size z1 (gp t,⟨ax,nx,cx⟩):=by
      obtain ⟨g,h1,h2⟩:=hvz
      refine ⟨g,⟨h1.1,?_⟩,h2⟩
      rcases h1.2 with h0 | ⟨b,cur,e0,ha,hb,h3⟩
      ·exact .inl h0
      ·exact .inr ⟨b,cur,e0,ha,ht1 _ _ _ hb (by decide) (fun e=>by subst e; exact absurd (hb.ne hbz.box) (by decide)),h3⟩
     refine hb1.val (Nat.le_trans hsz hf1.size) hlen2 hvz1 fun z2 s2' gv' hb2 hf2 ht2=>?_
     have hb6z2:=ht2 _ _ _ hb6z1 (by decide) (by omega)
     have hbt2:=ht2 _ _ _ hbt1 (by decide) (by omega)
     refine ⟨_,_,_,by rw [fQ,hb2.box.cell]; rfl,?_⟩
     refine ⟨_,by rw [fQ,hbt2.cell]; rfl,?_⟩
     refine hb2.out (Nat.le_trans (Nat.le_trans hsz hf1.size) hf2.size) hlen3 (x:=t.output) fun z3 s3' g3' hb3 hf3' ht3=>?_
     have hb6z3:=ht3 _ _ _ hb6z2 (by decide) (by omega)
     refine aA (by omega) (ih (i+1) z3 (vd++[(gp t,⟨ax,nx,cx⟩)]) s1' s2' s3' g1' gv' g3' (by omega) ?_ ?_ hb6z3 ?_)
     ·rw [take_snoc ht,List.map_append,List.map_append,List.map_cons,List.map_cons,List.map_nil,List.map_nil,← hn2]
      exact hb3
     ·rw [take_snoc ht,List.map_append,List.map_append,hvd]; rfl
     ·exact (((hf.aF hkk).trans hf1 (fun _ _ h=>h) (fun _ _ h=>h)).trans hf2 (fun _ _ h=>h) (fun _ _ h=>h)).trans hf3' (fun _ _ h=>h) (fun _ _ h=>h)
    | succ k2 ih2 =>
     intro j z ax nx cx gx hj hz hx hgx
     have hkz:=From.kept hz
     unfold dA.l27 dA.g27
     refine aI (by omega) ?_
     have hjl:j<(dw t.nodes false).length:=by omega
     refine ((hal.kept hkz).sl).rdI (k := .i64) (by omega) (by omega) fun y hy=>?_
     rw [Int.toNat_natCast] at hy
     have hyq:y=(((dw t.nodes false)[j]'hjl:Nat):Int):=by
      have:(nH (dw t.nodes false))[j]?=some (((dw t.nodes false)[j]'hjl:Nat):Int):=by simp [nH,hjl]
      rw [this] at hy
      cases hy; rfl
     obtain ⟨q,hq⟩:∃ q,q=(dw t.nodes false)[j]'hjl:=⟨_,rfl⟩
     rw [← hq] at hyq
     subst hyq
     have hqlt:q<t.nodes.length:=Ff hsh (by rw [hq]; exact List.getElem_mem _)
     have hT1:=hT.kept (Kept.trans hkl hkz)
     refine bI ⟨_,_,_,hT1.c1,?_⟩
     refine (hnodes.kept (Kept.trans hk12 hkz)).rdF (by omega) (by omega) fun p x a5 n5 c5 hxq hcs h8=>⟨_,h8.c1,?_⟩
     rw [Int.toNat_natCast] at hxq
     have hxl:=hx.len
     have hll:(gp t).length=n2:=by simp [gp]; omega
     rw [List.length_take] at hxl
     refine Arr.push (P:=Go.Proofs.Tryz.prog) VB hx (x:=x.value) rfl rfl (by simp only [maxLen]; omega) (by omega) fun a7 c7 g7 z2 hx2 hg7 _ ho7=>⟨_,_,_,rfl,aA (by omega) (ih2 (j+1) z2 a7 (nx+1) c7 g7 (by omega) (hz.trans ho7 (fun _ _ h=>h) (fun k _ hk=>by have hk':k+1=gx:=hk; show u1.heap.size≤k; omega)) ?_ (by have:=hz.size; omega))⟩
     have:(gp t)[j]?=some x.value:=by
      unfold gp
      rw [List.getElem?_map,List.getElem?_eq_getElem hjl,← hq]
      simp [hxq]
     rw [take_snoc this]
     exact hx2
   exact inner n2 0 _ (some (na u1)) 0 n2 (u1.heap.size+1) (by omega) hkmf (by simpa using hrow0) (by omega)
 exact key n 0 w3 [] _ _ _ 0 0 0 (by omega) hB0 rfl b6' hf3
end
end Go.Mir
set_option maxRecDepth 100000
namespace Go.Mir
open Go Go.E Go.RowKit Go.Tr Go.Ss Go.ChangeShapes
def iL (n:Int):List (Int×Int)→Int→Bool
 | [],at_=>decide (at_=n)
 | r::rs,at_=>decide (r.1=at_)&&decide (r.1<r.2)&&decide (r.2≤n)&&iL n rs r.2
noncomputable def ofE (e:ED) (rs:List (Int×Int)):Int:=if pF e≠0 then pF e else if iL e.trees.length rs 0 then 0 else 6
noncomputable def Bq (e:ED) (rs:List (Int×Int)):fV:=⟨e.features.length,e.outputs,e.base,rs.map fun r=>eU ((e.trees.take r.2.toNat).drop r.1.toNat) r.1⟩
noncomputable def ofP (e:ED) (rs:List (Int×Int)):fV:=if ofE e rs=0 then Bq e rs else ⟨0,0,[],[]⟩
theorem wo {n:Int}:∀ {rs:List (Int×Int)} {at_:Int},0≤at_→iL n rs at_=true→∀ r∈rs,0≤r.1∧r.1<r.2∧r.2≤n
 | [],_,_,_,r,hr=>by cases hr
 | x::rs,at_,h0,h,r,hr=>by
  unfold iL at h
  simp only [Bool.and_eq_true,decide_eq_true_eq] at h
  rcases List.mem_cons.1 hr with rfl | hr
  ·omega
  ·exact wo (by omega) h.2 r hr
theorem qB {n:Int}:∀ {rs:List (Int×Int)} {at_:Int},iL n rs at_=true→(rs.length:Int)+at_≤n
 | [],at_,h=>by unfold iL at h; simp at h; simp; omega
 | x::rs,at_,h=>by
  unfold iL at h
  simp only [Bool.and_eq_true,decide_eq_true_eq] at h
  have:=qB h.2
  simp only [List.length_cons]
  omega
theorem GX {n:Int} {rs:List (Int×Int)} {i:Nat} {x:Int×Int} {at_:Int} (hx:rs[i]?=some x):iL n (rs.drop i) at_=(decide (x.1=at_)&&decide (x.1<x.2)&&decide (x.2≤n)&&iL n (rs.drop (i+1)) x.2):=by
 have hd:rs.drop i=x::rs.drop (i+1):=by
  obtain ⟨hlt,rfl⟩:=List.getElem?_eq_some_iff.1 hx
  exact List.drop_eq_getElem_cons hlt
 rw [hd]; rfl
abbrev lW:Nat:=31
abbrev Hr:Nat:=26
abbrev BD:=lD×(SH×SH×SH×SH)
abbrev IV (x:BD):List Value:=rG x.1 x.2.1 x.2.2.1 x.2.2.2.1 x.2.2.2.2
def BOK (B:Nat) (w:World) (gb:Nat) (x:BD):Prop:=∃ lo hi,B≤lo∧hi≤w.heap.size∧ku (fun b=>lo≤b∧b<hi) w x.1 x.2.1 x.2.2.1 x.2.2.2.1 x.2.2.2.2∧(gb≤lo∨hi<gb)
section
variable {w u w1:World} {a a1:OA} {n c n1 c1:Nat} {F F' S:Nat→Prop} {p q:Addr} {B pb:Nat} {e:ED} {f b t:SH} {rs:List (Int×Int)} {s1 s2 s3 s4:SH} {x:lD}
theorem ku.mod (h:ku F w x s1 s2 s3 s4) (hm:Mod S w u) (hn:∀ b,F b→¬ S b):ku F u x s1 s2 s3 s4:=⟨h.l.mod hm hn,h.v.mod hm hn,h.o.mod hm hn,h.t.mod hm hn⟩
theorem ku.mono (h:ku F w x s1 s2 s3 s4) (hF:∀ b,F b→F' b):ku F' w x s1 s2 s3 s4:=⟨h.l.mono hF,h.v.mono hF,h.o.mono hF,h.t.mono hF⟩
theorem WX:fE Go.Proofs.Tryz.prog 29 tB' 5 104:=sliceT (by kernel_rfl)
theorem Fz (x:BD):∀ v∈IV x,v.oneCell'=true:=by
 intro v hv
 simp only [IV,rG,List.mem_cons,List.not_mem_nil,or_false] at hv
 rcases hv with h | h | h | h | h <;> subst h <;> rfl
theorem TP {g:Nat} {l:List BD} (h:aO 5 IV tB' w a n c l g) (hl:∀ x∈l,BOK B w g x) (hg:g=0∨B<g) (hF:∀ b,B≤b→b<w.heap.size→F b):Ls tB F w a n c (l.map (·.1)):=by
 refine aO.lsK (T:=tB) (f:=fun x:BD=>x.1) (en:=IV) (k:=5) (fun _=>rfl) (by omega) rfl h (fun b hb=>hF b (by omega) (by have:=Row.le h; omega)) fun y hy=>?_
 obtain ⟨lo,hi,h1,h2,h3,_⟩:=hl y hy
 have h4:=h3.mono (F':=F) fun b hb=>hF b (by omega) (by omega)
 exact ⟨_,_,_,_,rfl,h4.l,h4.v,h4.o,h4.t⟩
def FOf (w:World) (base:List Int):Nat→Value→World→Prop:=fun i v u=>match i with
 | 7=>∃ a n c g,v = .slice a n c∧Arr eI t64 u a n c base g∧(g=0∨w.heap.size<g)
 | 9=>∃ b,v = .pointer (some ⟨b,0,none⟩)∧Blk u b #[.int .i64 0,.int .i64 0,.slice none 0 0,.slice none 0 0] lW∧w.heap.size≤b
 | _=>True
theorem FOf.keep {base:List Int} (i:Nat) (v:Value) (u u':World) (h:FOf w base i v u) (hk:Below u.heap.size u u'):FOf w base i v u':=by
 unfold FOf at h ⊢
 split at h
 ·obtain ⟨a,n,c,g,h1,h2,h3⟩:=h; exact ⟨a,n,c,g,h1,h2.kept hk,h3⟩
 ·obtain ⟨b,h1,h2,h3⟩:=h; exact ⟨b,h1,h2.keep hk,h3⟩
 ·trivial
def FBk (w:World) (X:lD):Nat→Value→World→Prop:=fun i v u=>match i with
 | 13=>∃ (s1 s2 s3 s4:SH) (lo hi:Nat),v=vB X s1 s2 s3 s4∧ku (fun b=>lo≤b∧b<hi) u X s1 s2 s3 s4∧w.heap.size≤lo∧hi≤u.heap.size
 | 14=>∃ (q:Addr) (s1 s2 s3 s4:SH) (lo hi:Nat),v = .slice (some q) 1 1∧AtL u q (rG X s1 s2 s3 s4)∧ku (fun b=>lo≤b∧b<hi) u X s1 s2 s3 s4∧w.heap.size≤lo∧hi≤u.heap.size
 | _=>True
theorem FBk.keep {X:lD} (i:Nat) (v:Value) (u u':World) (h:FBk w X i v u) (hk:Below u.heap.size u u'):FBk w X i v u':=by
 have hz:=hk.size
 unfold FBk at h ⊢
 split at h
 ·obtain ⟨s1,s2,s3,s4,lo,hi,h1,h2,h3,h4⟩:=h; exact ⟨s1,s2,s3,s4,lo,hi,h1,h2.kept hk,h3,by omega⟩
 ·obtain ⟨q,s1,s2,s3,s4,lo,hi,h1,h0,h2,h3,h4⟩:=h; exact ⟨q,s1,s2,s3,s4,lo,hi,h1,h0.kept hk,h2.kept hk,h3,by omega⟩
 ·trivial
structure FK (B:Nat) (w:World) (pf:Nat) (feat outs:Int) (base:List Int) (bd:List BD) (sb sk:SH) (g1 gb:Nat):Prop where
 box:Blk w pf #[.int .i64 feat,.int .i64 outs,sb.v,sk.v] lW
 b:Arr eI t64 w sb.a sb.n sb.c base g1
 k:aO 5 IV tB' w sk.a sk.n sk.c bd gb
 ok:∀ x∈bd,BOK B w gb x
 pB:pf<B
 bB:g1=0∨g1≤B
 kB:gb=0∨B<gb
end
end Go.Mir
set_option maxRecDepth 100000
namespace Go.Mir
open Go Go.E Go.RowKit Go.Tr Go.Ss Go.ChangeShapes
section
variable {w u w1:World} {a a1:OA} {n c n1 c1:Nat} {F F' S:Nat→Prop} {p q:Addr} {B pb:Nat} {e:ED} {f b t:SH} {rs:List (Int×Int)} {s1 s2 s3 s4:SH} {x:lD}
theorem FK.kept {pf:Nat} {feat outs:Int} {base:List Int} {bd:List BD} {sb sk:SH} {g1 gb:Nat} (h:FK B w pf feat outs base bd sb sk g1 gb) (hk:Kept w u):FK B u pf feat outs base bd sb sk g1 gb :=
 ⟨h.box.keep hk,h.b.kept hk,h.k.kept hk,fun x hx=>by obtain ⟨lo,hi,h1,h2,h3,h4⟩:=h.ok x hx; exact ⟨lo,hi,h1,Nat.le_trans h2 hk.size,h3.kept hk,h4⟩,h.pB,h.bB,h.kB⟩
theorem E8 {lo hi:Nat} (hG:iH F w e f b t) (h0:pF e=0) (hl:lo≤hi) (hh:hi≤t.n):ng F w (slA t.a t.c lo 2) (hi - lo) (t.c - lo) ((e.trees.take hi).drop lo) (f.n:Int):=by
 obtain ⟨h1,h2,h3,h4,h5,h6⟩:=qw h0
 have lf:=hG.fs.len
 have lt:=hG.ts.len
 refine ⟨hG.ts.sub hl hh,hG.old,by omega,by omega,by omega,fun t ht=>?_⟩
 have htm:t∈e.trees:=List.mem_of_mem_take (List.mem_of_mem_drop ht)
 obtain ⟨o1,o2⟩:=hG.good t htm
 obtain ⟨q1,q2,q3,q4⟩:=Ot (xZ h6 t htm)
 exact ⟨o1,o2,q1,by rw [lf]; exact q4⟩
theorem NZ {R:VP} {pe p4 pf:Nat} {outs:Int} {base:List Int} {g1:Nat} {sb:SH} {w0:World} (hG:iH F w0 e f b t) (h0:pF e=0) (hrs:Ls tR F' w0 a1 n1 c1 rs) (hF':∀ b,F' b→b<w0.heap.size) (hok:iL e.trees.length rs 0=true) (hpe:w0.heap.size≤pe) (hp4:p4≠pf) (hp4B:p4<B) (hwB:w0.heap.size≤B)
  (hR:∀ u (bd:List BD) (sk:SH) (gb:Nat),bd.map (·.1)=rs.map (fun r=>eU ((e.trees.take r.2.toNat).drop r.1.toNat) r.1)→Arr eI t64 u sb.a sb.n sb.c base g1→aO 5 IV tB' u sk.a sk.n sk.c bd gb→(∀ x∈bd,BOK B u gb x)→(gb=0∨B<gb)→Kept w0 u→R (.tuple #[vFr f.n outs sb sk,.int .i64 0]) u)
  (hpf:w0.heap.size≤pf) (hp40:w0.heap.size≤p4) :
  ∀ (k i:Nat) (w:World) (bd:List BD) (sk:SH) (gb:Nat),i+k=n1→From w0.heap.size w0 w→B≤w.heap.size→FK B w pf f.n outs base bd sb sk g1 gb→bd.map (·.1)=(rs.take i).map (fun r=>eU ((e.trees.take r.2.toNat).drop r.1.toNat) r.1) →
   Blk w pe (enE e f b t).toArray Hr→Blk w p4 #[.int .i64 0,.int .i64 0,.slice none 0 0,.slice none 0 0] lW→dU.l53 R (k+1) (some ⟨pe,0,none⟩) (some ⟨p4,0,none⟩) (some ⟨pf,0,none⟩) a1 n1 c1 n1 i w:=by
 have hn1:=hrs.len
 have hT5:=(qw h0).2.2.2.2.1
 have hlen:=qB hok
 have lt:=hG.ts.len
 intro k
 induction k with
 | zero =>
  intro i w bd sk gb hi hf hB hfk hbd hbe hb4
  rw [dU.u53]; unfold dU.g53
  refine az (by omega) ?_
  obtain rfl:i=rs.length:=by omega
  rw [List.take_length] at hbd
  have hA:AtL w ⟨pf,0,none⟩ [.int .i64 (f.n:Int),.int .i64 outs,sb.v,sk.v]:=fun j v hj=>by rw [addr_add,Nat.zero_add,hfk.box.cell]; simpa using hj
  refine bI ⟨_,hA 0 _ rfl,_,hA 1 _ rfl,_,_,_,hA 2 _ rfl,_,_,_,hA 3 _ rfl,bI ?_⟩
  refine wrA (e:=lW) (b:=p4) (vs:=[.int .i64 (f.n:Int),.int .i64 outs,sb.v,sk.v]) hb4 rfl fun u hb4' ho=>?_
  have hA4:AtL u ⟨p4,0,none⟩ [.int .i64 (f.n:Int),.int .i64 outs,sb.v,sk.v]:=fun j v hj=>by rw [addr_add,Nat.zero_add,hb4'.cell]; simpa using hj
  refine ⟨_,hA4 0 _ rfl,_,hA4 1 _ rfl,_,_,_,hA4 2 _ rfl,_,_,_,hA4 3 _ rfl,?_⟩
  refine hR u bd sk gb hbd (hfk.b.mod ho (fA hb4 hfk.b (by decide))) (hfk.k.mod ho (fA hb4 hfk.k (by decide))) (fun y hy=>?_) hfk.kB (From.kept (hf.trans ho (fun _ _ h=>h) (fun k _ hk=>by have hk':k+1=p4+1:=hk; show w0.heap.size≤k; omega)))
  obtain ⟨lo,hi,e1,e2,e3,e4⟩:=hfk.ok y hy
  exact ⟨lo,hi,e1,Nat.le_trans e2 ho.size,e3.mod ho (fun b hb hk=>by have hk':b+1=p4+1:=hk; omega),e4⟩
 | succ k ih =>
  intro i w bd sk gb hi hf hB hfk hbd hbe hb4
  rw [dU.u53]; unfold dU.g53
  refine aI (by omega) ?_
  have hrsw:=hrs.kept (From.kept hf)
  refine (hrsw.RG).rd2 (by omega) (by omega) fun r hr=>?_
  rw [Int.toNat_natCast] at hr
  obtain ⟨hr1,hr2,hr3⟩:=wo (by omega) hok r (List.mem_of_getElem? hr)
  refine boxS (zs:=[.int .i64 0,.int .i64 0]) (vs:=enR r) (e:=nz) rfl fun w1 hAr _ hk1=>?_
  have hfk1:=hfk.kept hk1
  have hbe1:=hbe.keep hk1
  have hsz1:=hk1.size
  have hG1:=hG.kept (Kept.trans (From.kept hf) hk1)
  obtain ⟨X,hX⟩:∃ X,X=eU ((e.trees.take r.2.toNat).drop r.1.toNat) r.1:=⟨_,rfl⟩
  refine ⟨FBk w1 X,FBk.keep,?_⟩
  have hAf:AtL w1 ⟨pf,0,none⟩ [.int .i64 (f.n:Int),.int .i64 outs,sb.v,sk.v]:=fun j v hj=>by rw [addr_add,Nat.zero_add,hfk1.box.cell]; simpa using hj
  have hAe:AtL w1 ⟨pe,0,none⟩ (enE e f b t):=fun j v hj=>by rw [addr_add,Nat.zero_add,hbe1.cell]; simpa using hj
  have hcap:=hG.ts.cap
  refine ⟨_,_,_,hAf 3 _ rfl,⟨_,_,_,hAe 4 _ rfl,⟨_,hAr 0 _ rfl,⟨_,hAr 1 _ rfl,dJ (by omega) (dJ (by omega) ⟨_,hAr 0 _ rfl,⟨_,hAf 0 _ rfl,?_,?_⟩⟩)⟩⟩⟩⟩
  ·intro u hu
   refine E.CallsD.mono (Vo (first:=r.1) (E8 (lo:=r.1.toNat) (hi:=r.2.toNat) (hG1.kept hu) h0 (by omega) (by omega))) fun v u2 ⟨s1,s2,s3,s4,hv,hin,hk2⟩=>?_
   rw [← hX] at hv hin
   exact ⟨_,_,_,_,_,_,_,_,_,_,_,_,_,hv,⟨s1,s2,s3,s4,u.heap.size,u2.heap.size,rfl,hin,hu.size,Nat.le_refl _⟩,hk2⟩
  ·intro z0 z1 z2 z3 z4 z5 z6 z7 z8 z9 z10 z11 z12 _
   refine ⟨fun u hu hF13=>?_,fun q _ u hu _ hF14=>?_⟩
   ·obtain ⟨s1,s2,s3,s4,lo,hi,hv,h2,h3,h4⟩:=hF13
    have hc:oZ z0 z1 z2 z3 z4 z5 z6 z7 z8 z9 z10 z11 z12=(rG X s1 s2 s3 s4).toArray:=Value.agg.inj hv
    have hk:=Kept.new u (.cells (oZ z0 z1 z2 z3 z4 z5 z6 z7 z8 z9 z10 z11 z12) 66)
    refine ⟨na u,s1,s2,s3,s4,lo,hi,rfl,?_,h2.kept hk,h3,Nat.le_trans h4 hk.size⟩
    rw [hc]
    exact AtL.new _ _ _
   ·obtain ⟨q',s1,s2,s3,s4,lo,hi,hv,hAq,h2,h3,h4⟩:=hF14
    simp only [Value.slice.injEq,Option.some.injEq] at hv
    obtain ⟨rfl,_⟩:=hv
    have hfu:=hfk1.kept hu
    have hnk:=aO.len (k:=5) (en:=IV) (fun _=>rfl) (by omega) hfu.k
    have hbl:bd.length=i:=by have:=congrArg List.length hbd; simp at this; omega
    have huz:=hu.size
    refine jH WX (by omega) hfu.k (news:=rG X s1 s2 s3 s4) (m:=1) rfl (fun j v hj=>⟨_,rfl,hAq j v hj⟩) (fun h=>by cases h) (fun v hv=>Fz (X,s1,s2,s3,s4) v hv) (by simp only [maxLen]; omega) (by omega) fun a' c' g' u2 hrow hg' ho=>⟨_,_,_,rfl,?_⟩
    have hbx:=hfu.box.mod ho (fun hk=>gq hfu.k hfu.box (by decide) hk)
    have hset:=hbx.set 3 (.slice a' (sk.n+1) c')
    have hon:=Only.set u2 pf 3 (.slice a' (sk.n+1) c')
    refine bI ?_
    rw [addr_add,addr_add,Nat.zero_add,Nat.add_zero]
    refine ⟨hbx.ok (by simp),bU (aA (by omega) ?_)⟩
    have hrow':aO 5 IV tB' u2 a' (sk.n+1) c' (bd++[(X,s1,s2,s3,s4)]) g':=by
     unfold aO
     simpa using hrow
    have hgbs:gb≤w.heap.size:=Row.le hfk.k
    have hgle:gb=0∨B<gb:=hfk.kB
    have ho2:w0.heap.size≤w.heap.size:=hf.size
    have apart:∀ b,lo≤b∧b<hi→¬ (b+1=gb):=fun b hb h=>by omega
    have hpB:=hfk.pB
    have hkw:Kept w u:=Kept.trans hk1 hu
    have ht1:From w0.heap.size w u2:=(Kept.mod (S:=fun k=>w0.heap.size≤k) hkw).trans ho (fun _ _ h=>h) (fun k _ hk=>by have hk':k+1=gb:=hk; show w0.heap.size≤k; omega)
    have hfin:From w0.heap.size w (u2.setCell ⟨pf,3,none⟩ (.slice a' (sk.n+1) c')):=ht1.trans hon (fun _ _ h=>h) (fun k _ hk=>by have hk':k+1=pf+1:=hk; show w0.heap.size≤k; omega)
    have hpe_ne:pe≠pf:=fun h=>by subst h; exact absurd (hbe.ne hfk.box) (by decide)
    refine ih (i+1) _ (bd++[(X,s1,s2,s3,s4)]) ⟨a',sk.n+1,c'⟩ g' (by omega) (hf.trans hfin (fun _ _ h=>h) (fun _ _ h=>h)) (by have:=hfin.size; omega) ⟨hset,(hfu.b.mod ho (sZ hfu.k hfu.b (by decide))).mod hon (fA hbx (hfu.b.mod ho (sZ hfu.k hfu.b (by decide))) (by decide)),hrow'.mod hon (fA hbx hrow' (by decide)),fun y hy=>?_,hfk.pB,hfk.bB,by omega⟩ ?_ ?_ ?_
    ·have hh:=ho.size
     have hh2:=hon.size
     rcases List.mem_append.1 hy with hy | hy
     ·obtain ⟨lo',hi',e1,e2,e3,e4⟩:=hfu.ok y hy
      exact ⟨lo',hi',e1,by omega,(e3.mod ho (fun b hb h=>by have h':b+1=gb:=h; omega)).mod hon (fun b hb h=>by have h':b+1=pf+1:=h; omega),by omega⟩
     ·obtain rfl:y=(X,s1,s2,s3,s4):=by simpa using hy
      exact ⟨lo,hi,by omega,by omega,(h2.mod ho (fun b hb h=>by have h':b+1=gb:=h; omega)).mod hon (fun b hb h=>by have h':b+1=pf+1:=h; omega),by omega⟩
    ·rw [take_snoc hr,List.map_append,List.map_append,hbd,hX]; rfl
    ·exact ((hbe1.keep hu).mod ho (fun hk=>gq hfu.k (hbe1.keep hu) (by decide) hk)).mod hon (fun hk=>hpe_ne (by have hk':pe+1=pf+1:=hk; omega))
    ·exact (((hb4.keep hk1).keep hu).mod ho (fun hk=>gq hfu.k ((hb4.keep hk1).keep hu) (by decide) hk)).mod hon (fun hk=>hp4 (by have hk':p4+1=pf+1:=hk; omega))
end
end Go.Mir
set_option maxRecDepth 100000
namespace Go.Mir
open Go Go.E Go.RowKit Go.Tr Go.Ss Go.ChangeShapes
section
variable {w u w1:World} {a a1:OA} {n c n1 c1:Nat} {F F' S:Nat→Prop} {p q:Addr} {B pb:Nat} {e:ED} {f b t:SH} {rs:List (Int×Int)} {s1 s2 s3 s4:SH} {x:lD}
structure jf (F:Nat→Prop) (w:World) (x:fV) (s t:SH):Prop where
 b:LsI F w s.a s.n s.c x.base
 k:Ls tB F w t.a t.n t.c x.blocks
theorem jf.kept {x:fV} {s t:SH} (h:jf F w x s t) (hk:Kept w u):jf F u x s t:=⟨h.b.kept hk,h.k.kept hk⟩
theorem Va (hG:iH F w e f b t) (hrs:Ls tR F' w a1 n1 c1 rs) (hF':∀ b,F' b→b<w.heap.size) (hn:n1≤16777216):E.CallsD Go.Proofs.Tryz.prog 7 #[vE e f b t,.slice a1 n1 c1] w fun v u=>∃ s k:SH,v = .tuple #[vF (ofP e rs) s k,.int .i64 (ofE e rs)]∧jf (fun b=>w.heap.size≤b∧b<u.heap.size) u (ofP e rs) s k∧Kept w u:=by
 refine dU.calls (R:=fun v u=>∃ s k:SH,v = .tuple #[vF (ofP e rs) s k,.int .i64 (ofE e rs)]∧jf (fun b=>w.heap.size≤b∧b<u.heap.size) u (ofP e rs) s k∧Kept w u) ?_
 unfold dU dU.g0
 refine bU (bU ?_)
 have be:Blk (w.alloc (.cells (mD e.name f.a f.n f.c e.outputs b.a b.n b.c t.a t.n t.c) 26)) w.heap.size (enE e f b t).toArray Hr:=Blk.new w _ _
 have k1:=Kept.new w (.cells (mD e.name f.a f.n f.c e.outputs b.a b.n b.c t.a t.n t.c) 26)
 have hz1:(w.alloc (.cells (mD e.name f.a f.n f.c e.outputs b.a b.n b.c t.a t.n t.c) 26)).heap.size=w.heap.size+1:=by simp
 generalize w.alloc (.cells (mD e.name f.a f.n f.c e.outputs b.a b.n b.c t.a t.n t.c) 26)=w1 at be k1 hz1
 have b4:Blk (w1.alloc (.cells (lq 0 0 none 0 0 none 0 0) 31)) w1.heap.size #[.int .i64 0,.int .i64 0,.slice none 0 0,.slice none 0 0] lW:=Blk.new w1 _ _
 have k2:=Kept.new w1 (.cells (lq 0 0 none 0 0 none 0 0) 31)
 generalize w1.alloc (.cells (lq 0 0 none 0 0 none 0 0) 31)=w2 at b4 k2
 have be2:=be.keep k2
 have k12:=Kept.trans k1 k2
 have hA:AtL w2 (na w) (enE e f b t):=by simpa using AtL.blk (b:=w) be2
 -- the answer where something is wrong
 have bad:∀ (v:World) (z:Int),z≠0→ofE e rs=z→Blk v w1.heap.size #[.int .i64 0,.int .i64 0,.slice none 0 0,.slice none 0 0] lW→Kept w v →
   qj v ⟨w1.heap.size,0,none⟩ 0 0 none 0 0 none 0 0 fun w85=>lV w85 ⟨w1.heap.size,0,none⟩ fun x0 x1 a2 n2 c2 a3 n3 c3=>∃ s k:SH,Value.tuple #[jM x0 x1 a2 n2 c2 a3 n3 c3,.int .i64 z] = .tuple #[vF (ofP e rs) s k,.int .i64 (ofE e rs)]∧jf (fun b=>w.heap.size≤b∧b<w85.heap.size) w85 (ofP e rs) s k∧Kept w w85:=by
  intro v z hz hof hb hkv
  refine wrA (e:=lW) (b:=w1.heap.size) (vs:=[.int .i64 0,.int .i64 0,.slice none 0 0,.slice none 0 0]) hb rfl fun u hb' ho=>?_
  have hA4:AtL u ⟨w1.heap.size,0,none⟩ [.int .i64 0,.int .i64 0,.slice none 0 0,.slice none 0 0]:=fun j v hj=>by rw [addr_add,Nat.zero_add,hb'.cell]; simpa using hj
  have hP:ofP e rs=⟨0,0,[],[]⟩:=by unfold ofP; rw [if_neg (by rw [hof]; exact hz)]
  refine ⟨_,hA4 0 _ rfl,_,hA4 1 _ rfl,_,_,_,hA4 2 _ rfl,_,_,_,hA4 3 _ rfl,⟨none,0,0⟩,⟨none,0,0⟩,?_,?_,?_⟩
  ·rw [hP,hof]
  ·rw [hP]; exact ⟨Ls.nil _ _ _ _ _,Ls.nil _ _ _ _ _⟩
  ·exact From.kept ((Kept.mod (S:=fun k=>w.heap.size≤k) hkv).trans ho (fun _ _ h=>h) (fun k _ hk=>by have hk':k+1=w1.heap.size+1:=hk; show w.heap.size≤k; omega))
 refine ⟨_,hA 0 _ rfl,_,_,_,hA 1 _ rfl,_,hA 2 _ rfl,_,_,_,hA 3 _ rfl,_,_,_,hA 4 _ rfl,?_⟩
 refine E.CallsD.mono (KD (hG.kept k12)) fun v u3 ⟨hv,hk3⟩=>⟨_,hv,iJ (fun hne=>bad u3 _ hne (by unfold ofE; rw [if_pos hne]) (b4.keep hk3) (Kept.trans k12 hk3)) fun h0=>?_⟩
 have hn1:=hrs.len
 have lt:=hG.ts.len
 obtain ⟨_,_,_,_,hT5,_⟩:=qw h0
 have hbad6:iL e.trees.length rs 0=false→ofE e rs=6:=fun h=>by unfold ofE; rw [if_neg (by omega),h]; rfl
 refine ⟨n1+1,?_⟩
 have key:∀ (k i:Nat) (at_:Int) (v:World),i+k=n1→Kept w2 v→iL e.trees.length rs 0=iL e.trees.length (rs.drop i) at_ →
   dU.l18 (fun v u=>∃ s k:SH,v = .tuple #[vF (ofP e rs) s k,.int .i64 (ofE e rs)]∧jf (fun b=>w.heap.size≤b∧b<u.heap.size) u (ofP e rs) s k∧Kept w u) (k+1) a1 n1 c1 (some (na w)) (some (na w1)) at_ a1 n1 c1 n1 i v:=by
  intro k
  induction k with
  | zero =>
   intro i at_ v hi hkv hr
   rw [dU.u18]; unfold dU.g18
   refine az (by omega) ?_
   rw [List.drop_eq_nil_of_le (by omega)] at hr
   have hAv:=hA.kept hkv
   have hkw:=Kept.trans k12 hkv
   refine bI ⟨_,_,_,hAv 4 _ rfl,iJ (fun hne=>?_) fun heq=>?_⟩
   ·have hf:iL e.trees.length rs 0=false:=by rw [hr]; unfold iL; simp; omega
    exact bad v 6 (by decide) (hbad6 hf) (b4.keep hkv) hkw
   ·have hok:iL e.trees.length rs 0=true:=by rw [hr]; unfold iL; simp; omega
    have hof:ofE e rs=0:=by unfold ofE; rw [if_neg (by omega),hok]; rfl
    have hP:ofP e rs=Bq e rs:=by unfold ofP; rw [if_pos hof]
    refine ⟨FOf v e.base,FOf.keep,⟨_,_,_,hAv 1 _ rfl,⟨_,hAv 2 _ rfl,⟨_,_,_,hAv 3 _ rfl,?_,?_⟩⟩⟩⟩
    ·intro u hu
     refine E.CallsD.mono (Gj ((hG.kept (Kept.trans hkw hu)).bs.sl) hG.bm) fun r u2 ⟨a',n',c',hr,⟨g,hg1,hg2,hg3⟩,_⟩=>⟨a',n',c',hr,⟨a',n',c',g,rfl,hg1,by have:=hu.size; omega⟩,hg3⟩
    ·intro a' n' c' _
     refine ⟨fun u hu=>⟨u.heap.size,rfl,Blk.new u _ _,hu.size⟩,fun q _ u hu hF7 hF9=>?_⟩
     obtain ⟨a2,n2,c2,g,hv7,hg1,hg2⟩:=hF7
     obtain ⟨pf,hv9,hbf,hpf⟩:=hF9
     cases hv7
     cases hv9
     have hvs:w1.heap.size<v.heap.size:=(b4.keep hkv).lt
     refine wrA (e:=lW) (b:=pf) (vs:=[.int .i64 (f.n:Int),.int .i64 e.outputs,.slice a' n' c',.slice none 0 0]) hbf rfl fun u2 hbf2 ho2=>?_
     have hg1':=hg1.mod ho2 (fA hbf hg1 (by decide))
     have hk2v:From w.heap.size w u2:=(Kept.mod (S:=fun k=>w.heap.size≤k) (Kept.trans hkw hu)).trans ho2 (fun _ _ h=>h) (fun k _ hk=>by have hk':k+1=pf+1:=hk; have:=hkw.size; show w.heap.size≤k; omega)
     have hgs:=Row.le hg1'
     have hb4u:=((b4.keep hkv).keep hu).mod ho2 (fun hk=>by have hk':w1.heap.size+1=pf+1:=hk; omega)
     have hbeu:=((be2.keep hkv).keep hu).mod ho2 (fun hk=>by have hk':w.heap.size+1=pf+1:=hk; omega)
     have hpflt:=hbf2.lt
     have hk0:=hkw.size
     refine ⟨n1+1,?_⟩
     refine NZ (B:=u2.heap.size) (w0:=w) (sb:=⟨a',n',c'⟩) (g1:=g) (base:=e.base) (outs:=e.outputs) (F':=F') hG h0 hrs hF' hok (Nat.le_refl _) (by omega) (by omega) (by omega) (fun u3 bd sk gb hbd hb3 hk3' hok3 hgb hkk=>?_) (by omega) (by omega) n1 0 u2 [] ⟨none,0,0⟩ 0 (by omega) hk2v (Nat.le_refl _) ⟨hbf2,hg1',aO.nil _ _ _ _,(fun x hx=>by cases hx),hpflt,.inr hgs,.inl rfl⟩ rfl hbeu hb4u
     refine ⟨⟨a',n',c'⟩,sk,?_,⟨?_,?_⟩,hkk⟩
     ·rw [hP,hof]
      have:=hG.fs.len
      unfold Bq
      simp only [this]
     ·rw [hP]
      exact (Arr.ls (h1:=fun _=>rfl) hb3).mono fun b hb=>⟨by omega,by have:=Row.le hb3; omega⟩
     ·rw [hP]
      show Ls tB _ u3 sk.a sk.n sk.c (rs.map fun r=>eU ((e.trees.take r.2.toNat).drop r.1.toNat) r.1)
      rw [← hbd]
      exact TP hk3' hok3 hgb fun b h1 h2=>⟨by have:=hk2v.size; omega,h2⟩
  | succ k ih =>
   intro i at_ v hi hkv hr
   rw [dU.u18]; unfold dU.g18
   refine aI (by omega) ?_
   have hAv:=hA.kept hkv
   have hkw:=Kept.trans k12 hkv
   refine ((hrs.kept hkw).RG).rd2 (by omega) (by omega) fun r hrr=>?_
   rw [Int.toNat_natCast] at hrr
   rw [GX hrr] at hr
   refine boxS (zs:=[.int .i64 0,.int .i64 0]) (vs:=enR r) (e:=nz) rfl fun v1 hAr _ hk1=>?_
   have b4v:=(b4.keep hkv).keep hk1
   have hkv1:=Kept.trans hkw hk1
   refine ⟨_,hAr 0 _ rfl,iJ (fun h1=>bad v1 6 (by decide) (hbad6 (by rw [hr]; simp [h1])) b4v hkv1) fun h1=>?_⟩
   refine ⟨_,hAr 1 _ rfl,_,hAr 0 _ rfl,eF (fun h2=>bad v1 6 (by decide) (hbad6 (by rw [hr]; have hx:¬ r.1<r.2:=(by omega); simp [hx])) b4v hkv1) fun h2=>?_⟩
   refine ⟨_,hAr 1 _ rfl,bI ⟨_,_,_,(hAv.kept hk1) 4 _ rfl,eF (fun h3=>bad v1 6 (by decide) (hbad6 (by rw [hr]; have hx:¬ r.2≤(e.trees.length:Int):=(by omega); simp [hx])) b4v hkv1) fun h3=>?_⟩⟩
   refine ⟨_,hAr 1 _ rfl,aA (by omega) (ih (i+1) r.2 v1 (by omega) (Kept.trans hkv hk1) ?_)⟩
   rw [hr]
   have e1:r.1<r.2:=by omega
   have e2:r.2≤(e.trees.length:Int):=by omega
   rw [decide_eq_true h1,decide_eq_true e1,decide_eq_true e2]
   rfl
 exact key n1 0 0 u3 (by omega) hk3 rfl
end
end Go.Mir
set_option maxRecDepth 100000
namespace Go.Mir
open Go Go.E Go.RowKit Go.Tr Go.Ss Go.ChangeShapes
noncomputable def jY (e:ED) (k:Int):Int:=if pF e≠0 then pF e else if fB e.trees.length k≠0 then fB e.trees.length k else ofE e (gz e.trees.length k)
noncomputable def iY (e:ED) (k:Int):fV:=if pF e≠0 then ⟨0,0,[],[]⟩ else if fB e.trees.length k≠0 then ⟨0,0,[],[]⟩ else ofP e (gz e.trees.length k)
theorem rM {n b:Int} (hb:1≤b):∀ (k:Nat) (at_:Int),(iF n b k at_).length≤k
 | 0,_=>by simp [iF]
 | k+1,at_=>by
  unfold iF
  split
  ·have:=rM (n:=n) hb k (at_+b)
   simp only [List.length_cons]
   omega
  ·simp
theorem uU {n b:Int} (hb:1≤b):∀ (k:Nat) (at_:Int),0≤at_→at_≤n→n - at_≤k→iL n (iF n b (k+1) at_) at_=true
 | 0,at_,h0,h1,h2=>by
  unfold iF
  rw [if_neg (by omega)]
  unfold iL
  simp
  omega
 | k+1,at_,h0,h1,h2=>by
  unfold iF
  by_cases h:at_<n
  ·rw [if_pos h]
   unfold iL
   by_cases h3:n<at_+b
   ·simp only [h3,if_true]
    have e1:iF n b (k+1) (at_+b)=[]:=by unfold iF; rw [if_neg (by omega)]
    rw [e1]
    unfold iL
    simp
    omega
   ·simp only [h3,if_false]
    rw [uU hb k (at_+b) (by omega) (by omega) (by omega)]
    simp
    omega
  ·rw [if_neg h]
   unfold iL
   simp
   omega
theorem Kz {e:ED} {k:Int} (h0:pF e=0) (h1:fB e.trees.length k=0):ofE e (gz e.trees.length k)=0:=by
 obtain ⟨q1,q2,q3,q4⟩:=xg h1
 unfold ofE gz
 rw [if_neg (by omega),if_pos h1,uU (by omega) _ 0 (by omega) (by omega) (by omega)]
 rfl
section
variable {w u w1:World} {a a1:OA} {n c n1 c1:Nat} {F F' S:Nat→Prop} {p q:Addr} {e:ED} {f b t:SH} {rs:List (Int×Int)} {s1 s2 s3 s4:SH} {x:lD}
theorem pI.len {xs:List (Int×Int)} (h:pI w u a n c xs):n=xs.length:=h.ls.len
theorem BB {k:Int} (hG:iH F w e f b t):E.CallsD Go.Proofs.Tryz.prog 9 #[vE e f b t,.int .i64 k] w fun v u=>∃ s z:SH,v = .tuple #[vF (iY e k) s z,.int .i64 (jY e k)]∧jf (fun b=>w.heap.size≤b∧b<u.heap.size) u (iY e k) s z∧Kept w u:=by
 refine eX.calls (R:=fun v u=>∃ s z:SH,v = .tuple #[vF (iY e k) s z,.int .i64 (jY e k)]∧jf (fun b=>w.heap.size≤b∧b<u.heap.size) u (iY e k) s z∧Kept w u) ?_
 unfold eX eX.g0
 refine bU (bU ?_)
 have be:Blk (w.alloc (.cells (mD e.name f.a f.n f.c e.outputs b.a b.n b.c t.a t.n t.c) 26)) w.heap.size (enE e f b t).toArray Hr:=Blk.new w _ _
 have k1:=Kept.new w (.cells (mD e.name f.a f.n f.c e.outputs b.a b.n b.c t.a t.n t.c) 26)
 have hz1:(w.alloc (.cells (mD e.name f.a f.n f.c e.outputs b.a b.n b.c t.a t.n t.c) 26)).heap.size=w.heap.size+1:=by simp
 generalize w.alloc (.cells (mD e.name f.a f.n f.c e.outputs b.a b.n b.c t.a t.n t.c) 26)=w1 at be k1 hz1
 have b4:Blk (w1.alloc (.cells (lq 0 0 none 0 0 none 0 0) 31)) w1.heap.size #[.int .i64 0,.int .i64 0,.slice none 0 0,.slice none 0 0] lW:=Blk.new w1 _ _
 have k2:=Kept.new w1 (.cells (lq 0 0 none 0 0 none 0 0) 31)
 generalize w1.alloc (.cells (lq 0 0 none 0 0 none 0 0) 31)=w2 at b4 k2
 have be2:=be.keep k2
 have k12:=Kept.trans k1 k2
 have hA:AtL w2 (na w) (enE e f b t):=by simpa using AtL.blk (b:=w) be2
 have lt:=hG.ts.len
 have fin:∀ (v:World) (z:Int) (X:fV) (s1 s2:SH),jY e k=z→iY e k=X→Blk v w1.heap.size #[.int .i64 0,.int .i64 0,.slice none 0 0,.slice none 0 0] lW→Kept w v→jf (fun b=>w2.heap.size≤b∧b<v.heap.size) v X s1 s2 →
   qj v ⟨w1.heap.size,0,none⟩ X.features X.outputs s1.a s1.n s1.c s2.a s2.n s2.c fun w85=>lV w85 ⟨w1.heap.size,0,none⟩ fun x0 x1 a2 n2 c2 a3 n3 c3=>∃ s z':SH,Value.tuple #[jM x0 x1 a2 n2 c2 a3 n3 c3,.int .i64 z] = .tuple #[vF (iY e k) s z',.int .i64 (jY e k)]∧jf (fun b=>w.heap.size≤b∧b<w85.heap.size) w85 (iY e k) s z'∧Kept w w85:=by
  intro v z X s1 s2 hz hX hb hkv hin
  refine wrA (e:=lW) (b:=w1.heap.size) (vs:=[.int .i64 X.features,.int .i64 X.outputs,s1.v,s2.v]) hb rfl fun u hb' ho=>?_
  have hA4:AtL u ⟨w1.heap.size,0,none⟩ [.int .i64 X.features,.int .i64 X.outputs,s1.v,s2.v]:=fun j v hj=>by rw [addr_add,Nat.zero_add,hb'.cell]; simpa using hj
  have hw2:w1.heap.size<w2.heap.size:=b4.lt
  refine ⟨_,hA4 0 _ rfl,_,hA4 1 _ rfl,_,_,_,hA4 2 _ rfl,_,_,_,hA4 3 _ rfl,s1,s2,?_,?_,?_⟩
  ·rw [hX,hz]
  ·rw [hX]
   have no:∀ b,(w2.heap.size≤b∧b<v.heap.size)→¬ (b+1=w1.heap.size+1):=fun b hb h=>by omega
   exact ⟨(hin.b.mod ho no).mono fun b hb=>⟨by omega,by have:=ho.size; omega⟩,(hin.k.mod ho no).mono fun b hb=>⟨by omega,by have:=ho.size; omega⟩⟩
  ·exact From.kept ((Kept.mod (S:=fun k=>w.heap.size≤k) hkv).trans ho (fun _ _ h=>h) (fun k _ hk=>by have hk':k+1=w1.heap.size+1:=hk; show w.heap.size≤k; omega))
 have zero:∀ (v:World) (z:Int),jY e k=z→iY e k=⟨0,0,[],[]⟩→Blk v w1.heap.size #[.int .i64 0,.int .i64 0,.slice none 0 0,.slice none 0 0] lW→Kept w v→_:=fun v z hz hX hb hkv=>fin v z ⟨0,0,[],[]⟩ ⟨none,0,0⟩ ⟨none,0,0⟩ hz hX hb hkv ⟨Ls.nil _ _ _ _ _,Ls.nil _ _ _ _ _⟩
 refine ⟨_,hA 0 _ rfl,_,_,_,hA 1 _ rfl,_,hA 2 _ rfl,_,_,_,hA 3 _ rfl,_,_,_,hA 4 _ rfl,?_⟩
 refine E.CallsD.mono (KD (hG.kept k12)) fun v u3 ⟨hv,hk3⟩=>⟨_,hv,iJ (fun hne=>zero u3 _ (by unfold jY; rw [if_pos hne]) (by unfold iY; rw [if_pos hne]) (b4.keep hk3) (Kept.trans k12 hk3)) fun h0=>?_⟩
 have hA3:=hA.kept hk3
 refine ⟨_,_,_,hA3 4 _ rfl,?_⟩
 rw [lt]
 refine E.CallsD.mono (QR (e.trees.length:Int) k) fun v u4 ⟨a',n',c',hv,hnew⟩=>⟨_,_,_,_,hv,?_⟩
 have hnl:=hnew.len
 obtain ⟨g,g1,g2,hk4⟩:=hnew
 have hk34:=Kept.trans hk3 hk4
 have hkw:=Kept.trans k12 hk34
 refine iJ (fun hne=>zero u4 _ (by unfold jY; rw [if_neg (by omega),if_pos hne]) (by unfold iY; rw [if_neg (by omega),if_pos hne]) (b4.keep hk34) hkw) fun h1=>?_
 have hA4:=hA.kept hk34
 refine ⟨_,hA4 0 _ rfl,_,_,_,hA4 1 _ rfl,_,hA4 2 _ rfl,_,_,_,hA4 3 _ rfl,_,_,_,hA4 4 _ rfl,?_⟩
 obtain ⟨q1,q2,q3,q4⟩:=xg h1
 have hsl:(gz e.trees.length k).length≤65537:=by
  unfold gz
  rw [if_pos h1]
  have:=rM (n:=(e.trees.length:Int)) (b:=k) (by omega) ((e.trees.length:Int).toNat+1) 0
  omega
 have hlt:∀ b,(u3.heap.size≤b∧b<u4.heap.size)→b<u4.heap.size:=fun b h=>h.2
 have hls2:Ls tR (fun b=>u3.heap.size≤b∧b<u4.heap.size) u4 a' n' c' (gz e.trees.length k):=by
  have:=aO.lsK (T:=tR) (f:=id) (en:=enR) (k:=2) (F:=fun b=>u3.heap.size≤b∧b<u4.heap.size) (fun _=>rfl) (by omega) rfl g1 (fun b hb=>⟨by omega,by have:=Row.le g1; omega⟩) (fun x _=>rfl)
  simpa using this
 refine E.CallsD.mono (Va (rs:=gz e.trees.length k) (hG.kept hkw) hls2 hlt (by omega)) fun v u5 ⟨s,z,hv,hin,hk5⟩=>⟨_,_,_,_,_,_,_,_,_,hv,?_⟩
 refine fin u5 _ (ofP e (gz e.trees.length k)) s z (by unfold jY; rw [if_neg (by omega),if_neg (by omega)]) (by unfold iY; rw [if_neg (by omega),if_neg (by omega)]) (b4.keep (Kept.trans hk34 hk5)) (Kept.trans hkw hk5) ⟨hin.b.mono fun b hb=>⟨Nat.le_trans (Kept.trans hk34 (Kept.refl _)).size hb.1,hb.2⟩,hin.k.mono fun b hb=>⟨Nat.le_trans (Kept.trans hk34 (Kept.refl _)).size hb.1,hb.2⟩⟩
end
end Go.Mir
