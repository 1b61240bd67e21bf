/- Part of a proof of laws of the seat Ytmjlipmapfofmaa: functions' weakest preconditions, each checked by the kernel, contracts out of them, plain lemmas; no conditions. -/
import Derived.Test.YtmjlipmapfofmaaTD
set_option linter.unusedVariables false
set_option linter.unusedSimpArgs false
set_option linter.unusedSectionVars false
set_option maxRecDepth 100000
namespace Go.Mir
open Go Go.E Go.RowKit Go.Tr
theorem Jm (nodes:List ND):(iD nodes).length≤nodes.length:=by
 by_cases h:(bu fQ nodes).1=0
 ·rw [iK h,lH,(aJ h).length]; exact Nat.le_refl _
 ·rw [vZ h]; simp
theorem DR {nodes:List ND} {N:Nat} (hs:Short N nodes):Short N (iD nodes):=by
 by_cases h:(bu fQ nodes).1=0
 ·rw [iK h]
  intro y hy
  unfold jl at hy
  obtain ⟨i,hi,rfl⟩:=List.mem_map.1 hy
  have hlt:=((aJ h).mem i).1 hi
  rw [qV,List.getD_eq_getElem?_getD,List.getElem?_eq_getElem hlt]
  exact hs _ (List.getElem_mem hlt)
 ·rw [vZ h]; intro y hy; cases hy
section
variable {w u w1:World} {p:Addr} {o:Int} {a a1:Option Addr} {n c n1 c1 g B B':Nat} {F S:Nat→Prop} {nodes:List ND} {xs:List Nat} {ts:List TD} {e:ED} {f b t:SH}
end
end Go.Mir
set_option maxRecDepth 100000
namespace Go.Mir
open Go Go.E Go.RowKit Go.Tr
def jW:List TD→Int
 | []=>0
 | t::ts=>if (bu fQ t.nodes).1≠0 then (bu fQ t.nodes).1 else jW ts
noncomputable def bD (t:TD):TD:=⟨t.output,iD t.nodes⟩
def edZ:ED:=⟨⟨#[]⟩,[],0,[],[]⟩
noncomputable def iO (e:ED):ED:=if jW e.trees=0 then ⟨e.name,e.features,e.outputs,e.base,e.trees.map bD⟩ else edZ
theorem vH (t:TD) (ts:List TD):jW (t::ts)=if (bu fQ t.nodes).1≠0 then (bu fQ t.nodes).1 else jW ts:=rfl
section
variable {w u w1:World} {p:Addr} {o:Int} {a a1:Option Addr} {n c n1 c1 g B B':Nat} {F S:Nat→Prop} {nodes:List ND} {xs:List Nat} {ts:List TD} {e:ED} {f b t:SH}
theorem wu (h:Lh e):Lh (iO e):=by
 unfold iO
 split
 ·refine ⟨h.fm,h.bm,by simpa using h.tm,fun x hx=>?_⟩
  obtain ⟨y,hy,rfl⟩:=List.mem_map.1 hx
  obtain ⟨h1,h2⟩:=h.good y hy
  exact ⟨Nat.le_trans (Jm y.nodes) h1,DR h2⟩
 ·exact ⟨by simp [edZ],by simp [edZ],by simp [edZ],fun x hx=>by cases hx⟩
structure MdI (B:Nat) (w:World) (e:ED) (f b t:SH) (g:Nat) (l:List (TD×SH)):Prop where
 fs:∃ g,Arr enS 9 w f.a f.n f.c e.features g∧fresh B g
 bs:∃ g,Arr enI 2 w b.a b.n b.c e.base g∧fresh B g
 row:au 2 qP 44 w t.a t.n t.c l g
 fr:fresh B g
 own:∀ x∈l,wK B w x.2.a x.2.n x.2.c x.1.nodes
theorem MdI.jP {l:List (TD×SH)} (h:MdI B w e f b t g l) (hm:Mod S w u) (hS:Apart S w [9,2,44,101,3]):MdI B u e f b t g l :=
 ⟨let ⟨g,h1,h2⟩:=h.fs; ⟨g,Row.jP h1 hm hS (by simp),h2⟩,let ⟨g,h1,h2⟩:=h.bs; ⟨g,Row.jP h1 hm hS (by simp),h2⟩,Row.jP h.row hm hS (by simp),h.fr,fun x hx=>(h.own x hx).jP hm fun k cs e hk hb he=>hS k cs e hk hb (by simp only [List.mem_cons] at he ⊢; exact .inr (.inr (.inr he)))⟩
theorem MdI.kept {l:List (TD×SH)} (h:MdI B w e f b t g l) (hk:Kept w u):MdI B u e f b t g l:=h.jP (S:=fun _=>False) (Kept.mod hk) (fun _ _ _ h=>h.elim)
theorem FB {R:Value→World→Prop} {cs2:Array Value} {B2 B4:World} {t0 f' b' t':SH} {g:Nat} (hE:gV F w1 e f b t0) (hF:∀ b,F b→b<B) (hc2:cs2.size=5) (hB:B≤w1.heap.size) (hB2:B≤B2.heap.size) (hB4:B≤B4.heap.size) (hne:B2.heap.size≠B4.heap.size)
  (hbad:∀ u,jW e.trees≠0→From B w1 u→R (.tuple #[vE edZ ⟨none,0,0⟩ ⟨none,0,0⟩ ⟨none,0,0⟩,.int .i64 (jW e.trees)]) u)
  (hend:∀ u,jW e.trees=0→From B w1 u→zV B u (iO e) f' b' t'→R (.tuple #[vE (iO e) f' b' t',.int .i64 0]) u) :
  ∀ (k i:Nat) (w:World) (l:List (TD×SH)),i+k=t0.n→From B w1 w→Blk w B2.heap.size cs2 26→Blk w B4.heap.size (enE e f' b' t').toArray 26→MdI B w e f' b' t' g l→l.map (·.1)=(e.trees.map bD).take i++e.trees.drop i→jW e.trees=jW (e.trees.drop i) →
   bU.l8 R (k+1) (some (na B2)) (some (na B4)) t0.a t0.n t0.c t0.n i w:=by
 have htn:=hE.ts.len
 have htm:=hE.tm
 intro k
 induction k with
 | zero =>
  intro i w l hi hw hb2 hb4 hI hl hme
  rw [bU.u8]; unfold bU.g8
  refine ai (by omega) ?_
  obtain rfl:i=t0.n:=by omega
  rw [List.drop_eq_nil_of_le (by omega)] at hl hme
  rw [List.take_of_length_le (by rw [List.length_map]; omega),List.append_nil] at hl
  have hz:jW e.trees=0:=hme
  have hmp:iO e=⟨e.name,e.features,e.outputs,e.base,e.trees.map bD⟩:=by unfold iO; rw [if_pos hz]
  have h54:At5 w (na B4) e f' b' t' := .kT hb4
  refine aK (h54.ld ?_)
  refine aK (hb2.wr (by omega) fun u2 hb22 ho2=>hb22.wr (by simp; omega) fun u3 hb23 ho3=>hb23.wr (by simp; omega) fun u4 hb24 ho4=>hb24.wr (by simp; omega) fun u5 hb25 ho5=>hb25.wr (by simp; omega) fun u6 hb26 ho6=>?_)
  have h56:At5 u6 (na B2) e f' b' t':=by
   refine ⟨hb26.rd ?_,hb26.rd ?_,hb26.rd ?_,hb26.rd ?_,hb26.rd ?_⟩ <;> simp [hc2]
  refine aK (h56.ld ?_)
  have hm:Mod (fun k=>k=B2.heap.size) w u6 :=
   (((((Mod.refl w).trans ho2 (fun _ _ h=>h) (fun k _ h=>by show k=B2.heap.size; omega)).trans ho3 (fun _ _ h=>h) (fun k _ h=>by show k=B2.heap.size; omega)).trans ho4 (fun _ _ h=>h) (fun k _ h=>by show k=B2.heap.size; omega)).trans ho5 (fun _ _ h=>h) (fun k _ h=>by show k=B2.heap.size; omega)).trans ho6 (fun _ _ h=>h) (fun k _ h=>by show k=B2.heap.size; omega)
  have hap:Apart (fun k=>k=B2.heap.size) w [9,2,44,101,3]:=by
   intro k cs e' hk hb'
   subst hk
   exact Blk.uT hb2 (es:=[9,2,44,101,3]) (by decide) _ cs e' rfl hb'
  have:=hend u6 hz (hw.trans hm (U:=fun k=>B≤k) (fun _ _ h=>h) (fun k _ h=>by show B≤k; omega)) (by
   rw [hmp]
   have own:zV B w ⟨e.name,e.features,e.outputs,e.base,e.trees.map bD⟩ f' b' t':=⟨hI.fs,hI.bs,g,l,hI.row,hI.fr,hl.symm,hI.own⟩
   exact own.jP hm hap)
  rw [hmp] at this
  exact this
 | succ k ih =>
  intro i w l hi hw hb2 hb4 hI hl hme
  rw [bU.u8]; unfold bU.g8
  refine aN (by omega) ?_
  have hEw:=gV.TI hE hF hw
  refine hEw.ts.rdT (by omega) (by omega) fun x a' n' c' hxi hL=>?_
  rw [Int.toNat_natCast] at hxi
  have hGx:=Go.Mir.gV.at hEw hxi hL
  rw [drop_cons hxi,vH] at hme
  rw [drop_cons hxi] at hl
  refine vU fun w2 _ hT2 hk2=>⟨_,hT2.c0,_,_,_,hT2.c1,?_⟩
  have s1:=hw.size
  have s2:=hk2.size
  refine E.CallsD.mono (PD (o:=x.output) (hGx.kept hk2)) fun v w3 ⟨a3,n3,c3,hv,ho3,hk3⟩=>⟨_,_,_,_,_,hv,?_⟩
  refine vU fun w4 _ hT4 hk4=>?_
  have hk24:=Kept.trans hk2 (Kept.trans hk3 hk4)
  have hw4:=hw.aA hk24
  have hb24:=hb2.mod (Kept.mod (S:=fun _=>False) hk24) (fun h=>h)
  have hb44:=hb4.mod (Kept.mod (S:=fun _=>False) hk24) (fun h=>h)
  have hI4:=hI.kept hk24
  refine jR (fun hne=>?_) fun h0=>?_
  ·rw [if_pos hne] at hme
   refine aK (hb24.wr (by omega) fun u2 hb22 ho2=>hb22.wr (by simp; omega) fun u3 hb23 ho3=>hb23.wr (by simp; omega) fun u4 hb24 ho4=>hb24.wr (by simp; omega) fun u5 hb25 ho5=>hb25.wr (by simp; omega) fun u6 hb26 ho6=>?_)
   have h56:At5 u6 (na B2) edZ ⟨none,0,0⟩ ⟨none,0,0⟩ ⟨none,0,0⟩:=by
    refine ⟨hb26.rd ?_,hb26.rd ?_,hb26.rd ?_,hb26.rd ?_,hb26.rd ?_⟩ <;> simp [hc2,edZ]
   have hmod:=((((((hw4.trans ho2 (U:=fun k=>B≤k) (fun _ _ h=>h) (fun k _ h=>by show B≤k; omega))).trans ho3 (U:=fun k=>B≤k) (fun _ _ h=>h) (fun k _ h=>by show B≤k; omega)).trans ho4 (U:=fun k=>B≤k) (fun _ _ h=>h) (fun k _ h=>by show B≤k; omega)).trans ho5 (U:=fun k=>B≤k) (fun _ _ h=>h) (fun k _ h=>by show B≤k; omega)).trans ho6 (U:=fun k=>B≤k) (fun _ _ h=>h) (fun k _ h=>by show B≤k; omega))
   have:=hbad u6 (by rw [hme]; exact hne) hmod
   rw [hme] at this
   exact aK (h56.ld this)
  ·rw [if_neg (by simpa using h0)] at hme
   have h54:At5 w4 (na B4) e f' b' t' := .kT hb44
   refine aK ⟨_,_,_,h54.c4,_,hT4.c0,_,_,_,hT4.c1,?_⟩
   have hll:=congrArg List.length hl
   rw [List.length_map,List.length_append,List.length_take,List.length_map,List.length_cons,List.length_drop] at hll
   have hlt:=hI4.row.Gs
   have hco:Bh x.output x.nodes=x.output:=by unfold Bh; rw [if_pos h0]
   rw [hco]
   refine hI4.row.wrT (i:=(i:Int)) (by omega) (by omega) (x:=(bD x,⟨a3,n3,c3⟩)) fun u5 h5 ho5=>?_
   rw [Int.toNat_natCast] at h5
   have ap5:∀ {es:List Nat},44∉es→Apart (fun k=>k+1=g) w4 es:=fun hes=>Row.apart hI4.row hes
   refine aB (by omega) ?_
   have hb25:=hb24.mod ho5 (fun h=>ap5 (es:=[26]) (by decide) _ _ _ h hb24 (by simp))
   have hb45:=hb44.mod ho5 (fun h=>ap5 (es:=[26]) (by decide) _ _ _ h hb44 (by simp))
   obtain ⟨gf,hf1,hf2⟩:=hI4.fs
   obtain ⟨gb,hb1,hb2'⟩:=hI4.bs
   refine ih (i+1) u5 _ (by omega) (hw4.only ho5 hI.fr) hb25 hb45 ⟨⟨gf,Row.jP hf1 ho5 (ap5 (es:=[9]) (by decide)) (by simp),hf2⟩,⟨gb,Row.jP hb1 ho5 (ap5 (es:=[2]) (by decide)) (by simp),hb2'⟩,h5,hI.fr,fun y hy=>?_⟩ ?_ hme
   ·rcases List.mem_or_eq_of_mem_set hy with h | h
    ·exact (hI4.own y h).jP ho5 (ap5 (by decide))
    ·subst h
     exact ((ho3.kept hk4).weak (by omega)).jP ho5 (ap5 (by decide))
   ·have hxm:(e.trees.map bD)[i]?=some (bD x):=by rw [List.getElem?_map,hxi]; rfl
    have hlen:((e.trees.map bD).take i).length=i:=by rw [List.length_take,List.length_map]; omega
    rw [List.map_set,hl,List.set_append_right _ _ (by omega),hlen,Nat.sub_self,List.set_cons_zero,take_snoc hxm,List.append_assoc]
    rfl
theorem OY (hE:gV F w e f b t):E.CallsD Go.Proofs.Try.prog 19 #[vE e f b t] w fun v u=>∃ f' b' t',v = .tuple #[vE (iO e) f' b' t',.int .i64 (jW e.trees)]∧zV w.heap.size u (iO e) f' b' t'∧Kept w u:=by
 refine bU.calls ?_
 unfold bU bU.g0
 refine U7 fun w1 _ h5 hk1=>U7 (e:=edZ) (f:=⟨none,0,0⟩) (b:=⟨none,0,0⟩) (t:=⟨none,0,0⟩) fun w2 hbr _ hk2=>?_
 have h52:=h5.kept hk2
 have hk12:=Kept.trans hk1 hk2
 refine h52.ld ?_
 refine E.CallsD.mono (Rn (hE.kept hk12)) fun v w3 ⟨f',b',t',hv,ho3,hk3⟩=>⟨_,_,_,_,_,_,_,_,_,_,_,hv,?_⟩
 refine UE (f:=f') (b:=b') (t:=t') fun w4 hbo _ hk4=>?_
 have hk14:=Kept.trans hk12 (Kept.trans hk3 hk4)
 have h54:=h52.kept (Kept.trans hk3 hk4)
 have s1:=hk1.size
 have s2:=hk2.size
 have s3:=hk3.size
 have s4:=hk4.size
 have lr:=hbr.lt
 refine ⟨_,_,_,h54.c4,?_⟩
 have ho4:=(ho3.kept hk4).weak (B':=w.heap.size) (by omega)
 obtain ⟨g,l,q1,q2,q3,q4⟩:=ho4.ts
 refine ⟨t.n+1,FB (w1:=w4) (B:=w.heap.size) (B2:=w1) (B4:=w3) (f':=f') (b':=b') (t':=t') (t0:=t) (g:=g) (cs2:=(enE edZ ⟨none,0,0⟩ ⟨none,0,0⟩ ⟨none,0,0⟩).toArray) (hE.kept hk14) hE.old (by simp [enE]) (by omega) (by omega) (by omega) (by omega) (fun u hz hu=>⟨⟨none,0,0⟩,⟨none,0,0⟩,⟨none,0,0⟩,?_,?_,wz hk14 hu (fun b h=>h)⟩) (fun u hz hu ho=>⟨f',b',t',by rw [hz],ho,wz hk14 hu (fun b h=>h)⟩) t.n 0 w4 l (by omega) (From.refl _ _) (hbr.mod (Kept.mod (S:=fun _=>False) (Kept.trans hk3 hk4)) (fun h=>h)) hbo ⟨ho4.fs,ho4.bs,q1,q2,q4⟩ (by rw [List.take_zero,List.nil_append,List.drop_zero]; exact q3.symm) rfl⟩
 ·have:iO e=edZ:=by unfold iO; rw [if_neg hz]
  rw [this]
 ·have:iO e=edZ:=by unfold iO; rw [if_neg hz]
  rw [this]
  exact ⟨⟨0,Arr.nil _ _ _,.inl rfl⟩,⟨0,Arr.nil _ _ _,.inl rfl⟩,0,[],au.nil _ _ _ _,.inl rfl,rfl,fun x hx=>by cases hx⟩
end
end Go.Mir
set_option maxRecDepth 100000
namespace Go.Mir
open Go Go.E Go.RowKit Go.Tr
section
variable {w u w1:World} {p:Addr} {o:Int} {a a1:Option Addr} {n c n1 c1 g B B':Nat} {F S:Nat→Prop} {nodes:List ND} {xs:List Nat} {ts:List TD} {e:ED} {f b t:SH}
end
end Go.Mir
set_option maxRecDepth 100000
namespace Go.Mir
open Go Go.E Go.RowKit Go.Tr
section
variable {nodes:List ND} {xs:List Nat} {o:Int}
theorem gQ (h:(bu fQ nodes).1=0):bG nodes false=(fK nodes).leaves:=by
 unfold bG
 rw [if_pos h,(aJ h).is.leaves]
 unfold pick
 apply List.filter_congr
 intro i _
 unfold jL
 cases (nodes[i]?.map ND.inner).getD false <;> rfl
theorem kC (h:(bu fQ nodes).1=0):bu fQ (iD nodes)=(0,0):=by rw [iK h]; exact (aJ h).Dh
theorem lC (h:(bu fQ nodes).1=0):fK (iD nodes)=(fK nodes).Gw (fK nodes).pre.idxOf:=by
 have hTr:=aJ h
 have h2:=aJ (nodes:=iD nodes) (by rw [kC h])
 have h3:=hTr.uf hTr.is
 rw [← iK h] at h3
 exact Is.uniq h2.is h3 (by rw [h2.root,BT.qw,hTr.root,hTr.yR])
end
end Go.Mir
