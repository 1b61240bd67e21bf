/- Part of a proof of laws of the seat YtmjlipmapfofmaaGreat: functions' weakest preconditions, each checked by the kernel, contracts out of them, plain lemmas; no conditions. -/
import Derived.Test.YtmjlipmapfofmaaGreatF71
set_option linter.unusedVariables false
set_option linter.unusedSimpArgs false
set_option linter.unusedSectionVars false
set_option maxRecDepth 100000
namespace Go.Mir
open Go Go.E Go.RowKit Go.Tr Go.Ss Go.ChangeShapes
section
variable {w w0 u w1 wB x:World} {F F' S:Nat→Prop} {B g n c:Nat} {a:OA} {R:VP} {A:List (ND×dF)} {ts:List TD}
def Qg (ts:List TD):Prop:=∀ t∈ts,∀ x∈t.nodes,x.thr<18446744073709551616
theorem QB {d:Int} (hok:∀ t∈ts,lvE t.nodes=0∧pM t.nodes d=true) {p:ND×dF} (hp:p∈dZ ts 0):∃ t∈ts,p.1∈t.nodes∧p.2.bH=p.1.bH∧p.2.thr=p.1.thr∧iG p.1.thr=false∧0≤p.1.feature∧p.1.feature<d:=by
 obtain ⟨j,t,ht,hp⟩:=Et (fun t ht=>(hok t ht).1) hp
 have htm:=List.mem_of_getElem? ht
 obtain ⟨h1,h2⟩:=hok t htm
 obtain ⟨m,hm,hc⟩:=List.mem_filterMap.1 (show p∈(gV t.nodes).filterMap (qA (0+j) t.nodes) from hp)
 obtain ⟨i,x,e1,e2,e3,e4,e5⟩:=Af h1 h2 m hm
 unfold qA at hc
 rw [e1,Int.toNat_natCast,e2] at hc
 obtain rfl:=Option.some.inj hc
 refine ⟨t,htm,List.mem_of_getElem? e2,rfl,rfl,?_,e4,e5⟩
 have ok:=(dY (jW h1).1).right.ok i x e2
 unfold fC at ok
 split at ok
 ·rename_i hk
  unfold ND.inner at e3
  rw [hk] at e3
  cases e3
 ·split at ok
  ·simp only [Bool.and_eq_true,Bool.not_eq_true'] at ok
   exact ok.1.1
  ·split at ok
   ·simp only [Bool.and_eq_true,beq_iff_eq] at ok
    show iG x.thr=false
    rw [ok.1.1]
    decide
   ·cases ok
theorem ng.cuts {d:Int} (hG:ng F w a n c ts d) (hT:Qg ts) {p:ND×dF} (hp:p∈dZ ts 0):p.2.sm∧Num p.2.thr∧0≤p.1.feature∧p.1.feature<d:=by
 obtain ⟨t,ht,h1,h2,h3,h4,h5,h6⟩:=QB (fun t ht=>⟨(hG.ok t ht).2.2.1,(hG.ok t ht).2.2.2⟩) hp
 refine ⟨?_,?_,h5,h6⟩
 ·have:=(hG.ok t ht).2.1 p.1 h1
  unfold dF.sm
  rw [h2]
  exact this
 ·rw [h3]; exact ⟨h4,hT t ht p.1 h1⟩
theorem PL {d:Nat} (hd:∀ p∈dZ ts 0,0≤p.1.feature∧p.1.feature<d):jq (dZ ts 0) d=jr ts:=J3 hd
variable {ab ae ah ak:OA} {nb cb ne ce nh ch nk ck d:Nat}
set_option maxHeartbeats 1000000 in
theorem H8 (hG:ng F w a n c ts d) (hT:Qg ts):E.CallsD Go.Proofs.Tryz.prog 53 #[.slice a n c,.int .i64 d] w (LsA w (jr ts)):=by
 have hR:jq (dZ ts 0) d=jr ts:=PL fun p hp=>(hG.cuts hT hp).2.2
 rw [← hR]
 refine ag.calls (R:=LsA w (jq (dZ ts 0) d)) ?_
 unfold ag ag.g0
 have hd1:=hG.d1
 have hAl:(dZ ts 0).length≤268435456:=by have:=zf ts 0; have:=hG.ls.len; have:=hG.max; omega
 refine E.CallsD.mono (JE hG) fun v wc ⟨sC,sN,hv,hC,hN,hk⟩=>⟨_,_,_,_,_,_,hv,?_⟩
 have hz:=hk.size
 refine Arr.make (en:=V4) (e:=tBo) (x:=false) (by_:=1) rfl (by omega) (by omega) (by omega) fun w1 hr hk1=>?_
 rw [Int.toNat_natCast] at hr ⊢
 have hz1:=hk1.size
 have hnl:=hN.len
 rw [List.length_map] at hnl
 have hinit:(List.replicate d false)=(List.range d).map fun f=>pG [] (f:Nat):=by
  apply List.ext_getElem?
  intro j
  rw [List.getElem?_replicate,List.getElem?_map]
  by_cases hj:j<d
  ·rw [if_pos hj,List.getElem?_range hj]; rfl
  ·rw [if_neg hj,List.getElem?_eq_none (by rw [List.length_range]; omega)]; rfl
 rw [hinit] at hr
 have key:∀ (k i:Nat) (y:World),i+k=sN.n→From wc.heap.size wc y→Arr V4 tBo y (some (na wc)) d d ((List.range d).map fun f=>pG ((dZ ts 0).take i) (f:Nat)) (wc.heap.size+1) →
   ag.l10 (LsA w (jq (dZ ts 0) d)) (k+1) d sC.a sC.n sC.c sN.a sN.n sN.c (some (na wc)) d d sN.a sN.n sN.c sN.n i y:=by
  intro k
  induction k with
  | zero =>
   intro i y hi hf hr
   obtain rfl:i=(dZ ts 0).length:=by omega
   rw [List.take_length] at hr
   rw [ag.u10]; unfold ag.g10
   refine az (by omega) ?_
   have hky:=From.kept hf
   have hzy:=hky.size
   refine Exists.intro (d+1) (KX (w0:=y) (wB:=w) (F:=MP w.heap.size wc) (hC.ls.kept hky) (hN.ls.kept hky) (fun b hb=>by unfold MP at hb; omega) (by omega) (Kept.mod (Kept.trans hk hky)) hAl (fun p hp=>⟨(hG.cuts hT hp).1,(hG.cuts hT hp).2.1⟩) (by omega) hr d 0 y ⟨none,0,0⟩ 0 [] (by omega) (Kept.refl _) (aO.nil _ _ _ _) (.inl rfl) rfl fun y hy=>by cases hy)
  | succ k ih =>
   intro i y hi hf hr
   rw [ag.u10]; unfold ag.g10
   refine aI (by omega) ?_
   have hky:=From.kept hf
   have hzy:=hky.size
   refine (hN.ls.kept hky).rdN (by omega) (by omega) fun nd a' n' c' hnd hcats=>?_
   rw [Int.toNat_natCast] at hnd
   have hpi:(dZ ts 0)[i]?=some ((dZ ts 0)[i]'(by omega)):=List.getElem?_eq_getElem _
   generalize (dZ ts 0)[i]'(by omega)=p at hpi
   obtain rfl:p.1=nd:=by rw [List.getElem?_map,hpi] at hnd; exact Option.some.inj hnd
   obtain ⟨_,_,p3,p4⟩:=hG.cuts hT (List.mem_of_getElem? hpi)
   refine boxS (zs:=[.int .u8 0,.int .i64 0,.int .i64 0,.float .f64 0,.slice none 0 0,.int .u8 0,.int .i64 0,.int .i64 0]) (vs:=enH (p.1,⟨a',n',c'⟩)) (e:=tN') rfl fun z1 hA1 b1 hk1'=>?_
   refine ⟨_,hA1 2 _ rfl,?_⟩
   refine (hr.kept hk1').wr (i:=p.1.feature) (by omega) (by omega) (x:=true) rfl fun u hu ho=>aA (by omega) ?_
   rw [Lu _ _ _ p3,← take_snoc hpi] at hu
   exact ih (i+1) u (by omega) (From.then (hf.aF hk1') ho fun j _ hj=>by have hj':j+1=wc.heap.size+1:=hj; omega) hu
 exact Exists.intro (sN.n+1) (key sN.n 0 w1 (by omega) (Kept.mod hk1) hr)
end
end Go.Mir
