/- Part of a proof of laws of the seat YtmjlipmapfofmaaGreat: functions' weakest preconditions, each checked by the kernel, contracts out of them, plain lemmas; no conditions. -/
import Derived.Test.YtmjlipmapfofmaaGreatF69
set_option linter.unusedVariables false
set_option linter.unusedSimpArgs false
set_option linter.unusedSectionVars false
set_option maxRecDepth 100000
namespace Go.Mir
open Go Go.E Go.RowKit Go.Tr Go.Ss Go.ChangeShapes
section
variable {w w0 u w1 wB x:World} {F F' S:Nat→Prop} {B B' po pc pn g1 g2 g3 gx kk n c n1 c1:Nat} {a a1:OA} {R:VP} {L:List dF} {e:ed} {s1 s2 s3 tc:SH} {cu:dF} {A:List (ND×dF)}
structure N8 (e:ed) (i:Nat):Prop where
 n:e.numbers.length≤i
 c:e.bH.length≤i
 l:e.lost.length≤i
 num:∀ y∈e.numbers,Num y.thr
theorem Nr (L:List dF) (c:dF):(qE ltD L c).length=L.length+1:=by
 have:(qE ltD L c).Perm (c::L):=by
  unfold qE
  refine List.perm_middle.trans (List.Perm.cons _ ?_)
  rw [← List.reverse_append,List.takeWhile_append_dropWhile,List.reverse_reverse]
 simpa using this.length_eq
theorem MX {L:List dF} {c y:dF} (h:y∈qE ltD L c):y=c∨y∈L:=by
 have:(qE ltD L c).Perm (c::L):=by
  unfold qE
  refine List.perm_middle.trans (List.Perm.cons _ ?_)
  rw [← List.reverse_append,List.takeWhile_append_dropWhile,List.reverse_reverse]
 exact List.mem_cons.1 (this.mem_iff.1 h)
theorem N8.upd {nd:ND} {i:Nat} (h:N8 e i) (hc:Num cu.thr):N8 (I8 nd cu e) (i+1):=by
 have h1:=h.n
 have h2:=h.c
 have h3:=h.l
 have hp:=Nr e.numbers cu
 have hm:∀ y∈qE ltD e.numbers cu,Num y.thr:=fun y hy=>(MX hy).elim (fun e=>e ▸ hc) (h.num y)
 unfold I8
 have l1:∀ l:List dF,(l++[cu]).length=l.length+1:=fun l=>by simp
 by_cases k1:nd.kind=3
 ·by_cases k2:nd.missing=2
  ·rw [if_pos k1,if_pos k2]
   exact ⟨by show e.numbers.length≤_; omega,by show (e.bH++[cu]).length≤_; rw [l1]; omega,by show (e.lost++[cu]).length≤_; rw [l1]; omega,h.num⟩
  ·rw [if_pos k1,if_neg k2]
   exact ⟨by show e.numbers.length≤_; omega,by show (e.bH++[cu]).length≤_; rw [l1]; omega,by show e.lost.length≤_; omega,h.num⟩
 ·by_cases k2:nd.missing=2
  ·rw [if_neg k1,if_pos k2]
   exact ⟨by show (qE ltD e.numbers cu).length≤_; omega,by show e.bH.length≤_; omega,by show (e.lost++[cu]).length≤_; rw [l1]; omega,hm⟩
  ·rw [if_neg k1,if_neg k2]
   exact ⟨by show (qE ltD e.numbers cu).length≤_; omega,by show e.bH.length≤_; omega,by show e.lost.length≤_; omega,hm⟩
theorem N8.mono {i j:Nat} (h:N8 e i) (hij:i≤j):N8 e j:=⟨Nat.le_trans h.n hij,Nat.le_trans h.c hij,Nat.le_trans h.l hij,h.num⟩
variable {b29:ag.T29} {xd:Int} {f:Nat} {ab ae ah ak:OA} {nb cb ne ce nh ch nk ck:Nat}
set_option maxHeartbeats 1000000 in
theorem J4 (ha:Ls tC F w0 ab nb cb (A.map (·.2))) (hn:Ls tN F w0 ae ne ce (A.map (·.1))) (hF:∀ b,F b→b<B) (hB:B≤w0.heap.size) (hA:A.length≤268435456) (hsm:∀ p∈A,p.2.sm∧Num p.2.thr)
  (hend:∀ u s1 s2 s3 g1 g2 g3,rf B u po (uy f A ⟨f,[],[],[]⟩) s1 s2 s3 g1 g2 g3→From B w0 u→N8 (uy f A ⟨f,[],[],[]⟩) A.length →
   bK (some (⟨po,0,none⟩:Addr)) fun o=>qg u o fun o p q r s t v w x y=>nw (u.alloc (.cells (uk o p q r s t v w x y) 74)) fun o=>dm Go.Proofs.Tryz.prog (Builtin.append_ #[64,64] 64 #[.slice ak nk ck,.slice (some (na u)) 1 1]) o fun k l=>∃ m o p,k = .slice m o p∧(inc (f:Int) fun k=>b29 xd ab nb cb ae ne ce ah nh ch m o p k l)) :
  ∀ (k i:Nat) (w:World) (s1 s2 s3:SH) (g1 g2 g3:Nat),i+k=ne→rf B w po (uy f (A.take i) ⟨f,[],[],[]⟩) s1 s2 s3 g1 g2 g3→From B w0 w→N8 (uy f (A.take i) ⟨f,[],[],[]⟩) i →
   ag.l50 R b29 (k+1) xd ab nb cb ae ne ce ah nh ch ak nk ck f (some ⟨po,0,none⟩) ae ne ce ne i w:=by
 intro k
 have hnl:=hn.len
 have hal:=ha.len
 rw [List.length_map] at hnl hal
 induction k with
 | zero =>
  intro i w s1 s2 s3 g1 g2 g3 hi h hf hb
  obtain rfl:i=A.length:=by omega
  rw [List.take_length] at h hb
  unfold ag.l50 ag.g50
  refine az (by omega) ?_
  exact hend w s1 s2 s3 g1 g2 g3 h hf hb
 | succ k ih =>
  intro i w s1 s2 s3 g1 g2 g3 hi h hf hb
  unfold ag.l50 ag.g50
  refine aI (by omega) ?_
  have hz:=hf.size
  have hnw:Ls tN F w ae ne ce (A.map (·.1)):=From.ls hn hf hF
  have haw:Ls tC F w ab nb cb (A.map (·.2)):=From.ls ha hf hF
  refine hnw.rdN (by omega) (by omega) fun nd a' n' c' hnd hcats=>?_
  rw [Int.toNat_natCast] at hnd
  have hpi:A[i]?=some (A[i]'(by omega)):=List.getElem?_eq_getElem _
  generalize A[i]'(by omega)=p at hpi
  obtain rfl:p.1=nd:=by rw [List.getElem?_map,hpi] at hnd; exact Option.some.inj hnd
  have hcu:(A.map (·.2))[i]?=some p.2:=by rw [List.getElem?_map,hpi]; rfl
  obtain ⟨hps,hpn⟩:=hsm p (List.mem_of_getElem? hpi)
  refine boxS (zs:=[.int .u8 0,.int .i64 0,.int .i64 0,.float .f64 0,.slice none 0 0,.int .u8 0,.int .i64 0,.int .i64 0]) (vs:=enH (p.1,⟨a',n',c'⟩)) (e:=tN') rfl fun z1 hA1 b1 hk1=>?_
  have hz1:=hk1.size
  have b1l:=b1.lt
  refine ⟨_,hA1 2 _ rfl,?_⟩
  have hstep:uy f (A.take (i+1)) ⟨f,[],[],[]⟩=if p.1.feature=f then I8 p.1 p.2 (uy f (A.take i) ⟨f,[],[],[]⟩) else uy f (A.take i) ⟨f,[],[],[]⟩:=by rw [take_snoc hpi,AU]
  have hf1:=hf.aF hk1
  refine iJ (fun hne=>aA (by omega) (ih (i+1) z1 s1 s2 s3 g1 g2 g3 (by omega) ?_ hf1 ?_)) fun heq=>aA (by omega) ?_
  ·rw [hstep,if_neg hne]; exact h.kept hk1
  ·rw [hstep,if_neg hne]; exact hb.mono (by omega)
  rw [if_pos heq] at hstep
  have hcap:=haw.cap
  refine dJ ⟨by omega,by omega⟩ (dJ ⟨by omega,by omega⟩ ?_)
  have hsub:=(haw.kept hk1).sub (i:=i) (j:=i+1) (by omega) (by omega)
  have e1:(((A.map (·.2)).take (i+1)).drop i)=[p.2]:=by
   rw [take_snoc hcu,List.drop_append_of_le_length (by rw [List.length_take,List.length_map]; omega),List.drop_of_length_le (by rw [List.length_take,List.length_map]; omega)]
   rfl
  rw [e1] at hsub
  refine E.CallsD.mono (yF hsub (fun b hb=>by have:=hF b hb; omega) ⟨by simp,fun y hy=>by rw [List.mem_singleton.1 hy]; exact hps⟩) fun v z2 ⟨a2,n2,c2,hv,hO,hk2⟩=>⟨a2,n2,c2,hv,?_⟩
  obtain ⟨p5,t,gx,rfl,rfl,hA5,hcr5,hgx5⟩:=hO.one
  refine dJ (c:=(0:Int)≤0∧(0:Int)<((1:Nat):Int)) ⟨by omega,by omega⟩ ?_
  have hA5':AtL z2 (p5.add 0) (lX (p.2,t)):=fun j v hj=>by rw [add_add,Nat.zero_add]; exact hA5 j v hj
  refine hA5'.ldC ?_
  refine boxS (zs:=(oG 0 none 0 0 0 0 0).toList) (vs:=enC p.2 t) (e:=tC') rfl fun z3 hA6 b6 hk3=>?_
  have hz2:=hk2.size
  have hz3:=hk3.size
  have b6l:=b6.lt
  have hk23:=Kept.trans hk2 hk3
  have hk123:=Kept.trans hk1 hk23
  have h3:=h.kept hk123
  have hA13:=hA1.kept hk23
  have b13:=b1.keep hk23
  have hf3:=hf.aF hk123
  have hgx:fresh B gx:=by unfold fresh at hgx5 ⊢; omega
  have hcr:=hcr5.kept hk3
  have hbn:=hb.n
  have hbc:=hb.c
  have hbl:=hb.l
  have hl1:=h.r1.len
  have hl2:=h.r2.len
  have hl3:=h.r3.len
  have hpo:=h.box.lt
  have hg1:=h.r1.le
  have hg2:=h.r2.le
  have nat3:∀ {y:World},From B w0 y→Ls tC F y ab nb cb (A.map (·.2)):=fun hy=>From.ls ha hy hF
  have fin:∀ (u:World) (e':ed) (s1' s2' s3':SH) (g1' g2' g3':Nat),rf B u po e' s1' s2' s3' g1' g2' g3'→B≤u.heap.size→From B w0 u→AtL u ⟨w.heap.size,0,none⟩ (enH (p.1,⟨a',n',c'⟩))→s3'.n≤1073741000 →
    (if p.1.missing=2 then { e' with lost:=e'.lost++[p.2] } else e')=I8 p.1 p.2 (uy f (A.take i) ⟨f,[],[],[]⟩) →
    ag.j105 R b29 (ag.l50 R b29 (k+1)) xd ab nb cb ae ne ce ah nh ch ak nk ck f (some ⟨po,0,none⟩) i (some (na w)) ae ne ce ne i u:=by
   intro u e' s1' s2' s3' g1' g2' g3' h' hB' hfu hnu hm' he'
   refine SV h' hB' hnu (nat3 hfu) (fun b hb=>by have:=hF b hb; omega) hcu hps hm' (by omega) fun v s3'' g3'' hv hfv=>?_
   rw [he',← hstep] at hv
   refine ih (i+1) v s1' s2' s3'' g1' g2' g3'' (by omega) hv (Mod.trans hfu hfv (fun _ _ h=>h) (fun _ _ h=>h)) ?_
   rw [hstep]
   exact hb.upd hpn
  refine ⟨_,hA13 0 _ rfl,oJ (fun e3=>?_) fun e3=>?_⟩
  ·refine ⟨_,_,_,atB h3.box 2 _ rfl,hA6.ldC (bU ?_)⟩
   have hkn:=Kept.new z3 (.cells (lX (p.2,t)).toArray tC')
   have hzn:=hkn.size
   have h4:=h3.kept hkn
   refine h4.Vt (y:=p.2) (t:=t) (AtL.new z3 (lX (p.2,t)) tC') (hcr.kept hkn) hgx (by omega) (by omega) fun u a9 c9 g9 hu hg9 hmu=>?_
   have hzu:=hmu.size
   refine fin u _ _ _ _ _ _ _ hu (by omega) (Mod.trans (hf3.aF hkn) (St.from h4 h4.r2.fr hmu) (fun _ _ h=>h) (fun _ _ h=>h)) ((hA13.kept hkn).mod hmu fun hk=>by
    have hk':w.heap.size+1=g2∨w.heap.size=po:=hk
    omega) (by omega) ?_
   unfold I8
   rw [if_pos e3]
  ·refine ⟨_,_,_,atB h3.box 1 _ rfl,Exists.intro (s1.n+1) ?_⟩
   refine QZ (po:=po) (pc:=z2.heap.size) (gx:=gx) (s2:=s2) (s3:=s3) (g2:=g2) (g3:=g3) (tc:=t) (cu:=p.2) (e:=uy f (A.take i) ⟨f,[],[],[]⟩) h3 (by omega) hA6 hcr hgx (by omega) (by omega) b6l (by omega) hpn hb.num (fun u s1' g1' hu hg hfu hmu=>?_) s1.n (by omega) (fun y hy=>by rw [List.drop_of_length_le (by omega)] at hy; cases hy)
   have hzu:=hmu.size
   refine fin u _ _ _ _ _ _ _ hu (by omega) (Mod.trans hf3 hfu (fun _ _ h=>h) (fun _ _ h=>h)) (hA13.mod hmu fun hk=>by
    have hk':w.heap.size+1=g1∨w.heap.size=po∨z3.heap.size≤w.heap.size:=hk
    omega) (by omega) ?_
   unfold I8
   rw [if_neg e3]
end
end Go.Mir
