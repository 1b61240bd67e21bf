/- Part of a proof of laws of the seat YtmjlipmapfofmaaGreat: functions' weakest preconditions, each checked by the kernel, contracts out of them, plain lemmas; no conditions. -/
import Derived.Test.YtmjlipmapfofmaaGreatF70
set_option linter.unusedVariables false
set_option linter.unusedSimpArgs false
set_option linter.unusedSectionVars false
set_option maxRecDepth 100000
namespace Go.Mir
open Go Go.E Go.RowKit Go.Tr Go.Ss Go.ChangeShapes
section
variable {w w0 u w1 wB x:World} {F F' S:Nat→Prop} {B B' po pc pn g1 g2 g3 gx kk n c n1 c1 g:Nat} {a a1:OA} {R:VP} {L:List dF} {e:ed} {s1 s2 s3 tc:SH} {cu:dF} {A:List (ND×dF)} {ts:List TD}
abbrev V4 (b:Bool):Value := .bool b
abbrev tBo:Nat:=4
theorem rf.lst (h:rf B w po e s1 s2 s3 g1 g2 g3):uC (fun b=>B≤b∧b<w.heap.size) w (e,s1,s2,s3):=by
 have one:∀ {s:SH} {cs:List dF} {g:Nat},pJ B w s cs g→Ls tC (fun b=>B≤b∧b<w.heap.size) w s.a s.n s.c cs:=fun h=>by
  obtain ⟨⟨l,h1,h2,h3⟩,h4⟩:=h
  exact pg.ls ⟨_,l,h1,h4,h2,h3⟩
 exact ⟨one h.r1,one h.r2,one h.r3⟩
theorem Gv (A:List (ND×dF)) (p:ND×dF) (f:Int):pG (A++[p]) f=(pG A f||p.1.feature==f):=by
 unfold pG
 rw [List.any_append]
 simp
theorem Lu (A:List (ND×dF)) (p:ND×dF) (d:Nat) (h0:0≤p.1.feature):((List.range d).map fun f=>pG A (f:Nat)).set p.1.feature.toNat true=(List.range d).map fun f=>pG (A++[p]) (f:Nat):=by
 apply List.ext_getElem?
 intro j
 rw [List.getElem?_set,List.getElem?_map,List.getElem?_map,List.length_map,List.length_range]
 by_cases hj:j<d
 ·rw [List.getElem?_range hj]
  simp only [Option.map_some,Gv]
  by_cases hf:p.1.feature.toNat=j
  ·rw [if_pos hf,if_pos (by omega)]
   have:(p.1.feature==(j:Int))=true:=by simp; omega
   rw [this,Bool.or_true]
  ·rw [if_neg hf]
   have:(p.1.feature==(j:Int))=false:=by simp; omega
   rw [this,Bool.or_false]
 ·have e:(List.range d)[j]?=none:=List.getElem?_eq_none (by rw [List.length_range]; omega)
  rw [e]
  by_cases hf:p.1.feature.toNat=j
  ·rw [if_pos hf,if_neg (by omega)]; rfl
  ·rw [if_neg hf]; rfl
abbrev LsA (w:World) (L:List ed):VP:=fun v u=>∃ a n c,v = .slice a n c∧Ls tL (nwB w u) u a n c L∧Kept w u
variable {ab ae ah ak:OA} {nb cb ne ce nh ch nk ck d:Nat}
set_option maxHeartbeats 1000000 in
theorem KX (ha:Ls tC F w0 ab nb cb (A.map (·.2))) (hn:Ls tN F w0 ae ne ce (A.map (·.1))) (hF:∀ b,F b→b<w0.heap.size) (hB:wB.heap.size≤w0.heap.size) (hkB:From wB.heap.size wB w0) (hA:A.length≤268435456) (hsm:∀ p∈A,p.2.sm∧Num p.2.thr) (hd:d≤65536)
  (hu:Arr V4 tBo w0 ah nh ch ((List.range d).map fun f=>pG A (f:Nat)) g) :
  ∀ (k f:Nat) (w:World) (sO:SH) (gO:Nat) (ll:List LD),f+k=d→Kept w0 w→aO 4 Rl tL' w sO.a sO.n sO.c ll gO→(gO=0∨w0.heap.size<gO)→ll.map (·.1)=jq A f→(∀ y∈ll,uC (fun b=>w0.heap.size≤b∧b<w.heap.size∧b+1≠gO) w y) →
   ag.l29 (LsA wB (jq A d)) (k+1) d ab nb cb ae ne ce ah nh ch sO.a sO.n sO.c f w:=by
 intro k
 have hnl:=hn.len
 have hnu:=hu.len
 rw [List.length_map,List.length_range] at hnu
 induction k with
 | zero =>
  intro f w sO gO ll hf hk hl hg hm hx
  obtain rfl:f=d:=by omega
  rw [ag.u29]; unfold ag.g29
  refine az (by omega) ?_
  have hz:=hk.size
  have hle:=Row.le hl
  refine ⟨_,_,_,rfl,?_,From.kept (hkB.aF hk)⟩
  rw [← hm]
  exact lsL hl (fun b hb=>⟨by omega,by omega⟩) fun y hy=>(hx y hy).mono fun b hb=>⟨by have:=hb.1; omega,hb.2.1⟩
 | succ k ih =>
  intro f w sO gO ll hf hk hl hg hm hx
  rw [ag.u29]; unfold ag.g29
  refine aI (by omega) ?_
  have hz:=hk.size
  have hle:=Row.le hl
  have hln:=aO.len (k:=4) (en:=Rl) (fun _=>rfl) (by omega) hl
  have hll:ll.length≤f:=by
   have:=congrArg List.length hm
   rw [List.length_map] at this
   have h2:∀ f:Nat,(jq A f).length≤f:=fun f=>by
    induction f with
    | zero=>exact Nat.le_refl _
    | succ f ih=>unfold jq; rw [List.length_append]; split <;> simp <;> omega
   have:=h2 f
   omega
  have huw:=hu.kept hk
  refine (huw.sl).rd (sel:=fun x=>x) (fun _=>rfl) (i:=(f:Int)) (by omega) (by omega) fun b hb=>?_
  rw [Int.toNat_natCast,List.getElem?_map,List.getElem?_range (by omega)] at hb
  obtain rfl:pG A (f:Nat)=b:=Option.some.inj hb
  cases hus:pG A (f:Nat) with
  | false =>
   refine F7 (aA (by omega) (ih (f+1) w sO gO ll (by omega) hk hl hg ?_ hx))
   rw [hm]
   show _=jq A f++if pG A (f:Nat)=true then _ else []
   rw [hus,if_neg (by decide),List.append_nil]
  | true =>
   refine DR ?_
   refine boxS (zs:=(uk 0 none 0 0 none 0 0 none 0 0).toList) (vs:=enL ⟨(f:Int),[],[],[]⟩ ⟨none,0,0⟩ ⟨none,0,0⟩ ⟨none,0,0⟩) (e:=tL') rfl fun w1 hA1 b1 hk1=>?_
   have hz1:=hk1.size
   have hk01:=Kept.trans hk hk1
   have h0:rf w.heap.size w1 w.heap.size ⟨(f:Int),[],[],[]⟩ ⟨none,0,0⟩ ⟨none,0,0⟩ ⟨none,0,0⟩ 0 0 0:=⟨b1,pJ.nil _ _,pJ.nil _ _,pJ.nil _ _,.inl rfl,.inl rfl,.inl rfl,Nat.le_refl _⟩
   have hend:∀ u s1 s2 s3 g1 g2 g3,rf w.heap.size u w.heap.size (uy f A ⟨f,[],[],[]⟩) s1 s2 s3 g1 g2 g3→From w.heap.size w1 u→N8 (uy f A ⟨f,[],[],[]⟩) A.length →
     bK (some (⟨w.heap.size,0,none⟩:Addr)) fun o=>qg u o fun o p q r s t v w x y=>nw (u.alloc (.cells (uk o p q r s t v w x y) 74)) fun o=>dm Go.Proofs.Tryz.prog (Builtin.append_ #[64,64] 64 #[.slice sO.a sO.n sO.c,.slice (some (na u)) 1 1]) o fun k' l=>∃ m o p,k' = .slice m o p∧(inc (f:Int) fun k'=>ag.l29 (LsA wB (jq A d)) (k+1) d ab nb cb ae ne ce ah nh ch m o p k' l):=by
    intro u s1 s2 s3 g1 g2 g3 h hfu _
    have hku:Kept w u:=From.kept (Mod.trans (Kept.mod (S:=fun k=>w.heap.size≤k) hk1) hfu (fun _ _ h=>h) (fun _ _ h=>h))
    have hzu:=hku.size
    refine (atB h.box).ldL ?_
    refine aO.oz (P:=Go.Proofs.Tryz.prog) (k:=4) (en:=Rl) (ys:=[(uy f A ⟨f,[],[],[]⟩,s1,s2,s3)]) (m:=1) S54 (fun _=>rfl) (by omega) (aO.kept hl hku) Nv rfl rfl (by omega) (by simp only [maxLen]; omega) (by omega) fun a5 c5 g5 w5 r5 hg5 _ ho5=>⟨a5,sO.n+1,c5,rfl,aA (by omega) ?_⟩
    have hz5:=ho5.size
    have hk5:Kept w0 w5:=From.kept (From.then (Kept.mod (Kept.trans hk hku)) ho5 fun k _ hk=>by have hk':k+1=gO:=hk; omega)
    refine ih (f+1) w5 ⟨a5,sO.n+1,c5⟩ g5 (ll++[(uy f A ⟨f,[],[],[]⟩,s1,s2,s3)]) (by omega) hk5 r5 (by omega) ?_ fun y hy=>?_
    ·rw [List.map_append,hm]
     show _=jq A f++if pG A (f:Nat)=true then _ else []
     rw [hus,if_pos rfl]
     rfl
    ·rcases List.mem_append.1 hy with hy | hy
     ·have key:∀ b,(w0.heap.size≤b∧b<w.heap.size∧b+1≠gO)→(w0.heap.size≤b∧b<w5.heap.size∧b+1≠g5):=fun b ⟨k1,k2,k3⟩=>⟨k1,by omega,by rcases hg5 with e | e <;> omega⟩
      exact (((hx y hy).kept hku).mod ho5 fun b hb hk=>hb.2.2 hk).mono key
     ·obtain rfl:=List.mem_singleton.1 hy
      exact ((h.lst).mod ho5 fun b hb hk=>by have hk':b+1=gO:=hk; have:=hb.1; omega).mono fun b hb=>⟨by have:=hb.1; omega,by have:=hb.2; omega,by have h1:=hb.1; have h2:=hb.2; rcases hg5 with e | e <;> omega⟩
   exact Exists.intro (ne+1) (J4 (B:=w.heap.size) (w0:=w1) (F:=F) (po:=w.heap.size) (ha.kept hk01) (hn.kept hk01) (fun b hb=>by have:=hF b hb; omega) (by omega) hA hsm hend ne 0 w1 ⟨none,0,0⟩ ⟨none,0,0⟩ ⟨none,0,0⟩ 0 0 0 (by omega) h0 (From.refl _ _) ⟨Nat.zero_le _,Nat.zero_le _,Nat.zero_le _,fun y hy=>by cases hy⟩)
end
end Go.Mir
