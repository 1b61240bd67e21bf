/- Part of a proof of laws of the seat YtmjlipmapfofmaaGreat: functions' weakest preconditions, each checked by the kernel, contracts out of them, plain lemmas; no conditions. -/
import Derived.Test.YtmjlipmapfofmaaGreatF67
set_option linter.unusedVariables false
set_option linter.unusedSimpArgs false
set_option linter.unusedSectionVars false
set_option maxRecDepth 100000
namespace Go.Mir
open Go Go.E Go.RowKit Go.Tr Go.Ss Go.ChangeShapes
section
variable {w w0 u w1 wB x:World} {F F' S:Nat→Prop} {B B' po pc g1 g2 g3 gx kk:Nat} {R:VP} {L:List dF} {e:ed} {s1 s2 s3 tc:SH} {cu:dF}
def Num (z:Nat):Prop:=iG z=false∧z<18446744073709551616
theorem Jg {c y:dF} (hc:Num c.thr) (hy:Num y.thr):(FloatKind.f64.format.order y.thr c.thr==some .gt)=ltD c y:=Ky hy.1 hc.1 hy.2 hc.2
variable {b29:ag.T29} {b50:ag.T50} {xd xf xp xx xy:Int} {ab ae ah ak aq au:OA} {nb cb ne ce nh ch nk ck nu cu':Nat}
theorem QZ (h:rf B w po e s1 s2 s3 g1 g2 g3) (hB:B≤w.heap.size) (hc:AtL w ⟨pc,0,none⟩ (lX (cu,tc))) (hcr:Arr enI tI' w tc.a tc.n tc.c cu.bH gx) (hgx:fresh B gx) (hpo:pc≠po) (hpg:pc+1≠g1) (hpw:pc<w.heap.size) (hm:s1.n≤1073741000)
  (hcu:Num cu.thr) (hL:∀ y∈e.numbers,Num y.thr)
  (hend:∀ u s1' g1',rf B u po { e with numbers:=qE ltD e.numbers cu } s1' s2 s3 g1' g2 g3→(g1'=g1∨w.heap.size<g1')→From B w u→Mod (fun k=>k+1=g1∨k=po∨w.heap.size≤k) w u→ag.j105 R b29 b50 xd ab nb cb ae ne ce ah nh ch ak nk ck xf (some ⟨po,0,none⟩) xp aq au nu cu' xx xy u) :
  ∀ k:Nat,k≤e.numbers.length→(∀ y∈e.numbers.drop k,ltD cu y=true)→ag.l78 R b29 b50 (k+1) xd ab nb cb ae ne ce ah nh ch ak nk ck xf (some ⟨po,0,none⟩) xp aq (some ⟨pc,0,none⟩) k au nu cu' xx xy w:=by
 have hl:s1.n=_:=h.r1.len
 have app:∀ k:Nat,k≤e.numbers.length→qE ltD e.numbers cu=e.numbers.take k++cu::e.numbers.drop k →
   cL w ((⟨po,0,none⟩:Addr).add 1) fun x x_1 y=>nw (w.alloc (.cells (oG 0 none 0 0 0 0 0) 76)) fun C=>dm Go.Proofs.Tryz.prog (Builtin.append_ #[72,72] 72 #[.slice x x_1 y,.slice (some (na w)) 1 1]) C fun y z=>∃ A B C,y = .slice A B C∧(bK (some (⟨po,0,none⟩:Addr)) fun y=>st z ((y.add 1).add 0) (.slice A B C) fun y=>bK (some (⟨po,0,none⟩:Addr)) fun z=>cL y (z.add 1) fun z z A=>nv (IntKind.i64.wrap ((z:Int) - 1)) fun z=>ag.e93 R b29 b50 xd ab nb cb ae ne ce ah nh ch ak nk ck xf (some ⟨po,0,none⟩) xp aq (some ⟨pc,0,none⟩) k z au nu cu' xx xy y):=by
  intro k hk hput
  refine ⟨s1.a,s1.n,s1.c,atB h.box 1 _ rfl,bU ?_⟩
  have hkn:=Kept.new w (.cells (oG 0 none 0 0 0 0 0) 76)
  have hAz:AtL (w.alloc (.cells (oG 0 none 0 0 0 0 0) 76)) (na w) (lX (⟨0,[],0,0,0⟩,⟨none,0,0⟩)):=AtL.new w (lX (⟨0,[],0,0,0⟩,⟨none,0,0⟩)) tC'
  have hzn:=hkn.size
  refine (h.kept hkn).numAt (y:=⟨0,[],0,0,0⟩) (t:=⟨none,0,0⟩) (gx:=0) hAz (Arr.nil _ _ _) (.inl rfl) (by omega) (by omega) fun u a' c' g' h' hg' hm'=>?_
  have hzu:=hm'.size
  have hl':s1.n+1=_:=h'.r1.len
  have hcu':AtL u ⟨pc,0,none⟩ (lX (cu,tc)):=(hc.kept hkn).mod hm' fun hk=>by rcases hk with hk | hk <;> simp at hk <;> omega
  have hg1:=h.r1.le
  refine ⟨a',s1.n+1,c',atB h'.box 1 _ rfl,bM (by omega) (by omega) ?_⟩
  refine Exists.intro (e.numbers.length - k+1) ?_
  have e2:(((s1.n+1:Nat):Int) - 1)=((k+(e.numbers.length - k):Nat):Int):=by omega
  rw [e2]
  have apC:=(h.kept hkn).r1.ap [tI'] (by decide)
  have hcr':Arr enI tI' u tc.a tc.n tc.c cu.bH gx:=Row.kR (es:=[tI']) (hcr.kept hkn) hm' (fun k cur ee hk hb=>by
   rcases hk with hk | hk
   ·exact apC k cur ee hk hb
   ·have hk':k=po:=hk
    subst hk'
    have hb2:=h.box.keep hkn
    rw [hb.ne hb2]
    decide) (by simp)
  refine QJ (kk:=k) (po:=po) (pc:=pc) (gx:=gx) (s2:=s2) (s3:=s3) (g2:=g2) (g3:=g3) (L:=e.numbers) (e:=e) (cu:=cu) (tc:=tc) (w0:=u) (s1:=⟨a',s1.n+1,c'⟩) (g1:=g') hk (by omega) (by omega) (fun v hv ho=>?_) (e.numbers.length - k) u ⟨0,[],0,0,0⟩ (by omega) ?_ hcu' hcr' hgx (Mod.refl _)
  ·rw [← hput] at hv
   have fr1:From B w u:=From.then (Kept.mod hkn) hm' fun j _ hj=>by
    have:=h.pB
    have:=h.r1.fr
    unfold fresh at this
    rcases hj with hj | hj <;> omega
   have fr2:From B w v:=From.then fr1 ho fun j _ hj=>by
    have hj':j+1=g':=hj
    have:=h.r1.fr
    unfold fresh at this
    omega
   have m1:Mod (fun k=>k+1=g1∨k=po∨w.heap.size≤k) w u:=Mod.trans (Kept.mod (S:=fun _=>False) hkn) hm' (fun _ _ h=>h.elim) (fun j _ hj=>by rcases hj with hj | hj; exact .inl hj; exact .inr (.inl hj))
   refine hend v _ g' hv (by omega) fr2 (Mod.trans m1 ho (fun _ _ h=>h) fun j _ hj=>?_)
   have hj':j+1=g':=hj
   show j+1=g1∨j=po∨w.heap.size≤j
   omega
  ·rw [show k+(e.numbers.length - k)=e.numbers.length by omega,List.take_length,List.drop_length]
   exact h'
 intro k
 induction k with
 | zero =>
  intro hk hd
  unfold ag.l78 ag.g78
  refine az (by omega) ?_
  exact app 0 hk (uu hk hd (.inl rfl))
 | succ k ih =>
  intro hk hd
  unfold ag.l78 ag.g78
  refine aI (by omega) ?_
  refine ⟨s1.a,s1.n,s1.c,atB h.box 1 _ rfl,bM (by omega) (by omega) ?_⟩
  refine h.r1.rd (i:=((k+1:Nat):Int) - 1) (by omega) (by omega) fun p y2 t2 gx2 hy2 hA2 _ _=>?_
  have e1:(((k+1:Nat):Int) - 1)=(k:Int):=by omega
  rw [e1,Int.toNat_natCast] at hy2
  refine ⟨_,hA2 0 _ rfl,?_⟩
  refine ⟨_,hc 0 _ rfl,?_⟩
  have eo:(FloatKind.f64.format.order y2.thr cu.thr==some .gt)=ltD cu y2:=Jg hcu (hL y2 (List.mem_of_getElem? hy2))
  show af (FloatKind.f64.format.order y2.thr cu.thr==some .gt) _ _
  rw [eo]
  refine (aH _ _ _).2 ⟨fun hlt=>?_,fun hlt=>?_⟩
  ·refine bM (by omega) (by omega) ?_
   rw [e1]
   refine ih (by omega) fun y hy=>?_
   rw [List.drop_eq_getElem_cons (by omega)] at hy
   rcases List.mem_cons.1 hy with rfl | hy
   ·rw [← (List.getElem?_eq_some_iff.1 hy2).2] at hlt
    exact hlt
   ·exact hd y hy
  ·exact app (k+1) hk (uu hk hd (.inr ⟨y2,hy2,hlt⟩))
end
end Go.Mir
