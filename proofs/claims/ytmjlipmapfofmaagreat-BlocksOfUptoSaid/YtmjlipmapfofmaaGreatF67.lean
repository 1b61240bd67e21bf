/- Part of a proof of laws of the seat YtmjlipmapfofmaaGreat: functions' weakest preconditions, each checked by the kernel, contracts out of them, plain lemmas; no conditions. -/
import Derived.Test.YtmjlipmapfofmaaGreatF66
set_option linter.unusedVariables false
set_option linter.unusedSimpArgs false
set_option linter.unusedSectionVars false
set_option maxRecDepth 100000
namespace Go.Mir
open Go Go.E Go.RowKit Go.Tr Go.Ss Go.ChangeShapes
section
variable {w w0 u w1 wB x:World} {F F' S:Nat→Prop} {B B' po pc g1 g2 g3 gx kk:Nat} {R:VP} {L:List dF} {e:ed} {s1 s2 s3 tc:SH} {cu:dF}
theorem rf.set1 (h:rf B w po e s1 s2 s3 g1 g2 g3) {cs':List dF} (hr:pJ B u s1 cs' g1) (ho:Only g1 w u):rf B u po { e with numbers:=cs' } s1 s2 s3 g1 g2 g3:=by
 have ap:=h.r1.ap
 exact ⟨h.box.mod ho fun hk=>ap [tL'] (by decide) _ _ _ hk h.box (by simp),hr,h.r2.other ho (by have:=h.a12; omega) (ap [tI'] (by decide)),h.r3.other ho (by have:=h.a13; omega) (ap [tI'] (by decide)),h.a12,h.a13,h.a23,h.pB⟩
theorem set_mid {α:Type} (L:List α) (t:Nat) (y z:α) (ht:t≤L.length):(L.take t++y::L.drop t).set t z=L.take t++z::L.drop t:=by
 have hl:(L.take t).length=t:=by rw [List.length_take]; omega
 rw [List.set_append_right _ _ (by omega),hl,Nat.sub_self]
 rfl
theorem IM {α:Type} (L:List α) (t:Nat) (z:α) (hz:L[t]?=some z):L.take (t+1)++z::L.drop (t+1)=L.take t++z::L.drop t:=by
 have hlt:=(List.getElem?_eq_some_iff.1 hz).1
 rw [take_snoc hz,List.drop_eq_getElem_cons hlt,(List.getElem?_eq_some_iff.1 hz).2,List.append_assoc]
 rfl
theorem uu {L:List dF} {c:dF} {k:Nat} (hk:k≤L.length) (h1:∀ y∈L.drop k,ltD c y=true) (h2:k=0∨∃ y,L[k - 1]?=some y∧ltD c y=false):qE ltD L c=L.take k++c::L.drop k:=by
 have e:L.reverse=(L.drop k).reverse++(L.take k).reverse:=by rw [← List.reverse_append,List.take_append_drop]
 have h1':∀ y∈(L.drop k).reverse,ltD c y=true:=fun y hy=>h1 y (List.mem_reverse.1 hy)
 have hd:(L.take k).reverse.dropWhile (fun y=>ltD c y)=(L.take k).reverse∧(L.take k).reverse.takeWhile (fun y=>ltD c y)=[]:=by
  rcases h2 with rfl | ⟨y,hy,hf⟩
  ·simp
  ·by_cases h0:k=0
   ·subst h0; simp
   ·have ht:L.take k=L.take (k - 1)++[y]:=by
     have:=take_snoc hy
     rwa [Nat.sub_add_cancel (by omega)] at this
    rw [ht,List.reverse_append]
    simp [hf]
 unfold qE
 rw [e,List.dropWhile_append_of_pos h1',List.takeWhile_append_of_pos h1',hd.1,hd.2]
 simp
variable {b29:ag.T29} {b50:ag.T50} {xd xf xp xx xy:Int} {ab ae ah ak aq au:OA} {nb cb ne ce nh ch nk ck nu cu':Nat}
theorem QJ (hkk:kk≤L.length) (hL:L.length≤1073741824) (hpc1:pc+1≠g1)
  (hend:∀ u,rf B u po { e with numbers:=L.take kk++cu::L.drop kk } s1 s2 s3 g1 g2 g3→Only g1 w0 u→ag.j105 R b29 b50 xd ab nb cb ae ne ce ah nh ch ak nk ck xf (some ⟨po,0,none⟩) xp aq au nu cu' xx xy u) :
  ∀ (j:Nat) (w:World) (y:dF),kk+j≤L.length→rf B w po { e with numbers:=L.take (kk+j)++y::L.drop (kk+j) } s1 s2 s3 g1 g2 g3→AtL w ⟨pc,0,none⟩ (lX (cu,tc))→Arr enI tI' w tc.a tc.n tc.c cu.bH gx→fresh B gx→Only g1 w0 w →
   ag.l93 R b29 b50 (j+1) xd ab nb cb ae ne ce ah nh ch ak nk ck xf (some ⟨po,0,none⟩) xp aq (some ⟨pc,0,none⟩) kk ((kk+j:Nat):Int) au nu cu' xx xy w:=by
 intro j
 induction j with
 | zero =>
  intro w y hj h hc hcr hgx ho0
  unfold ag.l93 ag.g93
  refine az (by omega) ?_
  have hl:s1.n=_:=h.r1.len
  simp only [List.length_append,List.length_cons,List.length_take,List.length_drop] at hl
  refine ⟨s1.a,s1.n,s1.c,atB h.box 1 _ rfl,hc.ldC ?_⟩
  refine h.r1.wr (i:=(kk:Int)) (t:=tc) (by omega) (by omega) hcr hgx fun u hr ho=>hend u ?_ (Mod.trans ho0 ho (fun _ _ h=>h) (fun _ _ h=>h))
  have:=h.set1 hr ho
  rw [Int.toNat_natCast] at this
  rw [Nat.add_zero,set_mid _ _ _ _ hkk] at this
  exact this
 | succ j ih =>
  intro w y hj h hc hcr hgx ho0
  unfold ag.l93 ag.g93
  refine aI (by omega) ?_
  have hl:s1.n=_:=h.r1.len
  simp only [List.length_append,List.length_cons,List.length_take,List.length_drop] at hl
  refine ⟨s1.a,s1.n,s1.c,atB h.box 1 _ rfl,s1.a,s1.n,s1.c,atB h.box 1 _ rfl,?_⟩
  refine bM (by omega) (by omega) ?_
  refine h.r1.rd (i:=((kk+(j+1):Nat):Int) - 1) (by omega) (by omega) fun p y2 t2 gx2 hy2 hA2 hc2 hg2=>hA2.ldC ?_
  refine h.r1.wr (i:=((kk+(j+1):Nat):Int)) (t:=t2) (by omega) (by omega) hc2 hg2 fun u hr ho=>?_
  refine bM (by omega) (by omega) ?_
  have e1:(((kk+(j+1):Nat):Int) - 1)=((kk+j:Nat):Int):=by omega
  rw [e1]
  have ap:=h.r1.ap
  have hg1:=h.r1.le
  rw [e1,Int.toNat_natCast,List.getElem?_append_left (by rw [List.length_take]; omega),List.getElem?_take_of_lt (by omega)] at hy2
  refine ih u y2 (by omega) ?_ (hc.mod ho fun hk=>hpc1 hk) (Row.kR hcr ho (ap [tI'] (by decide)) (by simp)) hgx (Mod.trans ho0 ho (fun _ _ h=>h) (fun _ _ h=>h))
  have:=h.set1 hr ho
  rw [Int.toNat_natCast,set_mid _ _ _ _ (by omega),show kk+(j+1)=(kk+j)+1 by omega,IM _ _ _ hy2] at this
  exact this
end
end Go.Mir
