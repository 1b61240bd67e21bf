/- Part of a proof of laws of the seat YtmjlipmapfofmaaGreat: functions' weakest preconditions, each checked by the kernel, contracts out of them, plain lemmas; no conditions. -/
import Derived.Test.YtmjlipmapfofmaaGreatF68
set_option linter.unusedVariables false
set_option linter.unusedSimpArgs false
set_option linter.unusedSectionVars false
set_option maxRecDepth 100000
namespace Go.Mir
open Go Go.E Go.RowKit Go.Tr Go.Ss Go.ChangeShapes
section
variable {w w0 u w1 wB x:World} {F F' S:Nat→Prop} {B B' po pc pn g1 g2 g3 gx kk n c n1 c1:Nat} {a a1:OA} {R:VP} {L:List dF} {e:ed} {s1 s2 s3 tc:SH} {cu:dF}
theorem pg.one {y:dF} (h:pg B w a n c [y]):∃ p t gx,a=some p∧n=1∧AtL w p (lX (y,t))∧Arr enI tI' w t.a t.n t.c y.bH gx∧fresh B gx:=by
 have hn:=h.len
 obtain ⟨g,l,h1,h2,h3,h4⟩:=h
 obtain ⟨⟨y',t⟩,rfl⟩:∃ z,l=[z]:=by
  cases l with
  | nil=>cases h3
  | cons z l=>cases l with
   | nil=>exact ⟨z,rfl⟩
   | cons z' l=>simp at h3
 obtain rfl:y=y':=by simpa using h3
 obtain ⟨p,hp,hc⟩:=(aO.slk (k:=5) (en:=lX) (fun _=>rfl) (by omega) h1).get 0 (y,t) rfl
 obtain ⟨gx,k1,k2⟩:=h4 (y,t) (.head _)
 exact ⟨p,t,gx,hp,hn,fun j v hj=>by have:=hc j v hj; simpa using this,k1,k2⟩
theorem yF {xs:List dF} (hs:Ls tC F w a1 n1 c1 xs) (hF:∀ b,F b→b<w.heap.size) (hm:vX xs):E.CallsD Go.Proofs.Tryz.prog 37 #[.slice a1 n1 c1] w fun v u=>∃ a' n' c',v = .slice a' n' c'∧pg w.heap.size u a' n' c' xs∧Kept w u:=by
 refine bz.calls (R:=fun v u=>∃ a' n' c',v = .slice a' n' c'∧pg w.heap.size u a' n' c' xs∧Kept w u) ?_
 unfold bz bz.g0
 have hl:=hs.len
 have hmx:xs.length≤1073741824:=hm.1
 have key:∀ (k i:Nat) (u:World) (a:OA) (n c:Nat),i+k=n1→n=i→From w.heap.size w u→pg w.heap.size u a n c (xs.take i) →
   bz.l8 (fun v u=>∃ a' n' c',v = .slice a' n' c'∧pg w.heap.size u a' n' c' xs∧Kept w u) (k+1) a n c a1 n1 c1 n1 i u:=by
  intro k
  induction k with
  | zero =>
   intro i u a n c hi hni hk h
   obtain rfl:i=n1:=by omega
   rw [bz.u8]; unfold bz.g8
   refine az (by omega) ?_
   rw [List.take_of_length_le (by omega)] at h
   exact ⟨a,n,c,rfl,h,From.kept hk⟩
  | succ k ih =>
   intro i u a n c hi hni hf h
   rw [bz.u8]; unfold bz.g8
   refine aI (by omega) ?_
   have hk:=From.kept hf
   refine (hs.kept hk).rdC (by omega) (by omega) fun x a' n' c' hx hcs=>?_
   rw [Int.toNat_natCast] at hx
   have hsm:x.bH.length≤1048576:=hm.2 x (List.mem_of_getElem? hx)
   refine boxS (zs:=(oG 0 none 0 0 0 0 0).toList) (vs:=enC x ⟨a',n',c'⟩) rfl fun u1 hA hb1 hk1=>?_
   have hcl:=hcs.len
   have hz:=hk.size
   have hz1:=hk1.size
   have hb1l:=hb1.lt
   refine ⟨_,_,_,hA 1 _ rfl,?_⟩
   refine Arr.pushes S59 (Arr.nil enI tI' u1) (fun _=>rfl) (hcs.kept hk1).sl (by simp only [maxLen]; omega) (by omega) fun a2 c2 g2 u2 r2 hg2 ho2=>⟨a2,_,c2,rfl,?_⟩
   rw [List.nil_append] at r2
   have hk2:Kept u1 u2:=Mod.kept ho2 fun k hk h=>by have h':k+1=0:=h; omega
   have hb2:=hb1.keep hk2
   refine stB hb2 (by simp) fun u3 hb3 ho3=>?_
   have hb3':Blk u3 u.heap.size (enC x ⟨a2,0+n',c2⟩).toArray tC':=hb3
   have hk12:=Kept.trans hk1 hk2
   have r3:Arr enI tI' u3 a2 (0+n') c2 x.bH g2:=Row.kR r2 ho3 (Blk.ve (es:=[tI']) hb2 (by decide)) (by simp)
   have h3:pg w.heap.size u3 a n c (xs.take i):=by
    obtain ⟨g,l,q1,q2,q3,q4⟩:=h
    have hgl:=Row.le q1
    exact ⟨g,l,aO.mod (aO.kept q1 hk12) ho3 (fun k hk hk2=>by have hk':k+1=u.heap.size+1:=hk2; omega),q2,q3,fun y hy=>let ⟨gx,k1,k2⟩:=q4 y hy; ⟨gx,Row.kR (k1.kept hk12) ho3 (Blk.ve (es:=[tI']) hb2 (by decide)) (by simp),k2⟩⟩
   have hz3:=ho3.size
   have hz2:=hk2.size
   refine (atB hb3').ldC ?_
   have hnl:=h.len
   rw [List.length_take] at hnl
   refine pg.push (y:=x) (s:=⟨a2,0+n',c2⟩) h3 r3 (by unfold fresh; omega) (by omega) (by omega) fun a5 c5 u5 g5 hO ho5=>⟨a5,n+1,c5,rfl,aA (by omega) ?_⟩
   refine ih (i+1) u5 a5 (n+1) c5 (by omega) (by omega) (Mod.trans (From.then (hf.aF hk12) ho3 fun k _ hk=>by have hk':k+1=u.heap.size+1:=hk; omega) ho5.from (fun _ _ h=>h) (fun _ _ h=>h)) ?_
   rw [take_snoc hx]
   exact hO
 exact Exists.intro (n1+1) (key n1 0 w none 0 0 (by omega) rfl (From.refl _ _) (pg.nil _ _))
variable {b29:ag.T29} {b50:ag.T50} {xd xf xx:Int} {ab ae ah ak au:OA} {nb cb ne ce nh ch nk ck nu cu' i:Nat} {all:List dF} {nd:ND} {sx:SH}
def FLo (B:Nat) (cu:dF):Nat→Value→World→Prop:=fun i v u=>match i with
 | 7=>∃ a n c,v = .slice a n c∧pg B u a n c [cu]
 | 9=>∃ (t:SH) (gx:Nat),v=vC cu t∧Arr enI tI' u t.a t.n t.c cu.bH gx∧fresh B gx
 | _=>∃ (p:Addr) (t:SH) (gx:Nat),v = .slice (some p) 1 1∧AtL u p (lX (cu,t))∧Arr enI tI' u t.a t.n t.c cu.bH gx∧fresh B gx
theorem FLo.keep (i:Nat) (v:Value) (u u':World) (h:FLo B cu i v u) (hk:Below u.heap.size u u'):FLo B cu i v u':=by
 unfold FLo at h ⊢
 split at h
 ·obtain ⟨a,n,c,h1,h2⟩:=h
  exact ⟨a,n,c,h1,h2.kept hk⟩
 ·obtain ⟨t,gx,h1,h2,h3⟩:=h
  exact ⟨t,gx,h1,h2.kept hk,h3⟩
 ·obtain ⟨p,t,gx,h1,h2,h3,h4⟩:=h
  exact ⟨p,t,gx,h1,h2.kept hk,h3.kept hk,h4⟩
theorem SV (h:rf B w po e s1 s2 s3 g1 g2 g3) (hB:B≤w.heap.size) (hn:AtL w ⟨pn,0,none⟩ (enH (nd,sx))) (ha:Ls tC F w ab nb cb all) (hF:∀ b,F b→b<w.heap.size) (hcu:all[i]?=some cu) (hsm:cu.sm) (hm:s3.n≤1073741000) (hnb:nb≤1073741000)
  (hend:∀ u s3' g3',rf B u po (if nd.missing=2 then { e with lost:=e.lost++[cu] } else e) s1 s2 s3' g1 g2 g3'→From B w u→b50 xd ab nb cb ae ne ce ah nh ch ak nk ck xf (some ⟨po,0,none⟩) au nu cu' xx ((i+1:Nat):Int) u) :
  ag.j105 R b29 b50 xd ab nb cb ae ne ce ah nh ch ak nk ck xf (some ⟨po,0,none⟩) i (some ⟨pn,0,none⟩) au nu cu' xx i w:=by
 unfold ag.j105 ag.Vy
 have hal:=ha.len
 have hil:=(List.getElem?_eq_some_iff.1 hcu).1
 refine ⟨_,hn 5 _ rfl,oJ (fun e2=>?_) fun e2=>aA (by omega) (hend w s3 g3 (by rw [if_neg e2]; exact h) (From.refl _ _))⟩
 refine ⟨FLo B cu,FLo.keep,_,_,_,atB h.box 3 _ rfl,aA (by omega) ?_⟩
 have hcap:=ha.cap
 refine dJ ⟨by omega,by omega⟩ (dJ ⟨by omega,by omega⟩ ⟨fun o ho=>?_,fun a2 n2 c2 h7=>?_⟩)
 ·have hsub:=(ha.kept ho).sub (i:=i) (j:=i+1) (by omega) (by omega)
  have e1:((all.take (i+1)).drop i)=[cu]:=by
   rw [take_snoc hcu,List.drop_append_of_le_length (by rw [List.length_take]; omega),List.drop_of_length_le (by rw [List.length_take]; omega)]
   rfl
  rw [e1] at hsub
  have hz:=ho.size
  refine E.CallsD.mono (yF hsub (fun b hb=>by have:=hF b hb; omega) ⟨by simp,fun y hy=>by rw [List.mem_singleton.1 hy]; exact hsm⟩) fun v u ⟨a',n',c',hv,hO,hk⟩=>⟨a',n',c',hv,⟨a',n',c',rfl,hO.weak (by omega)⟩,hk⟩
 ·obtain ⟨o7,ho7,a7,n7,c7,e7,hO7⟩:=h7
  obtain ⟨rfl,rfl,rfl⟩:a2=a7∧n2=n7∧c2=c7:=by simpa using e7
  obtain ⟨p,t,gx,rfl,rfl,_⟩:=hO7.one
  refine dJ (c:=(0:Int)≤0∧(0:Int)<((1:Nat):Int)) ⟨by omega,by omega⟩ ?_
  refine ⟨fun D hD h7=>?_,fun y1 y2 y3 y4 y5 y6 y7 h9=>?_⟩
  ·obtain ⟨a8,n8,c8,e8,hO8⟩:=h7
   obtain ⟨rfl,rfl,rfl⟩:some p=a8∧1=n8∧c2=c8:=by simpa using e8
   obtain ⟨p',t',gx',hp',_,hA,k1,k2⟩:=hO8.one
   obtain rfl:=Option.some.inj hp'
   have hA':AtL D (p.add 0) (lX (cu,t')):=fun j v hj=>by rw [add_add,Nat.zero_add]; exact hA j v hj
   exact hA'.ldC ⟨t',gx',rfl,k1,k2⟩
  ·obtain ⟨o9,_,t9,gx9,hv9,_⟩:=h9
   have inj9:∀ {t:SH},oI y1 y2 y3 y4 y5 y6 y7=vC cu t→y1=cu.thr∧y2=t.a∧y3=t.n∧y4=t.c∧y5=cu.tree∧y6=cu.frm∧y7=cu.to:=fun h=>by
    simp [vC] at h
    obtain ⟨h1,⟨h2,h3,h4⟩,h5,h6,h7⟩:=h
    exact ⟨h1,h2,h3,h4,h5,h6,h7⟩
   obtain ⟨rfl,rfl,rfl,rfl,rfl,rfl,rfl⟩:=inj9 hv9
   refine ⟨fun J hJ h7 h9=>?_,fun J hJ K hK h7 h9 h10=>?_⟩
   ·obtain ⟨t',gx',hv',k1,k2⟩:=h9
    obtain ⟨_,e2',e3,e4,_⟩:=inj9 hv'
    have et:t9=t':=by cases t9; cases t'; simp at e2' e3 e4; simp [e2',e3,e4]
    subst et
    exact ⟨na J,t9,gx',rfl,AtL.new J (lX (cu,t9)) tC',k1.kept (Kept.new _ _),k2⟩
   ·obtain ⟨p',t',gx',hv',hA,k1,k2⟩:=h10
    obtain rfl:J=p':=by simpa using hv'
    have hz:=hK.size
    refine (h.kept hK).SL hA k1 k2 (by omega) (by omega) fun u a' c' g' h' hg' hm'=>aA (by omega) (hend u _ g' (by rw [if_pos e2]; exact h') ?_)
    exact Mod.trans (Kept.mod (S:=fun k=>B≤k) hK) (St.from (h.kept hK) h.r3.fr hm') (fun _ _ h=>h) (fun _ _ h=>h)
end
end Go.Mir
