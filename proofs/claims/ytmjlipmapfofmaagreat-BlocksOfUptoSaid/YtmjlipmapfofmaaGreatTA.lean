/- Part of a proof of laws of the seat YtmjlipmapfofmaaGreat: functions' weakest preconditions, each checked by the kernel, contracts out of them, plain lemmas; no conditions. -/
import Derived.Test.YtmjlipmapfofmaaGreatEC
import Derived.Test.YtmjlipmapfofmaaGreatTMA
set_option linter.unusedVariables false
set_option linter.unusedSimpArgs false
set_option linter.unusedSectionVars false
namespace Go.Mir
open Go Go.E Go.RowKit Go.Tr
theorem fb (w:World) (f:Nat):pV Go.Proofs.Tryz.prog (callFunc 56 #[.float .f64 f]) w (.int .u64 (f:Int)):=fun d=>by kernel_rfl
abbrev enI (x:Int):Value := .int .i64 x
section
variable {w:World} {x:ND} {a:Option Addr} {n c:Nat}
theorem UX (w:World) (f:Nat):Pure Go.Proofs.Tryz.prog 113 #[.float .f64 f] w (.bool (iG f)):=by
 refine dO.calls (R:=fun v' u=>v'=_∧Below w.heap.size w u) ?_
 unfold dO dO.g0
 exact ⟨rfl,Below.refl _ _⟩
theorem wK (w:World) (x:ND) (a:Option Addr) (n c:Nat):Pure Go.Proofs.Tryz.prog 86 #[vN x a n c] w (.bool x.inner):=by
 refine iy.calls (R:=fun v' u=>v'=_∧Below w.heap.size w u) ?_
 unfold iy iy.g0
 refine Sv fun u _ h8 hk=>⟨_,h8.c0,?_⟩
 refine oJ (fun h=>⟨by simp [ND.inner,h],hk⟩) fun h=>⟨_,h8.c0,?_,hk⟩
 simp [ND.inner,h]
end
end Go.Mir
set_option maxRecDepth 100000
namespace Go.Mir
open Go Go.E Go.RowKit Go.Tr
section
variable {w:World} {x:ND} {a:Option Addr} {n c:Nat} {f:Nat}
end
end Go.Mir
set_option maxRecDepth 100000
namespace Go.Mir
open Go Go.E Go.RowKit Go.Tr
section
variable {w:World} {x:ND} {a:Option Addr} {n c:Nat} {f:Nat} {xs:List Int}
theorem drop_cons {α:Type} {xs:List α} {i:Nat} {y:α} (h:xs[i]?=some y):xs.drop i=y::xs.drop (i+1):=by
 obtain ⟨hlt,rfl⟩:=List.getElem?_eq_some_iff.1 h
 exact List.drop_eq_getElem_cons hlt
def prev (xs:List Int) (i:Nat):Int:=if i=0 then -1 else xs.getD (i - 1) (-1)
theorem lu {i:Nat} {y:Int} (h:xs[i]?=some y):prev xs (i+1)=y:=by
 unfold prev
 rw [if_neg (by omega),List.getD_eq_getElem?_getD,Nat.add_sub_cancel,h]
 rfl
theorem wE {R:Value→World→Prop} {w0:World} (hn:n=xs.length) (hm:n≤16777216) (hR:∀ u,Kept w0 u→R (.bool (nZ xs)) u) :
  ∀ (k i:Nat) (w:World),i+k=n→Sl enI w a n xs→Kept w0 w → -1≤prev xs i→nZ xs=(!xs.isEmpty&&eQ (prev xs i) (xs.drop i))→bD.l6 R (k+1) a n c a n c n i w
 | 0,i,w,hi,hs,hk,hp,he=>by
  rw [bD.u6]; unfold bD.g6
  refine az (by omega) ?_
  rw [List.drop_eq_nil_of_le (by omega)] at he
  have:=hR w hk
  rw [he] at this
  have e:(decide ((n:Int)>0))=(!xs.isEmpty&&eQ (prev xs i) []):=by
   unfold eQ
   cases xs with
   | nil=>subst hn; simp
   | cons y l=>subst hn; simp
  rw [e]
  exact this
 | k+1,i,w,hi,hs,hk,hp,he=>by
  rw [bD.u6]; unfold bD.g6
  refine aI (by omega) ?_
  refine hs.rdI (k := .i64) (by omega) (by omega) fun y hy=>?_
  have hy':xs[i]?=some y:=by simpa using hy
  rw [drop_cons hy',show ∀ p l,eQ p (y::l)=(decide (p<y)&&decide (y<1024)&&eQ y l) from fun _ _=>rfl] at he
  have no:(¬ prev xs i<y∨¬ y<1024)→R (.bool false) w:=fun h=>by
   have:=hR w hk
   rw [he] at this
   have e:(decide (prev xs i<y)&&decide (y<1024)&&eQ y (xs.drop (i+1)))=false:=by
    rcases h with h | h <;> simp [h]
   rw [e,Bool.and_false] at this
   exact this
  have yes:prev xs i<y→y<1024→nZ xs=(!xs.isEmpty&&eQ (prev xs (i+1)) (xs.drop (i+1))):=fun h1 h2=>by
   rw [he,lu hy']
   simp [h1,h2]
  refine (aH _ _ _).2 ⟨fun hb=>no (.inl (by have:=of_decide_eq_true hb; omega)),fun hb=>?_⟩
  have h0:=of_decide_eq_false hb
  refine (aH _ _ _).2 ⟨fun hb=>no (.inr (by have:=of_decide_eq_true hb; omega)),fun hb=>?_⟩
  have h1:=of_decide_eq_false hb
  refine (aH _ _ _).2 ⟨fun hb=>?_,fun hb=>?_⟩
  ·have hi0:=of_decide_eq_true hb
   refine bM (by omega) (by omega) ?_
   have e:(((i:Int) - 1)).toNat=i - 1:=by omega
   refine hs.rdI (k := .i64) (by omega) (by omega) fun z hz=>?_
   have hz':prev xs i=z:=by
    unfold prev
    rw [if_neg (by omega),List.getD_eq_getElem?_getD]
    rw [e] at hz
    rw [hz]; rfl
   refine (aH _ _ _).2 ⟨fun hb=>no (.inl (by have:=of_decide_eq_true hb; omega)),fun hb=>?_⟩
   have h2:=of_decide_eq_false hb
   refine aA (by omega) ?_
   exact wE hn hm hR k (i+1) w (by omega) hs hk (by rw [lu hy']; omega) (yes (by omega) (by omega))
  ·have hi0:=of_decide_eq_false hb
   have hp0:prev xs i = -1:=by unfold prev; rw [if_pos (by omega)]
   refine aA (by omega) ?_
   exact wE hn hm hR k (i+1) w (by omega) hs hk (by rw [lu hy']; omega) (yes (by omega) (by omega))
theorem TW (hm:n≤16777216) (hs:Sl enI w a n xs):Pure Go.Proofs.Tryz.prog 114 #[.slice a n c] w (.bool (nZ xs)):=by
 refine bD.calls (R:=fun v' u=>v'=_∧Below w.heap.size w u) ?_
 unfold bD bD.g0
 exact ⟨n+1,wE (w0:=w) hs.len hm (fun u hk=>⟨rfl,hk⟩) n 0 w (by omega) hs (Below.refl _ _) (by simp [prev]) rfl⟩
theorem La {m:Int} (hm:n≤16777216) (hs:Sl enI w a n x.bH):Pure Go.Proofs.Tryz.prog 105 #[vN x a n c,.int .i64 m] w (.bool (fC iG x m)):=by
 refine dG.calls (R:=fun v' u=>v'=_∧Below w.heap.size w u) ?_
 unfold dG dG.g0
 refine Sv fun u _ h8 hk=>⟨_,h8.c0,?_⟩
 have hl:x.bH.isEmpty=((n:Int)==0):=by
  rw [hs.len]; cases x.bH <;> simp; omega
 have hl':x.bH.isEmpty = !decide ((n:Int)>0):=by
  rw [hs.len]; cases x.bH <;> simp
 refine oJ (fun h1=>?_) fun h1=>?_
 ·have e:fC iG x m=(x.feature==0&&x.thr==0&&x.bH.isEmpty&&x.missing==0&&x.left==0&&x.right==0):=by unfold fC; rw [if_pos h1]
  rw [e,hl]
  have ht:(x.thr==0)=((x.thr:Int)==0):=by rw [Bool.eq_iff_iff]; simp
  rw [ht]
  refine ⟨_,h8.c2,?_⟩
  refine (aH _ _ _).2 ⟨fun hf=>⟨_,h8.c3,_,fb _ _,?_⟩,fun hf=>⟨by rw [hf]; rfl,hk⟩⟩
  rw [hf,Bool.true_and]
  repeat' (first | (refine ⟨_,(h8).c0,?_⟩) | (refine ⟨_,(h8).c1,?_⟩) | (refine ⟨_,(h8).c2,?_⟩) | (refine ⟨_,(h8).c3,?_⟩) | (refine ⟨_,_,_,(h8).c4,?_⟩) | (refine ⟨_,(h8).c5,?_⟩) | (refine ⟨_,(h8).c6,?_⟩) | (refine ⟨_,(h8).c7,?_⟩) | (refine (aH _ _ _).2 ⟨fun _=>?_,fun _=>?_⟩))
  all_goals refine ⟨congrArg _ ?_,hk⟩
  all_goals (simp_all <;> omega)
 ·refine oJ (fun h2=>?_) fun h2=>?_
  ·have e:fC iG x m=(!iG x.thr&&x.bH.isEmpty&&jB x m):=by unfold fC; rw [if_neg h1,if_pos h2]
   rw [e,hl']
   refine ⟨_,h8.c3,?_⟩
   refine E.CallsD.mono (UX u x.thr) fun v u2 ⟨hv,k2⟩=>⟨_,hv,?_⟩
   have k2':=Kept.trans hk k2
   have h9:=h8.kept k2
   unfold jB
   repeat' (first | (refine ⟨_,(h9).c0,?_⟩) | (refine ⟨_,(h9).c1,?_⟩) | (refine ⟨_,(h9).c2,?_⟩) | (refine ⟨_,(h9).c3,?_⟩) | (refine ⟨_,_,_,(h9).c4,?_⟩) | (refine ⟨_,(h9).c5,?_⟩) | (refine ⟨_,(h9).c6,?_⟩) | (refine ⟨_,(h9).c7,?_⟩) | (refine (aH _ _ _).2 ⟨fun _=>?_,fun _=>?_⟩))
   all_goals refine ⟨congrArg _ ?_,k2'⟩
   all_goals (simp_all <;> omega)
  ·refine oJ (fun h3=>?_) fun h3=>⟨by unfold fC; rw [if_neg h1,if_neg h2,if_neg h3],hk⟩
   have e:fC iG x m=(x.thr==0&&nZ x.bH&&jB x m):=by unfold fC; rw [if_neg h1,if_neg h2,if_pos h3]
   have ht:(x.thr==0)=((x.thr:Int)==0):=by rw [Bool.eq_iff_iff]; simp
   rw [e,ht]
   refine ⟨_,h8.c3,_,fb _ _,?_⟩
   refine iJ (fun h4=>⟨by rw [show ((x.thr:Int)==0)=false by simpa using h4]; rfl,hk⟩) fun h4=>⟨_,_,_,h8.c4,?_⟩
   refine E.CallsD.mono (TW hm (hs.keep hk)) fun v u2 ⟨hv,k2⟩=>⟨_,hv,?_⟩
   have k2':=Kept.trans hk k2
   have h9:=h8.kept k2
   rw [show ((x.thr:Int)==0)=true by simp [h4],Bool.true_and]
   unfold jB
   repeat' (first | (refine ⟨_,(h9).c0,?_⟩) | (refine ⟨_,(h9).c1,?_⟩) | (refine ⟨_,(h9).c2,?_⟩) | (refine ⟨_,(h9).c3,?_⟩) | (refine ⟨_,_,_,(h9).c4,?_⟩) | (refine ⟨_,(h9).c5,?_⟩) | (refine ⟨_,(h9).c6,?_⟩) | (refine ⟨_,(h9).c7,?_⟩) | (refine (aH _ _ _).2 ⟨fun _=>?_,fun _=>?_⟩))
   all_goals refine ⟨congrArg _ ?_,k2'⟩
   all_goals (simp_all <;> omega)
theorem y9 {R:Value→World→Prop} {w0:World} {b:Bool} (hn:n=xs.length) (hm:n≤16777216) (hR:∀ u,Kept w0 u→R (.bool (b&&nZ xs)) u) :
  ∀ (k i:Nat) (w:World),i+k=n→Sl enI w a n xs→Kept w0 w→(0<i→0≤prev xs i)→nZ xs=(!xs.isEmpty&&eQ (prev xs i) (xs.drop i))→dK.l34 R (k+1) b (prev xs i) a n c n i w
 | 0,i,w,hi,hs,hk,hp,he=>by
  rw [dK.u34]; unfold dK.g34
  refine az (by omega) ?_
  rw [List.drop_eq_nil_of_le (by omega)] at he
  have:=hR w hk
  rw [he] at this
  have e:(decide (prev xs i≥0))=(!xs.isEmpty&&eQ (prev xs i) []):=by
   unfold eQ
   cases xs with
   | nil =>
    subst hn
    obtain rfl:i=0:=by simp at hi; omega
    rfl
   | cons y l=>have:=hp (by subst hn; simp at hi; omega); simp [this]
  rw [e]
  refine (aH _ _ _).2 ⟨fun hb=>?_,fun hb=>?_⟩
  ·subst hb; rwa [Bool.true_and] at this
  ·subst hb; rwa [Bool.false_and] at this
 | k+1,i,w,hi,hs,hk,hp,he=>by
  rw [dK.u34]; unfold dK.g34
  refine aI (by omega) ?_
  refine hs.rdI (k := .i64) (by omega) (by omega) fun y hy=>?_
  have hy':xs[i]?=some y:=by simpa using hy
  rw [drop_cons hy',show ∀ p l,eQ p (y::l)=(decide (p<y)&&decide (y<1024)&&eQ y l) from fun _ _=>rfl] at he
  have no:(¬ prev xs i<y∨¬ y<1024)→R (.bool false) w:=fun h=>by
   have:=hR w hk
   rw [he] at this
   have e:(decide (prev xs i<y)&&decide (y<1024)&&eQ y (xs.drop (i+1)))=false:=by
    rcases h with h | h <;> simp [h]
   rw [e,Bool.and_false,Bool.and_false] at this
   exact this
  refine (aH _ _ _).2 ⟨fun hb=>no (.inl (by have:=of_decide_eq_true hb; omega)),fun hb=>?_⟩
  have h0:=of_decide_eq_false hb
  refine (aH _ _ _).2 ⟨fun hb=>no (.inr (by have:=of_decide_eq_true hb; omega)),fun hb=>?_⟩
  have h1:=of_decide_eq_false hb
  refine aA (by omega) ?_
  have:=y9 hn hm hR k (i+1) w (by omega) hs hk (fun _=>by
   rw [lu hy']
   by_cases h:i=0
   ·have:prev xs i = -1:=by unfold prev; rw [if_pos h]
    omega
   ·have:=hp (by omega); omega) (by
   rw [he,lu hy']
   simp only [Bool.and_assoc,decide_eq_true (show prev xs i<y by omega),decide_eq_true (show y<1024 by omega),Bool.true_and])
  rwa [lu hy'] at this
theorem Qo {m:Int} (hm:n≤16777216) (hs:Sl enI w a n x.bH):Pure Go.Proofs.Tryz.prog 99 #[vN x a n c,.int .i64 m] w (.bool (fC iG x m)):=by
 refine dK.calls (R:=fun v' u=>v'=_∧Below w.heap.size w u) ?_
 unfold dK dK.g0
 refine Sv fun u _ h8 hk=>⟨_,h8.c3,_,fb _ _,_,h8.c0,?_⟩
 have hl:x.bH.isEmpty=((n:Int)==0):=by
  rw [hs.len]; cases x.bH <;> simp; omega
 have ht:(x.thr==0)=((x.thr:Int)==0):=by rw [Bool.eq_iff_iff]; simp
 refine oJ (fun h1=>?_) fun h1=>?_
 ·have e:fC iG x m=(x.feature==0&&x.thr==0&&x.bH.isEmpty&&x.missing==0&&x.left==0&&x.right==0):=by unfold fC; rw [if_pos h1]
  rw [e,hl,ht]
  repeat' (first | (refine ⟨_,(h8).c0,?_⟩) | (refine ⟨_,(h8).c1,?_⟩) | (refine ⟨_,(h8).c2,?_⟩) | (refine ⟨_,(h8).c3,?_⟩) | (refine ⟨_,_,_,(h8).c4,?_⟩) | (refine ⟨_,(h8).c5,?_⟩) | (refine ⟨_,(h8).c6,?_⟩) | (refine ⟨_,(h8).c7,?_⟩) | (refine (aH _ _ _).2 ⟨fun _=>?_,fun _=>?_⟩))
  all_goals refine ⟨congrArg _ ?_,hk⟩
  all_goals (simp_all <;> omega)
 ·refine h8.ld ?_
  refine E.CallsD.mono (wK u x a n c) fun v u2 ⟨hv,k2⟩=>⟨_,hv,?_⟩
  have k2':=Kept.trans hk k2
  have h9:=h8.kept k2
  have e2:x.kind=2→fC iG x m=(!iG x.thr&&x.bH.isEmpty&&jB x m):=fun h2=>by unfold fC; rw [if_neg h1,if_pos h2]
  have e3:x.kind=3→fC iG x m=(x.thr==0&&nZ x.bH&&jB x m):=fun h3=>by unfold fC; rw [if_neg h1,if_neg (by omega),if_pos h3]
  refine (aH _ _ _).2 ⟨fun hb=>?_,fun hb=>?_⟩
  ·refine ⟨congrArg _ ?_,k2'⟩
   have hb':x.inner=false:=by simpa using hb
   unfold ND.inner at hb'
   simp at hb'
   unfold fC
   rw [if_neg h1,if_neg hb'.1,if_neg hb'.2]
  ·have hb':x.inner=true:=by simpa using hb
   have no:jB x m=false→fC iG x m=false:=fun h=>by
    unfold ND.inner at hb'
    simp at hb'
    rcases hb' with h2 | h3
    ·rw [e2 h2,h,Bool.and_false]
    ·rw [e3 h3,h,Bool.and_false]
   have yes:jB x m=true→af (x.kind==2)
     (∃ y:Nat,u2.cell? ((na w).add 3)=some (.float .f64 y)∧(∃ z:Nat,u2.cell? ((na w).add 3)=some (.float .f64 z)∧af (FloatKind.f64.format.order y z==some .eq)
      (∃ ya:Option Addr,∃ yn:Nat,∃ yc:Nat,u2.cell? ((na w).add 4)=some (.slice ya yn yc)∧(fun v' u=>v'=Value.bool (fC iG x m)∧Below w.heap.size w u) (.bool ((yn:Int)==0)) u2)
      ((fun v' u=>v'=Value.bool (fC iG x m)∧Below w.heap.size w u) (.bool false) u2)))
     (∃ ya:Option Addr,∃ yn:Nat,∃ yc:Nat,u2.cell? ((na w).add 4)=some (.slice ya yn yc)∧dK.e34 (fun v' u=>v'=Value.bool (fC iG x m)∧Below w.heap.size w u) ((x.thr:Int)==0) (-1) ya yn yc (yn:Int) 0 u2):=by
    intro hi
    refine oJ (fun h2=>⟨_,h9.c3,_,h9.c3,(aH _ _ _).2 ⟨fun hq=>⟨_,_,_,h9.c4,?_,k2'⟩,fun hq=>⟨?_,k2'⟩⟩⟩) fun h2=>⟨_,_,_,h9.c4,?_⟩
    ·rw [e2 h2,hi,← hl]
     have:iG x.thr=false:=by unfold iG; simpa using hq
     rw [this]; simp
    ·rw [e2 h2]
     have:iG x.thr=true:=by unfold iG; simpa using hq
     rw [this]; simp
    ·have h3:x.kind=3:=by unfold ND.inner at hb'; simp at hb'; omega
     rw [e3 h3,hi,Bool.and_true,ht]
     have:=y9 (R:=fun v' u=>v'=Value.bool (((x.thr:Int)==0)&&nZ x.bH)∧Below w.heap.size w u) (w0:=w) (b:=((x.thr:Int)==0)) (c:=c) hs.len hm (fun u hk=>⟨rfl,hk⟩) n 0 u2 (by omega) (hs.keep k2') k2' (fun h=>by omega) (by simp [prev,nZ])
     exact ⟨n+1,this⟩
   unfold jB at no yes
   repeat' (first | (refine ⟨_,h9.c1,?_⟩) | (refine ⟨_,h9.c2,?_⟩) | (refine ⟨_,h9.c5,?_⟩) | (refine ⟨_,h9.c6,?_⟩) | (refine ⟨_,h9.c7,?_⟩) | (refine ⟨congrArg _ (no ?_).symm,k2'⟩) | (refine ⟨_,h9.c0,yes ?_⟩) | (refine (aH _ _ _).2 ⟨fun _=>?_,fun _=>?_⟩))
   all_goals (clear no yes; simp_all <;> omega)
end
end Go.Mir
set_option maxRecDepth 100000
namespace Go.Mir
open Go Go.E Go.RowKit Go.Tr
theorem bI {a:Addr} {K:Addr→Prop} (h:K a):bK (some a) K:=h
theorem S_I:fE Go.Proofs.Tryz.prog 53 3 1 8:=sliceT (by kernel_rfl)
abbrev enB (b:Bool):Value := .bool b
section
variable {w1:World} {p:Addr} {o:Int} {a:Option Addr} {n c:Nat} {F:Nat→Prop} {nodes:List ND}
def qC (nodes:List ND) (i:Nat) (_:ND):Bool:=cnt nodes i==min i 1&&(reached nodes).getD i false
theorem Eh {R:Value→World→Prop} {w:World} {a4 a7:Option Addr} {c4 c7 g4 g7:Nat} (hn:n=nodes.length) (hm:n≤1048576) (h4:Arr enI 3 w a4 n c4 (xC nodes n) g4) (h7:Arr enB 4 w a7 n c7 (reached nodes) g7)
  (hbad:∀ i,dH (qC nodes) 0 nodes=some i→R (.tuple #[.int .i64 70,.int .i64 i]) w) (hok:dH (qC nodes) 0 nodes=none→R (.tuple #[.int .i64 0,.int .i64 0]) w) :
  ∀ (k i:Nat),i+k=n→dH (qC nodes) 0 nodes=dH (qC nodes) i (nodes.drop i)→bC.l80 R (k+1) a4 n c4 a7 n c7 n i w
 | 0,i,hi,he=>by
  rw [bC.u80]; unfold bC.g80
  refine az (by omega) ?_
  rw [List.drop_eq_nil_of_le (by omega)] at he
  exact hok he
 | k+1,i,hi,he=>by
  rw [bC.u80]; unfold bC.g80
  refine aI (by omega) ?_
  have hx:nodes[i]?=some (nodes[i]'(by omega)):=List.getElem?_eq_getElem _
  rw [drop_cons hx,jZ] at he
  have hr:(reached nodes)[i]?=some ((reached nodes)[i]'(by rw [jG]; omega)):=List.getElem?_eq_getElem _
  obtain ⟨b,hb⟩:∃ b,(reached nodes)[i]'(by rw [jG]; omega)=b:=⟨_,rfl⟩
  rw [hb] at hr
  have hlp:qC nodes i (nodes[i]'(by omega))=(cnt nodes i==min i 1&&b):=by unfold qC; rw [List.getD_eq_getElem?_getD,hr]; rfl
  rw [hlp] at he
  refine nC rfl ?_
  refine h4.sl.rdI (k := .i64) (by omega) (by omega) fun y hy=>?_
  obtain rfl:y=(cnt nodes i:Int):=by
   rw [kS nodes (by omega)] at hy
   simpa using hy.symm
  have hmin:(if 1<(i:Int) then (1:Int) else (i:Int))=(min i 1:Nat):=by split <;> omega
  rw [hmin]
  refine iJ (fun hne=>hbad i ?_) fun heq=>?_
  ·rw [he,if_neg]; simp; intro h; omega
  ·refine h7.sl.rd (f:=fun b => .bool b) (sel:=fun b=>b) (fun _=>rfl) (by omega) (by omega) fun y hy=>?_
   have hy':y=b:=by simpa [hr] using hy.symm
   subst hy'
   have hc:(cnt nodes i==min i 1)=true:=by simp; omega
   rw [hc,Bool.true_and] at he
   refine (aH _ _ _).2 ⟨fun hb=>hbad i ?_,fun hb=>?_⟩
   ·have:y=false:=by simpa using hb
    rw [he,this]; rfl
   ·have:y=true:=by simpa using hb
    rw [this,if_pos rfl] at he
    refine aA (by omega) ?_
    exact Eh hn hm h4 h7 hbad hok k (i+1) (by omega) he
theorem Nu {R:Value→World→Prop} {a4 a7:Option Addr} {c4 c7 g4 g7:Nat} (hn:n=nodes.length) (hm:n≤1048576) (hT:At2 w1 p o a n c) (hL:Ls tN F w1 a n c nodes) (hF:∀ b,F b→b<w1.heap.size) (hok:∀ (i:Nat) x,nodes[i]?=some x→x.inner=true→1≤x.left∧x.left<n∧1≤x.right∧x.right<n)
  (hend:∀ w,From w1.heap.size w1 w→Arr enI 3 w a4 n c4 (xC nodes n) g4→Arr enB 4 w a7 n c7 (reached nodes) g7→bC.e80 R a4 n c4 a7 n c7 n 0 w) (hg4:w1.heap.size<g4) (hg7:w1.heap.size<g7) (hg:g4≠g7) :
  ∀ (f:Nat) (r:List Bool) (st:List Nat) (w:World) (a8:Option Addr) (c8 g8:Nat),dfs nodes f r st=reached nodes→r.length=n→st.length+3*cf r≤f→(∀ i∈st,i<n)→From w1.heap.size w1 w→Arr enI 3 w a4 n c4 (xC nodes n) g4→Arr enB 4 w a7 n c7 r g7→Arr enI 3 w a8 st.length c8 (stk st) g8→(w1.heap.size<g8∧g8≠g4∧g8≠g7)→f≤4194304→bC.l49 R (f+1) (some p) a4 n c4 a7 n c7 a8 st.length c8 w:=by
 intro f
 induction f with
 | zero =>
  intro r st w a8 c8 g8 hd hrl hms hst hw h4 h7 h8 hg8 hf
  rw [bC.u49]; unfold bC.g49
  have hT':=hT.from hw
  obtain rfl:st=[]:=List.eq_nil_of_length_eq_zero (by omega)
  refine az (by simp) ?_
  rw [zV] at hd
  subst hd
  exact bI ⟨_,_,_,hT'.c1,hend w hw h4 h7⟩
 | succ f ih =>
  intro r st w a8 c8 g8 hd hrl hms hst hw h4 h7 h8 hg8 hf
  rw [bC.u49]; unfold bC.g49
  have hT':=hT.from hw
  cases st with
  | nil =>
   refine az (by simp) ?_
   rw [zV] at hd
   subst hd
   exact bI ⟨_,_,_,hT'.c1,hend w hw h4 h7⟩
  | cons i st =>
   have hin:=hst i (by simp)
   have hlen:(i::st).length=st.length+1:=rfl
   rw [hlen] at h8 hms ⊢
   have hstl:st.length≤4194304:=by omega
   refine aI (by omega) ?_
   refine bM (by omega) (by omega) ?_
   have e0:(((st.length+1:Nat):Int) - 1).toNat=st.length:=by omega
   refine h8.sl.rdI (k := .i64) (by omega) (by omega) fun y hy=>?_
   rw [e0,uS] at hy
   obtain rfl:y=(i:Int):=by simpa using hy.symm
   refine bM (by omega) (by omega) ?_
   refine dJ ⟨by omega,by have:=h8.capLe; omega⟩ ?_
   have h8':=h8.take (m:=st.length) (by omega)
   rw [zA] at h8'
   rw [e0,mg]
   have hr:r[i]?=some (r[i]'(by omega)):=List.getElem?_eq_getElem _
   obtain ⟨b,hb⟩:∃ b,r[i]'(by omega)=b:=⟨_,rfl⟩
   rw [hb] at hr
   refine h7.sl.rd (f:=fun b => .bool b) (sel:=fun b=>b) (fun _=>rfl) (by omega) (by omega) fun y hy=>?_
   obtain rfl:y=b:=by simpa [hr] using hy.symm
   refine (aH _ _ _).2 ⟨fun hy=>?_,fun hy=>?_⟩
   ·subst hy
    rw [FO hr] at hd
    exact ih r st w a8 c8 g8 hd hrl (by omega) (fun j hj=>hst j (by simp [hj])) hw h4 h7 h8' hg8 (by omega)
   ·subst hy
    have hx:nodes[i]?=some (nodes[i]'(by omega)):=List.getElem?_eq_getElem _
    rw [Pg hr hx] at hd
    refine h7.wr (by omega) (by omega) (x:=true) rfl fun u h7' ho=>?_
    rw [Int.toNat_natCast] at h7'
    have hu:=hw.only ho (.inr hg7)
    have h4':=h4.mod ho fun k h1 h2=>by omega
    have h8u:=h8'.mod ho fun k h1 h2=>by omega
    have hTu:=hT.from hu
    have hLu:=From.ls hL hu hF
    refine bI ⟨_,_,_,hTu.c1,?_⟩
    refine hLu.rdN (by omega) (by omega) fun x a' n' c' hx' hcs=>?_
    obtain rfl:nodes[i]'(by omega)=x:=by simpa [hx] using hx'
    refine oD fun u2 _ hb8 hk=>hb8.ld ?_
    refine E.CallsD.mono (wK u2 _ a' n' c') fun v u3 ⟨hv,hk3⟩=>⟨_,hv,?_⟩
    have hk':=Kept.trans hk hk3
    have hu3:=hu.aF hk'
    have hb3:=hb8.kept hk3
    have hmeas:=JA hr
    refine (aH _ _ _).2 ⟨fun hin2=>⟨_,hb3.c6,_,hb3.c7,?_⟩,fun hin2=>?_⟩
    ·rw [if_pos hin2] at hd
     obtain ⟨b1,b2,b3,b4⟩:=hok i _ hx hin2
     have e1:(nodes[i]'(by omega)).left=((nodes[i]'(by omega)).left.toNat:Int):=by omega
     have e2:(nodes[i]'(by omega)).right=((nodes[i]'(by omega)).right.toNat:Int):=by omega
     refine (h8u.kept hk').oz (m:=2) S_I (fun _=>rfl) (ys:=[((nodes[i]'(by omega)).left.toNat:Int),((nodes[i]'(by omega)).right.toNat:Int)]) (by rw [← e1,← e2]; rfl) rfl (by omega) (by simp only [maxLen]; omega) (by omega) fun a' c' g' u4 h8v hg' hg0 ho4=>⟨_,_,_,rfl,?_⟩
     rw [uO] at h8v
     have z1:=hk'.size
     have z2:=ho.size
     have z3:=h4.le
     have z4:=h7.le
     have z5:=hw.size
     refine ih _ _ u4 a' c' g' hd (by simpa using hrl) (by simp only [List.length_cons]; omega) (fun j hj=>?_) (hu3.only ho4 (.inr hg8.1)) ((h4'.kept hk').mod ho4 fun k h1 h2=>by omega) ((h7'.kept hk').mod ho4 fun k h1 h2=>by omega) h8v (by omega) (by omega)
     simp only [List.mem_cons] at hj
     rcases hj with h | h | h
     ·omega
     ·omega
     ·exact hst j (by simp [h])
    ·rw [if_neg (by simp [hin2])] at hd
     exact ih _ st u3 a8 c8 g8 hd (by simpa using hrl) (by omega) (fun j hj=>hst j (by simp [hj])) hu3 (h4'.kept hk') (h7'.kept hk') (h8u.kept hk') hg8 (by omega)
end
end Go.Mir
set_option maxRecDepth 100000
namespace Go.Mir
open Go Go.E Go.RowKit Go.Tr
section
variable {w1:World} {p:Addr} {o:Int} {a:Option Addr} {n c:Nat} {F:Nat→Prop} {nodes:List ND}
def okP (nodes:List ND) (_:Nat) (x:ND):Bool:=fC iG x nodes.length
theorem take_snoc {α:Type} {xs:List α} {i:Nat} {y:α} (h:xs[i]?=some y):xs.take (i+1)=xs.take i++[y]:=by
 rw [List.take_add_one,h]; rfl
def Short (N:Nat) (nodes:List ND):Prop:=∀ x∈nodes,x.bH.length≤N
theorem zi {R:Value→World→Prop} {a4:Option Addr} {c4 g4:Nat} (hn:n=nodes.length) (hm:n≤1048576) (hsh:Short 1048576 nodes) (hT:At2 w1 p o a n c) (hL:Ls tN F w1 a n c nodes) (hF:∀ b,F b→b<w1.heap.size)
  (hbad:∀ i w,dH (okP nodes) 0 nodes=some i→From w1.heap.size w1 w→R (.tuple #[.int .i64 71,.int .i64 i]) w)
  (hend:∀ w a7 g7 a8 g8,dH (okP nodes) 0 nodes=none→From w1.heap.size w1 w→Arr enI 3 w a4 n c4 (xC nodes n) g4→Arr enB 4 w a7 n n (List.replicate n false) g7→Arr enI 3 w a8 1 1 [0] g8→g4<g7→g7<g8→bC.e49 R (some p) a4 n c4 a7 n n a8 1 1 w) (hg4:w1.heap.size<g4) :
  ∀ (k i:Nat) (w:World),i+k=n→From w1.heap.size w1 w→Arr enI 3 w a4 n c4 (xC (nodes.take i) n) g4→dH (okP nodes) 0 nodes=dH (okP nodes) i (nodes.drop i)→bC.l16 R (k+1) (some p) a4 n c4 a n c n i w
 | 0,i,w,hi,hw,h4,he=>by
  rw [bC.u16]; unfold bC.g16
  refine az (by omega) ?_
  rw [List.drop_eq_nil_of_le (by omega)] at he
  rw [List.take_of_length_le (by omega)] at h4
  have hT':=hT.from hw
  refine bI ⟨_,_,_,hT'.c1,?_⟩
  refine Arr.make (en:=enB) (x:=false) rfl (by omega) (by omega) (by omega) fun u h7 hk=>?_
  rw [Int.toNat_natCast] at h7 ⊢
  refine bU ?_
  have k2:=Kept.new u (.cells #[.int .i64 0] 3)
  have h8:=Arr.new enI 3 u [0] #[.int .i64 0] rfl (by simp [maxLen])
  have z1:=h4.le
  have z2:=hk.size
  have z3:=h7.le
  exact hend _ _ _ _ _ he (hw.aF (Kept.trans hk k2)) (h4.kept (Kept.trans hk k2)) (h7.kept k2) h8 (by omega) (by omega)
 | k+1,i,w,hi,hw,h4,he=>by
  rw [bC.u16]; unfold bC.g16
  refine aI (by omega) ?_
  have hT':=hT.from hw
  have hx0:nodes[i]?=some (nodes[i]'(by omega)):=List.getElem?_eq_getElem _
  rw [drop_cons hx0,jZ] at he
  refine (From.ls hL hw hF).rdN (by omega) (by omega) fun x a' n' c' hx hcs=>?_
  obtain rfl:nodes[i]'(by omega)=x:=by simpa [hx0] using hx
  have hn':n'≤1048576:=by rw [hcs.len]; exact hsh _ (List.getElem_mem _)
  obtain ⟨x,hxe⟩:∃ x,nodes[i]'(by omega)=x:=⟨_,rfl⟩
  rw [hxe] at hx0 he hcs ⊢
  clear hx
  have hq:okP nodes i x=fC iG x n:=by unfold okP; rw [hn]
  rw [hq] at he
  refine oD fun u _ hb8 hk=>hb8.ld (bI ⟨_,_,_,(hT'.kept hk).c1,?_⟩)
  refine E.CallsD.mono (Qo (m:=n) (by omega) (hcs.kept hk).sl) fun v u2 ⟨hv,hk2⟩=>⟨_,hv,?_⟩
  have hb2:=hb8.kept hk2
  have hw2:=hw.aF (Kept.trans hk hk2)
  refine (aH _ _ _).2 ⟨fun hb=>hbad i u2 (by rw [he,if_neg]; simpa using hb) hw2,fun hb=>?_⟩
  have hok:fC iG x n=true:=by simpa using hb
  rw [if_pos hok] at he
  refine hb2.ld ?_
  refine E.CallsD.mono (wK u2 x a' n' c') fun v u3 ⟨hv,hk3⟩=>⟨_,hv,?_⟩
  have hb3:=hb2.kept hk3
  have hw3:=hw2.aF hk3
  have h43:=h4.kept (Kept.trans (Kept.trans hk hk2) hk3)
  refine (aH _ _ _).2 ⟨fun hin=>⟨_,hb3.c6,?_⟩,fun hin=>?_⟩
  ·obtain ⟨b1,b2,b3,b4,_⟩:=fO hok hin
   obtain ⟨lf,hlf⟩:∃ lf:Nat,x.left=lf:=⟨x.left.toNat,by omega⟩
   obtain ⟨rg,hrg⟩:∃ rg:Nat,x.right=rg:=⟨x.right.toNat,by omega⟩
   obtain ⟨y,hy,hy0,hy1,hset⟩:=yA (l:=nodes.take i) hin hlf hrg (n:=n) (by omega) (by omega)
   have hli:(nodes.take i).length≤n:=by rw [List.length_take]; omega
   have hcl:=cnt_le (nodes.take i) lf
   refine h43.sl.rdI (k := .i64) (by omega) (by omega) fun z hz=>?_
   obtain rfl:z=(cnt (nodes.take i) lf:Int):=by
    rw [hlf,Int.toNat_natCast,kS _ (by omega)] at hz
    simpa using hz.symm
   refine bM (by omega) (by omega) ?_
   refine h43.wr (by omega) (by omega) (x:=(cnt (nodes.take i) lf:Int)+1) rfl fun u4 h44 ho4=>?_
   have hw4:=hw3.only ho4 (.inr hg4)
   have hpb:(na w).block+1≠g4:=by have:=h4.le; show w.heap.size+1≠g4; omega
   have hb4:=hb3.mod ho4 hpb
   refine ⟨_,hb4.c7,?_⟩
   rw [hlf,Int.toNat_natCast] at h44
   refine h44.sl.rdI (k := .i64) (by omega) (by omega) fun z hz=>?_
   obtain rfl:z=y:=by
    rw [hrg,Int.toNat_natCast,hy] at hz
    simpa using hz.symm
   refine bM (by omega) (by omega) ?_
   refine h44.wr (by omega) (by omega) (x:=z+1) rfl fun u5 h45 ho5=>?_
   rw [hrg,Int.toNat_natCast,hset,← take_snoc hx0] at h45
   refine aA (by omega) ?_
   exact zi hn hm hsh hT hL hF hbad hend hg4 k (i+1) u5 (by omega) (hw4.only ho5 (.inr hg4)) h45 he
  ·rw [← BP hin,← take_snoc hx0] at h43
   refine aA (by omega) ?_
   exact zi hn hm hsh hT hL hF hbad hend hg4 k (i+1) u3 (by omega) hw3 h43 he
theorem U8 {nodes:List ND} (h:dH (okP nodes) 0 nodes=none) (i:Nat) (x:ND) (hx:nodes[i]?=some x):fC iG x nodes.length=true:=by
 have:=jX h i x hx
 simpa [okP] using this
theorem tY {nodes:List ND} (h0:nodes≠[]):fM iG nodes=match dH (okP nodes) 0 nodes with
  | some i=>(71,(i:Int))
  | none=>match dH (qC nodes) 0 nodes with
   | some i=>(70,(i:Int))
   | none=>(0,0):=by
 unfold fM
 rw [if_neg h0]
 rfl
theorem QE {w:World} (hm:n≤1048576) (hsh:Short 1048576 nodes) (hL:Ls tN F w a n c nodes) (hF:∀ b,F b→b<w.heap.size) :
  Pure Go.Proofs.Tryz.prog 84 #[vT o a n c] w (.tuple #[.int .i64 (fM iG nodes).1,.int .i64 (fM iG nodes).2]):=by
 refine bC.calls (R:=fun v' u=>v'=_∧Below w.heap.size w u) ?_
 unfold bC bC.g0
 refine ny fun w1 _ hT hk=>⟨_,_,_,hT.c1,?_⟩
 have hL1:=hL.kept hk
 have hF1:∀ b,F b→b<w1.heap.size:=fun b hb=>Nat.lt_of_lt_of_le (hF b hb) hk.size
 have hn:=hL.len
 refine oJ (fun h0=>?_) fun h0=>⟨_,_,_,hT.c1,?_⟩
 ·have:nodes=[]:=List.eq_nil_of_length_eq_zero (by omega)
  subst this
  exact ⟨rfl,hk⟩
 have hne:nodes≠[]:=by intro h; subst h; simp at hn; omega
 have fin:∀ u,From w1.heap.size w1 u→Kept w u:=fun u hu=>Kept.trans hk (From.kept hu)
 refine Arr.make (en:=enI) (x:=0) rfl (by omega) (by omega) (by omega) fun u h4 hk2=>?_
 refine ⟨_,_,_,(hT.kept hk2).c1,?_⟩
 rw [Int.toNat_natCast] at h4 ⊢
 rw [tY hne]
 refine ⟨n+1,zi (w1:=w1) (o:=o) (g4:=w1.heap.size+1) hn hm hsh hT hL1 hF1 (fun i u he hu=>?_) (fun u a7 g7 a8 g8 he hu h4 h7 h8 hg1 hg2=>?_) (by have:=hk.size; omega) n 0 u (by omega) (Kept.mod hk2) (by rwa [List.take_zero,FD]) rfl⟩
 ·rw [he]; exact ⟨rfl,fin u hu⟩
 ·rw [he]
  have hok:=U8 he
  have hs:=hk2.size
  have h8':Arr enI 3 u a8 [0].length 1 (stk [0]) g8:=h8
  refine ⟨_,Nu (w1:=w1) (o:=o) (F:=F) hn hm hT hL1 hF1 (fun i x hx hin=>by have:=fO (hok i x hx) hin; rw [hn]; omega) (fun u hu h4 h7=>?_) (by omega) (by omega) (by omega) (3*nodes.length+2) (List.replicate n false) [0] u a8 1 g8 (by rw [hn]; rfl) (by simp) (by rw [um]; simp; omega) (fun i hi=>by simp at hi; omega) hu h4 h7 h8' (by omega) (by omega)⟩
  refine ⟨n+1,Eh hn hm h4 h7 (fun i hi=>?_) (fun hi=>?_) n 0 (by omega) rfl⟩
  ·rw [hi]; exact ⟨rfl,fin u hu⟩
  ·rw [hi]; exact ⟨rfl,fin u hu⟩
end
end Go.Mir
set_option maxRecDepth 100000
namespace Go.Mir
open Go Go.E Go.RowKit Go.Tr
section
variable {w1:World} {p:Addr} {o:Int} {a:Option Addr} {n c:Nat} {F:Nat→Prop} {nodes:List ND}
theorem oQ {x:ND} {m:Int} (h:fC iG x m=true):x.kind≠1↔x.inner=true:=by
 unfold fC at h
 unfold ND.inner
 split at h
 ·rename_i h1; simp [h1]
 ·split at h
  ·rename_i h2; simp [h2]
  ·split at h
   ·rename_i h3; simp [h3]
   ·cases h
theorem vI {R:Value→World→Prop} {w:World} {a4 a7:Option Addr} {c4 c7 g4 g7:Nat} (hn:n=nodes.length) (hm:n≤1048576) (h4:Arr enI 3 w a4 n c4 (xC nodes n) g4) (h7:Arr enB 4 w a7 n c7 (reached nodes) g7)
  (hbad:∀ i,dH (qC nodes) 0 nodes=some i→R (.tuple #[.int .i64 70,.int .i64 i]) w) (hok:dH (qC nodes) 0 nodes=none→R (.tuple #[.int .i64 0,.int .i64 0]) w) :
  ∀ (k i:Nat),i+k=n→dH (qC nodes) 0 nodes=dH (qC nodes) i (nodes.drop i)→ai.l82 R (k+1) a4 n c4 a7 n c7 n i w
 | 0,i,hi,he=>by
  rw [ai.u82]; unfold ai.g82
  refine az (by omega) ?_
  rw [List.drop_eq_nil_of_le (by omega)] at he
  exact hok he
 | k+1,i,hi,he=>by
  rw [ai.u82]; unfold ai.g82
  refine aI (by omega) ?_
  have hx:nodes[i]?=some (nodes[i]'(by omega)):=List.getElem?_eq_getElem _
  rw [drop_cons hx,jZ] at he
  have hr:(reached nodes)[i]?=some ((reached nodes)[i]'(by rw [jG]; omega)):=List.getElem?_eq_getElem _
  obtain ⟨b,hb⟩:∃ b,(reached nodes)[i]'(by rw [jG]; omega)=b:=⟨_,rfl⟩
  rw [hb] at hr
  have hlp:qC nodes i (nodes[i]'(by omega))=(cnt nodes i==min i 1&&b):=by unfold qC; rw [List.getD_eq_getElem?_getD,hr]; rfl
  rw [hlp] at he
  have tail:cnt nodes i=min i 1→(bK a7 fun q=>chk ((0:Int)≤i∧(i:Int)<(n:Int)) (∃ y:Bool,w.cell? (q.add ((i:Int).toNat*1))=some (.bool y)∧(af (!y) (R (.tuple #[.int .i64 70,.int .i64 i]) w)
    (nv (IntKind.i64.wrap ((i:Int)+1)) fun t=>ai.l82 R (k+1) a4 n c4 a7 n c7 n t w)))):=by
   intro heq
   refine h7.sl.rd (f:=fun b => .bool b) (sel:=fun b=>b) (fun _=>rfl) (by omega) (by omega) fun y hy=>?_
   obtain rfl:y=b:=by simpa [hr] using hy.symm
   have hc:(cnt nodes i==min i 1)=true:=by simp; omega
   rw [hc,Bool.true_and] at he
   refine (aH _ _ _).2 ⟨fun hb=>hbad i ?_,fun hb=>?_⟩
   ·have:y=false:=by simpa using hb
    rw [he,this]; rfl
   ·have:y=true:=by simpa using hb
    rw [this,if_pos rfl] at he
    refine aA (by omega) ?_
    exact vI hn hm h4 h7 hbad hok k (i+1) (by omega) he
  have get:∀ {K:Int→Prop},K (cnt nodes i:Int)→bK a4 fun q=>chk ((0:Int)≤i∧(i:Int)<(n:Int)) (∃ y:Int,w.cell? (q.add ((i:Int).toNat*1))=some (.int .i64 y)∧K y):=fun hK=>by
   refine h4.sl.rdI (k := .i64) (by omega) (by omega) fun y hy=>?_
   obtain rfl:y=(cnt nodes i:Int):=by
    rw [kS nodes (by omega)] at hy
    simpa using hy.symm
   exact hK
  have bad:cnt nodes i≠min i 1→dH (qC nodes) 0 nodes=some i:=fun h=>by
   rw [he,if_neg]; simp; intro h'; omega
  refine oJ (fun hi0=>get (iJ (fun hne=>hbad i (bad (by omega))) fun heq=>?_)) fun hi0=>?_
  ·refine az (by omega) ?_
   exact tail (by omega)
  ·refine aI (by omega) ?_
   exact get (iJ (fun hne=>hbad i (bad (by omega))) fun heq=>tail (by omega))
theorem CU {R:Value→World→Prop} {a4 a7:Option Addr} {c4 c7 g4 g7:Nat} (hn:n=nodes.length) (hm:n≤1048576) (hT:At2 w1 p o a n c) (hL:Ls tN F w1 a n c nodes) (hF:∀ b,F b→b<w1.heap.size) (hkd:∀ (i:Nat) x,nodes[i]?=some x→(x.kind≠1↔x.inner=true)) (hok:∀ (i:Nat) x,nodes[i]?=some x→x.inner=true→1≤x.left∧x.left<n∧1≤x.right∧x.right<n)
  (hend:∀ w,From w1.heap.size w1 w→Arr enI 3 w a4 n c4 (xC nodes n) g4→Arr enB 4 w a7 n c7 (reached nodes) g7→ai.e82 R a4 n c4 a7 n c7 n 0 w) (hg4:w1.heap.size<g4) (hg7:w1.heap.size<g7) (hg:g4≠g7) :
  ∀ (f:Nat) (r:List Bool) (st:List Nat) (w:World) (a8:Option Addr) (c8 g8:Nat),dfs nodes f r st=reached nodes→r.length=n→st.length+3*cf r≤f→(∀ i∈st,i<n)→From w1.heap.size w1 w→Arr enI 3 w a4 n c4 (xC nodes n) g4→Arr enB 4 w a7 n c7 r g7→Arr enI 3 w a8 st.length c8 (stk st) g8→(w1.heap.size<g8∧g8≠g4∧g8≠g7)→f≤4194304→ai.l51 R (f+1) (some p) a4 n c4 a7 n c7 a8 st.length c8 w:=by
 intro f
 induction f with
 | zero =>
  intro r st w a8 c8 g8 hd hrl hms hst hw h4 h7 h8 hg8 hf
  rw [ai.u51]; unfold ai.g51
  have hT':=hT.from hw
  obtain rfl:st=[]:=List.eq_nil_of_length_eq_zero (by omega)
  refine az (by simp) ?_
  rw [zV] at hd
  subst hd
  exact bI ⟨_,_,_,hT'.c1,hend w hw h4 h7⟩
 | succ f ih =>
  intro r st w a8 c8 g8 hd hrl hms hst hw h4 h7 h8 hg8 hf
  rw [ai.u51]; unfold ai.g51
  have hT':=hT.from hw
  cases st with
  | nil =>
   refine az (by simp) ?_
   rw [zV] at hd
   subst hd
   exact bI ⟨_,_,_,hT'.c1,hend w hw h4 h7⟩
  | cons i st =>
   have hin:=hst i (by simp)
   have hlen:(i::st).length=st.length+1:=rfl
   rw [hlen] at h8 hms ⊢
   have hstl:st.length≤4194304:=by omega
   refine aI (by omega) ?_
   refine bM (by omega) (by omega) ?_
   have e0:(((st.length+1:Nat):Int) - 1).toNat=st.length:=by omega
   refine h8.sl.rdI (k := .i64) (by omega) (by omega) fun y hy=>?_
   rw [e0,uS] at hy
   obtain rfl:y=(i:Int):=by simpa using hy.symm
   refine bM (by omega) (by omega) ?_
   refine dJ ⟨by omega,by have:=h8.capLe; omega⟩ ?_
   have h8':=h8.take (m:=st.length) (by omega)
   rw [zA] at h8'
   rw [e0,mg]
   have hr:r[i]?=some (r[i]'(by omega)):=List.getElem?_eq_getElem _
   obtain ⟨b,hb⟩:∃ b,r[i]'(by omega)=b:=⟨_,rfl⟩
   rw [hb] at hr
   refine h7.sl.rd (f:=fun b => .bool b) (sel:=fun b=>b) (fun _=>rfl) (by omega) (by omega) fun y hy=>?_
   obtain rfl:y=b:=by simpa [hr] using hy.symm
   refine (aH _ _ _).2 ⟨fun hy=>?_,fun hy=>?_⟩
   ·subst hy
    rw [FO hr] at hd
    exact ih r st w a8 c8 g8 hd hrl (by omega) (fun j hj=>hst j (by simp [hj])) hw h4 h7 h8' hg8 (by omega)
   ·subst hy
    have hx:nodes[i]?=some (nodes[i]'(by omega)):=List.getElem?_eq_getElem _
    rw [Pg hr hx] at hd
    refine h7.wr (by omega) (by omega) (x:=true) rfl fun u h7' ho=>?_
    rw [Int.toNat_natCast] at h7'
    have hu:=hw.only ho (.inr hg7)
    have h4':=h4.mod ho fun k h1 h2=>by omega
    have h8u:=h8'.mod ho fun k h1 h2=>by omega
    have hTu:=hT.from hu
    have hLu:=From.ls hL hu hF
    refine bI ⟨_,_,_,hTu.c1,?_⟩
    refine hLu.rdN (by omega) (by omega) fun x a' n' c' hx' hcs=>?_
    obtain rfl:nodes[i]'(by omega)=x:=by simpa [hx] using hx'
    refine oD fun u3 _ hb3 hk'=>⟨_,hb3.c0,?_⟩
    have hu3:=hu.aF hk'
    have hmeas:=JA hr
    refine iJ (fun hin2=>⟨_,hb3.c6,_,hb3.c7,?_⟩) fun hin2=>?_
    ·have hin2:=(hkd i _ hx).1 hin2
     rw [if_pos hin2] at hd
     obtain ⟨b1,b2,b3,b4⟩:=hok i _ hx hin2
     have e1:(nodes[i]'(by omega)).left=((nodes[i]'(by omega)).left.toNat:Int):=by omega
     have e2:(nodes[i]'(by omega)).right=((nodes[i]'(by omega)).right.toNat:Int):=by omega
     refine (h8u.kept hk').oz (m:=2) S_I (fun _=>rfl) (ys:=[((nodes[i]'(by omega)).left.toNat:Int),((nodes[i]'(by omega)).right.toNat:Int)]) (by rw [← e1,← e2]; rfl) rfl (by omega) (by simp only [maxLen]; omega) (by omega) fun a' c' g' u4 h8v hg' hg0 ho4=>⟨_,_,_,rfl,?_⟩
     rw [uO] at h8v
     have z1:=hk'.size
     have z2:=ho.size
     have z3:=h4.le
     have z4:=h7.le
     have z5:=hw.size
     refine ih _ _ u4 a' c' g' hd (by simpa using hrl) (by simp only [List.length_cons]; omega) (fun j hj=>?_) (hu3.only ho4 (.inr hg8.1)) ((h4'.kept hk').mod ho4 fun k h1 h2=>by omega) ((h7'.kept hk').mod ho4 fun k h1 h2=>by omega) h8v (by omega) (by omega)
     simp only [List.mem_cons] at hj
     rcases hj with h | h | h
     ·omega
     ·omega
     ·exact hst j (by simp [h])
    ·rw [if_neg (fun h=>(hkd i _ hx).2 h hin2)] at hd
     exact ih _ st u3 a8 c8 g8 hd (by simpa using hrl) (by omega) (fun j hj=>hst j (by simp [hj])) hu3 (h4'.kept hk') (h7'.kept hk') (h8u.kept hk') hg8 (by omega)
theorem qx {R:Value→World→Prop} {a4:Option Addr} {c4 g4:Nat} (hn:n=nodes.length) (hm:n≤1048576) (hsh:Short 1048576 nodes) (hT:At2 w1 p o a n c) (hL:Ls tN F w1 a n c nodes) (hF:∀ b,F b→b<w1.heap.size)
  (hbad:∀ i w,dH (okP nodes) 0 nodes=some i→From w1.heap.size w1 w→R (.tuple #[.int .i64 71,.int .i64 i]) w)
  (hend:∀ w a7 g7 a8 g8,dH (okP nodes) 0 nodes=none→From w1.heap.size w1 w→Arr enI 3 w a4 n c4 (xC nodes n) g4→Arr enB 4 w a7 n n (List.replicate n false) g7→Arr enI 3 w a8 1 1 [0] g8→g4<g7→g7<g8→ai.e51 R (some p) a4 n c4 a7 n n a8 1 1 w) (hg4:w1.heap.size<g4) :
  ∀ (k i:Nat) (w:World),i+k=n→From w1.heap.size w1 w→Arr enI 3 w a4 n c4 (xC (nodes.take i) n) g4→dH (okP nodes) 0 nodes=dH (okP nodes) i (nodes.drop i)→ai.l18 R (k+1) (some p) n a4 n c4 a n c n i w
 | 0,i,w,hi,hw,h4,he=>by
  rw [ai.u18]; unfold ai.g18
  refine az (by omega) ?_
  rw [List.drop_eq_nil_of_le (by omega)] at he
  rw [List.take_of_length_le (by omega)] at h4
  refine Arr.make (en:=enB) (x:=false) rfl (by omega) (by omega) (by omega) fun u h7 hk=>?_
  rw [Int.toNat_natCast] at h7 ⊢
  refine bU ?_
  have k2:=Kept.new u (.cells #[.int .i64 0] 3)
  have h8:=Arr.new enI 3 u [0] #[.int .i64 0] rfl (by simp [maxLen])
  have z1:=h4.le
  have z2:=hk.size
  have z3:=h7.le
  exact hend _ _ _ _ _ he (hw.aF (Kept.trans hk k2)) (h4.kept (Kept.trans hk k2)) (h7.kept k2) h8 (by omega) (by omega)
 | k+1,i,w,hi,hw,h4,he=>by
  rw [ai.u18]; unfold ai.g18
  refine aI (by omega) ?_
  have hx0:nodes[i]?=some (nodes[i]'(by omega)):=List.getElem?_eq_getElem _
  rw [drop_cons hx0,jZ] at he
  refine (From.ls hL hw hF).rdN (by omega) (by omega) fun x a' n' c' hx hcs=>?_
  obtain rfl:nodes[i]'(by omega)=x:=by simpa [hx0] using hx
  have hn':n'≤1048576:=by rw [hcs.len]; exact hsh _ (List.getElem_mem _)
  obtain ⟨x,hxe⟩:∃ x,nodes[i]'(by omega)=x:=⟨_,rfl⟩
  rw [hxe] at hx0 he hcs ⊢
  clear hx
  have hq:okP nodes i x=fC iG x n:=by unfold okP; rw [hn]
  rw [hq] at he
  refine oD fun u _ hb8 hk=>hb8.ld ?_
  refine E.CallsD.mono (La (m:=n) (by omega) (hcs.kept hk).sl) fun v u2 ⟨hv,hk2⟩=>⟨_,hv,?_⟩
  have hb2:=hb8.kept hk2
  have hw2:=hw.aF (Kept.trans hk hk2)
  refine (aH _ _ _).2 ⟨fun hb=>hbad i u2 (by rw [he,if_neg]; simpa using hb) hw2,fun hb=>?_⟩
  have hok:fC iG x n=true:=by simpa using hb
  rw [if_pos hok] at he
  refine ⟨_,hb2.c0,?_⟩
  have hb3:=hb2
  have hw3:=hw2
  have h43:=h4.kept (Kept.trans hk hk2)
  refine iJ (fun hin=>⟨_,hb3.c6,?_⟩) fun hin=>?_
  ·have hin:=(oQ hok).1 hin
   obtain ⟨b1,b2,b3,b4,_⟩:=fO hok hin
   obtain ⟨lf,hlf⟩:∃ lf:Nat,x.left=lf:=⟨x.left.toNat,by omega⟩
   obtain ⟨rg,hrg⟩:∃ rg:Nat,x.right=rg:=⟨x.right.toNat,by omega⟩
   obtain ⟨y,hy,hy0,hy1,hset⟩:=yA (l:=nodes.take i) hin hlf hrg (n:=n) (by omega) (by omega)
   have hli:(nodes.take i).length≤n:=by rw [List.length_take]; omega
   have hcl:=cnt_le (nodes.take i) lf
   refine h43.sl.rdI (k := .i64) (by omega) (by omega) fun z hz=>?_
   obtain rfl:z=(cnt (nodes.take i) lf:Int):=by
    rw [hlf,Int.toNat_natCast,kS _ (by omega)] at hz
    simpa using hz.symm
   refine bM (by omega) (by omega) ?_
   refine h43.wr (by omega) (by omega) (x:=(cnt (nodes.take i) lf:Int)+1) rfl fun u4 h44 ho4=>?_
   have hw4:=hw3.only ho4 (.inr hg4)
   have hpb:(na w).block+1≠g4:=by have:=h4.le; show w.heap.size+1≠g4; omega
   have hb4:=hb3.mod ho4 hpb
   refine ⟨_,hb4.c7,?_⟩
   rw [hlf,Int.toNat_natCast] at h44
   refine h44.sl.rdI (k := .i64) (by omega) (by omega) fun z hz=>?_
   obtain rfl:z=y:=by
    rw [hrg,Int.toNat_natCast,hy] at hz
    simpa using hz.symm
   refine bM (by omega) (by omega) ?_
   refine h44.wr (by omega) (by omega) (x:=z+1) rfl fun u5 h45 ho5=>?_
   rw [hrg,Int.toNat_natCast,hset,← take_snoc hx0] at h45
   refine aA (by omega) ?_
   exact qx hn hm hsh hT hL hF hbad hend hg4 k (i+1) u5 (by omega) (hw4.only ho5 (.inr hg4)) h45 he
  ·have hin:x.inner=false:=by
    cases h:x.inner with
    | false=>rfl
    | true=>exact absurd hin ((oQ hok).2 h)
   rw [← BP hin,← take_snoc hx0] at h43
   refine aA (by omega) ?_
   exact qx hn hm hsh hT hL hF hbad hend hg4 k (i+1) u2 (by omega) hw3 h43 he
theorem Gn {w:World} (hm:n≤1048576) (hsh:Short 1048576 nodes) (hL:Ls tN F w a n c nodes) (hF:∀ b,F b→b<w.heap.size) :
  Pure Go.Proofs.Tryz.prog 95 #[vT o a n c] w (.tuple #[.int .i64 (fM iG nodes).1,.int .i64 (fM iG nodes).2]):=by
 refine ai.calls (R:=fun v' u=>v'=_∧Below w.heap.size w u) ?_
 unfold ai ai.g0
 refine ny fun w1 _ hT hk=>⟨_,_,_,hT.c1,?_⟩
 have hL1:=hL.kept hk
 have hF1:∀ b,F b→b<w1.heap.size:=fun b hb=>Nat.lt_of_lt_of_le (hF b hb) hk.size
 have hn:=hL.len
 refine oJ (fun h0=>?_) fun h0=>?_
 ·have:nodes=[]:=List.eq_nil_of_length_eq_zero (by omega)
  subst this
  exact ⟨rfl,hk⟩
 have hne:nodes≠[]:=by intro h; subst h; simp at hn; omega
 have fin:∀ u,From w1.heap.size w1 u→Kept w u:=fun u hu=>Kept.trans hk (From.kept hu)
 refine Arr.make (en:=enI) (x:=0) rfl (by omega) (by omega) (by omega) fun u h4 hk2=>?_
 refine ⟨_,_,_,(hT.kept hk2).c1,?_⟩
 rw [Int.toNat_natCast] at h4 ⊢
 rw [tY hne]
 refine ⟨n+1,qx (w1:=w1) (o:=o) (g4:=w1.heap.size+1) hn hm hsh hT hL1 hF1 (fun i u he hu=>?_) (fun u a7 g7 a8 g8 he hu h4 h7 h8 hg1 hg2=>?_) (by have:=hk.size; omega) n 0 u (by omega) (Kept.mod hk2) (by rwa [List.take_zero,FD]) rfl⟩
 ·rw [he]; exact ⟨rfl,fin u hu⟩
 ·rw [he]
  have hok:=U8 he
  have hs:=hk2.size
  have h8':Arr enI 3 u a8 [0].length 1 (stk [0]) g8:=h8
  refine ⟨_,CU (w1:=w1) (o:=o) (F:=F) hn hm hT hL1 hF1 (fun i x hx=>oQ (hok i x hx)) (fun i x hx hin=>by have:=fO (hok i x hx) hin; rw [hn]; omega) (fun u hu h4 h7=>?_) (by omega) (by omega) (by omega) (3*nodes.length+2) (List.replicate n false) [0] u a8 1 g8 (by rw [hn]; rfl) (by simp) (by rw [um]; simp; omega) (fun i hi=>by simp at hi; omega) hu h4 h7 h8' (by omega) (by omega)⟩
  refine ⟨n+1,vI hn hm h4 h7 (fun i hi=>?_) (fun hi=>?_) n 0 (by omega) rfl⟩
  ·rw [hi]; exact ⟨rfl,fin u hu⟩
  ·rw [hi]; exact ⟨rfl,fin u hu⟩
end
end Go.Mir
set_option maxRecDepth 100000
namespace Go.Mir
open Go Go.E Go.RowKit Go.Tr
section
variable {w1:World} {p:Addr} {o:Int} {a:Option Addr} {n c:Nat} {F:Nat→Prop} {nodes:List ND}
structure Good (F:Nat→Prop) (w:World) (a:Option Addr) (n c:Nat) (nodes:List ND):Prop where
 ls:Ls tN F w a n c nodes
 old:∀ b,F b→b<w.heap.size
 max:n≤1048576
 short:Short 1048576 nodes
theorem Good.len {w:World} (h:Good F w a n c nodes):n=nodes.length:=h.ls.len
theorem Good.kept {w u:World} (h:Good F w a n c nodes) (hk:Kept w u):Good F u a n c nodes:=⟨h.ls.kept hk,fun b hb=>Nat.lt_of_lt_of_le (h.old b hb) hk.size,h.max,h.short⟩
theorem Good.from {w u:World} (h:Good F w a n c nodes) (hk:From w.heap.size w u):Good F u a n c nodes:=h.kept (From.kept hk)
theorem wW {T:BT} (h:Tree iG nodes T) {i:Nat} {x:ND} (hx:nodes[i]?=some x):x.kind≠1↔x.inner=true:=oQ (h.right.ok i x hx)
theorem FZ {R:Value→World→Prop} {T:BT} (hG:Good F w1 a n c nodes) (hTr:Tree iG nodes T) (hT:At2 w1 p o a n c)
  (hend:∀ w a3 c3 g3,From w1.heap.size w1 w→Arr enI 3 w a3 n c3 (nH T.pre) g3→(g3=0∨w1.heap.size<g3)→R (.slice a3 n c3) w) :
  ∀ (m:Nat) (Ts:List BT) (out:List Nat) (w:World) (a3:Option Addr) (c3 g3:Nat) (a4:Option Addr) (c4 g4:Nat),H6 Ts≤m→T.pre=out++OU Ts→(∀ U∈Ts,Is nodes U)→From w1.heap.size w1 w→Arr enI 3 w a3 out.length c3 (nH out) g3→Arr enI 3 w a4 Ts.length c4 (stk (Ts.map BT.root)) g4 →
   (g3=0∨w1.heap.size<g3)→w1.heap.size<g4→g3≠g4→aX.l8 R (m+1) (some p) a3 out.length c3 a4 Ts.length c4 w:=by
 intro m
 induction m with
 | zero =>
  intro Ts out w a3 c3 g3 a4 c4 g4 hm hpre hIs hw h3 h4 hg3 hg4 hne
  have:=mV Ts
  obtain rfl:Ts=[]:=List.eq_nil_of_length_eq_zero (by omega)
  rw [aX.u8]; unfold aX.g8
  refine az (by simp) ?_
  simp only [OU,List.flatMap_nil,List.append_nil] at hpre
  have hl:out.length=n:=by rw [← hpre,hTr.length,hG.len]
  rw [hl] at h3 ⊢
  rw [← hpre] at h3
  exact hend w a3 c3 g3 hw h3 hg3
 | succ m ih =>
  intro Ts out w a3 c3 g3 a4 c4 g4 hm hpre hIs hw h3 h4 hg3 hg4 hne
  rw [aX.u8]; unfold aX.g8
  cases Ts with
  | nil =>
   refine az (by simp) ?_
   simp only [OU,List.flatMap_nil,List.append_nil] at hpre
   have hl:out.length=n:=by rw [← hpre,hTr.length,hG.len]
   rw [hl] at h3 ⊢
   rw [← hpre] at h3
   exact hend w a3 c3 g3 hw h3 hg3
  | cons U Ts =>
   have hIU:=hIs U (by simp)
   have hroot:=hIU.root_lt
   have hn:=hG.len
   have hmx:=hG.max
   have hlen:=congrArg List.length hpre
   rw [hTr.length,List.length_append,Dv,iZ] at hlen
   have hpos:=U.size_pos
   have hTs:=mV Ts
   have hL:(U::Ts).length=Ts.length+1:=rfl
   rw [hL] at h4 ⊢
   refine aI (by omega) ?_
   refine bM (by omega) (by omega) ?_
   have e0:(((Ts.length+1:Nat):Int) - 1).toNat=Ts.length:=by omega
   refine h4.sl.rdI (k := .i64) (by omega) (by omega) fun y hy=>?_
   rw [e0,List.map_cons,show Ts.length=(Ts.map BT.root).length by simp,uS] at hy
   obtain rfl:y=(U.root:Int):=by simpa using hy.symm
   refine bM (by omega) (by omega) ?_
   refine dJ ⟨by omega,by have:=h4.capLe; omega⟩ ?_
   have h4':=h4.take (m:=Ts.length) (by omega)
   rw [List.map_cons,show (stk (U.root::Ts.map BT.root)).take Ts.length=stk (Ts.map BT.root) from by
    have:=zA U.root (Ts.map BT.root); rwa [List.length_map] at this] at h4'
   rw [e0,mg]
   refine h3.push S_I (x:=(U.root:Int)) rfl rfl (by simp only [maxLen]; omega) (by omega) fun a' c' g' u h3' hg' hg0 ho=>⟨_,_,_,rfl,?_⟩
   have hz:=hw.size
   have h4z:=h4.le
   have hu:From w1.heap.size w1 u:=hw.only ho hg3
   have h4u:=h4'.mod ho fun k h1 h2=>by omega
   have hGu:=hG.from hu
   refine bI ⟨_,_,_,(hT.from hu).c1,?_⟩
   refine hGu.ls.rdN (by omega) (by omega) fun x a5 n5 c5 hx _=>?_
   rw [Int.toNat_natCast] at hx
   refine oD fun u2 _ hb hk=>⟨_,hb.c0,?_⟩
   have hu2:=hu.aF hk
   have hno:nH out++[(U.root:Int)]=nH (out++[U.root]):=by simp [nH]
   rw [hno] at h3'
   have hol:out.length+1=(out++[U.root]).length:=by simp
   rw [hol] at h3' ⊢
   cases U with
   | leaf i =>
    obtain ⟨y,hy,hyi⟩:=hIU
    have:x=y:=by have hx':nodes[i]?=some x:=hx; rw [hy] at hx'; simpa using hx'.symm
    subst this
    refine qP (by
     cases Classical.em (x.kind=1) with
     | inl h=>exact h
     | inr h=>have:=(wW hTr hy).1 h; rw [hyi] at this; cases this) ?_
    exact ih Ts (out++[i]) u2 a' c' g' a4 c4 g4 (by rw [iZ] at hm; simp only [BT.size] at hm; omega) (by rw [hpre]; simp [OU,BT.pre]) (fun V hV=>hIs V (by simp [hV])) hu2 (h3'.kept hk) (h4u.kept hk) (by omega) hg4 (by omega)
   | node i l r =>
    obtain ⟨y,hy,hyi,hl,hr,hIl,hIr⟩:=hIU
    have:x=y:=by have hx':nodes[i]?=some x:=hx; rw [hy] at hx'; simpa using hx'.symm
    subst this
    refine iJ ?_ fun h=>absurd hyi (by intro h'; exact (wW hTr hy).2 h' h)
    intro _
    refine ⟨_,hb.c7,_,hb.c6,?_⟩
    simp only [BT.size] at hlen hm
    rw [hl,hr]
    refine (h4u.kept hk).oz (m:=2) S_I (fun _=>rfl) (ys:=[(r.root:Int),(l.root:Int)]) rfl rfl (by omega) (by simp only [maxLen]; omega) (by omega) fun a6 c6 g6 u3 h6 hg6 hg60 ho3=>⟨_,_,_,rfl,?_⟩
    rw [uO] at h6
    have z2:=hk.size
    have z3:=ho.size
    have z5:=h3'.le
    refine ih (l::r::Ts) (out++[i]) u3 a' c' g' a6 c6 g6 (by rw [iZ] at hm; simp only [BT.size] at hm; rw [iZ,iZ]; omega) (by rw [hpre]; simp [OU,BT.pre]) (fun V hV=>?_) (hu2.only ho3 (.inr hg4)) ((h3'.kept hk).mod ho3 fun k h1 h2=>by omega) h6 (by omega) (by omega) (by omega)
    simp only [List.mem_cons] at hV
    rcases hV with h | h | h
    ·subst h; exact hIl
    ·subst h; exact hIr
    ·exact hIs V (by simp [h])
theorem KL {w:World} {T:BT} (hG:Good F w a n c nodes) (hTr:Tree iG nodes T) :
  E.CallsD Go.Proofs.Tryz.prog 96 #[vT o a n c] w fun v u=>∃ a' c',v = .slice a' n c'∧Ac enI 3 w u a' n c' (nH T.pre):=by
 refine aX.calls ?_
 unfold aX aX.g0
 refine ny fun w1 _ hT hk=>bU ?_
 have hk2:=Kept.new w1 (.cells #[.int .i64 0] 3)
 have h4:=Arr.new enI 3 w1 [0] #[.int .i64 0] rfl (by simp [maxLen])
 have hs:=hk.size
 refine ⟨_,FZ (w1:=w1) (T:=T) (hG.kept hk) hTr hT (fun u a3 c3 g3 hu h3 hg=>⟨_,_,rfl,g3,h3,by omega,Kept.trans hk (From.kept hu)⟩) (H6 [T]) [T] [] _ none 0 0 _ 1 (w1.heap.size+1) (Nat.le_refl _) (by simp [OU]) (fun U hU=>by simp at hU; subst hU; exact hTr.is) (Kept.mod hk2) (Arr.nil _ _ _) (by simp [hTr.root]; exact h4) (.inl rfl) (by omega) (by omega)⟩
end
end Go.Mir
set_option maxRecDepth 100000
namespace Go.Mir
open Go Go.E Go.RowKit Go.Tr
theorem U4:fE Go.Proofs.Tryz.prog 167 166 2 16:=sliceT (by kernel_rfl)
section
variable {W:World} {p:Addr} {o:Int} {a:Option Addr} {n c:Nat} {F:Nat→Prop} {nodes:List ND}
theorem D8 {B k g:Nat} {J:Nat→Nat→World→Prop} {w u:World} (hJ:Stable B J) (h:J k g w) (hk:Kept w u):J k g u:=hJ k g w u h (Kept.mod hk)
theorem F7 {t f:Prop} (h:t):af true t f:=h
theorem DR {t f:Prop} (h:f):af false t f:=h
theorem QW (x:Int×Int):∀ v∈enR x,v.oneCell'=true:=by
 intro v hv
 simp only [List.mem_cons,List.not_mem_nil,or_false] at hv
 rcases hv with h | h <;> subst h <;> rfl
theorem MQ {R:Value→World→Prop} {T:BT} {l:Nat} {V:Nat→Prop} {J:Nat→Nat→World→Prop} {X:List (Int×Int)} (hG:Good F W a n c nodes) (hTr:Tree iG nodes T) (hT:At2 W p o a n c) (hV:∀ b,V b→b<l) (hpV:¬ V p.block) (hFV:∀ b,F b→¬ V b) (hpl:p.block<l) (hFl:∀ b,F b→b<l) (hl:l<W.heap.size)
  (hst:Stable W.heap.size J) (hJg:∀ k g u,J k g u→(g=0∨W.heap.size<g)∧g≤u.heap.size∧W.heap.size≤u.heap.size)
  (hrd:∀ k g x u,X[k]?=some x→J k g u→tZ Go.Proofs.Tryz.prog l #[.int .i64 x.1,.int .i64 x.2] u fun v u'=>v = .bool true∧∃ g',J (k+1) g' u'∧(g'=g∨u.heap.size<g')∧Mod (fun b=>V b∨b=l∨b+1=g) u u')
  (hend:∀ g u,J X.length g u→R (.tuple #[]) u) (hXn:X.length≤n) :
  ∀ (m:Nat) (Ts:List BD) (out:List (Int×Int)) (w:World) (g:Nat) (a3:Option Addr) (c3 g3:Nat),Oo Ts≤m→X=out++AZ (Ad Ts)→(∀ U∈Ts,Is nodes U.1∧U.2+U.1.size≤n+1)→J out.length g w→Mod (fun b=>V b∨b=l∨W.heap.size≤b) W w→aO 2 enR 166 w a3 Ts.length c3 (IQ Ts) g3→W.heap.size<g3→g≠g3→dQ.l3 R (m+1) l p a3 Ts.length c3 w:=by
 intro m
 induction m with
 | zero =>
  intro Ts out w g a3 c3 g3 hm hX hIs hJ hw h3 hg3 hne
  have:=wJ Ts
  obtain rfl:Ts=[]:=List.eq_nil_of_length_eq_zero (by omega)
  rw [dQ.u3]; unfold dQ.g3
  refine az (by simp) ?_
  simp only [Ad,List.flatMap_nil,AZ,List.map_nil,List.append_nil] at hX
  rw [← hX] at hJ
  exact hend g w hJ
 | succ m ih =>
  intro Ts out w g a3 c3 g3 hm hX hIs hJ hw h3 hg3 hne
  rw [dQ.u3]; unfold dQ.g3
  cases Ts with
  | nil =>
   refine az (by simp) ?_
   simp only [Ad,List.flatMap_nil,AZ,List.map_nil,List.append_nil] at hX
   rw [← hX] at hJ
   exact hend g w hJ
  | cons U Ts =>
   obtain ⟨U,dp⟩:=U
   obtain ⟨hIU,hUs⟩:=hIs (U,dp) (by simp)
   simp only at hIU hUs
   have hroot:=hIU.root_lt
   have hn:=hG.len
   have hmx:=hG.max
   have hlen:=congrArg List.length hX
   rw [List.length_append,pY,BU,oq] at hlen
   have hpos:=U.size_pos
   have hTs:=wJ Ts
   have hL:((U,dp)::Ts).length=Ts.length+1:=rfl
   rw [hL] at h3 ⊢
   obtain ⟨j1,j2,j3⟩:=hJg _ _ _ hJ
   simp only at hlen
   refine aI (by omega) ?_
   refine bM (by omega) (by omega) ?_
   have e0:(((Ts.length+1:Nat):Int) - 1).toNat=Ts.length:=by omega
   refine h3.RG.rd2 (by omega) (by omega) fun y hy=>?_
   rw [e0,Ih] at hy
   obtain rfl:y=((U.root:Int),(dp:Int)):=by simpa using hy.symm
   refine Xq fun u hb hk=>?_
   refine bM (by omega) (by omega) ?_
   refine dJ ⟨by omega,by have:=h3.capLe; omega⟩ ⟨_,hb.rd rfl,_,hb.rd rfl,?_⟩
   have h3':=h3.take (k:=2) (en:=enR) (fun _=>rfl) (m:=Ts.length) (by omega)
   rw [Ny] at h3'
   rw [e0,mg]
   have hnext:X[out.length]?=some ((U.root:Int),(dp:Int)):=by
    rw [hX,List.getElem?_append_right (Nat.le_refl _),Nat.sub_self]
    cases U <;> simp [Ad,AZ,BT.I4,BT.root]
   refine (hrd out.length g _ u hnext (D8 hst hJ hk)).mono fun v u2 ⟨hv,g',hJ2,hg',hm2⟩=>⟨_,hv,?_⟩
   refine DR ?_
   have hw2:Mod (fun b=>V b∨b=l∨W.heap.size≤b) W u2:=(hw.trans (Kept.mod (S:=fun _=>False) hk) (U:=fun b=>V b∨b=l∨W.heap.size≤b) (fun _ _ h=>h) (fun _ _ h=>h.elim)).trans hm2 (fun _ _ h=>h) (fun b hb h=>by
    rcases h with h | h | h
    ·exact .inl h
    ·exact .inr (.inl h)
    ·exact .inr (.inr (by omega)))
   have z1:=hk.size
   have z2:=hm2.size
   have z3:w.heap.size<u.heap.size:=hb.lt
   have hpW:=hT.lt
   have hT2:=hT.mod hw2 (fun h=>h.elim hpV (fun h=>by omega))
   have hL2:=hG.ls.mod hw2 (fun b hb h=>h.elim (hFV b hb) (fun h=>by have:=hG.old b hb; have:=hFl b hb; omega))
   have hb2:=hb.mod hm2 (fun h=>h.elim (fun h=>by have:=hV _ h; omega) (fun h=>by omega))
   have h32:=(h3'.kept hk).mod hm2 (fun b h1 h=>h.elim (fun h=>by have:=hV _ h; omega) (fun h=>by omega))
   refine ⟨_,_,_,hT2.c1,_,hb2.rd rfl,?_⟩
   refine hL2.rdN (by omega) (by omega) fun x a5 n5 c5 hx _=>?_
   rw [Int.toNat_natCast] at hx
   refine oD fun u3 _ hb8 hk3=>hb8.ld ?_
   refine E.CallsD.mono (wK u3 x a5 n5 c5) fun v u4 ⟨hv,hk4⟩=>⟨_,hv,?_⟩
   have hk24:=Kept.trans hk3 hk4
   have hb4:=hb8.kept hk4
   have hbs:=hb2.mod (Kept.mod (S:=fun _=>False) hk24) (fun h=>h)
   have h34:=h32.kept hk24
   have hJ4:=D8 hst hJ2 hk24
   have hw4:Mod (fun b=>V b∨b=l∨W.heap.size≤b) W u4:=hw2.trans (Kept.mod (S:=fun _=>False) hk24) (fun _ _ h=>h) (fun _ _ h=>h.elim)
   have hol:(out++[((U.root:Int),(dp:Int))]).length=out.length+1:=by simp
   cases U with
   | leaf i =>
    obtain ⟨y,hy,hyi⟩:=hIU
    have:x=y:=by have hx':nodes[i]?=some x:=hx; rw [hy] at hx'; simpa using hx'.symm
    subst this
    rw [hyi]
    refine DR ?_
    refine ih Ts (out++[(((BT.leaf i).root:Int),(dp:Int))]) u4 g' a3 c3 g3 (by rw [oq] at hm; simp only [BT.size] at hm; omega) (by rw [hX]; simp [Ad,BT.I4,AZ,BT.root]) (fun V hV=>hIs V (by simp [hV])) (by rw [hol]; exact hJ4) hw4 h34 hg3 (by have:=h3.le; omega)
   | node i lt rt =>
    obtain ⟨y,hy,hyi,hlf,hrg,hIl,hIr⟩:=hIU
    have:x=y:=by have hx':nodes[i]?=some x:=hx; rw [hy] at hx'; simpa using hx'.symm
    subst this
    rw [hyi]
    refine F7 ?_
    have z5:=lt.size_pos
    have z6:=rt.size_pos
    simp only [BT.size] at hlen hm hUs
    refine ⟨_,hb4.c7,_,hbs.rd rfl,?_⟩
    refine bM (by omega) (by omega) ?_
    refine ⟨_,hb4.c6,_,hbs.rd rfl,?_⟩
    refine bM (by omega) (by omega) ?_
    rw [hlf,hrg]
    refine h34.oz (m:=2) U4 (fun _=>rfl) (by omega) QW (ys:=[((rt.root:Int),((dp+1:Nat):Int)),((lt.root:Int),((dp+1:Nat):Int))]) rfl rfl (by omega) (by simp only [maxLen]; omega) (by omega) fun a6 c6 g6 u5 h6 hg6 hg60 ho5=>⟨_,_,_,rfl,?_⟩
    have h6':=JO Ts (rt,dp+1) (lt,dp+1)
    simp only at h6'
    rw [h6'] at h6
    have hg3le:=h34.le
    obtain ⟨j5,j6,j7⟩:=hJg _ _ _ hJ4
    have hne':g'≠g3:=by have:=h3.le; omega
    refine ih ((lt,dp+1)::(rt,dp+1)::Ts) (out++[(((BT.node i lt rt).root:Int),(dp:Int))]) u5 g' a6 c6 g6 (by rw [oq] at hm; simp only [BT.size] at hm; rw [oq,oq]; simp only; omega) (by rw [hX]; simp [Ad,BT.I4,AZ,BT.root]) (fun V hV=>?_) (by rw [hol]; exact hst _ _ _ _ hJ4 (ho5.weak fun b _ hb=>⟨by omega,by omega⟩)) (hw4.trans ho5 (fun _ _ h=>h) (fun b _ h => .inr (.inr (by omega)))) h6 (by omega) (by omega)
    simp only [List.mem_cons] at hV
    rcases hV with h | h | h
    ·subst h; exact ⟨hIl,by simp only; omega⟩
    ·subst h; exact ⟨hIr,by simp only; omega⟩
    ·exact hIs V (by simp [h])
theorem IB {T:BT} {V:Nat→Prop} (hG:Good F W a n c nodes) (hTr:Tree iG nodes T) (hT:At2 W p o a n c) (hV:∀ b,V b→b<W.heap.size) (hpV:¬ V p.block) (hFV:∀ b,F b→¬ V b) :
  TC Go.Proofs.Tryz.prog 100 #[.pointer (some p)] (AZ (T.I4 0)) V W:=by
 intro l J u hb hl1 hl2 hst hJg hrd h0
 show E.CallsD Go.Proofs.Tryz.prog 100 #[.func (.yield l) #[] #[],.pointer (some p)] u _
 refine dQ.calls ?_
 unfold dQ dQ.g0
 have hGu:=hG.kept hb
 have hTu:=hT.kept hb
 have hlen:(AZ (T.I4 0)).length=n:=by rw [pY,BT.qi,← BT.gW,hTr.length,hG.len]
 refine bU ?_
 have hk:=Kept.new u (.cells #[.int .i64 0,.int .i64 0] 166)
 have h3:=aO.new (k:=2) (en:=enR) (fun _=>rfl) 166 u [((0:Int),(0:Int))] #[.int .i64 0,.int .i64 0] rfl (by simp [maxLen])
 have h3':[((0:Int),(0:Int))]=IQ [(T,0)]:=by simp [IQ,AZ,hTr.root]
 rw [h3'] at h3
 obtain ⟨j1,j2,j3⟩:=hJg _ _ _ h0
 have hsz:T.size=n:=by rw [← BT.gW,hTr.length,hG.len]
 refine ⟨_,MQ (W:=u) (p:=p) (o:=o) (F:=F) (V:=V) hGu hTr hTu (fun b hb=>Nat.lt_of_lt_of_le (hV b hb) hl1) hpV hFV (Nat.lt_of_lt_of_le hT.lt hl1) (fun b hb=>Nat.lt_of_lt_of_le (hG.old b hb) hl1) hl2 hst hJg hrd (fun g u h=>⟨g,h⟩) (by omega) (Oo [(T,0)]) [(T,0)] [] _ 0 (some (na u)) 1 (u.heap.size+1) (Nat.le_refl _) (by simp [Ad]) (fun U hU=>by simp at hU; subst hU; exact ⟨hTr.is,by simp only; omega⟩) (D8 hst h0 hk) (Kept.mod hk) h3 (by omega) (by omega)⟩
end
end Go.Mir
