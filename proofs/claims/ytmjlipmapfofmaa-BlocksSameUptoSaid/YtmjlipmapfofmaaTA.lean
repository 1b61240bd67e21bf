/- Part of a proof of laws of the seat Ytmjlipmapfofmaa: functions' weakest preconditions, each checked by the kernel, contracts out of them, plain lemmas; no conditions. -/
import Derived.Test.YtmjlipmapfofmaaEC
import Derived.Test.YtmjlipmapfofmaaTMA
set_option linter.unusedVariables false
set_option linter.unusedSimpArgs false
set_option linter.unusedSectionVars false
namespace Go.Mir
open Go Go.E Go.RowKit Go.Tr
theorem fb (w:World) (f:Nat):qE Go.Proofs.Try.prog (callFunc 58 #[.float .f64 f]) w (.int .u64 (f:Int)):=fun d=>by kernel_rfl
abbrev enI (x:Int):Value := .int .i64 x
section
variable {w:World} {x:ND} {a:Option Addr} {n c:Nat}
theorem rV (w:World) (x:ND) (a:Option Addr) (n c:Nat):Pure Go.Proofs.Try.prog 62 #[vN x a n c] w (.bool x.inner):=by
 refine fE.calls (R:=fun v' u=>v'=_∧Below w.heap.size w u) ?_
 unfold fE fE.g0
 refine U6 fun u _ h8 hk=>⟨_,h8.c0,?_⟩
 refine oM (fun h=>⟨by simp [ND.inner,h],hk⟩) fun h=>⟨_,h8.c0,?_,hk⟩
 simp [ND.inner,h]
end
end Go.Mir
set_option maxRecDepth 100000
namespace Go.Mir
open Go Go.E Go.RowKit Go.Tr
section
variable {w:World} {x:ND} {a:Option Addr} {n c:Nat} {f:Nat}
end
end Go.Mir
set_option maxRecDepth 100000
namespace Go.Mir
open Go Go.E Go.RowKit Go.Tr
section
variable {w:World} {x:ND} {a:Option Addr} {n c:Nat} {f:Nat} {xs:List Int}
theorem drop_cons {α:Type} {xs:List α} {i:Nat} {y:α} (h:xs[i]?=some y):xs.drop i=y::xs.drop (i+1):=by
 obtain ⟨hlt,rfl⟩:=List.getElem?_eq_some_iff.1 h
 exact List.drop_eq_getElem_cons hlt
def prev (xs:List Int) (i:Nat):Int:=if i=0 then -1 else xs.getD (i - 1) (-1)
theorem wo {i:Nat} {y:Int} (h:xs[i]?=some y):prev xs (i+1)=y:=by
 unfold prev
 rw [if_neg (by omega),List.getD_eq_getElem?_getD,Nat.add_sub_cancel,h]
 rfl
theorem xy {R:Value→World→Prop} {w0:World} {b:Bool} (hn:n=xs.length) (hm:n≤16777216) (hR:∀ u,Kept w0 u→R (.bool (b&&WZ xs)) u) :
  ∀ (k i:Nat) (w:World),i+k=n→Sl enI w a n xs→Kept w0 w→(0<i→0≤prev xs i)→WZ xs=(!xs.isEmpty&&iE (prev xs i) (xs.drop i))→bH.l34 R (k+1) b (prev xs i) a n c n i w
 | 0,i,w,hi,hs,hk,hp,he=>by
  rw [bH.u34]; unfold bH.g34
  refine ai (by omega) ?_
  rw [List.drop_eq_nil_of_le (by omega)] at he
  have:=hR w hk
  rw [he] at this
  have e:(decide (prev xs i≥0))=(!xs.isEmpty&&iE (prev xs i) []):=by
   unfold iE
   cases xs with
   | nil =>
    subst hn
    obtain rfl:i=0:=by simp at hi; omega
    rfl
   | cons y l=>have:=hp (by subst hn; simp at hi; omega); simp [this]
  rw [e]
  refine (aH _ _ _).2 ⟨fun hb=>?_,fun hb=>?_⟩
  ·subst hb; rwa [Bool.true_and] at this
  ·subst hb; rwa [Bool.false_and] at this
 | k+1,i,w,hi,hs,hk,hp,he=>by
  rw [bH.u34]; unfold bH.g34
  refine aN (by omega) ?_
  refine hs.rdI (k := .i64) (by omega) (by omega) fun y hy=>?_
  have hy':xs[i]?=some y:=by simpa using hy
  rw [drop_cons hy',show ∀ p l,iE p (y::l)=(decide (p<y)&&decide (y<1024)&&iE y l) from fun _ _=>rfl] at he
  have no:(¬ prev xs i<y∨¬ y<1024)→R (.bool false) w:=fun h=>by
   have:=hR w hk
   rw [he] at this
   have e:(decide (prev xs i<y)&&decide (y<1024)&&iE y (xs.drop (i+1)))=false:=by
    rcases h with h | h <;> simp [h]
   rw [e,Bool.and_false,Bool.and_false] at this
   exact this
  refine (aH _ _ _).2 ⟨fun hb=>no (.inl (by have:=of_decide_eq_true hb; omega)),fun hb=>?_⟩
  have h0:=of_decide_eq_false hb
  refine (aH _ _ _).2 ⟨fun hb=>no (.inr (by have:=of_decide_eq_true hb; omega)),fun hb=>?_⟩
  have h1:=of_decide_eq_false hb
  refine WE (by omega) ?_
  have:=xy hn hm hR k (i+1) w (by omega) hs hk (fun _=>by
   rw [wo hy']
   by_cases h:i=0
   ·have:prev xs i = -1:=by unfold prev; rw [if_pos h]
    omega
   ·have:=hp (by omega); omega) (by
   rw [he,wo hy']
   simp only [Bool.and_assoc,decide_eq_true (show prev xs i<y by omega),decide_eq_true (show y<1024 by omega),Bool.true_and])
  rwa [wo hy'] at this
theorem P7 {m:Int} (hm:n≤16777216) (hs:Sl enI w a n x.aI):Pure Go.Proofs.Try.prog 79 #[vN x a n c,.int .i64 m] w (.bool (eG fQ x m)):=by
 refine bH.calls (R:=fun v' u=>v'=_∧Below w.heap.size w u) ?_
 unfold bH bH.g0
 refine U6 fun u _ h8 hk=>⟨_,h8.c3,_,fb _ _,_,h8.c0,?_⟩
 have hl:x.aI.isEmpty=((n:Int)==0):=by
  rw [hs.len]; cases x.aI <;> simp; omega
 have ht:(x.thr==0)=((x.thr:Int)==0):=by rw [Bool.eq_iff_iff]; simp
 refine oM (fun h1=>?_) fun h1=>?_
 ·have e:eG fQ x m=(x.feature==0&&x.thr==0&&x.aI.isEmpty&&x.missing==0&&x.left==0&&x.right==0):=by unfold eG; rw [if_pos h1]
  rw [e,hl,ht]
  repeat' (first | (refine ⟨_,(h8).c0,?_⟩) | (refine ⟨_,(h8).c1,?_⟩) | (refine ⟨_,(h8).c2,?_⟩) | (refine ⟨_,(h8).c3,?_⟩) | (refine ⟨_,_,_,(h8).c4,?_⟩) | (refine ⟨_,(h8).c5,?_⟩) | (refine ⟨_,(h8).c6,?_⟩) | (refine ⟨_,(h8).c7,?_⟩) | (refine (aH _ _ _).2 ⟨fun _=>?_,fun _=>?_⟩))
  all_goals refine ⟨congrArg _ ?_,hk⟩
  all_goals (simp_all <;> omega)
 ·refine h8.ld ?_
  refine E.CallsD.mono (rV u x a n c) fun v u2 ⟨hv,k2⟩=>⟨_,hv,?_⟩
  have k2':=Kept.trans hk k2
  have h9:=h8.kept k2
  have e2:x.kind=2→eG fQ x m=(!fQ x.thr&&x.aI.isEmpty&&jf x m):=fun h2=>by unfold eG; rw [if_neg h1,if_pos h2]
  have e3:x.kind=3→eG fQ x m=(x.thr==0&&WZ x.aI&&jf x m):=fun h3=>by unfold eG; rw [if_neg h1,if_neg (by omega),if_pos h3]
  refine (aH _ _ _).2 ⟨fun hb=>?_,fun hb=>?_⟩
  ·refine ⟨congrArg _ ?_,k2'⟩
   have hb':x.inner=false:=by simpa using hb
   unfold ND.inner at hb'
   simp at hb'
   unfold eG
   rw [if_neg h1,if_neg hb'.1,if_neg hb'.2]
  ·have hb':x.inner=true:=by simpa using hb
   have no:jf x m=false→eG fQ x m=false:=fun h=>by
    unfold ND.inner at hb'
    simp at hb'
    rcases hb' with h2 | h3
    ·rw [e2 h2,h,Bool.and_false]
    ·rw [e3 h3,h,Bool.and_false]
   have yes:jf x m=true→ae (x.kind==2)
     (∃ y:Nat,u2.cell? ((na w).add 3)=some (.float .f64 y)∧(∃ z:Nat,u2.cell? ((na w).add 3)=some (.float .f64 z)∧ae (FloatKind.f64.format.order y z==some .eq)
      (∃ ya:Option Addr,∃ yn:Nat,∃ yc:Nat,u2.cell? ((na w).add 4)=some (.slice ya yn yc)∧(fun v' u=>v'=Value.bool (eG fQ x m)∧Below w.heap.size w u) (.bool ((yn:Int)==0)) u2)
      ((fun v' u=>v'=Value.bool (eG fQ x m)∧Below w.heap.size w u) (.bool false) u2)))
     (∃ ya:Option Addr,∃ yn:Nat,∃ yc:Nat,u2.cell? ((na w).add 4)=some (.slice ya yn yc)∧bH.e34 (fun v' u=>v'=Value.bool (eG fQ x m)∧Below w.heap.size w u) ((x.thr:Int)==0) (-1) ya yn yc (yn:Int) 0 u2):=by
    intro hi
    refine oM (fun h2=>⟨_,h9.c3,_,h9.c3,(aH _ _ _).2 ⟨fun hq=>⟨_,_,_,h9.c4,?_,k2'⟩,fun hq=>⟨?_,k2'⟩⟩⟩) fun h2=>⟨_,_,_,h9.c4,?_⟩
    ·rw [e2 h2,hi,← hl]
     have:fQ x.thr=false:=by unfold fQ; simpa using hq
     rw [this]; simp
    ·rw [e2 h2]
     have:fQ x.thr=true:=by unfold fQ; simpa using hq
     rw [this]; simp
    ·have h3:x.kind=3:=by unfold ND.inner at hb'; simp at hb'; omega
     rw [e3 h3,hi,Bool.and_true,ht]
     have:=xy (R:=fun v' u=>v'=Value.bool (((x.thr:Int)==0)&&WZ x.aI)∧Below w.heap.size w u) (w0:=w) (b:=((x.thr:Int)==0)) (c:=c) hs.len hm (fun u hk=>⟨rfl,hk⟩) n 0 u2 (by omega) (hs.keep k2') k2' (fun h=>by omega) (by simp [prev,WZ])
     exact ⟨n+1,this⟩
   unfold jf at no yes
   repeat' (first | (refine ⟨_,h9.c1,?_⟩) | (refine ⟨_,h9.c2,?_⟩) | (refine ⟨_,h9.c5,?_⟩) | (refine ⟨_,h9.c6,?_⟩) | (refine ⟨_,h9.c7,?_⟩) | (refine ⟨congrArg _ (no ?_).symm,k2'⟩) | (refine ⟨_,h9.c0,yes ?_⟩) | (refine (aH _ _ _).2 ⟨fun _=>?_,fun _=>?_⟩))
   all_goals (clear no yes; simp_all <;> omega)
end
end Go.Mir
set_option maxRecDepth 100000
namespace Go.Mir
open Go Go.E Go.RowKit Go.Tr
theorem aK {a:Addr} {K:Addr→Prop} (h:K a):aY (some a) K:=h
theorem S_I:dV Go.Proofs.Try.prog 45 3 1 8:=sliceT (by kernel_rfl)
abbrev enB (b:Bool):Value := .bool b
section
variable {w1:World} {p:Addr} {o:Int} {a:Option Addr} {n c:Nat} {F:Nat→Prop} {nodes:List ND}
def CY (nodes:List ND) (i:Nat) (_:ND):Bool:=cnt nodes i==min i 1&&(reached nodes).getD i false
theorem Xg {R:Value→World→Prop} {w:World} {a4 a7:Option Addr} {c4 c7 g4 g7:Nat} (hn:n=nodes.length) (hm:n≤1048576) (h4:Arr enI 3 w a4 n c4 (BR nodes n) g4) (h7:Arr enB 4 w a7 n c7 (reached nodes) g7)
  (hbad:∀ i,dL (CY nodes) 0 nodes=some i→R (.tuple #[.int .i64 70,.int .i64 i]) w) (hok:dL (CY nodes) 0 nodes=none→R (.tuple #[.int .i64 0,.int .i64 0]) w) :
  ∀ (k i:Nat),i+k=n→dL (CY nodes) 0 nodes=dL (CY nodes) i (nodes.drop i)→ay.l80 R (k+1) a4 n c4 a7 n c7 n i w
 | 0,i,hi,he=>by
  rw [ay.u80]; unfold ay.g80
  refine ai (by omega) ?_
  rw [List.drop_eq_nil_of_le (by omega)] at he
  exact hok he
 | k+1,i,hi,he=>by
  rw [ay.u80]; unfold ay.g80
  refine aN (by omega) ?_
  have hx:nodes[i]?=some (nodes[i]'(by omega)):=List.getElem?_eq_getElem _
  rw [drop_cons hx,lQ] at he
  have hr:(reached nodes)[i]?=some ((reached nodes)[i]'(by rw [og]; omega)):=List.getElem?_eq_getElem _
  obtain ⟨b,hb⟩:∃ b,(reached nodes)[i]'(by rw [og]; omega)=b:=⟨_,rfl⟩
  rw [hb] at hr
  have hlp:CY nodes i (nodes[i]'(by omega))=(cnt nodes i==min i 1&&b):=by unfold CY; rw [List.getD_eq_getElem?_getD,hr]; rfl
  rw [hlp] at he
  refine o8 rfl ?_
  refine h4.sl.rdI (k := .i64) (by omega) (by omega) fun y hy=>?_
  obtain rfl:y=(cnt nodes i:Int):=by
   rw [nY nodes (by omega)] at hy
   simpa using hy.symm
  have hmin:(if 1<(i:Int) then (1:Int) else (i:Int))=(min i 1:Nat):=by split <;> omega
  rw [hmin]
  refine jR (fun hne=>hbad i ?_) fun heq=>?_
  ·rw [he,if_neg]; simp; intro h; omega
  ·refine h7.sl.rd (f:=fun b => .bool b) (sel:=fun b=>b) (fun _=>rfl) (by omega) (by omega) fun y hy=>?_
   have hy':y=b:=by simpa [hr] using hy.symm
   subst hy'
   have hc:(cnt nodes i==min i 1)=true:=by simp; omega
   rw [hc,Bool.true_and] at he
   refine (aH _ _ _).2 ⟨fun hb=>hbad i ?_,fun hb=>?_⟩
   ·have:y=false:=by simpa using hb
    rw [he,this]; rfl
   ·have:y=true:=by simpa using hb
    rw [this,if_pos rfl] at he
    refine WE (by omega) ?_
    exact Xg hn hm h4 h7 hbad hok k (i+1) (by omega) he
theorem NY {R:Value→World→Prop} {a4 a7:Option Addr} {c4 c7 g4 g7:Nat} (hn:n=nodes.length) (hm:n≤1048576) (hT:At2 w1 p o a n c) (hL:Ls tN F w1 a n c nodes) (hF:∀ b,F b→b<w1.heap.size) (hok:∀ (i:Nat) x,nodes[i]?=some x→x.inner=true→1≤x.left∧x.left<n∧1≤x.right∧x.right<n)
  (hend:∀ w,From w1.heap.size w1 w→Arr enI 3 w a4 n c4 (BR nodes n) g4→Arr enB 4 w a7 n c7 (reached nodes) g7→ay.e80 R a4 n c4 a7 n c7 n 0 w) (hg4:w1.heap.size<g4) (hg7:w1.heap.size<g7) (hg:g4≠g7) :
  ∀ (f:Nat) (r:List Bool) (st:List Nat) (w:World) (a8:Option Addr) (c8 g8:Nat),dfs nodes f r st=reached nodes→r.length=n→st.length+3*cf r≤f→(∀ i∈st,i<n)→From w1.heap.size w1 w→Arr enI 3 w a4 n c4 (BR nodes n) g4→Arr enB 4 w a7 n c7 r g7→Arr enI 3 w a8 st.length c8 (stk st) g8→(w1.heap.size<g8∧g8≠g4∧g8≠g7)→f≤4194304→ay.l49 R (f+1) (some p) a4 n c4 a7 n c7 a8 st.length c8 w:=by
 intro f
 induction f with
 | zero =>
  intro r st w a8 c8 g8 hd hrl hms hst hw h4 h7 h8 hg8 hf
  rw [ay.u49]; unfold ay.g49
  have hT':=hT.from hw
  obtain rfl:st=[]:=List.eq_nil_of_length_eq_zero (by omega)
  refine ai (by simp) ?_
  rw [DU] at hd
  subst hd
  exact aK ⟨_,_,_,hT'.c1,hend w hw h4 h7⟩
 | succ f ih =>
  intro r st w a8 c8 g8 hd hrl hms hst hw h4 h7 h8 hg8 hf
  rw [ay.u49]; unfold ay.g49
  have hT':=hT.from hw
  cases st with
  | nil =>
   refine ai (by simp) ?_
   rw [DU] at hd
   subst hd
   exact aK ⟨_,_,_,hT'.c1,hend w hw h4 h7⟩
  | cons i st =>
   have hin:=hst i (by simp)
   have hlen:(i::st).length=st.length+1:=rfl
   rw [hlen] at h8 hms ⊢
   have hstl:st.length≤4194304:=by omega
   refine aN (by omega) ?_
   refine aX (by omega) (by omega) ?_
   have e0:(((st.length+1:Nat):Int) - 1).toNat=st.length:=by omega
   refine h8.sl.rdI (k := .i64) (by omega) (by omega) fun y hy=>?_
   rw [e0,KP] at hy
   obtain rfl:y=(i:Int):=by simpa using hy.symm
   refine aX (by omega) (by omega) ?_
   refine dA ⟨by omega,by have:=h8.capLe; omega⟩ ?_
   have h8':=h8.take (m:=st.length) (by omega)
   rw [QF] at h8'
   rw [e0,tY]
   have hr:r[i]?=some (r[i]'(by omega)):=List.getElem?_eq_getElem _
   obtain ⟨b,hb⟩:∃ b,r[i]'(by omega)=b:=⟨_,rfl⟩
   rw [hb] at hr
   refine h7.sl.rd (f:=fun b => .bool b) (sel:=fun b=>b) (fun _=>rfl) (by omega) (by omega) fun y hy=>?_
   obtain rfl:y=b:=by simpa [hr] using hy.symm
   refine (aH _ _ _).2 ⟨fun hy=>?_,fun hy=>?_⟩
   ·subst hy
    rw [Lp hr] at hd
    exact ih r st w a8 c8 g8 hd hrl (by omega) (fun j hj=>hst j (by simp [hj])) hw h4 h7 h8' hg8 (by omega)
   ·subst hy
    have hx:nodes[i]?=some (nodes[i]'(by omega)):=List.getElem?_eq_getElem _
    rw [IE hr hx] at hd
    refine h7.wr (by omega) (by omega) (x:=true) rfl fun u h7' ho=>?_
    rw [Int.toNat_natCast] at h7'
    have hu:=hw.only ho (.inr hg7)
    have h4':=h4.mod ho fun k h1 h2=>by omega
    have h8u:=h8'.mod ho fun k h1 h2=>by omega
    have hTu:=hT.from hu
    have hLu:=From.ls hL hu hF
    refine aK ⟨_,_,_,hTu.c1,?_⟩
    refine hLu.rdN (by omega) (by omega) fun x a' n' c' hx' hcs=>?_
    obtain rfl:nodes[i]'(by omega)=x:=by simpa [hx] using hx'
    refine tq fun u2 _ hb8 hk=>hb8.ld ?_
    refine E.CallsD.mono (rV u2 _ a' n' c') fun v u3 ⟨hv,hk3⟩=>⟨_,hv,?_⟩
    have hk':=Kept.trans hk hk3
    have hu3:=hu.aA hk'
    have hb3:=hb8.kept hk3
    have hmeas:=Oc hr
    refine (aH _ _ _).2 ⟨fun hin2=>⟨_,hb3.c6,_,hb3.c7,?_⟩,fun hin2=>?_⟩
    ·rw [if_pos hin2] at hd
     obtain ⟨b1,b2,b3,b4⟩:=hok i _ hx hin2
     have e1:(nodes[i]'(by omega)).left=((nodes[i]'(by omega)).left.toNat:Int):=by omega
     have e2:(nodes[i]'(by omega)).right=((nodes[i]'(by omega)).right.toNat:Int):=by omega
     refine (h8u.kept hk').zO (m:=2) S_I (fun _=>rfl) (ys:=[((nodes[i]'(by omega)).left.toNat:Int),((nodes[i]'(by omega)).right.toNat:Int)]) (by rw [← e1,← e2]; rfl) rfl (by omega) (by simp only [maxLen]; omega) (by omega) fun a' c' g' u4 h8v hg' hg0 ho4=>⟨_,_,_,rfl,?_⟩
     rw [KO] at h8v
     have z1:=hk'.size
     have z2:=ho.size
     have z3:=h4.le
     have z4:=h7.le
     have z5:=hw.size
     refine ih _ _ u4 a' c' g' hd (by simpa using hrl) (by simp only [List.length_cons]; omega) (fun j hj=>?_) (hu3.only ho4 (.inr hg8.1)) ((h4'.kept hk').mod ho4 fun k h1 h2=>by omega) ((h7'.kept hk').mod ho4 fun k h1 h2=>by omega) h8v (by omega) (by omega)
     simp only [List.mem_cons] at hj
     rcases hj with h | h | h
     ·omega
     ·omega
     ·exact hst j (by simp [h])
    ·rw [if_neg (by simp [hin2])] at hd
     exact ih _ st u3 a8 c8 g8 hd (by simpa using hrl) (by omega) (fun j hj=>hst j (by simp [hj])) hu3 (h4'.kept hk') (h7'.kept hk') (h8u.kept hk') hg8 (by omega)
end
end Go.Mir
set_option maxRecDepth 100000
namespace Go.Mir
open Go Go.E Go.RowKit Go.Tr
section
variable {w1:World} {p:Addr} {o:Int} {a:Option Addr} {n c:Nat} {F:Nat→Prop} {nodes:List ND}
def okP (nodes:List ND) (_:Nat) (x:ND):Bool:=eG fQ x nodes.length
theorem take_snoc {α:Type} {xs:List α} {i:Nat} {y:α} (h:xs[i]?=some y):xs.take (i+1)=xs.take i++[y]:=by
 rw [List.take_add_one,h]; rfl
def Short (N:Nat) (nodes:List ND):Prop:=∀ x∈nodes,x.aI.length≤N
theorem zD {R:Value→World→Prop} {a4:Option Addr} {c4 g4:Nat} (hn:n=nodes.length) (hm:n≤1048576) (hsh:Short 1048576 nodes) (hT:At2 w1 p o a n c) (hL:Ls tN F w1 a n c nodes) (hF:∀ b,F b→b<w1.heap.size)
  (hbad:∀ i w,dL (okP nodes) 0 nodes=some i→From w1.heap.size w1 w→R (.tuple #[.int .i64 71,.int .i64 i]) w)
  (hend:∀ w a7 g7 a8 g8,dL (okP nodes) 0 nodes=none→From w1.heap.size w1 w→Arr enI 3 w a4 n c4 (BR nodes n) g4→Arr enB 4 w a7 n n (List.replicate n false) g7→Arr enI 3 w a8 1 1 [0] g8→g4<g7→g7<g8→ay.e49 R (some p) a4 n c4 a7 n n a8 1 1 w) (hg4:w1.heap.size<g4) :
  ∀ (k i:Nat) (w:World),i+k=n→From w1.heap.size w1 w→Arr enI 3 w a4 n c4 (BR (nodes.take i) n) g4→dL (okP nodes) 0 nodes=dL (okP nodes) i (nodes.drop i)→ay.l16 R (k+1) (some p) a4 n c4 a n c n i w
 | 0,i,w,hi,hw,h4,he=>by
  rw [ay.u16]; unfold ay.g16
  refine ai (by omega) ?_
  rw [List.drop_eq_nil_of_le (by omega)] at he
  rw [List.take_of_length_le (by omega)] at h4
  have hT':=hT.from hw
  refine aK ⟨_,_,_,hT'.c1,?_⟩
  refine Arr.make (en:=enB) (x:=false) rfl (by omega) (by omega) (by omega) fun u h7 hk=>?_
  rw [Int.toNat_natCast] at h7 ⊢
  refine aT ?_
  have k2:=Kept.new u (.cells #[.int .i64 0] 3)
  have h8:=Arr.new enI 3 u [0] #[.int .i64 0] rfl (by simp [maxLen])
  have z1:=h4.le
  have z2:=hk.size
  have z3:=h7.le
  exact hend _ _ _ _ _ he (hw.aA (Kept.trans hk k2)) (h4.kept (Kept.trans hk k2)) (h7.kept k2) h8 (by omega) (by omega)
 | k+1,i,w,hi,hw,h4,he=>by
  rw [ay.u16]; unfold ay.g16
  refine aN (by omega) ?_
  have hT':=hT.from hw
  have hx0:nodes[i]?=some (nodes[i]'(by omega)):=List.getElem?_eq_getElem _
  rw [drop_cons hx0,lQ] at he
  refine (From.ls hL hw hF).rdN (by omega) (by omega) fun x a' n' c' hx hcs=>?_
  obtain rfl:nodes[i]'(by omega)=x:=by simpa [hx0] using hx
  have hn':n'≤1048576:=by rw [hcs.len]; exact hsh _ (List.getElem_mem _)
  obtain ⟨x,hxe⟩:∃ x,nodes[i]'(by omega)=x:=⟨_,rfl⟩
  rw [hxe] at hx0 he hcs ⊢
  clear hx
  have hq:okP nodes i x=eG fQ x n:=by unfold okP; rw [hn]
  rw [hq] at he
  refine tq fun u _ hb8 hk=>hb8.ld (aK ⟨_,_,_,(hT'.kept hk).c1,?_⟩)
  refine E.CallsD.mono (P7 (m:=n) (by omega) (hcs.kept hk).sl) fun v u2 ⟨hv,hk2⟩=>⟨_,hv,?_⟩
  have hb2:=hb8.kept hk2
  have hw2:=hw.aA (Kept.trans hk hk2)
  refine (aH _ _ _).2 ⟨fun hb=>hbad i u2 (by rw [he,if_neg]; simpa using hb) hw2,fun hb=>?_⟩
  have hok:eG fQ x n=true:=by simpa using hb
  rw [if_pos hok] at he
  refine hb2.ld ?_
  refine E.CallsD.mono (rV u2 x a' n' c') fun v u3 ⟨hv,hk3⟩=>⟨_,hv,?_⟩
  have hb3:=hb2.kept hk3
  have hw3:=hw2.aA hk3
  have h43:=h4.kept (Kept.trans (Kept.trans hk hk2) hk3)
  refine (aH _ _ _).2 ⟨fun hin=>⟨_,hb3.c6,?_⟩,fun hin=>?_⟩
  ·obtain ⟨b1,b2,b3,b4,_⟩:=dE hok hin
   obtain ⟨lf,hlf⟩:∃ lf:Nat,x.left=lf:=⟨x.left.toNat,by omega⟩
   obtain ⟨rg,hrg⟩:∃ rg:Nat,x.right=rg:=⟨x.right.toNat,by omega⟩
   obtain ⟨y,hy,hy0,hy1,hset⟩:=FZ (l:=nodes.take i) hin hlf hrg (n:=n) (by omega) (by omega)
   have hli:(nodes.take i).length≤n:=by rw [List.length_take]; omega
   have hcl:=cnt_le (nodes.take i) lf
   refine h43.sl.rdI (k := .i64) (by omega) (by omega) fun z hz=>?_
   obtain rfl:z=(cnt (nodes.take i) lf:Int):=by
    rw [hlf,Int.toNat_natCast,nY _ (by omega)] at hz
    simpa using hz.symm
   refine aX (by omega) (by omega) ?_
   refine h43.wr (by omega) (by omega) (x:=(cnt (nodes.take i) lf:Int)+1) rfl fun u4 h44 ho4=>?_
   have hw4:=hw3.only ho4 (.inr hg4)
   have hpb:(na w).block+1≠g4:=by have:=h4.le; show w.heap.size+1≠g4; omega
   have hb4:=hb3.mod ho4 hpb
   refine ⟨_,hb4.c7,?_⟩
   rw [hlf,Int.toNat_natCast] at h44
   refine h44.sl.rdI (k := .i64) (by omega) (by omega) fun z hz=>?_
   obtain rfl:z=y:=by
    rw [hrg,Int.toNat_natCast,hy] at hz
    simpa using hz.symm
   refine aX (by omega) (by omega) ?_
   refine h44.wr (by omega) (by omega) (x:=z+1) rfl fun u5 h45 ho5=>?_
   rw [hrg,Int.toNat_natCast,hset,← take_snoc hx0] at h45
   refine WE (by omega) ?_
   exact zD hn hm hsh hT hL hF hbad hend hg4 k (i+1) u5 (by omega) (hw4.only ho5 (.inr hg4)) h45 he
  ·rw [← Ic hin,← take_snoc hx0] at h43
   refine WE (by omega) ?_
   exact zD hn hm hsh hT hL hF hbad hend hg4 k (i+1) u3 (by omega) hw3 h43 he
theorem UN {nodes:List ND} (h:dL (okP nodes) 0 nodes=none) (i:Nat) (x:ND) (hx:nodes[i]?=some x):eG fQ x nodes.length=true:=by
 have:=jr h i x hx
 simpa [okP] using this
theorem Ac {nodes:List ND} (h0:nodes≠[]):bu fQ nodes=match dL (okP nodes) 0 nodes with
  | some i=>(71,(i:Int))
  | none=>match dL (CY nodes) 0 nodes with
   | some i=>(70,(i:Int))
   | none=>(0,0):=by
 unfold bu
 rw [if_neg h0]
 rfl
theorem JH {w:World} (hm:n≤1048576) (hsh:Short 1048576 nodes) (hL:Ls tN F w a n c nodes) (hF:∀ b,F b→b<w.heap.size) :
  Pure Go.Proofs.Try.prog 60 #[vT o a n c] w (.tuple #[.int .i64 (bu fQ nodes).1,.int .i64 (bu fQ nodes).2]):=by
 refine ay.calls (R:=fun v' u=>v'=_∧Below w.heap.size w u) ?_
 unfold ay ay.g0
 refine tJ fun w1 _ hT hk=>⟨_,_,_,hT.c1,?_⟩
 have hL1:=hL.kept hk
 have hF1:∀ b,F b→b<w1.heap.size:=fun b hb=>Nat.lt_of_lt_of_le (hF b hb) hk.size
 have hn:=hL.len
 refine oM (fun h0=>?_) fun h0=>⟨_,_,_,hT.c1,?_⟩
 ·have:nodes=[]:=List.eq_nil_of_length_eq_zero (by omega)
  subst this
  exact ⟨rfl,hk⟩
 have hne:nodes≠[]:=by intro h; subst h; simp at hn; omega
 have fin:∀ u,From w1.heap.size w1 u→Kept w u:=fun u hu=>Kept.trans hk (From.kept hu)
 refine Arr.make (en:=enI) (x:=0) rfl (by omega) (by omega) (by omega) fun u h4 hk2=>?_
 refine ⟨_,_,_,(hT.kept hk2).c1,?_⟩
 rw [Int.toNat_natCast] at h4 ⊢
 rw [Ac hne]
 refine ⟨n+1,zD (w1:=w1) (o:=o) (g4:=w1.heap.size+1) hn hm hsh hT hL1 hF1 (fun i u he hu=>?_) (fun u a7 g7 a8 g8 he hu h4 h7 h8 hg1 hg2=>?_) (by have:=hk.size; omega) n 0 u (by omega) (Kept.mod hk2) (by rwa [List.take_zero,L8]) rfl⟩
 ·rw [he]; exact ⟨rfl,fin u hu⟩
 ·rw [he]
  have hok:=UN he
  have hs:=hk2.size
  have h8':Arr enI 3 u a8 [0].length 1 (stk [0]) g8:=h8
  refine ⟨_,NY (w1:=w1) (o:=o) (F:=F) hn hm hT hL1 hF1 (fun i x hx hin=>by have:=dE (hok i x hx) hin; rw [hn]; omega) (fun u hu h4 h7=>?_) (by omega) (by omega) (by omega) (3*nodes.length+2) (List.replicate n false) [0] u a8 1 g8 (by rw [hn]; rfl) (by simp) (by rw [BG]; simp; omega) (fun i hi=>by simp at hi; omega) hu h4 h7 h8' (by omega) (by omega)⟩
  refine ⟨n+1,Xg hn hm h4 h7 (fun i hi=>?_) (fun hi=>?_) n 0 (by omega) rfl⟩
  ·rw [hi]; exact ⟨rfl,fin u hu⟩
  ·rw [hi]; exact ⟨rfl,fin u hu⟩
end
end Go.Mir
set_option maxRecDepth 100000
namespace Go.Mir
open Go Go.E Go.RowKit Go.Tr
section
variable {w1:World} {p:Addr} {o:Int} {a:Option Addr} {n c:Nat} {F:Nat→Prop} {nodes:List ND}
theorem FT {x:ND} {m:Int} (h:eG fQ x m=true):x.kind≠1↔x.inner=true:=by
 unfold eG at h
 unfold ND.inner
 split at h
 ·rename_i h1; simp [h1]
 ·split at h
  ·rename_i h2; simp [h2]
  ·split at h
   ·rename_i h3; simp [h3]
   ·cases h
end
end Go.Mir
set_option maxRecDepth 100000
namespace Go.Mir
open Go Go.E Go.RowKit Go.Tr
section
variable {w1:World} {p:Addr} {o:Int} {a:Option Addr} {n c:Nat} {F:Nat→Prop} {nodes:List ND}
structure Good (F:Nat→Prop) (w:World) (a:Option Addr) (n c:Nat) (nodes:List ND):Prop where
 ls:Ls tN F w a n c nodes
 old:∀ b,F b→b<w.heap.size
 max:n≤1048576
 short:Short 1048576 nodes
theorem Good.len {w:World} (h:Good F w a n c nodes):n=nodes.length:=h.ls.len
theorem Good.kept {w u:World} (h:Good F w a n c nodes) (hk:Kept w u):Good F u a n c nodes:=⟨h.ls.kept hk,fun b hb=>Nat.lt_of_lt_of_le (h.old b hb) hk.size,h.max,h.short⟩
theorem Good.from {w u:World} (h:Good F w a n c nodes) (hk:From w.heap.size w u):Good F u a n c nodes:=h.kept (From.kept hk)
theorem NQ {T:BT} (h:Tree fQ nodes T) {i:Nat} {x:ND} (hx:nodes[i]?=some x):x.kind≠1↔x.inner=true:=FT (h.right.ok i x hx)
end
end Go.Mir
set_option maxRecDepth 100000
namespace Go.Mir
open Go Go.E Go.RowKit Go.Tr
theorem RV:dV Go.Proofs.Try.prog 146 145 2 16:=sliceT (by kernel_rfl)
section
variable {W:World} {p:Addr} {o:Int} {a:Option Addr} {n c:Nat} {F:Nat→Prop} {nodes:List ND}
theorem CE {B k g:Nat} {J:Nat→Nat→World→Prop} {w u:World} (hJ:Stable B J) (h:J k g w) (hk:Kept w u):J k g u:=hJ k g w u h (Kept.mod hk)
theorem KN {t f:Prop} (h:t):ae true t f:=h
theorem Dy {t f:Prop} (h:f):ae false t f:=h
theorem Q9 (x:Int×Int):∀ v∈enR x,v.oneCell'=true:=by
 intro v hv
 simp only [List.mem_cons,List.not_mem_nil,or_false] at hv
 rcases hv with h | h <;> subst h <;> rfl
theorem LK {R:Value→World→Prop} {T:BT} {l:Nat} {V:Nat→Prop} {J:Nat→Nat→World→Prop} {X:List (Int×Int)} (hG:Good F W a n c nodes) (hTr:Tree fQ nodes T) (hT:At2 W p o a n c) (hV:∀ b,V b→b<l) (hpV:¬ V p.block) (hFV:∀ b,F b→¬ V b) (hpl:p.block<l) (hFl:∀ b,F b→b<l) (hl:l<W.heap.size)
  (hst:Stable W.heap.size J) (hJg:∀ k g u,J k g u→(g=0∨W.heap.size<g)∧g≤u.heap.size∧W.heap.size≤u.heap.size)
  (hrd:∀ k g x u,X[k]?=some x→J k g u→sK Go.Proofs.Try.prog l #[.int .i64 x.1,.int .i64 x.2] u fun v u'=>v = .bool true∧∃ g',J (k+1) g' u'∧(g'=g∨u.heap.size<g')∧Mod (fun b=>V b∨b=l∨b+1=g) u u')
  (hend:∀ g u,J X.length g u→R (.tuple #[]) u) (hXn:X.length≤n) :
  ∀ (m:Nat) (Ts:List BD) (out:List (Int×Int)) (w:World) (g:Nat) (a3:Option Addr) (c3 g3:Nat),Nr Ts≤m→X=out++zB (yC Ts)→(∀ U∈Ts,Is nodes U.1∧U.2+U.1.size≤n+1)→J out.length g w→Mod (fun b=>V b∨b=l∨W.heap.size≤b) W w→au 2 enR 145 w a3 Ts.length c3 (Kw Ts) g3→W.heap.size<g3→g≠g3→bT.l3 R (m+1) l p a3 Ts.length c3 w:=by
 intro m
 induction m with
 | zero =>
  intro Ts out w g a3 c3 g3 hm hX hIs hJ hw h3 hg3 hne
  have:=vP Ts
  obtain rfl:Ts=[]:=List.eq_nil_of_length_eq_zero (by omega)
  rw [bT.u3]; unfold bT.g3
  refine ai (by simp) ?_
  simp only [yC,List.flatMap_nil,zB,List.map_nil,List.append_nil] at hX
  rw [← hX] at hJ
  exact hend g w hJ
 | succ m ih =>
  intro Ts out w g a3 c3 g3 hm hX hIs hJ hw h3 hg3 hne
  rw [bT.u3]; unfold bT.g3
  cases Ts with
  | nil =>
   refine ai (by simp) ?_
   simp only [yC,List.flatMap_nil,zB,List.map_nil,List.append_nil] at hX
   rw [← hX] at hJ
   exact hend g w hJ
  | cons U Ts =>
   obtain ⟨U,dp⟩:=U
   obtain ⟨hIU,hUs⟩:=hIs (U,dp) (by simp)
   simp only at hIU hUs
   have hroot:=hIU.root_lt
   have hn:=hG.len
   have hmx:=hG.max
   have hlen:=congrArg List.length hX
   rw [List.length_append,lu,AO,mV] at hlen
   have hpos:=U.size_pos
   have hTs:=vP Ts
   have hL:((U,dp)::Ts).length=Ts.length+1:=rfl
   rw [hL] at h3 ⊢
   obtain ⟨j1,j2,j3⟩:=hJg _ _ _ hJ
   simp only at hlen
   refine aN (by omega) ?_
   refine aX (by omega) (by omega) ?_
   have e0:(((Ts.length+1:Nat):Int) - 1).toNat=Ts.length:=by omega
   refine h3.TW.rd2 (by omega) (by omega) fun y hy=>?_
   rw [e0,Iw] at hy
   obtain rfl:y=((U.root:Int),(dp:Int)):=by simpa using hy.symm
   refine VS fun u hb hk=>?_
   refine aX (by omega) (by omega) ?_
   refine dA ⟨by omega,by have:=h3.capLe; omega⟩ ⟨_,hb.rd rfl,_,hb.rd rfl,?_⟩
   have h3':=h3.take (k:=2) (en:=enR) (fun _=>rfl) (m:=Ts.length) (by omega)
   rw [NG] at h3'
   rw [e0,tY]
   have hnext:X[out.length]?=some ((U.root:Int),(dp:Int)):=by
    rw [hX,List.getElem?_append_right (Nat.le_refl _),Nat.sub_self]
    cases U <;> simp [yC,zB,BT.FO,BT.root]
   refine (hrd out.length g _ u hnext (CE hst hJ hk)).mono fun v u2 ⟨hv,g',hJ2,hg',hm2⟩=>⟨_,hv,?_⟩
   refine Dy ?_
   have hw2:Mod (fun b=>V b∨b=l∨W.heap.size≤b) W u2:=(hw.trans (Kept.mod (S:=fun _=>False) hk) (U:=fun b=>V b∨b=l∨W.heap.size≤b) (fun _ _ h=>h) (fun _ _ h=>h.elim)).trans hm2 (fun _ _ h=>h) (fun b hb h=>by
    rcases h with h | h | h
    ·exact .inl h
    ·exact .inr (.inl h)
    ·exact .inr (.inr (by omega)))
   have z1:=hk.size
   have z2:=hm2.size
   have z3:w.heap.size<u.heap.size:=hb.lt
   have hpW:=hT.lt
   have hT2:=hT.mod hw2 (fun h=>h.elim hpV (fun h=>by omega))
   have hL2:=hG.ls.mod hw2 (fun b hb h=>h.elim (hFV b hb) (fun h=>by have:=hG.old b hb; have:=hFl b hb; omega))
   have hb2:=hb.mod hm2 (fun h=>h.elim (fun h=>by have:=hV _ h; omega) (fun h=>by omega))
   have h32:=(h3'.kept hk).mod hm2 (fun b h1 h=>h.elim (fun h=>by have:=hV _ h; omega) (fun h=>by omega))
   refine ⟨_,_,_,hT2.c1,_,hb2.rd rfl,?_⟩
   refine hL2.rdN (by omega) (by omega) fun x a5 n5 c5 hx _=>?_
   rw [Int.toNat_natCast] at hx
   refine tq fun u3 _ hb8 hk3=>hb8.ld ?_
   refine E.CallsD.mono (rV u3 x a5 n5 c5) fun v u4 ⟨hv,hk4⟩=>⟨_,hv,?_⟩
   have hk24:=Kept.trans hk3 hk4
   have hb4:=hb8.kept hk4
   have hbs:=hb2.mod (Kept.mod (S:=fun _=>False) hk24) (fun h=>h)
   have h34:=h32.kept hk24
   have hJ4:=CE hst hJ2 hk24
   have hw4:Mod (fun b=>V b∨b=l∨W.heap.size≤b) W u4:=hw2.trans (Kept.mod (S:=fun _=>False) hk24) (fun _ _ h=>h) (fun _ _ h=>h.elim)
   have hol:(out++[((U.root:Int),(dp:Int))]).length=out.length+1:=by simp
   cases U with
   | leaf i =>
    obtain ⟨y,hy,hyi⟩:=hIU
    have:x=y:=by have hx':nodes[i]?=some x:=hx; rw [hy] at hx'; simpa using hx'.symm
    subst this
    rw [hyi]
    refine Dy ?_
    refine ih Ts (out++[(((BT.leaf i).root:Int),(dp:Int))]) u4 g' a3 c3 g3 (by rw [mV] at hm; simp only [BT.size] at hm; omega) (by rw [hX]; simp [yC,BT.FO,zB,BT.root]) (fun V hV=>hIs V (by simp [hV])) (by rw [hol]; exact hJ4) hw4 h34 hg3 (by have:=h3.le; omega)
   | node i lt rt =>
    obtain ⟨y,hy,hyi,hlf,hrg,hIl,hIr⟩:=hIU
    have:x=y:=by have hx':nodes[i]?=some x:=hx; rw [hy] at hx'; simpa using hx'.symm
    subst this
    rw [hyi]
    refine KN ?_
    have z5:=lt.size_pos
    have z6:=rt.size_pos
    simp only [BT.size] at hlen hm hUs
    refine ⟨_,hb4.c7,_,hbs.rd rfl,?_⟩
    refine aX (by omega) (by omega) ?_
    refine ⟨_,hb4.c6,_,hbs.rd rfl,?_⟩
    refine aX (by omega) (by omega) ?_
    rw [hlf,hrg]
    refine h34.zO (m:=2) RV (fun _=>rfl) (by omega) Q9 (ys:=[((rt.root:Int),((dp+1:Nat):Int)),((lt.root:Int),((dp+1:Nat):Int))]) rfl rfl (by omega) (by simp only [maxLen]; omega) (by omega) fun a6 c6 g6 u5 h6 hg6 hg60 ho5=>⟨_,_,_,rfl,?_⟩
    have h6':=IL Ts (rt,dp+1) (lt,dp+1)
    simp only at h6'
    rw [h6'] at h6
    have hg3le:=h34.le
    obtain ⟨j5,j6,j7⟩:=hJg _ _ _ hJ4
    have hne':g'≠g3:=by have:=h3.le; omega
    refine ih ((lt,dp+1)::(rt,dp+1)::Ts) (out++[(((BT.node i lt rt).root:Int),(dp:Int))]) u5 g' a6 c6 g6 (by rw [mV] at hm; simp only [BT.size] at hm; rw [mV,mV]; simp only; omega) (by rw [hX]; simp [yC,BT.FO,zB,BT.root]) (fun V hV=>?_) (by rw [hol]; exact hst _ _ _ _ hJ4 (ho5.weak fun b _ hb=>⟨by omega,by omega⟩)) (hw4.trans ho5 (fun _ _ h=>h) (fun b _ h => .inr (.inr (by omega)))) h6 (by omega) (by omega)
    simp only [List.mem_cons] at hV
    rcases hV with h | h | h
    ·subst h; exact ⟨hIl,by simp only; omega⟩
    ·subst h; exact ⟨hIr,by simp only; omega⟩
    ·exact hIs V (by simp [h])
theorem BL {T:BT} {V:Nat→Prop} (hG:Good F W a n c nodes) (hTr:Tree fQ nodes T) (hT:At2 W p o a n c) (hV:∀ b,V b→b<W.heap.size) (hpV:¬ V p.block) (hFV:∀ b,F b→¬ V b) :
  RP Go.Proofs.Try.prog 80 #[.pointer (some p)] (zB (T.FO 0)) V W:=by
 intro l J u hb hl1 hl2 hst hJg hrd h0
 show E.CallsD Go.Proofs.Try.prog 80 #[.func (.yield l) #[] #[],.pointer (some p)] u _
 refine bT.calls ?_
 unfold bT bT.g0
 have hGu:=hG.kept hb
 have hTu:=hT.kept hb
 have hlen:(zB (T.FO 0)).length=n:=by rw [lu,BT.lT,← BT.gJ,hTr.length,hG.len]
 refine aT ?_
 have hk:=Kept.new u (.cells #[.int .i64 0,.int .i64 0] 145)
 have h3:=au.new (k:=2) (en:=enR) (fun _=>rfl) 145 u [((0:Int),(0:Int))] #[.int .i64 0,.int .i64 0] rfl (by simp [maxLen])
 have h3':[((0:Int),(0:Int))]=Kw [(T,0)]:=by simp [Kw,zB,hTr.root]
 rw [h3'] at h3
 obtain ⟨j1,j2,j3⟩:=hJg _ _ _ h0
 have hsz:T.size=n:=by rw [← BT.gJ,hTr.length,hG.len]
 refine ⟨_,LK (W:=u) (p:=p) (o:=o) (F:=F) (V:=V) hGu hTr hTu (fun b hb=>Nat.lt_of_lt_of_le (hV b hb) hl1) hpV hFV (Nat.lt_of_lt_of_le hT.lt hl1) (fun b hb=>Nat.lt_of_lt_of_le (hG.old b hb) hl1) hl2 hst hJg hrd (fun g u h=>⟨g,h⟩) (by omega) (Nr [(T,0)]) [(T,0)] [] _ 0 (some (na u)) 1 (u.heap.size+1) (Nat.le_refl _) (by simp [yC]) (fun U hU=>by simp at hU; subst hU; exact ⟨hTr.is,by simp only; omega⟩) (CE hst h0 hk) (Kept.mod hk) h3 (by omega) (by omega)⟩
end
end Go.Mir
