/- Part of a proof of laws of the seat YtmjlipmapfofmaaGreat: functions' weakest preconditions, each checked by the kernel, contracts out of them, plain lemmas; no conditions. -/
import Derived.Test.YtmjlipmapfofmaaGreatTA
set_option linter.unusedVariables false
set_option linter.unusedSimpArgs false
set_option linter.unusedSectionVars false
set_option maxRecDepth 100000
namespace Go.Mir
open Go Go.E Go.RowKit Go.Tr
section
variable {w:World} {p:Addr} {o:Int} {a:Option Addr} {n c:Nat} {F:Nat→Prop} {nodes:List ND}
noncomputable def mZ (nodes:List ND):BT:=open Classical in if h:(fM iG nodes).1=0 then Classical.choose (IC h) else .leaf 0
theorem dY (h:(fM iG nodes).1=0):Tree iG nodes (mZ nodes):=by
 unfold mZ
 rw [dif_pos h]
 exact Classical.choose_spec (IC h)
def jA (nodes:List ND) (i:Nat):Bool:=(nodes[i]?.map ND.inner).getD false
def pick (nodes:List ND) (b:Bool) (l:List Nat):List Nat:=l.filter fun i=>jA nodes i==b
noncomputable def dw (nodes:List ND) (b:Bool):List Nat:=if (fM iG nodes).1=0 then pick nodes b (mZ nodes).pre else []
theorem Vz (hw:At2 w p o a n c):E.CallsD Go.Proofs.Tryz.prog 85 #[vT o a n c] w fun v u=>v = .func (.func 100) #[] #[.pointer (some (na w))]∧At2 u (na w) o a n c∧Kept w u:=by
 refine jo.calls ?_
 unfold jo jo.g0
 exact ny fun u _ hT hk=>⟨rfl,hT,hk⟩
theorem BQ {S:Nat→Prop} {w u x:World} (h:Kept w u) (k:Mod S u x) (hS:∀ b,S b→w.heap.size≤b):Kept w x :=
 ((Kept.mod (S:=fun _=>False) h).trans k (U:=fun b=>w.heap.size≤b) (fun _ _ h=>h.elim) (fun b _ h=>hS b h)).kept (fun b h1 h2=>by omega)
theorem box1 {e:Nat} {v:Value} {w:World} {K:World→Prop} (hk:∀ u,Blk u w.heap.size #[v] e→u.cell? (na w)=some v→Kept w u→K u):nw (w.alloc (.cells #[v] e)) K:=by
 have b:=Blk.new w #[v] e
 exact bU (hk _ b (by have:=b.rd (b:=w) (i:=0) (v:=v) rfl; rwa [add_zero] at this) (Kept.new w _))
theorem mM {w u:World} {v:Value} {e:Nat} (h:Blk u w.heap.size #[v] e):u.cell? (na w)=some v:=by have:=h.rd (b:=w) (i:=0) (v:=v) rfl; rwa [add_zero] at this
theorem Rn (b:Bool) (hG:Good F w a n c nodes):E.CallsD Go.Proofs.Tryz.prog 68 #[vT o a n c,.bool b] w fun v u=>∃ a' n' c',v = .tuple #[.slice a' n' c',.int .i64 (fM iG nodes).1]∧Ac enI 3 w u a' n' c' (nH (dw nodes b)):=by
 refine ik.calls ?_
 unfold ik ik.g0
 refine ny fun w1 _ hT1 hk1=>box1 fun w2 hb2 _ hk2=>?_
 have hT2:=hT1.kept hk2
 have hk12:=Kept.trans hk1 hk2
 have hG2:=hG.kept hk12
 refine ⟨_,hT2.c0,_,_,_,hT2.c1,?_⟩
 refine E.CallsD.mono (QE (o:=o) hG2.max hG2.short hG2.ls hG2.old) fun v w3 ⟨hv,hk3⟩=>⟨_,_,hv,?_⟩
 have hk13:=Kept.trans hk12 hk3
 refine iJ (fun hne=>⟨_,_,_,rfl,0,?_,.inl rfl,hk13⟩) fun h0=>?_
 ·have:dw nodes b=[]:=by unfold dw; rw [if_neg hne]
  rw [this]
  exact Arr.nil _ _ _
 have hTr:=dY h0
 obtain ⟨T,hTe⟩:∃ T,mZ nodes=T:=⟨_,rfl⟩
 rw [hTe] at hTr
 have hthose:dw nodes b=pick nodes b T.pre:=by unfold dw; rw [if_pos h0,hTe]
 refine box1 fun w4 hb4 _ hk4=>?_
 have hT4:=hT2.kept (Kept.trans hk3 hk4)
 refine ⟨_,hT4.c0,_,_,_,hT4.c1,?_⟩
 refine E.CallsD.mono (Vz hT4) fun v w5 ⟨hv,hTit,hk5⟩=>⟨_,rfl,?_⟩
 subst hv
 have hk25:=Kept.trans (Kept.trans hk3 hk4) hk5
 have hk15:=Kept.trans hk12 hk25
 have hT5:=hT2.kept hk25
 have hb25:=hb2.mod (Kept.mod (S:=fun _=>False) hk25) (fun h=>h)
 have hb45:=hb4.mod (Kept.mod (S:=fun _=>False) hk5) (fun h=>h)
 have hG5:=hG.kept hk15
 have s1:=hk1.size
 have s2:=hk2.size
 have s3:=hk3.size
 have s4:=hk4.size
 have s5:=hk5.size
 have l4:w3.heap.size<w4.heap.size:=hb4.lt
 have l2:w1.heap.size<w2.heap.size:=hb2.lt
 have l1:w.heap.size<w1.heap.size:=hT1.lt
 have hn:=hG.len
 have hm:=hG.max
 obtain ⟨X,hX⟩:∃ X,AZ (T.I4 0)=X:=⟨_,rfl⟩
 have hXl:X.length=n:=by rw [← hX,pY,BT.qi,← BT.gW,hTr.length,hn]
 have hXf:∀ (k:Nat) (x:Int×Int),X[k]?=some x→∃ i,T.pre[k]?=some i∧x.1=(i:Int):=by
  intro k x hx
  rw [← hX] at hx
  unfold AZ at hx
  rw [List.getElem?_map] at hx
  obtain ⟨y,hy,rfl⟩:=Option.map_eq_some_iff.1 hx
  exact ⟨y.1,by rw [← T.uM 0,List.getElem?_map,hy]; rfl,rfl⟩
 obtain ⟨J,hJ⟩:∃ J:Nat→Nat→World→Prop,J=fun k g u=>(∃ a' n' c',Blk u w3.heap.size #[.slice a' n' c'] 53∧Arr enI 3 u a' n' c' (nH (pick nodes b (T.pre.take k))) g)∧(g=0∨w5.heap.size<g)∧Mod (fun b=>b=w3.heap.size∨w5.heap.size≤b) w5 u:=⟨_,rfl⟩
 refine ⟨100,#[.pointer (some (na w4))],X,fun b=>b=w3.heap.size,J,rfl,by kernel_rfl,fun b hb=>by omega,?_,?_,?_,?_,?_,?_⟩
 ·rw [← hX]
  refine IB (o:=o) (F:=F) hG5 hTr hTit (fun b hb=>by omega) ?_ (fun b hb h=>?_)
  ·show ¬ (w4.heap.size=w3.heap.size); omega
  ·have:=hG.old b hb; omega
 ·intro k g u u' h hmod
  rw [hJ] at h ⊢
  obtain ⟨⟨a',n',c',h1,h2⟩,h3,h4⟩:=h
  exact ⟨⟨a',n',c',h1.mod hmod (fun h=>by omega),h2.mod hmod (fun k e h=>h.2 e)⟩,h3,h4.trans hmod (fun _ _ h=>h) (fun b _ h => .inr h.1)⟩
 ·intro k g u h
  rw [hJ] at h
  obtain ⟨⟨a',n',c',h1,h2⟩,h3,h4⟩:=h
  exact ⟨h3,h2.le,h4.size⟩
 ·rw [hJ]
  exact ⟨⟨none,0,0,hb45,Arr.nil _ _ _⟩,.inl rfl,Mod.refl _⟩
 ·intro k g x u hx h
  obtain ⟨i,hi,hxi⟩:=hXf k x hx
  rw [hJ] at h ⊢
  obtain ⟨⟨a',n',c',h1,h2⟩,h3,h4⟩:=h
  have hin:i<n:=by rw [hn]; exact (hTr.mem i).1 (List.mem_of_getElem? hi)
  have hTu:=hT5.mod h4 (fun h=>by have e:(na w).block=w.heap.size:=rfl; omega)
  have hLu:=hG5.ls.mod h4 (fun b hb h=>by have:=hG.old b hb; omega)
  have hbu:=hb25.mod h4 (fun h=>by omega)
  have hlen:n'=(pick nodes b (T.pre.take k)).length:=by rw [h2.len,mW]
  have hle:(pick nodes b (T.pre.take k)).length≤n:=by
   have:=List.length_filter_le (fun i=>jA nodes i==b) (T.pre.take k)
   have h7:(T.pre.take k).length≤T.pre.length:=by rw [List.length_take]; omega
   rw [hTr.length,← hn] at h7
   exact Nat.le_trans this h7
  refine ⟨_,_,_,hTu.c1,?_⟩
  refine hLu.rdN (by omega) (by omega) fun y a5 n5 c5 hy hcs=>⟨y.inner,fun u1 hu1=>E.CallsD.mono (wK u1 y a5 n5 c5) fun v u2 ⟨hv,hk⟩=>⟨hv,Kept.trans hu1 hk⟩,b,mM hbu,fun u1 hu1=>?_⟩
  rw [hxi,Int.toNat_natCast] at hy
  have hia:jA nodes i=y.inner:=by unfold jA; rw [hy]; rfl
  have hts:=take_snoc hi
  have z1:=h4.size
  have h1':=h1.mod (Kept.mod (S:=fun _=>False) hu1) (fun h=>h)
  refine (aH _ _ _).2 ⟨fun hb=>?_,fun hb=>?_⟩
  ·refine ⟨_,_,_,mM h1',?_⟩
   have hp1:pick nodes b (T.pre.take (k+1))=pick nodes b (T.pre.take k)++[i]:=by
    rw [hts]; unfold pick
    rw [List.filter_append,List.filter_cons_of_pos (by rw [hia]; exact hb)]; rfl
   rw [hxi]
   refine (h2.kept hu1).push S_I (x:=(i:Int)) rfl rfl (by simp only [maxLen]; omega) (by omega) fun a6 c6 g6 u3 h6 hg6 hg60 ho=>⟨_,_,_,rfl,?_⟩
   have h13:=h1'.mod ho (fun h=>by omega)
   rw [fQ]
   refine ⟨h13.ok (by simp),bU ?_⟩
   have hs:=h13.set 0 (.slice a6 (n'+1) c6)
   have hz:=hu1.size
   have hz3:=ho.size
   have ho2:=Only.set u3 w3.heap.size 0 (.slice a6 (n'+1) c6)
   refine ⟨g6,⟨⟨a6,n'+1,c6,hs,?_⟩,by omega,?_⟩,by omega,?_⟩
   ·rw [hp1,vV]
    exact h6.mod ho2 fun k e h=>by omega
   ·refine ((h4.trans (Kept.mod (S:=fun _=>False) hu1) (U:=fun b=>b=w3.heap.size∨w5.heap.size≤b) (fun _ _ h=>h) (fun _ _ h=>h.elim)).trans ho (fun _ _ h=>h) (fun b _ h => .inr (by omega))).trans ho2 (fun _ _ h=>h) (fun b _ h => .inl (by omega))
   ·refine ((Kept.mod (S:=fun _=>False) hu1).trans ho (U:=fun b=>b=w3.heap.size∨b+1=g) (fun _ _ h=>h.elim) (fun b _ h => .inr h)).trans ho2 (fun _ _ h=>h) (fun b _ h => .inl (by omega))
  ·have hp1:pick nodes b (T.pre.take (k+1))=pick nodes b (T.pre.take k):=by
    rw [hts]; unfold pick
    rw [List.filter_append,List.filter_cons_of_neg (by rw [hia,hb]; simp)]; simp
   exact ⟨g,⟨⟨a',n',c',h1',by rw [hp1]; exact h2.kept hu1⟩,h3,h4.trans (Kept.mod (S:=fun _=>False) hu1) (fun _ _ h=>h) (fun _ _ h=>h.elim)⟩,.inl rfl,Kept.mod hu1⟩
 ·intro g D u h hD1 hD2 hDg hD
  rw [hJ] at h
  obtain ⟨⟨a',n',c',h1,h2⟩,h3,h4⟩:=h
  refine ⟨_,_,_,mM h1,hD,bU ⟨a',n',c',by rw [h0],g,?_,by omega,?_⟩⟩
  ·rw [hXl,List.take_of_length_le (by rw [hTr.length,hn]; exact Nat.le_refl _),← hthose] at h2
   exact h2.mod (Mod.put (S:=fun b=>b=D) u _ rfl) fun k e h=>by omega
  ·exact BQ hk15 (h4.trans (Mod.put (S:=fun b=>b=D) u (.deferred none) rfl) (U:=fun b=>w.heap.size≤b) (fun b _ h=>by omega) (fun b _ h=>by omega)) (fun b h=>h)
theorem uK (hG:Good F w a n c nodes):E.CallsD Go.Proofs.Tryz.prog 48 #[vT o a n c] w fun v u=>∃ a' n' c',v = .tuple #[.slice a' n' c',.int .i64 (fM iG nodes).1]∧Ac enI 3 w u a' n' c' (nH (dw nodes false)):=by
 refine gI.calls ?_
 unfold gI gI.g0
 refine ny fun w1 _ hT hk=>⟨_,hT.c0,_,_,_,hT.c1,?_⟩
 exact E.CallsD.mono (Rn (o:=o) false (hG.kept hk)) fun v u ⟨a',n',c',hv,hn⟩=>⟨_,_,_,_,hv,a',n',c',rfl,hn.ahead hk⟩
end
end Go.Mir
set_option maxRecDepth 100000
namespace Go.Mir
open Go Go.E Go.RowKit Go.Tr
section
variable {w w1:World} {p:Addr} {o:Int} {a:Option Addr} {n c:Nat} {F:Nat→Prop} {nodes:List ND}
theorem JM {T:BT} {k i:Nat} {b:Bool} (hi:T.pre[k]?=some i):pick nodes b (T.pre.take (k+1))=if jA nodes i==b then pick nodes b (T.pre.take k)++[i] else pick nodes b (T.pre.take k):=by
 rw [take_snoc hi]
 unfold pick
 rw [List.filter_append]
 split
 ·rename_i h; simp [h]
 ·rename_i h; simp [h]
theorem Ig (b:Bool) (l:List Nat):(pick nodes b l).length≤l.length:=List.length_filter_le _ _
theorem EL {l:List Nat} {k:Nat} {i:Nat} (h:l[k]?=some i):(nH l)[k]?=some (i:Int):=by simp [nH,h]
theorem uZ {R:Value→World→Prop} {T:BT} {lf:Bool} (hG:Good F w1 a n c nodes) (hTr:Tree iG nodes T) (hT:At2 w1 p o a n c) {a2:Option Addr} {c2:Nat}
  (hend:∀ w a' n' c' g,From w1.heap.size w1 w→Arr enI 3 w a' n' c' (nH (pick nodes (!lf) T.pre)) g→(g=0∨w1.heap.size<g)→R (.tuple #[.slice a' n' c',.int .i64 0]) w) :
  ∀ (m k:Nat) (w:World) (a8:Option Addr) (n8 c8 g8:Nat),k+m=n→From w1.heap.size w1 w→Sl enI w a2 n (nH T.pre)→Arr enI 3 w a8 n8 c8 (nH (pick nodes (!lf) (T.pre.take k))) g8→(g8=0∨w1.heap.size<g8)→(∀ b,(∃ i,a2=some ⟨b,i,none⟩)→b+1≠g8)→Sl enI w1 a2 n (nH T.pre)→bg.l18 R (m+1) lf (some p) a8 n8 c8 a2 n c2 n k w
 | 0,k,w,a8,n8,c8,g8,hk,hw,h2,h8,hg8,hd,h21=>by
  rw [bg.u18]; unfold bg.g18
  refine az (by omega) ?_
  rw [List.take_of_length_le (by rw [hTr.length,← hG.len]; omega)] at h8
  exact hend w a8 n8 c8 g8 hw h8 hg8
 | m+1,k,w,a8,n8,c8,g8,hk,hw,h2,h8,hg8,hd,h21=>by
  rw [bg.u18]; unfold bg.g18
  refine aI (by omega) ?_
  have hn:=hG.len
  have hmx:=hG.max
  have hkl:k<T.pre.length:=by rw [hTr.length,← hn]; omega
  have hi:T.pre[k]?=some (T.pre[k]'hkl):=List.getElem?_eq_getElem _
  obtain ⟨i,hie⟩:∃ i,T.pre[k]'hkl=i:=⟨_,rfl⟩
  rw [hie] at hi
  have hin:i<n:=by rw [hn]; exact (hTr.mem i).1 (List.mem_of_getElem? hi)
  refine h2.rdI (k := .i64) (by omega) (by omega) fun y hy=>?_
  rw [Int.toNat_natCast,EL hi] at hy
  obtain rfl:y=(i:Int):=by simpa using hy.symm
  refine bI ⟨_,_,_,(hT.from hw).c1,?_⟩
  have hGw:=hG.from hw
  refine hGw.ls.rdF (by omega) (by omega) fun q x a' n' c' hx _ h8x=>⟨_,h8x.c0,?_⟩
  rw [Int.toNat_natCast] at hx
  have hia:jA nodes i=x.inner:=by unfold jA; rw [hx]; rfl
  have hki:(x.kind==1) = !x.inner:=by
   have:=wW hTr hx
   cases hxi:x.inner with
   | true=>have:=this.2 hxi; simpa using this
   | false =>
    have h1:x.kind=1:=Classical.byContradiction fun h=>by have:=this.1 h; rw [hxi] at this; cases this
    simp [h1]
  have hp:=JM (nodes:=nodes) (b := !lf) hi
  rw [hia] at hp
  have hc:((x.kind==1)==lf)=(x.inner == !lf):=by rw [hki]; cases x.inner <;> cases lf <;> rfl
  have h8l:n8=(pick nodes (!lf) (T.pre.take k)).length:=by rw [h8.len,mW]
  have hple:=Ig (nodes:=nodes) (!lf) (T.pre.take k)
  rw [List.length_take] at hple
  rw [hc]
  refine (aH _ _ _).2 ⟨fun hb=>?_,fun hb=>?_⟩
  ·rw [if_pos hb] at hp
   refine h8.push S_I (x:=(i:Int)) rfl rfl (by simp only [maxLen]; omega) (by omega) fun a6 c6 g6 u3 h6 hg6 hg60 ho=>⟨_,_,_,rfl,?_⟩
   refine aA (by omega) ?_
   have hu:=hw.only ho hg8
   have hz:=hw.size
   refine uZ hG hTr hT hend m (k+1) u3 a6 (n8+1) c6 g6 (by omega) hu (h21.from hu) (by rw [hp,vV]; exact h6) (by omega) (fun b hb=>?_) h21
   obtain ⟨i0,rfl⟩:=hb
   have hlt:b<w1.heap.size:=by
    obtain ⟨q,hq,hcq⟩:=h21.at (i:=k) (by omega)
    cases hq
    have:=block_lt_of_cell hcq
    rwa [add_block] at this
   omega
  ·rw [if_neg (by simp [hb])] at hp
   refine aA (by omega) ?_
   rw [← hp] at h8
   exact uZ hG hTr hT hend m (k+1) w a8 n8 c8 g8 (by omega) hw h2 h8 hg8 hd h21
theorem JQ (lf:Bool) (hG:Good F w a n c nodes):E.CallsD Go.Proofs.Tryz.prog 77 #[vT o a n c,.bool lf] w fun v u=>∃ a' n' c',v = .tuple #[.slice a' n' c',.int .i64 (fM iG nodes).1]∧Ac enI 3 w u a' n' c' (nH (dw nodes (!lf))):=by
 refine bg.calls ?_
 unfold bg bg.g0
 refine ny fun w1 _ hT1 hk1=>⟨_,hT1.c0,_,_,_,hT1.c1,?_⟩
 have hG1:=hG.kept hk1
 refine E.CallsD.mono (Gn (o:=o) hG1.max hG1.short hG1.ls hG1.old) fun v w2 ⟨hv,hk2⟩=>⟨_,_,hv,?_⟩
 have hk12:=Kept.trans hk1 hk2
 refine iJ (fun hne=>⟨_,_,_,rfl,0,?_,.inl rfl,hk12⟩) fun h0=>?_
 ·have:dw nodes (!lf)=[]:=by unfold dw; rw [if_neg hne]
  rw [this]
  exact Arr.nil _ _ _
 have hTr:=dY h0
 have hT2:=hT1.kept hk2
 have hG2:=hG.kept hk12
 refine ⟨_,hT2.c0,_,_,_,hT2.c1,?_⟩
 refine E.CallsD.mono (KL (o:=o) hG2 hTr) fun v w3 ⟨a3,c3,hv,hn3⟩=>⟨_,_,_,hv,?_⟩
 have hk13:=Kept.trans hk12 hn3.kept
 have hs3:=hn3.sl
 have s:=hk13.size
 refine ⟨n+1,uZ (w1:=w3) (p:=na w) (o:=o) (F:=F) (hG.kept hk13) hTr (hT2.kept hn3.kept) (fun u a' n' c' g hu h hg=>⟨_,_,_,by rw [h0],g,?_,by omega,Kept.trans hk13 (From.kept hu)⟩) n 0 w3 none 0 0 0 (by omega) (From.refl _ _) hs3 (Arr.nil _ _ _) (.inl rfl) (fun b _=>by omega) hs3⟩
 unfold dw
 rw [if_pos h0]
 exact h
theorem vk (hG:Good F w a n c nodes):E.CallsD Go.Proofs.Tryz.prog 52 #[vT o a n c] w fun v u=>∃ a' n' c',v = .tuple #[.slice a' n' c',.int .i64 (fM iG nodes).1]∧Ac enI 3 w u a' n' c' (nH (dw nodes false)):=by
 refine dh.calls ?_
 unfold dh dh.g0
 refine ny fun w1 _ hT hk=>⟨_,hT.c0,_,_,_,hT.c1,?_⟩
 exact E.CallsD.mono (JQ (o:=o) true (hG.kept hk)) fun v u ⟨a',n',c',hv,hn⟩=>⟨_,_,_,_,hv,a',n',c',rfl,hn.ahead hk⟩
end
end Go.Mir
set_option maxRecDepth 100000
namespace Go.Mir
open Go Go.E Go.RowKit Go.Tr
abbrev enF (f:Nat):Value := .float .f64 f
def sF (d:Int) (x:ND):Bool := !x.inner||decide (x.feature<d)
def pM (nodes:List ND) (d:Int):Bool:=nodes.all (sF d)
section
variable {w w1:World} {p:Addr} {o:Int} {a a1:Option Addr} {n c n1 c1:Nat} {F:Nat→Prop} {nodes:List ND} {xs:List Nat}
theorem fits_all {d:Int} (h:pM nodes d=true) {i:Nat} {x:ND} (hx:nodes[i]?=some x) (hi:x.inner=true):x.feature<d:=by
 have:=List.all_eq_true.1 h x (List.mem_of_getElem? hx)
 unfold sF at this
 rw [hi] at this
 simpa using this
theorem rdX (hx:Sl enF w a1 n1 xs) {i:Int} {K:Nat→Prop} (h0:0≤i) (hi:i<n1) (hk:K (xs.getD i.toNat 0)) :
  bK a1 fun q=>chk (0≤i∧i<(n1:Int)) (∃ y:Nat,w.cell? (q.add (i.toNat*1))=some (.float .f64 y)∧K y):=by
 refine hx.rd (f:=fun y => .float .f64 y) (sel:=fun x=>x) (fun _=>rfl) h0 hi fun y hy=>?_
 rw [List.getD_eq_getElem?_getD,hy] at hk
 exact hk
end
end Go.Mir
set_option maxRecDepth 100000
namespace Go.Mir
open Go Go.E Go.RowKit Go.Tr
section
variable {w w1:World} {p:Addr} {o:Int} {a a1:Option Addr} {n c n1 c1:Nat} {F:Nat→Prop} {nodes:List ND} {xs:List Nat}
theorem nX {R:Value→World→Prop} {d:Int} (hG:Good F w1 a n c nodes) (hkd:∀ (i:Nat) x,nodes[i]?=some x→(x.kind≠1↔x.inner=true)) (hend:∀ u,From w1.heap.size w1 u→R (.bool (pM nodes d)) u) :
  ∀ (k i:Nat) (w:World),i+k=n→From w1.heap.size w1 w→pM nodes d=(nodes.drop i).all (sF d)→bG.l6 R (k+1) d a n c n i w
 | 0,i,w,hi,hw,he=>by
  rw [bG.u6]; unfold bG.g6
  refine az (by omega) ?_
  rw [List.drop_eq_nil_of_le (by rw [← hG.len]; omega)] at he
  have:=hend w hw
  rw [he] at this
  exact this
 | k+1,i,w,hi,hw,he=>by
  rw [bG.u6]; unfold bG.g6
  refine aI (by omega) ?_
  have hn:=hG.len
  have hmx:=hG.max
  refine (hG.from hw).ls.rdN (by omega) (by omega) fun x a' n' c' hx _=>?_
  rw [Int.toNat_natCast] at hx
  rw [drop_cons hx,List.all_cons] at he
  refine oD fun u _ hb hk=>⟨_,hb.c0,?_⟩
  have hu:=hw.aF hk
  unfold sF at he
  refine iJ (fun hin=>⟨_,hb.c2,?_⟩) fun hin=>?_
  ·rw [(hkd i x hx).1 hin] at he
   refine (aH _ _ _).2 ⟨fun hge=>?_,fun hge=>?_⟩
   ·have:=of_decide_eq_true hge
    have h2:=hend u hu
    rw [he,decide_eq_false (by omega)] at h2
    exact h2
   ·have:=of_decide_eq_false hge
    rw [decide_eq_true (by omega),Bool.or_true,Bool.true_and] at he
    refine aA (by omega) ?_
    exact nX hG hkd hend k (i+1) u (by omega) hu he
  ·have hf:x.inner=false:=by
    cases h:x.inner with
    | false=>rfl
    | true=>exact absurd hin ((hkd i x hx).2 h)
   rw [hf] at he
   simp only [Bool.not_false,Bool.true_or,Bool.true_and] at he
   refine aA (by omega) ?_
   exact nX hG hkd hend k (i+1) u (by omega) hu he
theorem Ii {d:Int} (hG:Good F w a n c nodes) (hkd:∀ (i:Nat) x,nodes[i]?=some x→(x.kind≠1↔x.inner=true)):Pure Go.Proofs.Tryz.prog 51 #[vT o a n c,.int .i64 d] w (.bool (pM nodes d)):=by
 refine bG.calls (R:=fun v' u=>v'=_∧Below w.heap.size w u) ?_
 unfold bG bG.g0
 refine ny fun w1 _ hT hk=>⟨_,_,_,hT.c1,n+1,?_⟩
 exact nX (w1:=w1) (F:=F) (hG.kept hk) hkd (fun u hu=>⟨rfl,Kept.trans hk (From.kept hu)⟩) n 0 w1 (by omega) (From.refl _ _) rfl
end
end Go.Mir
set_option maxRecDepth 100000
namespace Go.Mir
open Go Go.E Go.RowKit Go.Tr
section
variable {w w1:World} {p:Addr} {o:Int} {a a1:Option Addr} {n c n1 c1:Nat} {F:Nat→Prop} {nodes:List ND} {xs:List Nat} {ys:List Int}
theorem O6 (b:Bool):(dw nodes b).length≤nodes.length:=by
 unfold dw
 split
 ·rename_i h
  rw [← (dY h).length]
  exact Ig _ _
 ·simp
theorem CY {T:BT} (hI:Is nodes T):T.leaves=pick nodes false T.pre:=by
 rw [hI.leaves]
 unfold pick jA
 congr 1
 funext i
 cases (Option.map ND.inner nodes[i]?).getD false <;> rfl
end
end Go.Mir
