/- Part of a proof of laws of the seat Ytmjlipmapfofmaa: functions' weakest preconditions, each checked by the kernel, contracts out of them, plain lemmas; no conditions. -/
import Derived.Test.YtmjlipmapfofmaaTA
set_option linter.unusedVariables false
set_option linter.unusedSimpArgs false
set_option linter.unusedSectionVars false
set_option maxRecDepth 100000
namespace Go.Mir
open Go Go.E Go.RowKit Go.Tr
section
variable {w:World} {p:Addr} {o:Int} {a:Option Addr} {n c:Nat} {F:Nat→Prop} {nodes:List ND}
noncomputable def fK (nodes:List ND):BT:=open Classical in if h:(bu fQ nodes).1=0 then Classical.choose (Jc h) else .leaf 0
theorem aJ (h:(bu fQ nodes).1=0):Tree fQ nodes (fK nodes):=by
 unfold fK
 rw [dif_pos h]
 exact Classical.choose_spec (Jc h)
def jL (nodes:List ND) (i:Nat):Bool:=(nodes[i]?.map ND.inner).getD false
def pick (nodes:List ND) (b:Bool) (l:List Nat):List Nat:=l.filter fun i=>jL nodes i==b
noncomputable def bG (nodes:List ND) (b:Bool):List Nat:=if (bu fQ nodes).1=0 then pick nodes b (fK nodes).pre else []
theorem Sm (hw:At2 w p o a n c):E.CallsD Go.Proofs.Try.prog 61 #[vT o a n c] w fun v u=>v = .func (.func 80) #[] #[.pointer (some (na w))]∧At2 u (na w) o a n c∧Kept w u:=by
 refine iI.calls ?_
 unfold iI iI.g0
 exact tJ fun u _ hT hk=>⟨rfl,hT,hk⟩
theorem wz {S:Nat→Prop} {w u x:World} (h:Kept w u) (k:Mod S u x) (hS:∀ b,S b→w.heap.size≤b):Kept w x :=
 ((Kept.mod (S:=fun _=>False) h).trans k (U:=fun b=>w.heap.size≤b) (fun _ _ h=>h.elim) (fun b _ h=>hS b h)).kept (fun b h1 h2=>by omega)
theorem box1 {e:Nat} {v:Value} {w:World} {K:World→Prop} (hk:∀ u,Blk u w.heap.size #[v] e→u.cell? (na w)=some v→Kept w u→K u):nw (w.alloc (.cells #[v] e)) K:=by
 have b:=Blk.new w #[v] e
 exact aT (hk _ b (by have:=b.rd (b:=w) (i:=0) (v:=v) rfl; rwa [add_zero] at this) (Kept.new w _))
theorem gX {w u:World} {v:Value} {e:Nat} (h:Blk u w.heap.size #[v] e):u.cell? (na w)=some v:=by have:=h.rd (b:=w) (i:=0) (v:=v) rfl; rwa [add_zero] at this
theorem Po (b:Bool) (hG:Good F w a n c nodes):E.CallsD Go.Proofs.Try.prog 31 #[vT o a n c,.bool b] w fun v u=>∃ a' n' c',v = .tuple #[.slice a' n' c',.int .i64 (bu fQ nodes).1]∧wG enI 3 w u a' n' c' (zY (bG nodes b)):=by
 refine fG.calls ?_
 unfold fG fG.g0
 refine tJ fun w1 _ hT1 hk1=>box1 fun w2 hb2 _ hk2=>?_
 have hT2:=hT1.kept hk2
 have hk12:=Kept.trans hk1 hk2
 have hG2:=hG.kept hk12
 refine ⟨_,hT2.c0,_,_,_,hT2.c1,?_⟩
 refine E.CallsD.mono (JH (o:=o) hG2.max hG2.short hG2.ls hG2.old) fun v w3 ⟨hv,hk3⟩=>⟨_,_,hv,?_⟩
 have hk13:=Kept.trans hk12 hk3
 refine jR (fun hne=>⟨_,_,_,rfl,0,?_,.inl rfl,hk13⟩) fun h0=>?_
 ·have:bG nodes b=[]:=by unfold bG; rw [if_neg hne]
  rw [this]
  exact Arr.nil _ _ _
 have hTr:=aJ h0
 obtain ⟨T,hTe⟩:∃ T,fK nodes=T:=⟨_,rfl⟩
 rw [hTe] at hTr
 have hthose:bG nodes b=pick nodes b T.pre:=by unfold bG; rw [if_pos h0,hTe]
 refine box1 fun w4 hb4 _ hk4=>?_
 have hT4:=hT2.kept (Kept.trans hk3 hk4)
 refine ⟨_,hT4.c0,_,_,_,hT4.c1,?_⟩
 refine E.CallsD.mono (Sm hT4) fun v w5 ⟨hv,hTit,hk5⟩=>⟨_,rfl,?_⟩
 subst hv
 have hk25:=Kept.trans (Kept.trans hk3 hk4) hk5
 have hk15:=Kept.trans hk12 hk25
 have hT5:=hT2.kept hk25
 have hb25:=hb2.mod (Kept.mod (S:=fun _=>False) hk25) (fun h=>h)
 have hb45:=hb4.mod (Kept.mod (S:=fun _=>False) hk5) (fun h=>h)
 have hG5:=hG.kept hk15
 have s1:=hk1.size
 have s2:=hk2.size
 have s3:=hk3.size
 have s4:=hk4.size
 have s5:=hk5.size
 have l4:w3.heap.size<w4.heap.size:=hb4.lt
 have l2:w1.heap.size<w2.heap.size:=hb2.lt
 have l1:w.heap.size<w1.heap.size:=hT1.lt
 have hn:=hG.len
 have hm:=hG.max
 obtain ⟨X,hX⟩:∃ X,zB (T.FO 0)=X:=⟨_,rfl⟩
 have hXl:X.length=n:=by rw [← hX,lu,BT.lT,← BT.gJ,hTr.length,hn]
 have hXf:∀ (k:Nat) (x:Int×Int),X[k]?=some x→∃ i,T.pre[k]?=some i∧x.1=(i:Int):=by
  intro k x hx
  rw [← hX] at hx
  unfold zB at hx
  rw [List.getElem?_map] at hx
  obtain ⟨y,hy,rfl⟩:=Option.map_eq_some_iff.1 hx
  exact ⟨y.1,by rw [← T.qi 0,List.getElem?_map,hy]; rfl,rfl⟩
 obtain ⟨J,hJ⟩:∃ J:Nat→Nat→World→Prop,J=fun k g u=>(∃ a' n' c',Blk u w3.heap.size #[.slice a' n' c'] 45∧Arr enI 3 u a' n' c' (zY (pick nodes b (T.pre.take k))) g)∧(g=0∨w5.heap.size<g)∧Mod (fun b=>b=w3.heap.size∨w5.heap.size≤b) w5 u:=⟨_,rfl⟩
 refine ⟨80,#[.pointer (some (na w4))],X,fun b=>b=w3.heap.size,J,rfl,by kernel_rfl,fun b hb=>by omega,?_,?_,?_,?_,?_,?_⟩
 ·rw [← hX]
  refine BL (o:=o) (F:=F) hG5 hTr hTit (fun b hb=>by omega) ?_ (fun b hb h=>?_)
  ·show ¬ (w4.heap.size=w3.heap.size); omega
  ·have:=hG.old b hb; omega
 ·intro k g u u' h hmod
  rw [hJ] at h ⊢
  obtain ⟨⟨a',n',c',h1,h2⟩,h3,h4⟩:=h
  exact ⟨⟨a',n',c',h1.mod hmod (fun h=>by omega),h2.mod hmod (fun k e h=>h.2 e)⟩,h3,h4.trans hmod (fun _ _ h=>h) (fun b _ h => .inr h.1)⟩
 ·intro k g u h
  rw [hJ] at h
  obtain ⟨⟨a',n',c',h1,h2⟩,h3,h4⟩:=h
  exact ⟨h3,h2.le,h4.size⟩
 ·rw [hJ]
  exact ⟨⟨none,0,0,hb45,Arr.nil _ _ _⟩,.inl rfl,Mod.refl _⟩
 ·intro k g x u hx h
  obtain ⟨i,hi,hxi⟩:=hXf k x hx
  rw [hJ] at h ⊢
  obtain ⟨⟨a',n',c',h1,h2⟩,h3,h4⟩:=h
  have hin:i<n:=by rw [hn]; exact (hTr.mem i).1 (List.mem_of_getElem? hi)
  have hTu:=hT5.mod h4 (fun h=>by have e:(na w).block=w.heap.size:=rfl; omega)
  have hLu:=hG5.ls.mod h4 (fun b hb h=>by have:=hG.old b hb; omega)
  have hbu:=hb25.mod h4 (fun h=>by omega)
  have hlen:n'=(pick nodes b (T.pre.take k)).length:=by rw [h2.len,uY]
  have hle:(pick nodes b (T.pre.take k)).length≤n:=by
   have:=List.length_filter_le (fun i=>jL nodes i==b) (T.pre.take k)
   have h7:(T.pre.take k).length≤T.pre.length:=by rw [List.length_take]; omega
   rw [hTr.length,← hn] at h7
   exact Nat.le_trans this h7
  refine ⟨_,_,_,hTu.c1,?_⟩
  refine hLu.rdN (by omega) (by omega) fun y a5 n5 c5 hy hcs=>⟨y.inner,fun u1 hu1=>E.CallsD.mono (rV u1 y a5 n5 c5) fun v u2 ⟨hv,hk⟩=>⟨hv,Kept.trans hu1 hk⟩,b,gX hbu,fun u1 hu1=>?_⟩
  rw [hxi,Int.toNat_natCast] at hy
  have hia:jL nodes i=y.inner:=by unfold jL; rw [hy]; rfl
  have hts:=take_snoc hi
  have z1:=h4.size
  have h1':=h1.mod (Kept.mod (S:=fun _=>False) hu1) (fun h=>h)
  refine (aH _ _ _).2 ⟨fun hb=>?_,fun hb=>?_⟩
  ·refine ⟨_,_,_,gX h1',?_⟩
   have hp1:pick nodes b (T.pre.take (k+1))=pick nodes b (T.pre.take k)++[i]:=by
    rw [hts]; unfold pick
    rw [List.filter_append,List.filter_cons_of_pos (by rw [hia]; exact hb)]; rfl
   rw [hxi]
   refine (h2.kept hu1).push S_I (x:=(i:Int)) rfl rfl (by simp only [maxLen]; omega) (by omega) fun a6 c6 g6 u3 h6 hg6 hg60 ho=>⟨_,_,_,rfl,?_⟩
   have h13:=h1'.mod ho (fun h=>by omega)
   rw [eP]
   refine ⟨h13.ok (by simp),aT ?_⟩
   have hs:=h13.set 0 (.slice a6 (n'+1) c6)
   have hz:=hu1.size
   have hz3:=ho.size
   have ho2:=Only.set u3 w3.heap.size 0 (.slice a6 (n'+1) c6)
   refine ⟨g6,⟨⟨a6,n'+1,c6,hs,?_⟩,by omega,?_⟩,by omega,?_⟩
   ·rw [hp1,CS]
    exact h6.mod ho2 fun k e h=>by omega
   ·refine ((h4.trans (Kept.mod (S:=fun _=>False) hu1) (U:=fun b=>b=w3.heap.size∨w5.heap.size≤b) (fun _ _ h=>h) (fun _ _ h=>h.elim)).trans ho (fun _ _ h=>h) (fun b _ h => .inr (by omega))).trans ho2 (fun _ _ h=>h) (fun b _ h => .inl (by omega))
   ·refine ((Kept.mod (S:=fun _=>False) hu1).trans ho (U:=fun b=>b=w3.heap.size∨b+1=g) (fun _ _ h=>h.elim) (fun b _ h => .inr h)).trans ho2 (fun _ _ h=>h) (fun b _ h => .inl (by omega))
  ·have hp1:pick nodes b (T.pre.take (k+1))=pick nodes b (T.pre.take k):=by
    rw [hts]; unfold pick
    rw [List.filter_append,List.filter_cons_of_neg (by rw [hia,hb]; simp)]; simp
   exact ⟨g,⟨⟨a',n',c',h1',by rw [hp1]; exact h2.kept hu1⟩,h3,h4.trans (Kept.mod (S:=fun _=>False) hu1) (fun _ _ h=>h) (fun _ _ h=>h.elim)⟩,.inl rfl,Kept.mod hu1⟩
 ·intro g D u h hD1 hD2 hDg hD
  rw [hJ] at h
  obtain ⟨⟨a',n',c',h1,h2⟩,h3,h4⟩:=h
  refine ⟨_,_,_,gX h1,hD,aT ⟨a',n',c',by rw [h0],g,?_,by omega,?_⟩⟩
  ·rw [hXl,List.take_of_length_le (by rw [hTr.length,hn]; exact Nat.le_refl _),← hthose] at h2
   exact h2.mod (Mod.put (S:=fun b=>b=D) u _ rfl) fun k e h=>by omega
  ·exact wz hk15 (h4.trans (Mod.put (S:=fun b=>b=D) u (.deferred none) rfl) (U:=fun b=>w.heap.size≤b) (fun b _ h=>by omega) (fun b _ h=>by omega)) (fun b h=>h)
theorem tK (hG:Good F w a n c nodes):E.CallsD Go.Proofs.Try.prog 53 #[vT o a n c] w fun v u=>∃ a' n' c',v = .tuple #[.slice a' n' c',.int .i64 (bu fQ nodes).1]∧wG enI 3 w u a' n' c' (zY (bG nodes false)):=by
 refine eu.calls ?_
 unfold eu eu.g0
 refine tJ fun w1 _ hT hk=>⟨_,hT.c0,_,_,_,hT.c1,?_⟩
 exact E.CallsD.mono (Po (o:=o) false (hG.kept hk)) fun v u ⟨a',n',c',hv,hn⟩=>⟨_,_,_,_,hv,a',n',c',rfl,hn.ahead hk⟩
end
end Go.Mir
set_option maxRecDepth 100000
namespace Go.Mir
open Go Go.E Go.RowKit Go.Tr
section
variable {w w1:World} {p:Addr} {o:Int} {a:Option Addr} {n c:Nat} {F:Nat→Prop} {nodes:List ND}
theorem QM (b:Bool) (l:List Nat):(pick nodes b l).length≤l.length:=List.length_filter_le _ _
end
end Go.Mir
set_option maxRecDepth 100000
namespace Go.Mir
open Go Go.E Go.RowKit Go.Tr
abbrev enF (f:Nat):Value := .float .f64 f
def tu (d:Int) (x:ND):Bool := !x.inner||decide (x.feature<d)
def oQ (nodes:List ND) (d:Int):Bool:=nodes.all (tu d)
section
variable {w w1:World} {p:Addr} {o:Int} {a a1:Option Addr} {n c n1 c1:Nat} {F:Nat→Prop} {nodes:List ND} {xs:List Nat}
theorem fits_all {d:Int} (h:oQ nodes d=true) {i:Nat} {x:ND} (hx:nodes[i]?=some x) (hi:x.inner=true):x.feature<d:=by
 have:=List.all_eq_true.1 h x (List.mem_of_getElem? hx)
 unfold tu at this
 rw [hi] at this
 simpa using this
theorem rdX (hx:Sl enF w a1 n1 xs) {i:Int} {K:Nat→Prop} (h0:0≤i) (hi:i<n1) (hk:K (xs.getD i.toNat 0)) :
  aY a1 fun q=>chk (0≤i∧i<(n1:Int)) (∃ y:Nat,w.cell? (q.add (i.toNat*1))=some (.float .f64 y)∧K y):=by
 refine hx.rd (f:=fun y => .float .f64 y) (sel:=fun x=>x) (fun _=>rfl) h0 hi fun y hy=>?_
 rw [List.getD_eq_getElem?_getD,hy] at hk
 exact hk
end
end Go.Mir
set_option maxRecDepth 100000
namespace Go.Mir
open Go Go.E Go.RowKit Go.Tr
section
variable {w w1:World} {p:Addr} {o:Int} {a a1:Option Addr} {n c n1 c1:Nat} {F:Nat→Prop} {nodes:List ND} {xs:List Nat}
end
end Go.Mir
set_option maxRecDepth 100000
namespace Go.Mir
open Go Go.E Go.RowKit Go.Tr
section
variable {w w1:World} {p:Addr} {o:Int} {a a1:Option Addr} {n c n1 c1:Nat} {F:Nat→Prop} {nodes:List ND} {xs:List Nat} {ys:List Int}
theorem MX (b:Bool):(bG nodes b).length≤nodes.length:=by
 unfold bG
 split
 ·rename_i h
  rw [← (aJ h).length]
  exact QM _ _
 ·simp
theorem Dl {T:BT} (hI:Is nodes T):T.leaves=pick nodes false T.pre:=by
 rw [hI.leaves]
 unfold pick jL
 congr 1
 funext i
 cases (Option.map ND.inner nodes[i]?).getD false <;> rfl
end
end Go.Mir
