/- Part of a proof of laws of the seat Ytmjlipmapfofmaa: functions' weakest preconditions, each checked by the kernel, contracts out of them, plain lemmas; no conditions. -/
import Derived.Test.YtmjlipmapfofmaaTE
import Derived.Test.YtmjlipmapfofmaaEC
set_option linter.unusedVariables false
set_option linter.unusedSimpArgs false
set_option linter.unusedSectionVars false
set_option maxRecDepth 100000
namespace Go.Mir
open Go Go.E Go.RowKit Go.Tr
section
variable {w W:World} {p p2:Addr} {o:Int} {a:Option Addr} {n c:Nat} {F:Nat→Prop} {nodes:List ND}
noncomputable def lvE (nodes:List ND):Int:=if (bu fQ nodes).1=0 then (if 4096<(bG nodes false).length then 3 else 0) else (bu fQ nodes).1
noncomputable def lvN (nodes:List ND):Nat:=if lvE nodes=0 then (bG nodes false).length else 0
theorem F9 (h:(bu fQ nodes).1≠0):lvE nodes=(bu fQ nodes).1∧lvN nodes=0:=by
 have e:lvE nodes=(bu fQ nodes).1:=by unfold lvE; rw [if_neg h]
 refine ⟨e,?_⟩
 unfold lvN
 rw [if_neg (by rw [e]; exact h)]
theorem yZ (h:(bu fQ nodes).1=0) (hm:4096<(bG nodes false).length):lvE nodes=3∧lvN nodes=0:=by
 have e:lvE nodes=3:=by unfold lvE; rw [if_pos h,if_pos hm]
 refine ⟨e,?_⟩
 unfold lvN
 rw [if_neg (by rw [e]; decide)]
theorem QX (h:(bu fQ nodes).1=0) (hm:¬ 4096<(bG nodes false).length):lvE nodes=0∧lvN nodes=(bG nodes false).length:=by
 have e:lvE nodes=0:=by unfold lvE; rw [if_pos h,if_neg hm]
 refine ⟨e,?_⟩
 unfold lvN
 rw [if_pos e]
theorem NF (hG:Good F w a n c nodes):Pure Go.Proofs.Try.prog 85 #[vT o a n c] w (.tuple #[.int .i64 (lvN nodes),.int .i64 (lvE nodes)]):=by
 refine dY.calls (R:=fun v' u=>v'=_∧Below w.heap.size w u) ?_
 unfold dY dY.g0
 refine tJ fun w1 _ hT hk=>⟨_,hT.c0,_,_,_,hT.c1,?_⟩
 refine E.CallsD.mono (tK (o:=o) (hG.kept hk)) fun v u ⟨a',n',c',hv,hn⟩=>⟨_,_,_,_,hv,?_⟩
 have hl:=hn.len
 rw [uY] at hl
 have hku:=Kept.trans hk hn.kept
 by_cases h0:(bu fQ nodes).1=0
 ·rw [h0]
  refine KN ?_
  refine eX (fun h1=>?_) fun h1=>?_
  ·obtain ⟨e1,e2⟩:=yZ h0 (by omega)
   rw [e1,e2]
   exact ⟨rfl,hku⟩
  ·obtain ⟨e1,e2⟩:=QX h0 (by omega)
   rw [e1,e2,hl]
   exact ⟨rfl,hku⟩
 ·obtain ⟨e1,e2⟩:=F9 h0
  refine ET h0 ?_
  have:n'=0:=by rw [hl]; unfold bG; rw [if_neg h0]; rfl
  rw [e1,e2,this]
  exact ⟨rfl,hku⟩
theorem S_M:dV Go.Proofs.Try.prog 131 135 3 24:=sliceT (by kernel_rfl)
def JS (p2 p3 p4:Addr):Value := .func (.func 86) #[] #[.pointer (some p2),.pointer (some p3),.pointer (some p4)]
structure MSt (p2:Addr) (u:World) (b3 b4:World) (out:List MkD) (g:Nat):Prop where
 h3:∃ a c,Blk u b3.heap.size #[.slice a out.length c] 131∧au 3 enM 135 u a out.length c out g
 h4:u.cell? (na b4)=some (JS p2 (na b3) (na b4))
 hg:g=0∨b4.heap.size+1<g
theorem O3 {P:Program} {f:FuncId} {args cap:Array Value} {w:World} {K:Value→World→Prop} (hb:jk P f=true) (h:E.CallsD P f (args++cap) w K):uG P (.func (.func f) #[] cap) args w K:=by
 show (if jk P f=true then E.CallsD P f (#[]++args++cap) w K else False)
 rw [if_pos hb]
 simpa using h
theorem Pm:jk Go.Proofs.Try.prog 86=true:=by kernel_rfl
theorem rH {x y:Int} {p3 p4:Addr} {K:Value→World→Prop} (h:E.CallsD Go.Proofs.Try.prog 86 #[.int .i64 x,.int .i64 y,.pointer (some p2),.pointer (some p3),.pointer (some p4)] w K):uG Go.Proofs.Try.prog (JS p2 p3 p4) #[.int .i64 x,.int .i64 y] w K :=
 O3 Pm h
theorem NU {b3 b4:World} (hG:Good F W a n c nodes) (hT:At2 W p2 o a n c) (hW3:W.heap.size≤b3.heap.size) (hW4:b3.heap.size<b4.heap.size) (hkd:∀ (i:Nat) x,nodes[i]?=some x→(x.kind≠1↔x.inner=true)) :
  ∀ (T:BT) (k:Nat) (out:List MkD) (g:Nat) (w:World),Is nodes T→k+T.nl≤2097152→out.length+T.nl≤2097152→From W.heap.size W w→MSt p2 w b3 b4 out g →
   E.CallsD Go.Proofs.Try.prog 86 #[.int .i64 (T.root:Nat),.int .i64 (k:Nat),.pointer (some p2),.pointer (some (na b3)),.pointer (some (na b4))] w fun v u =>
    v = .int .i64 (k+T.nl:Nat)∧∃ g',MSt p2 u b3 b4 (out++T.marks k) g'∧(g'=g∨w.heap.size<g')∧Mod (fun b=>b=b3.heap.size∨b+1=g) w u:=by
 intro T
 induction T with
 | leaf i =>
  intro k out g w hIs hk1 hk2 hw hst
  have hroot:=hIs.root_lt
  obtain ⟨y,hy,hyi⟩:=hIs
  have hn:=hG.len
  simp only [BT.root] at hroot
  refine bM.calls ?_
  unfold bM bM.g0
  refine ⟨_,_,_,(hT.from hw).c1,?_⟩
  simp only [BT.root]
  refine (hG.from hw).ls.rdN (by omega) (by omega) fun x a5 n5 c5 hx _=>?_
  rw [Int.toNat_natCast,hy] at hx
  obtain rfl:y=x:=by simpa using hx
  have hkx:y.kind=1:=Classical.byContradiction fun h=>by have:=(hkd i y hy).1 h; rw [hyi] at this; cases this
  refine tq fun u3 _ hb8 hk3=>⟨_,hb8.c0,?_⟩
  refine lZ hkx ?_
  rw [BT.zH] at hk1
  refine aX (by omega) (by omega) ?_
  obtain ⟨⟨a3,c3,h3,h3'⟩,h4,hg⟩:=hst
  refine ⟨by rw [BT.zH]; norm_cast,g,⟨⟨a3,c3,?_,?_⟩,BA hk3 h4,hg⟩,.inl rfl,Kept.mod hk3⟩
  ·simpa [BT.marks] using h3.keep hk3
  ·simpa [BT.marks] using h3'.kept hk3
 | node i l r ihl ihr =>
  intro k out g w hIs hk1 hk2 hw hst
  have hroot:=hIs.root_lt
  obtain ⟨y,hy,hyi,hlf,hrg,hIl,hIr⟩:=hIs
  have hn:=hG.len
  simp only [BT.root] at hroot
  rw [BT.oG] at hk1 hk2
  have p1:=l.qA
  have p2':=r.qA
  have l1:=l.jV k
  refine bM.calls ?_
  unfold bM bM.g0
  refine ⟨_,_,_,(hT.from hw).c1,?_⟩
  simp only [BT.root]
  refine (hG.from hw).ls.rdN (by omega) (by omega) fun x a5 n5 c5 hx _=>?_
  rw [Int.toNat_natCast,hy] at hx
  obtain rfl:y=x:=by simpa using hx
  have hkx:y.kind≠1:=(hkd i y hy).2 hyi
  refine tq fun u3 _ hb8 hk3=>⟨_,hb8.c0,?_⟩
  refine ET hkx ?_
  have hz0:=hw.size
  have hz3:=hk3.size
  have hblk:w.heap.size<u3.heap.size:=by have:=block_lt_of_cell hb8.c0; rwa [add_block] at this
  obtain ⟨⟨a3,c3,h3,h3'⟩,h4,hg⟩:=hst
  have hgw:=h3'.le
  have h3lt:=h3.lt
  have h4lt:=block_lt_of_cell h4
  simp only [na] at h4lt
  have h3k:=h3.keep hk3
  have h4k:=BA hk3 h4
  refine ⟨_,_,_,gX h3k,_,_,_,gX h3k,?_⟩
  refine (h3'.kept hk3).push S_M zq (by omega) (x:=⟨(i:Nat),(k:Nat),0⟩) rfl (Qu _) (by simp only [maxLen]; omega) (by omega) fun a6 c6 g6 u5 h6 hg6 hg60 ho5=>⟨_,_,_,rfl,?_⟩
  have h35:=h3k.mod ho5 (fun h=>by omega)
  have h45:u5.cell? (na b4)=_:=ho5.cell (by simp only [na]; omega) h4k
  have hb85:=hb8.mod ho5 (by simp only [na]; omega)
  refine h35.wr (i:=0) (v := .slice a6 (out.length+1) c6) (by simp) fun u6 h36 ho6=>?_
  have h46:u6.cell? (na b4)=_:=ho6.cell (by simp only [na]; omega) h45
  have hb86:=hb85.mod ho6 (by simp only [na]; omega)
  have h66:=h6.mod ho6 (fun b hb h=>by omega)
  have hz5:=ho5.size
  have hz6:=ho6.size
  refine ⟨_,h46,_,hb86.c6,?_⟩
  rw [hlf]
  refine rH ?_
  have hw3:From W.heap.size W u3:=hw.aA hk3
  have hw5:From W.heap.size W u5:=hw3.only ho5 (by omega)
  have hw6:From W.heap.size W u6:=hw5.only ho6 (.inr (by omega))
  have hl1:(out++[(⟨(i:Nat),(k:Nat),0⟩:MkD)]).length=out.length+1:=by simp
  refine E.CallsD.mono (ihl k (out++[⟨(i:Nat),(k:Nat),0⟩]) g6 u6 hIl (by omega) (by rw [hl1]; omega) hw6 ⟨⟨a6,c6,by rw [hl1]; exact h36,by rw [hl1]; exact h66⟩,h46,by omega⟩) fun v u7 ⟨hv,g7,hst7,hg7,hm7⟩=>⟨_,hv,?_⟩
  obtain ⟨⟨a7,c7,h37,h77⟩,h47,hgg7⟩:=hst7
  refine ⟨_,_,_,gX h37,?_⟩
  have hz7:=hm7.size
  have hb87:=hb86.mod hm7 (fun h=>by simp only [na] at h; omega)
  have hget:(out++[(⟨(i:Nat),(k:Nat),0⟩:MkD)]++l.marks k)[((out.length:Nat):Int).toNat]?=some ⟨(i:Nat),(k:Nat),0⟩:=by
   rw [Int.toNat_natCast,List.append_assoc,List.getElem?_append_right (Nat.le_refl _),Nat.sub_self]; rfl
  have hset:(out++[(⟨(i:Nat),(k:Nat),0⟩:MkD)]++l.marks k).set ((out.length:Nat):Int).toNat ⟨(i:Nat),(k:Nat),(k+l.nl:Nat)⟩=out++(⟨(i:Nat),(k:Nat),(k+l.nl:Nat)⟩::l.marks k):=by
   rw [Int.toNat_natCast,List.append_assoc,List.set_append_right _ _ (Nat.le_refl _),Nat.sub_self]; rfl
  have hl7:(out++[(⟨(i:Nat),(k:Nat),0⟩:MkD)]++l.marks k).length=out.length+1+(l.marks k).length:=by simp; omega
  have hl8:(out++((⟨(i:Nat),(k:Nat),(k+l.nl:Nat)⟩:MkD)::l.marks k)).length=out.length+1+(l.marks k).length:=by simp; omega
  refine au.VW h77 (by omega) (by rw [hl7]; omega) hget fun u8 h88 ho8=>?_
  rw [hset,hl7,← hl8] at h88
  have hz8:=ho8.size
  have h38:Blk u8 b3.heap.size _ _:=h37.mod ho8 (fun h=>by omega)
  have h48:u8.cell? (na b4)=_:=ho8.cell (by simp only [na]; omega) h47
  have hb88:=hb87.mod ho8 (by simp only [na]; omega)
  refine ⟨_,h48,_,hb88.c7,?_⟩
  rw [hrg]
  refine rH ?_
  have hw7:From W.heap.size W u7:=hw6.then hm7 (fun b hb h=>by omega)
  have hw8:From W.heap.size W u8:=hw7.only ho8 (by omega)
  refine E.CallsD.mono (ihr (k+l.nl) (out++(⟨(i:Nat),(k:Nat),(k+l.nl:Nat)⟩::l.marks k)) g7 u8 hIr (by omega) (by rw [hl8]; omega) hw8 ⟨⟨a7,c7,by rw [hl8,← hl7]; exact h38,h88⟩,h48,by omega⟩) fun v u9 ⟨hv,g9,hst9,hg9,hm9⟩=>⟨_,hv,?_⟩
  have eM:out++(⟨(i:Nat),(k:Nat),(k+l.nl:Nat)⟩::l.marks k)++r.marks (k+l.nl)=out++(BT.node i l r).marks k:=by simp [BT.marks]
  rw [eM] at hst9
  refine ⟨by rw [BT.oG,Nat.add_assoc],g9,hst9,by omega,?_⟩
  have m1:Mod (fun b=>b=b3.heap.size∨b+1=g) w u6:=((Kept.mod hk3:Mod (fun b=>b=b3.heap.size∨b+1=g) w u3).trans ho5 (fun _ _ h=>h) (fun b _ h => .inr h)).trans ho6 (fun _ _ h=>h) (fun b _ h => .inl (by omega))
  have m2:Mod (fun b=>b=b3.heap.size∨b+1=g) w u7:=m1.trans hm7 (fun _ _ h=>h) (fun b hb h=>by omega)
  have m3:Mod (fun b=>b=b3.heap.size∨b+1=g) w u8:=m2.trans ho8 (fun _ _ h=>h) (fun b hb h=>by omega)
  exact m3.trans hm9 (fun _ _ h=>h) (fun b hb h=>by omega)
end
end Go.Mir
set_option maxRecDepth 100000
namespace Go.Mir
open Go Go.E Go.RowKit Go.Tr
section
variable {w w1 W:World} {p p2:Addr} {o:Int} {a a1:Option Addr} {n c n1 c1:Nat} {F:Nat→Prop} {nodes:List ND} {xs:List Nat}
def KH (w u:World) (a:Option Addr) (n c:Nat) (xs:List MkD):Prop:=∃ g,au 3 enM 135 u a n c xs g∧(g=0∨w.heap.size<g)∧Kept w u
theorem KH.kept {u:World} {xs:List MkD} (h:KH w u a n c xs):Kept w u:=by obtain ⟨_,_,_,h⟩:=h; exact h
theorem KH.slk {u:World} {xs:List MkD} (h:KH w u a n c xs):SlK 3 enM u a n xs:=by obtain ⟨_,h,_⟩:=h; exact h.slk zq (by omega)
theorem KH.len {u:World} {xs:List MkD} (h:KH w u a n c xs):n=xs.length:=h.slk.len
theorem KH.none (h:Kept w w1):KH w w1 none 0 0 []:=⟨0,au.nil _ _ _ _,.inl rfl,h⟩
noncomputable def jq (nodes:List ND):List MkD:=if lvE nodes=0 then (fK nodes).marks 0 else []
theorem fP (h:lvE nodes=0):(bu fQ nodes).1=0∧(bG nodes false).length≤4096:=by
 by_cases h0:(bu fQ nodes).1=0
 ·refine ⟨h0,?_⟩
  by_cases hm:4096<(bG nodes false).length
  ·have:=(yZ h0 hm).1; omega
  ·omega
 ·have:=(F9 h0).1; omega
theorem ML (h:(bu fQ nodes).1=0):(fK nodes).nl=(bG nodes false).length:=by
 have hTr:=aJ h
 unfold bG BT.nl
 rw [if_pos h,Dl hTr.is]
theorem Rk (h:lvE nodes=0):lvN nodes=(fK nodes).nl∧(fK nodes).nl≤4096:=by
 obtain ⟨h0,hm⟩:=fP h
 have:=(QX h0 (by omega)).2
 rw [this,ML h0]
 omega
theorem Qs (hG:Good F w a n c nodes):E.CallsD Go.Proofs.Try.prog 72 #[vT o a n c] w fun v u=>∃ a' n' c',v = .tuple #[.slice a' n' c',.int .i64 (lvE nodes)]∧KH w u a' n' c' (jq nodes):=by
 refine fJ.calls ?_
 unfold fJ fJ.g0
 refine tJ fun w1 _ hT hk=>⟨_,hT.c0,_,_,_,hT.c1,?_⟩
 refine E.CallsD.mono (NF (o:=o) (hG.kept hk)) fun v u ⟨hv,hku⟩=>⟨_,_,hv,?_⟩
 have hk1u:=Kept.trans hk hku
 refine jR (fun hne=>⟨_,_,_,rfl,?_⟩) fun h0=>?_
 ·have:jq nodes=[]:=by unfold jq; rw [if_neg hne]
  rw [this]
  exact KH.none hk1u
 obtain ⟨hsh,_⟩:=fP h0
 obtain ⟨_,hnl⟩:=Rk h0
 have hTr:=aJ hsh
 have hM:jq nodes=(fK nodes).marks 0:=by unfold jq; rw [if_pos h0]
 have hGu:=hG.kept hk1u
 have hTu:=hT.kept hku
 have z0:=hk1u.size
 have z2:=hTu.lt
 refine box1 fun w2 h3 _ hk2=>box1 fun w3 h4 _ hk3=>?_
 have h33:=h3.keep hk3
 have z3:=h33.lt
 have z4:=h4.lt
 have z5:=hk2.size
 have e2:u.heap.size<w2.heap.size:=h3.lt
 refine h4.wr (i:=0) (v:=JS (na w) (na u) (na w2)) (by simp) fun w4 h44 ho4=>?_
 have h34:=h33.mod ho4 (fun h=>by omega)
 refine ⟨_,gX h44,?_⟩
 refine rH ?_
 have hw4:From u.heap.size u w4:=((Kept.fr hk2).aA hk3).only ho4 (.inr (by omega))
 have hc:=NU (W:=u) (b3:=u) (b4:=w2) hGu hTu (by omega) e2 (fun i x hx=>NQ hTr hx) (fK nodes) 0 [] 0 w4 hTr.is (by omega) (by simp; omega) hw4 ⟨⟨_,_,h34,au.nil _ _ _ _⟩,gX h44,.inl rfl⟩
 rw [hTr.root] at hc
 refine E.CallsD.mono hc fun v w5 ⟨hv,g5,hst,hg5,hm5⟩=>⟨_,hv,?_⟩
 obtain ⟨⟨a5,c5,h35,h55⟩,_,hgg⟩:=hst
 refine ⟨_,_,_,gX h35,_,_,_,by rw [h0],g5,?_,?_,?_⟩
 ·rw [hM]; exact h55
 ·omega
 ·exact Kept.trans hk1u (From.kept (hw4.then hm5 (fun b hb h=>by omega)))
end
end Go.Mir
set_option maxRecDepth 100000
namespace Go.Mir
open Go Go.E Go.RowKit Go.Tr
section
variable {w w1 W:World} {p p2:Addr} {o:Int} {a a1:Option Addr} {n c n1 c1:Nat} {F:Nat→Prop} {nodes:List ND} {xs:List Nat}
theorem oI:∀ (T:BT) (k:Nat),Is nodes T→(T.marks k).map MkD.node=zY (pick nodes true T.pre)
 | .leaf i,k,⟨x,hx,hi⟩=>by
  have:jL nodes i=false:=by unfold jL; rw [hx]; exact hi
  simp [BT.marks,BT.pre,pick,this,zY]
 | .node i l r,k,⟨x,hx,hi,_,_,hl,hr⟩=>by
  have:jL nodes i=true:=by unfold jL; rw [hx]; exact hi
  have h1:=oI l k hl
  have h2:=oI r (k+l.nl) hr
  unfold pick at h1 h2 ⊢
  simp only [BT.marks,BT.pre,List.map_cons,List.map_append,h1,h2,List.filter_cons,this,List.filter_append]
  simp [zY]
theorem Ih {T:BT} {k:Nat} (hI:Is nodes T) {m:MkD} (hm:m∈T.marks k):∃ (i:Nat) (x:ND),m.node=(i:Int)∧nodes[i]?=some x∧x.inner=true:=by
 have h:m.node∈(T.marks k).map MkD.node:=List.mem_map_of_mem hm
 rw [oI T k hI] at h
 obtain ⟨i,hi,he⟩:=List.mem_map.1 h
 unfold pick at hi
 have h2:=(List.mem_filter.1 hi).2
 unfold jL at h2
 cases hx:nodes[i]? with
 | none=>rw [hx] at h2; cases h2
 | some x=>rw [hx] at h2; exact ⟨i,x,he.symm,hx,by simpa using h2⟩
theorem LV (h0:lvE nodes=0) {d:Int} (hf:oQ nodes d=true):∀ m∈jq nodes,∃ (i:Nat) (x:ND),m.node=(i:Int)∧nodes[i]?=some x∧x.inner=true∧0≤x.feature∧x.feature<d:=by
 intro m hm
 obtain ⟨hsh,_⟩:=fP h0
 have hTr:=aJ hsh
 unfold jq at hm
 rw [if_pos h0] at hm
 obtain ⟨i,x,h1,h2,h3⟩:=Ih hTr.is hm
 obtain ⟨_,_,_,_,b5,_⟩:=dE (hTr.right.ok i x h2) h3
 exact ⟨i,x,h1,h2,h3,b5,fits_all hf h2 h3⟩
end
end Go.Mir
