/- Part of a proof of laws of the seat Ytmjlipmapfofmaa: functions' weakest preconditions, each checked by the kernel, contracts out of them, plain lemmas; no conditions. -/
import Derived.Test.YtmjlipmapfofmaaTC
import Derived.Test.YtmjlipmapfofmaaTPA
set_option linter.unusedVariables false
set_option linter.unusedSimpArgs false
set_option linter.unusedSectionVars false
set_option maxRecDepth 100000
namespace Go.Mir
open Go Go.E Go.RowKit Go.Tr
section
variable {w w1:World} {p:Addr} {o:Int} {a a1:Option Addr} {n c n1 c1:Nat} {F:Nat→Prop} {nodes:List ND} {xs:List Nat}
end
end Go.Mir
set_option maxRecDepth 100000
namespace Go.Mir
open Go Go.E Go.RowKit Go.Tr
def fresh (B g:Nat):Prop:=g=0∨B<g
section
variable {w u w1:World} {p:Addr} {o:Int} {a a1:Option Addr} {n c n1 c1 g B B':Nat} {F S:Nat→Prop} {nodes:List ND} {xs:List Nat} {ts:List TD} {e:ED} {f b t:SH}
theorem zy {ys:List Int} (hs:Sl enI w a n ys) (hm:n≤1048576):E.CallsD Go.Proofs.Try.prog 45 #[.slice a n c] w fun v u=>∃ a' c',v = .slice a' n c'∧wG enI 3 w u a' n c' ys:=by
 refine slices_Clone_int.calls ?_
 unfold slices_Clone_int slices_Clone_int.g0
 refine Ip (R:=fun v u=>∃ a' c',v = .slice a' n c'∧wG enI 3 w u a' n c' ys) S_I (fun _=>rfl) hs (by simp only [maxLen]; omega) (by omega) (fun h1 h2=>?_) fun a' c' u h=>⟨_,_,_,rfl,_,_,rfl,h⟩
 have hl:=hs.len
 subst h2
 simp only [List.length_nil] at hl
 subst hl
 exact ⟨_,_,rfl,0,Arr.nil _ _ _,.inl rfl,Kept.refl _⟩
theorem zQ (x:TD×SH):∀ v∈qP x,v.oneCell'=true:=by
 intro v hv
 simp only [qP,List.mem_cons,List.not_mem_nil,or_false] at hv
 rcases hv with h | h <;> subst h <;> rfl
end
end Go.Mir
set_option maxRecDepth 100000
namespace Go.Mir
open Go Go.E Go.RowKit Go.Tr
section
variable {w u w1:World} {p:Addr} {o:Int} {a a1:Option Addr} {n c n1 c1 g B B':Nat} {F S:Nat→Prop} {nodes:List ND} {xs:List Nat} {ts:List TD} {e:ED} {f b t:SH}
end
end Go.Mir
set_option maxRecDepth 100000
namespace Go.Mir
open Go Go.E Go.RowKit Go.Tr
def F1 (j:Nat) (Q:Value→World→Prop):Nat→Value→World→Prop:=fun i v u=>i=j→Q v u
section
variable {w u w1:World} {p:Addr} {o:Int} {a a1:Option Addr} {n c n1 c1 g B B':Nat} {F S:Nat→Prop} {nodes:List ND} {xs:List Nat} {ts:List TD} {e:ED} {f b t:SH}
end
end Go.Mir
set_option maxRecDepth 100000
namespace Go.Mir
open Go Go.E Go.RowKit Go.Tr
section
variable {w u w1:World} {p:Addr} {o o1:Int} {a a1 b1:Option Addr} {n c n1 c1 m d g B B':Nat} {F F' S:Nat→Prop} {nodes nodes':List ND} {xs ys:List Int} {ss rs:List ByteArray} {ts ts':List TD} {e e':ED} {f b t f' b' t':SH} {x y:ND}
theorem pW {α:Type} {l r:List α} {i:Nat} {x y:α} (hx:l[i]?=some x) (hy:r[i]?=some y) (h:x≠y):l≠r:=fun e=>by subst e; rw [hx] at hy; exact h (by simpa using hy)
theorem Fg {R:Value→World→Prop} (hn:n=xs.length) (hm:n≤16777216) (he:xs.length=ys.length) (hs:Sl enI w a n xs) (ht:Sl enI w a1 m ys) (hR:R (.bool (kH (xs=ys))) w):∀ (k i:Nat),i+k=n→xs.take i=ys.take i→slices_Equal_int.l14 R (k+1) a n c a1 m d n i w
 | 0,i,hi,hp=>by
  rw [slices_Equal_int.u14]; unfold slices_Equal_int.g14
  refine ai (by omega) ?_
  rw [List.take_of_length_le (by omega),List.take_of_length_le (by omega)] at hp
  rw [gY hp] at hR
  exact hR
 | k+1,i,hi,hp=>by
  rw [slices_Equal_int.u14]; unfold slices_Equal_int.g14
  refine aN (by omega) ?_
  have hml:=ht.len
  refine hs.rdI (k := .i64) (by omega) (by omega) fun x hx=>?_
  refine ht.rdI (k := .i64) (by omega) (by omega) fun y hy=>?_
  rw [Int.toNat_natCast] at hx hy
  refine jR (fun h=>?_) fun h=>?_
  ·rw [bY (pW hx hy h)] at hR
   exact hR
  ·subst h
   refine WE (by omega) ?_
   exact Fg hn hm he hs ht hR k (i+1) (by omega) (by rw [take_snoc hx,take_snoc hy,hp])
theorem tZ (hs:Sl enI w a n xs) (ht:Sl enI w a1 m ys) (hm:n≤16777216):Pure Go.Proofs.Try.prog 35 #[.slice a n c,.slice a1 m d] w (.bool (kH (xs=ys))):=by
 refine slices_Equal_int.calls (R:=fun v' u=>v'=_∧Below w.heap.size w u) ?_
 unfold slices_Equal_int slices_Equal_int.g0
 have hl:=hs.len
 have hl2:=ht.len
 refine jR (fun h=>⟨by rw [bY]; intro e; subst e; omega,Below.refl _ _⟩) fun h=>?_
 exact ⟨n+1,Fg hl hm (by omega) hs ht ⟨rfl,Below.refl _ _⟩ n 0 (by omega) rfl⟩
theorem Eh {R:Value→World→Prop} (hn:n=xs.length) (hm:n≤16777216) (he:xs.length=ys.length) (hs:Sl enI w a n xs) (ht:Sl enI w a1 m ys) (hR:R (.bool (kH (xs=ys))) w):∀ (k i:Nat),i+k=n→xs.take i=ys.take i→aF.l14 R (k+1) a n c a1 m d n i w
 | 0,i,hi,hp=>by
  rw [aF.u14]; unfold aF.g14
  refine ai (by omega) ?_
  rw [List.take_of_length_le (by omega),List.take_of_length_le (by omega)] at hp
  rw [gY hp] at hR
  exact hR
 | k+1,i,hi,hp=>by
  rw [aF.u14]; unfold aF.g14
  refine aN (by omega) ?_
  have hml:=ht.len
  refine hs.rdI (k := .i64) (by omega) (by omega) fun x hx=>?_
  refine ht.rdI (k := .i64) (by omega) (by omega) fun y hy=>?_
  rw [Int.toNat_natCast] at hx hy
  refine jR (fun h=>?_) fun h=>?_
  ·rw [bY (pW hx hy h)] at hR
   exact hR
  ·subst h
   refine WE (by omega) ?_
   exact Eh hn hm he hs ht hR k (i+1) (by omega) (by rw [take_snoc hx,take_snoc hy,hp])
theorem ER (hs:Sl enI w a n xs) (ht:Sl enI w a1 m ys) (hm:n≤16777216):Pure Go.Proofs.Try.prog 32 #[.slice a n c,.slice a1 m d] w (.bool (kH (xs=ys))):=by
 refine aF.calls (R:=fun v' u=>v'=_∧Below w.heap.size w u) ?_
 unfold aF aF.g0
 have hl:=hs.len
 have hl2:=ht.len
 refine jR (fun h=>⟨by rw [bY]; intro e; subst e; omega,Below.refl _ _⟩) fun h=>?_
 exact ⟨n+1,Eh hl hm (by omega) hs ht ⟨rfl,Below.refl _ _⟩ n 0 (by omega) rfl⟩
theorem Rq (h0:x.kind=y.kind) (h1:x.value=y.value) (h2:x.feature=y.feature) (h3:x.thr=y.thr) (h4:x.aI=y.aI) (h5:x.missing=y.missing) (h6:x.left=y.left) (h7:x.right=y.right):x=y:=by
 cases x; cases y; simp_all
theorem KU (hs:Sl enI w a n x.aI) (ht:Sl enI w a1 m y.aI) (hm:n≤16777216):Pure Go.Proofs.Try.prog 57 #[vN x a n c,vN y a1 m d] w (.bool (kH (x=y))):=by
 refine dO.calls (R:=fun v' u=>v'=_∧Below w.heap.size w u) ?_
 unfold dO dO.g0
 refine U6 fun w1 _ hx1 hk1=>U6 fun w2 _ hy hk2=>?_
 have hx:=hx1.kept hk2
 have hk:=Kept.trans hk1 hk2
 have no:x≠y→∀ u,Below w2.heap.size w2 u→(Value.bool false = .bool (kH (x=y))∧Below w.heap.size w u):=fun h u hu=>⟨by rw [bY h],Kept.trans hk hu⟩
 refine ⟨_,hx.c0,_,hy.c0,oM (fun e0=>?_) fun e0=>no fun h=>e0 (by rw [h])⟩
 refine ⟨_,hx.c1,_,hy.c1,oM (fun e1=>?_) fun e0=>no fun h=>e0 (by rw [h])⟩
 refine ⟨_,hx.c2,_,hy.c2,oM (fun e2=>?_) fun e0=>no fun h=>e0 (by rw [h])⟩
 refine ⟨_,hx.c3,_,fb _ _,_,hy.c3,_,fb _ _,oM (fun e3=>?_) fun e0=>no fun h=>e0 (by rw [h])⟩
 refine ⟨_,_,_,hx.c4,_,_,_,hy.c4,kH (x.aI=y.aI),fun u hu=>pq (tZ (hs.keep (Kept.trans hk hu)) (ht.keep (Kept.trans hk hu)) hm) hu,?_⟩
 refine (aH _ _ _).2 ⟨fun e4=>?_,fun e4=>no fun h=>by rw [gY (by rw [h])] at e4; cases e4⟩
 refine ⟨_,hx.c5,_,hy.c5,oM (fun e5=>?_) fun e0=>no fun h=>e0 (by rw [h])⟩
 refine ⟨_,hx.c6,_,hy.c6,oM (fun e6=>?_) fun e0=>no fun h=>e0 (by rw [h])⟩
 refine ⟨_,hx.c7,_,hy.c7,fun u hu=>⟨?_,Kept.trans hk hu⟩⟩
 have h4:x.aI=y.aI:=Classical.byContradiction fun h=>by rw [bY h] at e4; cases e4
 by_cases e7:x.right=y.right
 ·rw [gY (Rq e0 e1 e2 (by omega) h4 e5 e6 e7),e7]; simp
 ·rw [bY (fun h=>e7 (by rw [h]))]; simp [e7]
theorem Ee {R:Value→World→Prop} (hG:Good F w1 a n c nodes) (hG':Good F' w1 a1 m d nodes') (he:n=m) (hR:∀ u,From w1.heap.size w1 u→R (.bool (kH (nodes=nodes'))) u):∀ (k i:Nat) (w:World),i+k=n→From w1.heap.size w1 w→nodes.take i=nodes'.take i→dw.l14 R (k+1) a1 m d a n c n i w
 | 0,i,w,hi,hw,hp=>by
  have hn:=hG.len
  have hn':=hG'.len
  rw [dw.u14]; unfold dw.g14
  refine ai (by omega) ?_
  rw [List.take_of_length_le (by omega),List.take_of_length_le (by omega)] at hp
  have:=hR w hw
  rw [gY hp] at this
  exact this
 | k+1,i,w,hi,hw,hp=>by
  have hn:=hG.len
  have hn':=hG'.len
  have hmx:=hG.max
  rw [dw.u14]; unfold dw.g14
  refine aN (by omega) ?_
  refine (hG.from hw).ls.rdN (by omega) (by omega) fun x a5 n5 c5 hx hcs=>?_
  rw [Int.toNat_natCast] at hx
  refine tq fun u _ hb hk=>?_
  have hu:=hw.aA hk
  refine (hG'.from hu).ls.rdN (by omega) (by omega) fun y a6 n6 c6 hy hcs'=>?_
  rw [Int.toNat_natCast] at hy
  refine tq fun u2 _ hb2 hk2=>?_
  have hb':=hb.kept hk2
  refine hb'.ld (hb2.ld ?_)
  have hs5:=hG.short x (List.mem_of_getElem? hx)
  have hl5:=hcs.len
  refine E.CallsD.mono (KU (x:=x) (y:=y) (hcs.kept (Kept.trans hk hk2)).sl (hcs'.kept hk2).sl (by omega)) fun v u3 ⟨hv,hk3⟩=>⟨_,hv,?_⟩
  have hu3:=(hu.aA hk2).aA hk3
  by_cases h:x=y
  ·rw [gY h]
   subst h
   refine Dy ?_
   refine WE (by omega) ?_
   exact Ee hG hG' he hR k (i+1) u3 (by omega) hu3 (by rw [take_snoc hx,take_snoc hy,hp])
  ·rw [bY h]
   refine KN ?_
   have:=hR u3 hu3
   rw [bY (pW hx hy h)] at this
   exact this
theorem LW (hG:Good F w a n c nodes) (hG':Good F' w a1 m d nodes'):Pure Go.Proofs.Try.prog 56 #[.slice a n c,.slice a1 m d,.func (.func 57) #[] #[]] w (.bool (kH (nodes=nodes'))):=by
 refine dw.calls (R:=fun v' u=>v'=_∧Below w.heap.size w u) ?_
 unfold dw dw.g0
 have hl:=hG.len
 have hl2:=hG'.len
 refine jR (fun h=>⟨by rw [bY]; intro e; subst e; omega,Below.refl _ _⟩) fun h=>?_
 exact ⟨n+1,Ee hG hG' (by omega) (fun u hu=>⟨rfl,From.kept hu⟩) n 0 w (by omega) (From.refl _ _) rfl⟩
theorem Qi (hG:Good F w a n c nodes) (hG':Good F' w a1 m d nodes'):Pure Go.Proofs.Try.prog 28 #[vT o a n c,vT o1 a1 m d] w (.bool (kH (o=o1∧nodes=nodes'))):=by
 refine fA.calls (R:=fun v' u=>v'=_∧Below w.heap.size w u) ?_
 unfold fA fA.g0
 refine tJ fun w1 _ hT1 hk1=>tJ fun w2 _ hT2 hk2=>?_
 have hT:=hT1.kept hk2
 have hk:=Kept.trans hk1 hk2
 refine ⟨_,hT.c0,_,hT2.c0,oM (fun e0=>?_) fun e0=>⟨by rw [bY (fun h=>e0 h.1)],hk⟩⟩
 refine ⟨_,_,_,hT.c1,_,_,_,hT2.c1,?_⟩
 refine E.CallsD.mono (LW (hG.kept hk) (hG'.kept hk)) fun v u ⟨hv,hk3⟩=>⟨_,hv,?_,Kept.trans hk hk3⟩
 rw [vV (p:=nodes=nodes') (q:=o=o1∧nodes=nodes') ⟨fun h=>⟨e0,h⟩,fun h=>h.2⟩]
end
end Go.Mir
set_option maxRecDepth 100000
namespace Go.Mir
open Go Go.E Go.RowKit Go.Tr
section
variable {w u w1:World} {p q:Addr} {o o1:Int} {a a1 b1:Option Addr} {n c n1 c1 m d g B B':Nat} {F F' S:Nat→Prop} {nodes nodes':List ND} {ts ts':List TD} {e e':ED} {f b t f' b' t':SH} {x y:TD}
end
end Go.Mir
set_option maxRecDepth 100000
namespace Go.Mir
open Go Go.E Go.RowKit Go.Tr
section
variable {w u w1:World} {p:Addr} {o:Int} {a a1:Option Addr} {n c n1 c1 m d g B B':Nat} {F F' S:Nat→Prop} {nodes:List ND}
end
end Go.Mir
set_option maxRecDepth 100000
namespace Go.Mir
open Go Go.E Go.RowKit Go.Tr
section
variable {w u w1 W:World} {p:Addr} {o:Int} {a a1:Option Addr} {n c n1 c1 m d g B B':Nat} {F F' S:Nat→Prop} {nodes:List ND}
end
end Go.Mir
