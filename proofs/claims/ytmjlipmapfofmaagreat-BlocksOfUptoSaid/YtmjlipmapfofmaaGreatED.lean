/- Part of a proof of laws of the seat YtmjlipmapfofmaaGreat: functions' weakest preconditions, each checked by the kernel, contracts out of them, plain lemmas; no conditions. -/
import Derived.Test.YtmjlipmapfofmaaGreatSSA
set_option linter.unusedVariables false
set_option linter.unusedSimpArgs false
set_option linter.unusedSectionVars false
namespace Go.E
open Go Go.RowKit
structure NR where
 (kind value feature:Int) (thr:Nat) (bH:SH) (missing left right:Int)
structure uQ where
 (nd:NR) (frm to:Int)
structure tK where
 (thr:Nat) (bH:SH) (tree frm to:Int)
structure sH where
 (feature:Int) (numbers bH lost:SH)
abbrev qH (x:uQ):List Value:=[.int .u8 x.nd.kind,.int .i64 x.nd.value,.int .i64 x.nd.feature,.float .f64 x.nd.thr,x.nd.bH.v,.int .u8 x.nd.missing,.int .i64 x.nd.left,.int .i64 x.nd.right,.int .i64 x.frm,.int .i64 x.to]
abbrev kX (x:tK):List Value:=[.float .f64 x.thr,x.bH.v,.int .i64 x.tree,.int .i64 x.frm,.int .i64 x.to]
abbrev fZ (x:sH):List Value:=[.int .i64 x.feature,x.numbers.v,x.bH.v,x.lost.v]
end Go.E
namespace Go.E
open Go Go.RowKit Go.Tr Go.ChangeShapes
structure dF where
 (thr:Nat) (bH:List Int) (tree frm to:Int)
 deriving DecidableEq
structure ed where
 (feature:Int) (numbers bH lost:List dF)
 deriving DecidableEq
structure lD where
 (first:Int) (leaves:List Int) (values:List (List Int)) (outputs:List Int) (lists:List ed)
 deriving DecidableEq
structure fV where
 (features outputs:Int) (base:List Int) (blocks:List lD)
 deriving DecidableEq
def AtL (w:World) (p:Addr) (cs:List Value):Prop:=∀ j v,cs[j]?=some v→w.cell? (p.add j)=some v
abbrev LsI:=Ls (vP .i64)
abbrev enC (x:dF) (s:SH):List Value:=[.float .f64 x.thr,s.v,.int .i64 x.tree,.int .i64 x.frm,.int .i64 x.to]
abbrev enL (x:ed) (s t u:SH):List Value:=[.int .i64 x.feature,s.v,t.v,u.v]
abbrev rG (x:lD) (s t u v:SH):List Value:=[.int .i64 x.first,s.v,t.v,u.v,v.v]
abbrev nG (x:fV) (s t:SH):List Value:=[.int .i64 x.features,.int .i64 x.outputs,s.v,t.v]
def tC:Ty dF where
 k:=5
 rd F w x cs:=∃ s:SH,cs=enC x s∧LsI F w s.a s.n s.c x.bH
 len:=by rintro F w x cs ⟨s,rfl,_⟩; rfl
 one:=by rintro F w x cs ⟨s,rfl,_⟩ v hv; simp only [enC,List.mem_cons,List.not_mem_nil,or_false] at hv; rcases hv with h | h | h | h | h <;> subst h <;> rfl
 mono:=by rintro F F' w x cs hF ⟨s,rfl,h⟩; exact ⟨s,rfl,h.mono hF⟩
 keep:=by rintro F w u x cs hu ⟨s,rfl,h⟩; exact ⟨s,rfl,h.keep hu⟩
def tL:Ty ed where
 k:=4
 rd F w x cs:=∃ s t u:SH,cs=enL x s t u∧Ls tC F w s.a s.n s.c x.numbers∧Ls tC F w t.a t.n t.c x.bH∧Ls tC F w u.a u.n u.c x.lost
 len:=by rintro F w x cs ⟨s,t,u,rfl,_⟩; rfl
 one:=by rintro F w x cs ⟨s,t,u,rfl,_⟩ v hv; simp only [enL,List.mem_cons,List.not_mem_nil,or_false] at hv; rcases hv with h | h | h | h <;> subst h <;> rfl
 mono:=by rintro F F' w x cs hF ⟨s,t,u,rfl,h1,h2,h3⟩; exact ⟨s,t,u,rfl,h1.mono hF,h2.mono hF,h3.mono hF⟩
 keep:=by rintro F w u x cs hu ⟨s,t,v,rfl,h1,h2,h3⟩; exact ⟨s,t,v,rfl,h1.keep hu,h2.keep hu,h3.keep hu⟩
def tB:Ty lD where
 k:=5
 rd F w x cs:=∃ s t u v:SH,cs=rG x s t u v∧LsI F w s.a s.n s.c x.leaves∧Ls (vP .i64).sl F w t.a t.n t.c x.values∧LsI F w u.a u.n u.c x.outputs∧Ls tL F w v.a v.n v.c x.lists
 len:=by rintro F w x cs ⟨s,t,u,v,rfl,_⟩; rfl
 one:=by rintro F w x cs ⟨s,t,u,v,rfl,_⟩ z hv; simp only [rG,List.mem_cons,List.not_mem_nil,or_false] at hv; rcases hv with h | h | h | h | h <;> subst h <;> rfl
 mono:=by rintro F F' w x cs hF ⟨s,t,u,v,rfl,h1,h2,h3,h4⟩; exact ⟨s,t,u,v,rfl,h1.mono hF,h2.mono hF,h3.mono hF,h4.mono hF⟩
 keep:=by rintro F w z x cs hu ⟨s,t,u,v,rfl,h1,h2,h3,h4⟩; exact ⟨s,t,u,v,rfl,h1.keep hu,h2.keep hu,h3.keep hu,h4.keep hu⟩
section
variable {α:Type} {T:Ty α} {F:Nat→Prop} {w u:World} {p:Addr} {a:OA} {n c:Nat} {xs:List α} {i:Int}
theorem AtL.mod {S:Nat→Prop} {cs:List Value} (h:AtL w p cs) (hm:Mod S w u) (hn:¬ S p.block):AtL u p cs:=fun j v hj=>hm.cell (by rwa [add_block]) (h j v hj)
theorem AtL.kept {cs:List Value} (h:AtL w p cs) (hm:Kept w u):AtL u p cs:=h.mod (S:=fun _=>False) (Kept.mod hm) (fun h=>h)
theorem AtL.new (w:World) (cs:List Value) (e:Nat):AtL (w.alloc (.cells cs.toArray e)) (na w) cs:=fun j v hj=>(Blk.new w cs.toArray e).rd (by simpa using hj)
theorem AtL.blk {b:World} {cs:Array Value} {e:Nat} (h:Blk w b.heap.size cs e):AtL w (na b) cs.toList:=fun j v hj=>h.rd (by simpa using hj)
theorem Ls.at (h:Ls T F w a n c xs) (h0:0≤i) (hi:i<n) {K:Addr→Prop} (hk:∀ p x cs,xs[i.toNat]?=some x→F p.block→T.rd F w x cs→AtL w p cs→K p):ix a n i fun q=>K (q.add (i.toNat*T.k)):=by
 have hi':i.toNat<n:=by omega
 obtain ⟨p,cs,rfl,h2,h3,h4⟩:=h.get i.toNat _ (List.getElem?_eq_getElem (h.len ▸ hi'))
 exact dJ ⟨h0,hi⟩ (hk _ _ cs (List.getElem?_eq_getElem (h.len ▸ hi')) (by rwa [add_block]) h3 fun j v hj=>by rw [add_add]; exact h4 j v hj)
theorem Ls.elem (h:Ls T F w a n c xs) {i:Nat} (hi:i<n):∃ p x cs,a=some p∧xs[i]?=some x∧F p.block∧T.rd F w x cs∧AtL w (p.add (i*T.k)) cs:=by
 obtain ⟨p,cs,h1,h2,h3,h4⟩:=h.get i _ (List.getElem?_eq_getElem (h.len ▸ hi))
 exact ⟨p,_,cs,h1,List.getElem?_eq_getElem (h.len ▸ hi),h2,h3,fun j v hj=>by rw [add_add]; exact h4 j v hj⟩
abbrev ldC (w:World) (a:Addr) (K:Nat→OA→Nat→Nat→Int→Int→Int→Prop):Prop:=cF w (a.add 0) .f64 fun x0=>cL w (a.add 1) fun a1 n1 c1=>cI w (a.add 2) .i64 fun x2=>cI w (a.add 3) .i64 fun x3=>cI w (a.add 4) .i64 fun x4=>K x0 a1 n1 c1 x2 x3 x4
abbrev ldL (w:World) (a:Addr) (K:Int→OA→Nat→Nat→OA→Nat→Nat→OA→Nat→Nat→Prop):Prop:=cI w (a.add 0) .i64 fun x0=>cL w (a.add 1) fun a1 n1 c1=>cL w (a.add 2) fun a2 n2 c2=>cL w (a.add 3) fun a3 n3 c3=>K x0 a1 n1 c1 a2 n2 c2 a3 n3 c3
abbrev ldB (w:World) (a:Addr) (K:Int→OA→Nat→Nat→OA→Nat→Nat→OA→Nat→Nat→OA→Nat→Nat→Prop):Prop:=cI w (a.add 0) .i64 fun x0=>cL w (a.add 1) fun a1 n1 c1=>cL w (a.add 2) fun a2 n2 c2=>cL w (a.add 3) fun a3 n3 c3=>cL w (a.add 4) fun a4 n4 c4=>K x0 a1 n1 c1 a2 n2 c2 a3 n3 c3 a4 n4 c4
theorem AtL.ldC {x:dF} {s:SH} (h:AtL w p (enC x s)) {K:Nat→OA→Nat→Nat→Int→Int→Int→Prop} (hk:K x.thr s.a s.n s.c x.tree x.frm x.to):Go.E.ldC w p K :=
 ⟨_,h 0 _ rfl,_,_,_,h 1 _ rfl,_,h 2 _ rfl,_,h 3 _ rfl,_,h 4 _ rfl,hk⟩
theorem AtL.ldL {x:ed} {s t v:SH} (h:AtL w p (enL x s t v)) {K:Int→OA→Nat→Nat→OA→Nat→Nat→OA→Nat→Nat→Prop} (hk:K x.feature s.a s.n s.c t.a t.n t.c v.a v.n v.c):Go.E.ldL w p K :=
 ⟨_,h 0 _ rfl,_,_,_,h 1 _ rfl,_,_,_,h 2 _ rfl,_,_,_,h 3 _ rfl,hk⟩
theorem AtL.ldB {x:lD} {s t v z:SH} (h:AtL w p (rG x s t v z)) {K:Int→OA→Nat→Nat→OA→Nat→Nat→OA→Nat→Nat→OA→Nat→Nat→Prop} (hk:K x.first s.a s.n s.c t.a t.n t.c v.a v.n v.c z.a z.n z.c):Go.E.ldB w p K :=
 ⟨_,h 0 _ rfl,_,_,_,h 1 _ rfl,_,_,_,h 2 _ rfl,_,_,_,h 3 _ rfl,_,_,_,h 4 _ rfl,hk⟩
theorem Ls.rdC {xs:List dF} (h:Ls tC F w a n c xs) (h0:0≤i) (hi:i<n) {K:Nat→OA→Nat→Nat→Int→Int→Int→Prop} (hk:∀ x a' n' c',xs[i.toNat]?=some x→LsI F w a' n' c' x.bH→K x.thr a' n' c' x.tree x.frm x.to) :
  ix a n i fun q=>ldC w (q.add (i.toNat*5)) K:=h.at h0 hi fun p x cs hx _ ⟨s,e,h1⟩ h2=>by subst e; exact h2.ldC (hk x _ _ _ hx h1)
theorem Ls.rdL {xs:List ed} (h:Ls tL F w a n c xs) (h0:0≤i) (hi:i<n) {K:Int→OA→Nat→Nat→OA→Nat→Nat→OA→Nat→Nat→Prop} (hk:∀ x a1 n1 c1 a2 n2 c2 a3 n3 c3,xs[i.toNat]?=some x→Ls tC F w a1 n1 c1 x.numbers→Ls tC F w a2 n2 c2 x.bH→Ls tC F w a3 n3 c3 x.lost→K x.feature a1 n1 c1 a2 n2 c2 a3 n3 c3) :
  ix a n i fun q=>ldL w (q.add (i.toNat*4)) K:=h.at h0 hi fun p x cs hx _ ⟨s,t,v,e,h1,h3,h4⟩ h2=>by subst e; exact h2.ldL (hk x _ _ _ _ _ _ _ _ _ hx h1 h3 h4)
theorem Ls.rdB {xs:List lD} (h:Ls tB F w a n c xs) (h0:0≤i) (hi:i<n) {K:Int→OA→Nat→Nat→OA→Nat→Nat→OA→Nat→Nat→OA→Nat→Nat→Prop}
  (hk:∀ x a1 n1 c1 a2 n2 c2 a3 n3 c3 a4 n4 c4,xs[i.toNat]?=some x→LsI F w a1 n1 c1 x.leaves→Ls (vP .i64).sl F w a2 n2 c2 x.values→LsI F w a3 n3 c3 x.outputs→Ls tL F w a4 n4 c4 x.lists→K x.first a1 n1 c1 a2 n2 c2 a3 n3 c3 a4 n4 c4) :
  ix a n i fun q=>ldB w (q.add (i.toNat*5)) K:=h.at h0 hi fun p x cs hx _ ⟨s,t,v,z,e,h1,h3,h4,h5⟩ h2=>by subst e; exact h2.ldB (hk x _ _ _ _ _ _ _ _ _ _ _ _ hx h1 h3 h4 h5)
theorem Ls.rdI {xs:List Int} (h:LsI F w a n c xs) (h0:0≤i) (hi:i<n) {K:Int→Prop} (hk:∀ x,xs[i.toNat]?=some x→K x):ix a n i fun q=>cI w (q.add (i.toNat*1)) .i64 K :=
 h.at (K:=fun q=>cI w q .i64 K) h0 hi fun p x cs hx _ e h2=>by obtain rfl:cs=[.int .i64 x]:=e; exact ⟨_,by simpa [add_zero] using h2 0 _ rfl,hk x hx⟩
theorem Ls.Ry {β:Type} {S:Ty β} {xs:List (List β)} (h:Ls S.sl F w a n c xs) (h0:0≤i) (hi:i<n) {K:OA→Nat→Nat→Prop} (hk:∀ x a' n' c',xs[i.toNat]?=some x→Ls S F w a' n' c' x→K a' n' c'):ix a n i fun q=>cL w (q.add (i.toNat*1)) K :=
 h.at (K:=fun q=>cL w q K) h0 hi fun p x cs hx _ ⟨a',n',c',e,h1⟩ h2=>by subst e; exact ⟨a',n',c',by simpa [add_zero] using h2 0 _ rfl,hk x _ _ _ hx h1⟩
end
def dF.sm (x:dF):Prop:=x.bH.length≤1048576
def vX (l:List dF):Prop:=l.length≤1073741824∧∀ x∈l,x.sm
def ed.sm (x:ed):Prop:=vX x.numbers∧vX x.bH∧vX x.lost
def lD.sm (x:lD):Prop:=x.leaves.length≤1048576∧x.values.length≤1048576∧(∀ v∈x.values,v.length≤1048576)∧x.outputs.length≤1048576∧x.lists.length≤1073741824∧∀ l∈x.lists,l.sm
def fV.sm (x:fV):Prop:=x.base.length≤1048576∧x.blocks.length≤1048576∧∀ b∈x.blocks,b.sm
structure lH (F:Nat→Prop) (w:World) (x:fV) (s t:SH):Prop where
 bs:LsI F w s.a s.n s.c x.base
 ks:Ls tB F w t.a t.n t.c x.blocks
 sm:x.sm
theorem lH.kept {F:Nat→Prop} {w u:World} {x:fV} {s t:SH} (h:lH F w x s t) (hk:Kept w u):lH F u x s t:=⟨h.bs.kept hk,h.ks.kept hk,h.sm⟩
end Go.E
namespace Go.E
open Go Go.RowKit Go.Tr Go.ChangeShapes
section
variable {w u:World} {p:Addr} {a:OA} {n c e:Nat} {K:World→Prop}
theorem vG {cs:Array Value} (hk:∀ u,AtL u (na w) cs.toList→Kept w u→K u):nw (w.alloc (.cells cs e)) K :=
 bU (hk _ (AtL.blk (b:=w) (Blk.new w cs e)) (Kept.new w _))
theorem KT:∀ (vs pre post:List Value) (w1:World),Blk w1 w.heap.size (pre++post).toArray e→post.length=vs.length→From w.heap.size w w1→(∀ u,Blk u w.heap.size (pre++vs).toArray e→From w.heap.size w u→K u)→wrS w1 (na w) pre.length vs K
 | [],pre,post,w1,hb,hl,hf,hk=>by
  obtain rfl:post=[]:=List.eq_nil_of_length_eq_zero hl
  exact hk _ hb hf
 | v::vs,pre,[],w1,hb,hl,hf,hk=>by simp at hl
 | v::vs,pre,z::post,w1,hb,hl,hf,hk=>by
  have h1:=hb.set pre.length v
  have e1:(pre++z::post).toArray.setIfInBounds pre.length v=((pre++[v])++post).toArray:=by
   rw [List.setIfInBounds_toArray]; simp
  rw [e1] at h1
  refine ⟨?_,bU ?_⟩
  ·rw [fQ]; exact hb.ok (by simp)
  ·rw [fQ]
   have:=KT vs (pre++[v]) post (w1.setCell ⟨w.heap.size,pre.length,none⟩ v) h1 (by simpa using hl) (From.then hf (Only.set _ w.heap.size _ v) fun k h1 h2=>by omega) (fun u hb' hf'=>hk u (by simpa using hb') hf')
   simpa using this
theorem wrB {b:Nat}:∀ (vs pre post:List Value) (w1:World),Blk w1 b (pre++post).toArray e→post.length=vs.length→(∀ u,Blk u b (pre++vs).toArray e→Only (b+1) w1 u→K u)→wrS w1 ⟨b,0,none⟩ pre.length vs K
 | [],pre,post,w1,hb,hl,hk=>by
  obtain rfl:post=[]:=List.eq_nil_of_length_eq_zero hl
  exact hk _ hb (Mod.refl _)
 | v::vs,pre,[],w1,hb,hl,hk=>by simp at hl
 | v::vs,pre,z::post,w1,hb,hl,hk=>by
  have h1:=hb.set pre.length v
  have e1:(pre++z::post).toArray.setIfInBounds pre.length v=((pre++[v])++post).toArray:=by
   rw [List.setIfInBounds_toArray]; simp
  rw [e1] at h1
  refine ⟨?_,bU ?_⟩
  ·rw [addr_add,Nat.zero_add]; exact hb.ok (by simp)
  ·rw [addr_add,Nat.zero_add]
   have:=wrB vs (pre++[v]) post (w1.setCell ⟨b,pre.length,none⟩ v) h1 (by simpa using hl) (fun u hb' hf'=>hk u (by simpa using hb') ((Only.set w1 b _ v).trans hf' (fun _ _ h=>h) (fun _ _ h=>h)))
   simpa using this
theorem wrA {b:Nat} {zs vs:List Value} {w1:World} (hb:Blk w1 b zs.toArray e) (hl:zs.length=vs.length) (hk:∀ u,Blk u b vs.toArray e→Only (b+1) w1 u→K u):wrS w1 ⟨b,0,none⟩ 0 vs K:=by
 have:=wrB (K:=K) vs [] zs w1 (by simpa using hb) hl (fun u h1 h2=>hk u (by simpa using h1) h2)
 simpa using this
theorem boxS {zs vs:List Value} (hl:zs.length=vs.length) (hk:∀ u,AtL u (na w) vs→Blk u w.heap.size vs.toArray e→Kept w u→K u):nw (w.alloc (.cells zs.toArray e)) fun w1=>wrS w1 (na w) 0 vs K :=
 bU (KT vs [] zs _ (Blk.new w zs.toArray e) hl (Kept.mod (Kept.new w _)) fun u hb hf=>hk u (by have:=AtL.blk (b:=w) hb; simpa using this) (by simpa using hb) hf.kept)
end
section
variable {P:Program} {f:FuncId} {args:Array Value} {w:World} {p:Prop}
theorem FQ {A B:World→Prop} (h:Pure P f args w (.bool (jh p))) (ht:p→∀ u,Kept w u→A u) (hf:¬ p→∀ u,Kept w u→B u):E.CallsD P f args w fun v u=>∃ b,v = .bool b∧af b (A u) (B u) :=
 E.CallsD.mono h fun v u ⟨hv,hk⟩=>⟨_,hv,(aH _ _ _).2 ⟨fun h=>ht (Classical.byContradiction fun hp=>by rw [bY hp] at h; cases h) u hk,fun h=>hf (fun hp=>by rw [gm hp] at h; cases h) u hk⟩⟩
theorem rP {A B:World→Prop} (h:Pure P f args w (.bool (jh p))) (hf:¬ p→∀ u,Kept w u→A u) (ht:p→∀ u,Kept w u→B u):E.CallsD P f args w fun v u=>∃ b,v = .bool b∧af (!b) (A u) (B u) :=
 E.CallsD.mono h fun v u ⟨hv,hk⟩=>⟨_,hv,(aH _ _ _).2 ⟨fun h=>hf (fun hp=>by rw [gm hp] at h; cases h) u hk,fun h=>ht (Classical.byContradiction fun hp=>by rw [bY hp] at h; cases h) u hk⟩⟩
theorem N9 {A:Bool→World→Prop} (h:Pure P f args w (.bool (jh p))) (hA:∀ u,Kept w u→A (jh p) u):E.CallsD P f args w fun v u=>∃ b,v = .bool b∧A b u :=
 E.CallsD.mono h fun v u ⟨hv,hk⟩=>⟨_,hv,hA u hk⟩
end
theorem eqS {α:Type} {xs ys:List α} {n:Nat} (hn:n=xs.length) (he:xs.length=ys.length) {W:World→Prop} {L:Nat→Int→World→Prop} {T Fl:World→Prop}
  (step:∀ (k i:Nat) (w:World) (x y:α),W w→i<n→xs[i]?=some x→ys[i]?=some y→(x=y→∀ u,W u→L k ((i+1:Nat):Int) u)→(x≠y→∀ u,W u→Fl u)→L (k+1) i w)
  (fin:∀ k w,W w→T w→L (k+1) n w) (hT:xs=ys→∀ u,W u→T u) (hF:xs≠ys→∀ u,W u→Fl u):∀ (k i:Nat) (w:World),i+k=n→xs.take i=ys.take i→W w→L (k+1) i w
 | 0,i,w,hi,hp,hw=>by
  obtain rfl:i=n:=by omega
  rw [List.take_of_length_le (by omega),List.take_of_length_le (by omega)] at hp
  exact fin 0 w hw (hT hp w hw)
 | k+1,i,w,hi,hp,hw=>by
  have hx:xs[i]?=some (xs[i]'(by omega)):=List.getElem?_eq_getElem (by omega)
  have hy:ys[i]?=some (ys[i]'(by omega)):=List.getElem?_eq_getElem (by omega)
  refine step (k+1) i w _ _ hw (by omega) hx hy (fun h u hu=>eqS hn he step fin hT hF k (i+1) u (by omega) ?_ hu) fun h u hu=>hF (fun e=>h ?_) u hu
  ·rw [List.take_add_one,List.take_add_one,hp,hx,hy,h]
  ·subst e; rfl
end Go.E
namespace Go.E
open Go Go.RowKit Go.ChangeShapes Go.Tr
abbrev CD:=dF×SH
abbrev lX (x:CD):List Value:=enC x.1 x.2
abbrev RC:=SH×List CD×Nat
abbrev eI (x:Int):Value := .int .i64 x
structure HE where
 (f:Int) (p:Nat) (rs:List RC)
abbrev HE.cells (h:HE):List Value := .int .i64 h.f::h.rs.map (fun r=>r.1.v)
abbrev HE.kv (h:HE):Int×Value:=(h.f,.pointer (some ⟨h.p,0,none⟩))
def COK (tI:Nat) (B:Nat) (w:World) (x:CD):Prop:=∃ g,Arr eI tI w x.2.a x.2.n x.2.c x.1.bH g∧(g=0∨B<g)
def ROK (tI tC B:Nat) (w:World) (r:RC):Prop:=aO 5 lX tC w r.1.a r.1.n r.1.c r.2.1 r.2.2∧(r.2.2=0∨B<r.2.2)∧∀ x∈r.2.1,COK tI B w x
structure HOK (tI tC tL B:Nat) (w:World) (mb:Nat) (H:List HE):Prop where
 map:iU (enK .i64) w mb (H.map HE.kv)
 mB:B≤mb
 box:∀ h∈H,Blk w h.p h.cells.toArray tL∧B≤h.p∧h.rs.length=3
 row:∀ h∈H,∀ r∈h.rs,ROK tI tC B w r
 pn:∀ (i j:Nat) x y,H[i]?=some x→H[j]?=some y→i≠j→x.p≠y.p
 gn:∀ (i j k l:Nat) x y r s,H[i]?=some x→H[j]?=some y→x.rs[k]?=some r→y.rs[l]?=some s→(i≠j∨k≠l)→r.2.2=0∨r.2.2≠s.2.2
section
variable {tI tC tL B mb:Nat} {w u:World} {H:List HE} {S:Nat→Prop} {x:HE} {r r':RC}
theorem Blk.ne {w:World} {b:Nat} {cs cs':Array Value} {e e':Nat} (h:Blk w b cs e) (h':Blk w b cs' e'):e=e':=by
 unfold Blk at h h'
 rw [h] at h'
 cases h'
 rfl
theorem iU.kQ {κ:Type} [DecidableEq κ] {en:κ→Value} {L:List (κ×Value)} {cs:Array Value} {e:Nat} (h:iU en w mb L) (h':Blk w mb cs e):False:=by
 obtain ⟨es,c,h1,_⟩:=h
 unfold Blk at h'
 rw [h1] at h'
 cases h'
theorem Row.blk {e size:Nat} {a:OA} {n c g:Nat} {cs:List Value} (h:Row w e size a n c cs g) {k:Nat} (hk:k+1=g):∃ cur,Blk w k cur e:=by
 rcases h.2 with ⟨h0,_⟩ | ⟨b,cur,hb,_,hblk,_⟩
 ·omega
 ·obtain rfl:b=k:=by omega
  exact ⟨cur,hblk⟩
theorem COK.mod {y:CD} (h:COK tI B w y) (hm:Mod S w u) (hI:∀ k cur,Blk w k cur tI→¬ S k):COK tI B u y:=by
 obtain ⟨g,h1,h2⟩:=h
 exact ⟨g,h1.mod hm fun k hk=>by obtain ⟨cur,hb⟩:=Row.blk h1 hk; exact hI k cur hb,h2⟩
theorem ROK.mod (h:ROK tI tC B w r) (hm:Mod S w u) (hS:∀ k,k+1=r.2.2→¬ S k) (hI:∀ k cur,Blk w k cur tI→¬ S k):ROK tI tC B u r :=
 ⟨h.1.mod hm hS,h.2.1,fun y hy=>(h.2.2 y hy).mod hm hI⟩
theorem ROK.kept (h:ROK tI tC B w r) (hk:Kept w u):ROK tI tC B u r:=h.mod (S:=fun _=>False) (Kept.mod hk) (fun _ _ h=>h) (fun _ _ _ h=>h)
theorem ROK.blk (h:ROK tI tC B w r) {k:Nat} (hk:k+1=r.2.2):∃ cur,Blk w k cur tC:=Row.blk h.1 hk
theorem HOK.kept (h:HOK tI tC tL B w mb H) (hk:Kept w u):HOK tI tC tL B u mb H :=
 ⟨h.map.kept hk,h.mB,fun y hy=>⟨(h.box y hy).1.keep hk,(h.box y hy).2⟩,fun y hy r hr=>(h.row y hy r hr).kept hk,h.pn,h.gn⟩
theorem HOK.nil (tI tC tL:Nat) (w:World) (hB:B≤w.heap.size):HOK tI tC tL B (w.alloc (.map #[] 0)) w.heap.size [] :=
 ⟨iU.new _ w,hB,(fun _ h=>by cases h),(fun _ h=>by cases h),(fun _ _ _ _ h=>by simp at h),(fun _ _ _ _ _ _ _ _ h=>by simp at h)⟩
theorem HOK.grow (h:HOK tI tC tL B w mb H) (hIC:tI≠tC) (hIL:tI≠tL) (hCL:tC≠tL) {i j:Nat} (hx:H[i]?=some x) (hr:x.rs[j]?=some r) (ho:Only r.2.2 w u) (hr':ROK tI tC B u r') (hg:r'.2.2=r.2.2∨w.heap.size<r'.2.2) :
  nD u ⟨x.p,j+1,none⟩∧HOK tI tC tL B (u.setCell ⟨x.p,j+1,none⟩ r'.1.v) mb (H.set i { x with rs:=x.rs.set j r' })∧Only (x.p+1) u (u.setCell ⟨x.p,j+1,none⟩ r'.1.v):=by
 have hxm:=List.mem_of_getElem? hx
 have hrm:=List.mem_of_getElem? hr
 obtain ⟨hxb,hxB,hx3⟩:=h.box x hxm
 have hjl:=(List.getElem?_eq_some_iff.1 hr).1
 have hil:=(List.getElem?_eq_some_iff.1 hx).1
 have hrb:∀ k,k+1=r.2.2→∃ cur,Blk w k cur tC:=fun k hk=>(h.row x hxm r hrm).blk hk
 have hxu:Blk u x.p x.cells.toArray tL:=hxb.mod ho fun hk=>by
  obtain ⟨cur,hb⟩:=hrb x.p hk
  exact hCL (hb.ne hxb)
 have hset:=hxu.set (j+1) r'.1.v
 have hon:=Only.set u x.p (j+1) r'.1.v
 have hM:Mod (fun k=>k+1=r.2.2∨k=x.p) w (u.setCell ⟨x.p,j+1,none⟩ r'.1.v):=ho.trans hon (fun _ _ h => .inl h) (fun k _ hk => .inr (by have hk':k+1=x.p+1:=hk; omega))
 have hI:∀ k cur,Blk w k cur tI→¬ (k+1=r.2.2∨k=x.p):=by
  rintro k cur hb (hk | rfl)
  ·obtain ⟨cur',hb'⟩:=hrb k hk; exact hIC (hb.ne hb')
  ·exact hIL (hb.ne hxb)
 have hIu:∀ k cur,Blk u k cur tI→¬ (k+1=x.p+1):=fun k cur hb hk=>by
  obtain rfl:k=x.p:=by omega
  exact hIL (hb.ne hxu)
 have le:∀ y∈H,∀ s∈y.rs,s.2.2≤w.heap.size:=fun y hy s hs=>Row.le (h.row y hy s hs).1
 refine ⟨hxu.ok (by simp; omega),⟨?_,h.mB,?_,?_,?_,?_⟩,hon⟩
 ·have e:(H.set i { x with rs:=x.rs.set j r' }).map HE.kv=H.map HE.kv:=by
   rw [List.map_set]
   apply List.ext_getElem?
   intro q
   rw [List.getElem?_set]
   split
   ·rename_i e; subst e; rw [List.length_map,if_pos hil,List.getElem?_map,hx]; rfl
   ·rfl
  rw [e]
  refine h.map.mod hM fun hk=>?_
  rcases hk with hk | hk
  ·obtain ⟨cur,hb⟩:=hrb mb hk; exact h.map.kQ hb
  ·subst hk; exact h.map.kQ hxb
 ·intro y hy
  rcases mem_set hy with rfl | ⟨q,hq,hqs⟩
  ·refine ⟨?_,hxB,by simpa using hx3⟩
   have e:(x.cells.toArray.setIfInBounds (j+1) r'.1.v)=(HE.cells { x with rs:=x.rs.set j r' }).toArray:=by
    rw [List.setIfInBounds_toArray]
    simp [List.map_set]
   rw [e] at hset
   exact hset
  ·obtain ⟨b1,b2⟩:=h.box y (List.mem_of_getElem? hqs)
   refine ⟨b1.mod hM fun hk=>?_,b2⟩
   rcases hk with hk | hk
   ·obtain ⟨cur,hb⟩:=hrb y.p hk; exact hCL (hb.ne b1)
   ·exact h.pn q i y x hqs hx hq hk
 ·intro y hy s hs
  have other:∀ q l,H[q]?=some y→y.rs[l]?=some s→(q≠i∨l≠j)→ROK tI tC B (u.setCell ⟨x.p,j+1,none⟩ r'.1.v) s:=fun q l hq hl hne=>by
   have hrow:=h.row y (List.mem_of_getElem? hq) s (List.mem_of_getElem? hl)
   refine hrow.mod hM (fun k hk hS=>?_) hI
   obtain ⟨cur,hb⟩:=hrow.blk hk
   rcases hS with hS | hS
   ·have:=h.gn q i l j y x s r hq hx hl hr hne; omega
   ·subst hS; exact hCL (hb.ne hxb)
  rcases mem_set hy with rfl | ⟨q,hq,hqs⟩
  ·rcases mem_set hs with rfl | ⟨l,hl,hls⟩
   ·refine hr'.mod hon (fun k hk hS=>?_) hIu
    obtain ⟨cur,hb⟩:=hr'.blk hk
    have hS':k+1=x.p+1:=hS
    obtain rfl:k=x.p:=by omega
    exact hCL (hb.ne hxu)
   ·have hrow:=h.row x hxm s (List.mem_of_getElem? hls)
    refine hrow.mod hM (fun k hk hS=>?_) hI
    obtain ⟨cur,hb⟩:=hrow.blk hk
    rcases hS with hS | hS
    ·have:=h.gn i i l j x x s r hx hx hls hr (.inr hl); omega
    ·subst hS; exact hCL (hb.ne hxb)
  ·obtain ⟨l,hl⟩:=List.getElem?_of_mem hs
   exact other q l hqs hl (.inl hq)
 ·intro p q y z hy hz hpq
  rw [List.getElem?_set] at hy hz
  split at hy
  ·rename_i e; subst e
   (try rw [if_pos hil] at hy); cases hy
   rw [if_neg (by omega)] at hz
   exact h.pn i q x z hx hz hpq
  ·split at hz
   ·rename_i e; subst e
    (try rw [if_pos hil] at hz); cases hz
    exact h.pn p i y x hy hx hpq
   ·exact h.pn p q y z hy hz hpq
 ·intro p q k l y z s t hy hz hs ht hne
  rw [List.getElem?_set] at hy hz
  have new:∀ (q' l':Nat) (z':HE) (t':RC),H[q']?=some z'→z'.rs[l']?=some t'→(q'≠i∨l'≠j)→(r'.2.2=0∨r'.2.2≠t'.2.2)∧(t'.2.2=0∨t'.2.2≠r'.2.2):=fun q' l' z' t' h1 h2 hne'=>by
   have:=h.gn q' i l' j z' x t' r h1 hx h2 hr hne'
   have:=le z' (List.mem_of_getElem? h1) t' (List.mem_of_getElem? h2)
   omega
  split at hy <;> split at hz
  ·rename_i e1 e2; subst e1; subst e2
   (try rw [if_pos hil] at hy); (try rw [if_pos hil] at hz); cases hy; cases hz
   simp only at hs ht
   rw [List.getElem?_set] at hs ht
   split at hs <;> split at ht
   ·omega
   ·rename_i e3 e4; subst e3; (try rw [if_pos hjl] at hs); cases hs
    exact (new i l x t hx ht (.inr (Ne.symm e4))).1
   ·rename_i e3 e4; subst e4; (try rw [if_pos hjl] at ht); cases ht
    exact (new i k x s hx hs (.inr (Ne.symm e3))).2
   ·exact h.gn i i k l x x s t hx hx hs ht hne
  ·rename_i e1 e2; subst e1
   (try rw [if_pos hil] at hy); cases hy
   simp only at hs
   rw [List.getElem?_set] at hs
   split at hs
   ·rename_i e3; subst e3; (try rw [if_pos hjl] at hs); cases hs
    exact (new q l z t hz ht (.inl (Ne.symm e2))).1
   ·exact h.gn i q k l x z s t hx hz hs ht hne
  ·rename_i e1 e2; subst e2
   (try rw [if_pos hil] at hz); cases hz
   simp only at ht
   rw [List.getElem?_set] at ht
   split at ht
   ·rename_i e3; subst e3; (try rw [if_pos hjl] at ht); cases ht
    exact (new p k y s hy hs (.inl (Ne.symm e1))).2
   ·exact h.gn p i k l y x s t hy hx hs ht hne
  ·exact h.gn p q k l y z s t hy hz hs ht hne
abbrev sS:RC:=(⟨none,0,0⟩,[],0)
theorem QD (tI tC B:Nat) (w:World):ROK tI tC B w sS:=⟨Row.nil w tC 5,.inl rfl,fun _ h=>by cases h⟩
theorem Ef {κ:Type} [DecidableEq κ]:∀ {L:List (κ×Value)} {x:κ} {v:Value},x∉L.map (·.1)→oP L x v=L++[(x,v)]
 | [],x,v,_=>rfl
 | (y,u)::L,x,v,h=>by
  unfold oP
  rw [if_neg (fun e=>h (by subst e; simp)),Ef (fun hm=>h (by simp at hm ⊢; exact .inr hm))]
  rfl
theorem HOK.push (h:HOK tI tC tL B w mb H) (hB:B≤w.heap.size) {f:Int} (hf:f∉H.map HE.f) {w1:World} (hb:Blk w1 w.heap.size (HE.cells ⟨f,w.heap.size,[sS,sS,sS]⟩).toArray tL) (hk:Kept w w1)
  (hu:iU (enK .i64) u mb (oP (H.map HE.kv) f (.pointer (some ⟨w.heap.size,0,none⟩)))) (ho:Only (mb+1) w1 u):HOK tI tC tL B u mb (H++[⟨f,w.heap.size,[sS,sS,sS]⟩]):=by
 have h1:=h.kept hk
 have hlt:=h.map.lt
 have hmb:mb≠w.heap.size:=by omega
 have nb:∀ k cur e,Blk w1 k cur e→¬ (k+1=mb+1):=fun k cur e hbk hk'=>by
  obtain rfl:k=mb:=by omega
  exact h1.map.kQ hbk
 have ps:∀ y∈H,y.p<w.heap.size:=fun y hy=>(h.box y hy).1.lt
 refine ⟨?_,h.mB,?_,?_,?_,?_⟩
 ·rw [Ef (by simpa using hf)] at hu
  rw [List.map_append]
  exact hu
 ·intro y hy
  rcases List.mem_append.1 hy with hy | hy
  ·obtain ⟨b1,b2⟩:=h1.box y hy
   exact ⟨b1.mod ho (nb _ _ _ b1),b2⟩
  ·obtain rfl:=by simpa using hy
   exact ⟨hb.mod ho (nb _ _ _ hb),hB,rfl⟩
 ·intro y hy r hr
  rcases List.mem_append.1 hy with hy | hy
  ·have hrow:=h1.row y hy r hr
   exact hrow.mod ho (fun k hk'=>by obtain ⟨cur,hbk⟩:=hrow.blk hk'; exact nb _ _ _ hbk) (fun k cur hbk=>nb _ _ _ hbk)
  ·obtain rfl:=by simpa using hy
   have:r=sS:=by simpa using hr
   subst this
   exact QD _ _ _ _
 ·intro i j y z hy hz hij
  have key:∀ (i:Nat) y,(H++[(⟨f,w.heap.size,[sS,sS,sS]⟩:HE)])[i]?=some y→(H[i]?=some y∧i<H.length)∨(i=H.length∧y.p=w.heap.size):=fun i y hy=>by
   rcases Nat.lt_or_ge i H.length with hlt | hge
   ·rw [List.getElem?_append_left hlt] at hy; exact .inl ⟨hy,hlt⟩
   ·rw [List.getElem?_append_right hge] at hy
    have:i - H.length=0:=by
     have:=(List.getElem?_eq_some_iff.1 hy).1
     simp at this; omega
    rw [this] at hy
    simp at hy
    subst hy
    exact .inr ⟨by omega,rfl⟩
  rcases key i y hy with ⟨a1,a2⟩ | ⟨a1,a2⟩ <;> rcases key j z hz with ⟨b1,b2⟩ | ⟨b1,b2⟩
  ·exact h.pn i j y z a1 b1 hij
  ·have:=ps y (List.mem_of_getElem? a1); omega
  ·have:=ps z (List.mem_of_getElem? b1); omega
  ·omega
 ·intro i j k l y z r s hy hz hr hs hne
  rcases Nat.lt_or_ge i H.length with hlt1 | hge1
  ·rw [List.getElem?_append_left hlt1] at hy
   rcases Nat.lt_or_ge j H.length with hlt2 | hge2
   ·rw [List.getElem?_append_left hlt2] at hz
    exact h.gn i j k l y z r s hy hz hr hs hne
   ·have hz':=List.mem_of_getElem? hz
    rw [List.getElem?_append_right hge2] at hz
    have hz':=List.mem_of_getElem? hz
    obtain rfl:=by simpa using hz'
    have:=List.mem_of_getElem? hs
    have:s=sS:=by simpa using this
    subst this
    by_cases h0:r.2.2=0
    ·exact .inl h0
    ·exact .inr h0
  ·rw [List.getElem?_append_right hge1] at hy
   have hy':=List.mem_of_getElem? hy
   obtain rfl:=by simpa using hy'
   have:=List.mem_of_getElem? hr
   have:r=sS:=by simpa using this
   subst this
   exact .inl rfl
end
end Go.E
namespace Go.Ss
section
variable {α β:Type} {lt:α→α→Bool}
theorem Lr (f:β→α) (l:List β) (x:β):qE lt (l.map f) (f x)=(qE (fun a b=>lt (f a) (f b)) l x).map f:=by
 unfold qE
 rw [← List.map_reverse,Ji,Ip]
 simp [List.map_reverse]
theorem kD (f:β→α) (l:List β):sorted lt (l.map f)=(sorted (fun a b=>lt (f a) (f b)) l).map f:=by
 unfold sorted
 have key:∀ (l acc:List β),(l.map f).foldl (qE lt) (acc.map f)=(l.foldl (qE fun a b=>lt (f a) (f b)) acc).map f:=by
  intro l
  induction l with
  | nil=>intro acc; rfl
  | cons x l ih=>intro acc; rw [List.map_cons,List.foldl_cons,List.foldl_cons,Lr,ih]
 exact key l []
theorem sorted_perm (lt:α→α→Bool) (l:List α):(sorted lt l).Perm l:=by
 unfold sorted
 have key:∀ (l acc:List α),(l.foldl (qE lt) acc).Perm (acc++l):=by
  intro l
  induction l with
  | nil=>intro acc; simp
  | cons x l ih =>
   intro acc
   rw [List.foldl_cons]
   exact (ih _).trans (by have:=(Be lt acc x).append_right l; simpa using this)
 simpa using key l []
theorem wM (h:Wk lt) (l:List α):(sorted lt l).Pairwise fun a b=>lt b a=false:=by
 obtain ⟨h1,h2,h3⟩:=QK h l.zipIdx [] List.Pairwise.nil (fun y hy=>by cases hy) (F5 l 0)
 have e:sorted lt l=(l.zipIdx.foldl (Lp lt) []).map (·.1):=by rw [h3,zip_fst]; rfl
 rw [e,List.pairwise_map]
 refine List.Pairwise.imp ?_ h1
 rintro a b (h' | h')
 ·cases hb:lt b.1 a.1 with
  | false=>rfl
  | true=>have:=h.trans _ _ _ h' hb; rw [h.irrefl] at this; cases this
 ·exact h'.1
theorem Dx {key:α→Int} {xs ys:List α} (hp:xs.Perm ys) (hn:(xs.map key).Nodup):sorted (fun a b=>decide (key a<key b)) xs=sorted (fun a b=>decide (key a<key b)) ys:=by
 have hw:Wk fun a b:α=>decide (key a<key b):=⟨fun x=>by simp,fun x y z=>by simp; omega,fun x y z=>by simp; omega⟩
 have hp2:=((sorted_perm (fun a b=>decide (key a<key b)) xs).trans hp).trans (sorted_perm (fun a b=>decide (key a<key b)) ys).symm
 refine List.Perm.eq_of_pairwise (le:=fun a b=>decide (key b<key a)=false) ?_ (wM hw xs) (wM hw ys) hp2
 intro a b ha hb h1 h2
 have e:key a=key b:=by simp at h1 h2; omega
 have ha':a∈xs:=(sorted_perm _ xs).mem_iff.1 ha
 have hb':b∈xs:=hp.mem_iff.2 ((sorted_perm _ ys).mem_iff.1 hb)
 obtain ⟨i,hi⟩:=List.getElem?_of_mem ha'
 obtain ⟨j,hj⟩:=List.getElem?_of_mem hb'
 have li:=(List.getElem?_eq_some_iff.1 hi).1
 have lj:=(List.getElem?_eq_some_iff.1 hj).1
 have:i=j:=Go.E.kz hn (by simpa using li) (by simpa using lj) (by
  simp only [List.getElem_map]
  rw [(List.getElem?_eq_some_iff.1 hi).2,(List.getElem?_eq_some_iff.1 hj).2,e])
 subst this
 rw [hi] at hj
 cases hj
 rfl
end
end Go.Ss
namespace Go.E
open Go Go.RowKit Go.ChangeShapes Go.Tr
section
variable {tI tC tL B mb:Nat} {w u:World} {H:List HE} {S:Nat→Prop} {x:HE} {r r':RC}
theorem HOK.other (h:HOK tI tC tL B w mb H) (hm:Mod S w u) (hS:∀ k cur e,Blk w k cur e→¬ S k) (hmb:¬ S mb):HOK tI tC tL B u mb H :=
 ⟨h.map.mod hm hmb,h.mB,fun y hy=>⟨(h.box y hy).1.mod hm (hS _ _ _ (h.box y hy).1),(h.box y hy).2⟩,fun y hy r hr=>by
  have hrow:=h.row y hy r hr
  exact hrow.mod hm (fun k hk=>by obtain ⟨cur,hb⟩:=hrow.blk hk; exact hS _ _ _ hb) fun k cur hb=>hS _ _ _ hb,h.pn,h.gn⟩
theorem HOK.apart (h:HOK tI tC tL B w mb H) (hIL:tI≠tL) (hCL:tC≠tL) {g:Nat} {cur:Array Value} (hm:Only (g+1) w u) (hg:Blk w g cur tL) (hp:∀ y∈H,y.p≠g):HOK tI tC tL B u mb H:=by
 have no:∀ k cur' e,Blk w k cur' e→e≠tL→¬ (k+1=g+1):=fun k cur' e hb he hk=>by
  obtain rfl:k=g:=by omega
  exact he (hb.ne hg)
 refine ⟨h.map.mod hm (fun hk=>?_),h.mB,fun y hy=>⟨(h.box y hy).1.mod hm (fun hk=>hp y hy (by have hk':y.p+1=g+1:=hk; omega)),(h.box y hy).2⟩,fun y hy r hr=>?_,h.pn,h.gn⟩
 ·have hk':mb+1=g+1:=hk
  obtain rfl:mb=g:=by omega
  exact h.map.kQ hg
 ·have hrow:=h.row y hy r hr
  exact hrow.mod hm (fun k hk=>by obtain ⟨cur',hb⟩:=hrow.blk hk; exact no _ _ _ hb hCL) fun k cur' hb=>no _ _ _ hb hIL
theorem Bc {w:World} {b i e:Nat} {cs:Array Value} {v:Value} (h:Blk w b cs e) (hv:cs[i]?=some v):w.setCell ⟨b,i,none⟩ v=w:=by
 have key:(w.setCell ⟨b,i,none⟩ v).heap=w.heap:=by
  unfold World.setCell
  apply Array.ext_getElem?
  intro k
  simp only [Array.getElem?_modify]
  split
  ·rename_i hk
   subst hk
   unfold Blk at h
   rw [h]
   have:cs.setIfInBounds i v=cs:=by
    obtain ⟨h1,rfl⟩:=Array.getElem?_eq_some_iff.1 hv
    simp [Array.setIfInBounds,h1]
   simp [this]
  ·rfl
 have e2:w.setCell ⟨b,i,none⟩ v={ w with heap:=(w.setCell ⟨b,i,none⟩ v).heap }:=rfl
 rw [e2,key]
theorem HOK.turn (h:HOK tI tC tL B w mb H) (hIC:tI≠tC) (hIL:tI≠tL) (hCL:tC≠tL) {i j:Nat} (hx:H[i]?=some x) (hr:x.rs[j]?=some r) (ho:Only r.2.2 w u) (hr':ROK tI tC B u r') (hg:r'.2.2=r.2.2) (hv:r'.1=r.1) :
  HOK tI tC tL B u mb (H.set i { x with rs:=x.rs.set j r' }):=by
 obtain ⟨_,h2,_⟩:=h.grow hIC hIL hCL hx hr ho hr' (.inl hg)
 have hxm:=List.mem_of_getElem? hx
 have hrm:=List.mem_of_getElem? hr
 have hxb:Blk u x.p x.cells.toArray tL:=(h.box x hxm).1.mod ho fun hk=>by
  obtain ⟨cur,hb⟩:=(h.row x hxm r hrm).blk hk
  exact hCL (hb.ne (h.box x hxm).1)
 rw [hv,Bc hxb (by simp [HE.cells,List.getElem?_map,hr])] at h2
 exact h2
end
end Go.E
namespace Go.E
open Go Go.RowKit Go.ChangeShapes Go.Tr
theorem Ce {P:Program} {w:World} {t ty e size bytes:Nat} (hT:fE P t e size bytes) (hsz:0<size) {a:Option Addr} {n c g:Nat} {xs:List Value} (hown:Row w e size a n c xs g)
  {news:List Value} {s:Option Addr} {m d:Nat} (hl:news.length=m*size) (hnews:∀ j u,news[j]?=some u→∃ p,s=some p∧w.cell? (p.add j)=some u) (hm0:s=none→m=0)
  (h1:∀ u∈news,u.oneCell'=true) (h63:n+m≤maxLen) (hbytes:(n+m)*bytes≤140737488355328) {K:Value→World→Prop}
  (hk:∀ a' c' g' w',Row w' e size a' (n+m) c' (xs++news) g'→((g'=g∧a'=a∧c'=c)∨(g'=w.heap.size+1∧Kept w w'))→Only g w w'→K (.slice a' (n+m) c') w') :
  dm P (Builtin.append_ #[t,t] ty #[.slice a n c,.slice s m d]) w K:=by
 obtain ⟨ht,i,z,hi,hz,rfl,rfl,hzs⟩:=hT
 intro dd
 have hsmall:n+m≤9223372036854775807:=by simp only [maxLen] at h63; omega
 have hlen:(xs++news).length=(n+m)*i.size:=by rw [List.length_append,hown.1,hl,Nat.add_mul]
 cases s with
 | none =>
  obtain rfl:=hm0 rfl
  obtain rfl:news=[]:=List.eq_nil_of_length_eq_zero (by simpa using hl)
  refine ⟨.slice a n c,w,dd,lI ht hi _ _ _ _ hown.cap,?_⟩
  exact hk a c g w (by simpa using hown) (.inl ⟨rfl,rfl,rfl⟩) (Mod.refl _)
 | some p =>
  have hn':∀ j u,news[j]?=some u→(dr w dd).cell? (p.add j)=some u:=fun j u hj=>by obtain ⟨p',hp,hc⟩:=hnews j u hj; cases hp; exact hc
  have hnew:∀ (old:Nat),old<n+m →
    Row ((dr w dd).drew.alloc (.cells (xs.toArray++news.toArray++Builtin.zeroCells z.cells (grownCap (dr w dd) (n+m) old e - (n+m))) e)) e i.size (some ⟨w.heap.size,0,none⟩) (n+m) (grownCap (dr w dd) (n+m) old e) (xs++news) (w.heap.size+1):=by
   intro old ho
   have hge:=grownCap_ge (dr w dd) (n+m) old e
   have hcm:grownCap (dr w dd) (n+m) old e≤maxLen:=grownCap_le_maxLen (dr w dd) (n+m) old e h63
   refine ⟨hlen,.inr ⟨w.heap.size,_,rfl,rfl,heap_alloc_new (dr w dd).drew _,hge,hcm,?_,?_⟩⟩
   ·simp only [Array.size_append,List.size_toArray,size_zeroCells,hzs,hown.1,hl,← Nat.add_mul]
    congr 1
    omega
   ·simp only [Array.toList_append,List.append_assoc]
    rw [← List.append_assoc,← hlen]
    exact List.take_left
  have hdr:∀ (o:Obj),(dr w dd).drew.alloc o=dr (w.alloc o) ((dr w dd).drew).drawn:=fun o=>rfl
  have honly:∀ (o:Obj),Only g w (w.alloc o):=fun o=>Kept.mod (Kept.new w o)
  rcases hown.2 with ⟨rfl,rfl,rfl,rfl⟩ | ⟨b,cur,rfl,rfl,hg,hnc,hcm,hcs,htake⟩
  ·have hx:xs=[]:=List.eq_nil_of_length_eq_zero (by simpa using hown.1)
   subst hx
   by_cases hm:m=0
   ·subst hm
    have hn:news=[]:=List.eq_nil_of_length_eq_zero (by simpa using hl)
    subst hn
    refine ⟨.slice none 0 0,w,dd,?_,hk none 0 0 w (Row.nil w e i.size) (.inl ⟨rfl,rfl,rfl⟩) (Mod.refl _)⟩
    simp [Builtin.append_,run_underlying ht,sizeOf,typeInfo,hi,Builtin.lenOf,Builtin.firstCells,loadCells,loadCellsFrom]
   ·have hr:=run_append_nil (P:=P) (dr w dd) t ty e i z ht hi hz p m d news hl hn' (by omega) (by omega) (by have hb:=hbytes; simp only [Nat.zero_add] at hb; omega)
    have hgr:=hnew 0 (by omega)
    simp only [Nat.zero_add,List.nil_append,Array.empty_append] at hgr hk
    rw [hdr] at hr
    refine ⟨_,_,_,hr,hk _ _ _ _ ?_ (.inr ⟨rfl,Kept.new w _⟩) (honly _)⟩
    exact hgr
  ·by_cases hroom:n+m≤c
   ·have hfit:n*i.size+news.length≤cur.size:=by rw [hl,hcs,← Nat.add_mul]; exact Nat.mul_le_mul_right _ hroom
    have hr:=run_append_room (P:=P) (dr w dd) t ty e i ht hi b n c cur hg p m d news hl hn' h1 hroom hfit
    refine ⟨_,w.setRow b _,dd,hr,hk _ _ (b+1) _ ⟨hlen,.inr ⟨b,_,rfl,rfl,setRow_heap w b cur _ e _ hg,hroom,hcm,?_,?_⟩⟩ (.inl ⟨rfl,rfl,rfl⟩) ⟨rfl,rfl,rfl,by simp [World.setRow],fun k _ hk=>setRow_other w b k _ (fun e=>hk (by omega))⟩⟩
    ·simp only [List.size_toArray,List.length_append,List.length_take,List.length_drop,Array.length_toList]
     omega
    ·rw [htake,← hlen]
     exact List.take_left
   ·have holds:∀ j u,xs[j]?=some u→(dr w dd).cell? ((⟨b,0,none⟩:Addr).add j)=some u:=fun j u hj=>by
     obtain ⟨b',hb',_,hc⟩:=hown.cell hj
     obtain rfl:b'=b:=by omega
     rw [addr_add,Nat.zero_add]
     exact hc
    have hr:=run_append_grow (P:=P) (dr w dd) t ty e i z ht hi hz ⟨b,0,none⟩ n c xs hown.1 holds p m d news hl hn' (by omega) (by omega) (growslice_fits (by omega) hbytes)
    rw [hdr] at hr
    exact ⟨_,_,_,hr,hk _ _ _ _ (hnew c (by omega)) (.inr ⟨rfl,Kept.new w _⟩) (honly _)⟩
structure AD where
 (nd:ND) (frm to:Int)
abbrev AE:=AD×SH
abbrev nR (x:AE):List Value:=[.int .u8 x.1.nd.kind,.int .i64 x.1.nd.value,.int .i64 x.1.nd.feature,.float .f64 x.1.nd.thr,x.2.v,.int .u8 x.1.nd.missing,.int .i64 x.1.nd.left,.int .i64 x.1.nd.right,.int .i64 x.1.frm,.int .i64 x.1.to]
abbrev RA:=SH×List AE×Nat
abbrev Td:RA:=(⟨none,0,0⟩,[],0)
abbrev kvA (h:Int×RA):Int×Value:=(h.1,h.2.1.v)
def CP:List (Int×RA)→Int→RA→List (Int×RA)
 | [],f,r=>[(f,r)]
 | (y,s)::H,f,r=>if y=f then (y,r)::H else (y,s)::CP H f r
def sW:List (Int×RA)→Int→RA
 | [],_=>Td
 | (y,s)::H,f=>if y=f then s else sW H f
theorem DT:∀ (H:List (Int×RA)) (f:Int) (r:RA),(CP H f r).map kvA=oP (H.map kvA) f r.1.v
 | [],f,r=>rfl
 | (y,s)::H,f,r=>by
  unfold CP
  rw [List.map_cons]
  unfold oP
  split
  ·rename_i h; subst h; simp
  ·rename_i h; simp [DT H f r]
theorem Ij:∀ (H:List (Int×RA)) (f:Int),(lh (H.map kvA) f).getD (.slice none 0 0)=(sW H f).1.v
 | [],f=>rfl
 | (y,s)::H,f=>by
  unfold sW
  rw [List.map_cons]
  unfold lh
  split
  ·rfl
  ·exact Ij H f
theorem Fb:∀ {H:List (Int×RA)} {f:Int} {r:RA} {h:Int×RA},h∈CP H f r→h=(f,r)∨(h∈H∧h.1≠f)∨(h∈H∧∃ a b,H=a++b∧h∈b∧f∈a.map (·.1))
 | [],f,r,h,hm=>by simp [CP] at hm; exact .inl hm
 | (y,s)::H,f,r,h,hm=>by
  unfold CP at hm
  split at hm
  ·rename_i hy; subst hy
   rcases List.mem_cons.1 hm with rfl | hm
   ·exact .inl rfl
   ·exact .inr (.inr ⟨.tail _ hm,[(y,s)],H,rfl,hm,by simp⟩)
  ·rename_i hy
   rcases List.mem_cons.1 hm with rfl | hm
   ·exact .inr (.inl ⟨.head _,hy⟩)
   ·rcases Fb hm with h1 | ⟨h1,h2⟩ | ⟨h1,a,b,h2,h3,h4⟩
    ·exact .inl h1
    ·exact .inr (.inl ⟨.tail _ h1,h2⟩)
    ·exact .inr (.inr ⟨.tail _ h1,(y,s)::a,b,by rw [h2]; rfl,h3,by simp; exact .inr (by simpa using h4)⟩)
theorem nN {H:List (Int×RA)} {f:Int} {r:RA} {h:Int×RA} (hn:(H.map (·.1)).Nodup) (hm:h∈CP H f r):h=(f,r)∨(h∈H∧h.1≠f):=by
 rcases Fb hm with h1 | h1 | ⟨h1,a,b,h2,h3,h4⟩
 ·exact .inl h1
 ·exact .inr h1
 ·refine .inr ⟨h1,fun e=>?_⟩
  rw [h2,List.map_append] at hn
  exact (List.nodup_append.1 hn).2.2 f h4 h.1 (List.mem_map_of_mem h3) e.symm
theorem KY (H:List (Int×RA)) (f:Int) (r:RA):(CP H f r).map (·.1)=if f∈H.map (·.1) then H.map (·.1) else H.map (·.1)++[f]:=by
 have:=Jr (H.map kvA) f r.1.v
 rw [← DT,List.map_map,List.map_map] at this
 exact this
theorem mP:∀ {H:List (Int×RA)} {f:Int},(f,sW H f)∈H∨(sW H f=Td∧f∉H.map (·.1))
 | [],f => .inr ⟨rfl,by simp⟩
 | (y,s)::H,f=>by
  unfold sW
  split
  ·rename_i h; subst h; exact .inl (.head _)
  ·rename_i h
   rcases mP (H:=H) (f:=f) with h1 | ⟨h1,h2⟩
   ·exact .inl (.tail _ h1)
   ·exact .inr ⟨h1,by simp at h2 ⊢; exact ⟨Ne.symm h,h2⟩⟩
structure MOK (tA B:Nat) (w:World) (mb:Nat) (H:List (Int×RA)):Prop where
 map:iU (enK .i64) w mb (H.map kvA)
 mB:B≤mb
 row:∀ h∈H,aO 10 nR tA w h.2.1.a h.2.1.n h.2.1.c h.2.2.1 h.2.2.2∧(h.2.2.2=0∨B<h.2.2.2)
 gn:∀ x∈H,∀ y∈H,x.1≠y.1→x.2.2.2=0∨x.2.2.2≠y.2.2.2
 nd:(H.map (·.1)).Nodup
section
variable {tA B mb:Nat} {w u:World} {H:List (Int×RA)} {S:Nat→Prop} {r r':RA} {f:Int}
theorem MOK.kept (h:MOK tA B w mb H) (hk:Kept w u):MOK tA B u mb H:=⟨h.map.kept hk,h.mB,fun x hx=>⟨(h.row x hx).1.kept hk,(h.row x hx).2⟩,h.gn,h.nd⟩
theorem MOK.nil (tA:Nat) (w:World) (hB:B≤w.heap.size):MOK tA B (w.alloc (.map #[] 0)) w.heap.size [] :=
 ⟨iU.new _ w,hB,(fun _ h=>by cases h),(fun _ h=>by cases h),List.nodup_nil⟩
theorem MOK.get (h:MOK tA B w mb H) (f:Int):aO 10 nR tA w (sW H f).1.a (sW H f).1.n (sW H f).1.c (sW H f).2.1 (sW H f).2.2∧((sW H f).2.2=0∨B<(sW H f).2.2):=by
 rcases mP (H:=H) (f:=f) with h1 | ⟨h1,_⟩
 ·exact h.row _ h1
 ·rw [h1]; exact ⟨aO.nil _ _ _ _,.inl rfl⟩
theorem MOK.put (h:MOK tA B w mb H) {w1:World} (ho:Only (sW H f).2.2 w w1) (hr:aO 10 nR tA w1 r'.1.a r'.1.n r'.1.c r'.2.1 r'.2.2) (hg:r'.2.2=(sW H f).2.2∨w.heap.size<r'.2.2) (hB:B≤w.heap.size)
  (hu:iU (enK .i64) u mb (oP (H.map kvA) f r'.1.v)) (hou:Only (mb+1) w1 u):MOK tA B u mb (CP H f r'):=by
 have hget:=h.get f
 have nomb:∀ k cur e,Blk w1 k cur e→¬ (k+1=mb+1):=fun k cur e hb hk=>by
  obtain rfl:k=mb:=by omega
  have hm1:=h.map.mod ho (fun hk'=>by
   obtain ⟨cur',hb'⟩:=Row.blk hget.1 hk'
   exact h.map.kQ hb')
  exact hm1.kQ hb
 have le:∀ x∈H,x.2.2.2≤w.heap.size:=fun x hx=>Row.le (h.row x hx).1
 have apart:∀ x∈H,x.1≠f→x.2.2.2=0∨x.2.2.2≠(sW H f).2.2:=fun x hx hf=>by
  rcases mP (H:=H) (f:=f) with h1 | ⟨h1,_⟩
  ·exact h.gn x hx _ h1 hf
  ·rw [h1]
   by_cases h0:x.2.2.2=0
   ·exact .inl h0
   ·exact .inr h0
 have apart':∀ x∈H,x.1≠f→(x.2.2.2=0∨x.2.2.2≠r'.2.2)∧(r'.2.2=0∨r'.2.2≠x.2.2.2):=fun x hx hf=>by
  have:=apart x hx hf
  have:=le x hx
  omega
 refine ⟨by rw [DT]; exact hu,h.mB,fun x hx=>?_,fun x hx y hy hxy=>?_,?_⟩
 ·rcases nN h.nd hx with rfl | ⟨hx,hf⟩
  ·exact ⟨hr.mod hou fun k hk=>by obtain ⟨cur,hb⟩:=Row.blk hr hk; exact nomb _ _ _ hb,by have:=hget.2; show r'.2.2=0∨B<r'.2.2; omega⟩
  ·have h1:=(h.row x hx).1.mod ho (fun k hk hS=>by
    have hS':k+1=(sW H f).2.2:=hS
    have:=apart x hx hf
    omega)
   exact ⟨h1.mod hou fun k hk=>by obtain ⟨cur,hb⟩:=Row.blk h1 hk; exact nomb _ _ _ hb,(h.row x hx).2⟩
 ·rcases nN h.nd hx with rfl | ⟨hx,hf⟩ <;> rcases nN h.nd hy with rfl | ⟨hy,hf'⟩
  ·exact absurd rfl hxy
  ·exact (apart' y hy hf').2
  ·exact (apart' x hx hf).1
  ·exact h.gn x hx y hy hxy
 ·rw [KY]
  split
  ·exact h.nd
  ·rename_i hf
   exact List.nodup_append.2 ⟨h.nd,by simp,fun a ha b hb e=>by
    have hb':b=f:=by simpa using hb
    subst hb'; subst e; exact hf ha⟩
end
end Go.E
namespace Go.E
open Go Go.RowKit Go.Tr Go.ChangeShapes Go.MapKept
open Go.ChangeMaps (setBlock)
section
variable {κ:Type} [DecidableEq κ] {en:κ→Value} {w u:World} {b:Nat} {L:List (κ×Value)} {P:Program} {t kt et:TypeId}
theorem iU.OB (K:LP P kt en) (ht:P.underlying t=some (.map kt et)) {z:Value} (hz:∀ w,(zeroValue et).run P w = .ok z w) (h:iU en w b L) {x:κ} {R:Value→World→Prop}
  (hk:∀ u s,CO en u b (oP L x ((lh L x).getD z)) x s→Only (b+1) w u→(∀ s',CO en w b L x s'→CO en u b (oP L x ((lh L x).getD z)) x s')→R (.tuple #[(lh L x).getD z,.int .i64 s]) u) :
  dm P (Instr.mapEntry t (.map (some b)) (en x)) w R:=by
 obtain ⟨es,c,h1,h2,h3⟩:=h
 rcases K.find es.toList x w (keysOf h3) with ⟨f1,f2⟩ | ⟨j,e,f1,f2,f3⟩
 ·have hg:=get_none K.inj h3 f2
  rw [hg] at hk
  refine dm.of (u:={ w with heap:=w.heap.setIfInBounds b (.map (es.push { key:=en x,val:=z,born:=c }) (c+1)) }) (fun d=>?_) (hk _ c ⟨_,_,(heap_set h1).1,stamped_push h2 f2,?_,{ key:=en x,val:=z,born:=c },by simp,rfl,rfl⟩ (oV h1) (fun s' h'=>by
   obtain ⟨es',c',g1,g2,g3,e,he,hek,_⟩:=h'
   rw [h1] at g1; cases g1
   exact absurd hek (f2 e he)))
  ·have h1':(dr w d).heap[b]?=some (.map es c):=h1
   rcases K.find es.toList x (dr w d) (keysOf h3) with ⟨g1,g2⟩ | ⟨j,e,g1,g2,g3⟩
   ·simp [Instr.mapEntry,run_underlying ht,MapKept.run_getObj_map h1',K.check,g1,hz,MapKept.run_setObj_map _ h1',Result.andThen,goInt]
    rfl
   ·exact absurd g3 (f2 e (List.mem_of_getElem? g2))
  ·rw [Array.toList_push]
   exact Du h3 hg
 ·have hj:es[j]?=some e:=by simpa using f2
  have hg:=get_some K.inj (rD h2) h3 (List.mem_of_getElem? f2) f3
  rw [hg] at hk
  have hkey:∀ e',es[j]?=some e'→({ e' with key:=en x }:MapEntry).key=e'.key:=fun e' he'=>by rw [hj] at he'; cases he'; exact f3.symm
  have hmem:∀ f:MapEntry→MapEntry,f e∈(es.modify j f).toList:=fun f=>by
   rw [Array.toList_modify]
   refine List.mem_of_getElem? (i:=j) ?_
   simp [List.getElem?_modify,f2]
  refine dm.of (u:={ w with heap:=w.heap.setIfInBounds b (.map (es.modify j fun e=>{ e with key:=en x }) c) }) (fun d=>?_) (hk _ e.born ⟨_,_,(heap_set h1).1,stamped_modify h2 _ _ (fun _ _=>rfl) (fun e' _ he'=>hkey e' he'),?_,_,hmem _,rfl,rfl⟩ (oV h1) (fun s' h'=>by
   obtain ⟨es',c',g1,g2,g3,e1,he,hek,hs⟩:=h'
   rw [h1] at g1; cases g1
   have he1:e1=e:=by
    obtain ⟨k,hk',hke⟩:=List.getElem_of_mem he
    have l2:j<es.toList.length:=(List.getElem?_eq_some_iff.1 f2).1
    have hkj:k=j:=by
     refine kz (rD h2) (by simpa using hk') (by simpa using l2) ?_
     simp only [List.getElem_map]
     rw [hke,(List.getElem?_eq_some_iff.1 f2).2,hek,f3]
    subst hkj
    rw [← hke]; exact (List.getElem?_eq_some_iff.1 f2).2
   subst he1
   refine ⟨_,_,(heap_set h1).1,stamped_modify h2 _ _ (fun _ _=>rfl) (fun e' _ he'=>hkey e' he'),?_,_,hmem _,rfl,hs⟩
   rw [Array.toList_modify]
   refine uu K.inj (rD h2) h3 f2 f3 _ fun e' he'=>?_
   rw [f2] at he'; cases he'
   exact ⟨f3.symm,rfl⟩))
  ·have h1':(dr w d).heap[b]?=some (.map es c):=h1
   rcases K.find es.toList x (dr w d) (keysOf h3) with ⟨g1,g2⟩ | ⟨j',e',g1,g2,g3⟩
   ·exact absurd f3 (g2 e (List.mem_of_getElem? f2))
   ·have hjj:j'=j:=by
     have hnd:=rD h2
     have l1:j'<es.toList.length:=(List.getElem?_eq_some_iff.1 g2).1
     have l2:j<es.toList.length:=(List.getElem?_eq_some_iff.1 f2).1
     refine kz hnd (by simpa using l1) (by simpa using l2) ?_
     simp only [List.getElem_map]
     rw [(List.getElem?_eq_some_iff.1 g2).2,(List.getElem?_eq_some_iff.1 f2).2,g3,f3]
    subst hjj
    obtain rfl:e'=e:=by rw [f2] at g2; cases g2; rfl
    simp [Instr.mapEntry,run_underlying ht,MapKept.run_getObj_map h1',K.check,g1,hj,f3,K.same,MapKept.run_setObj_map _ h1',Result.andThen,goInt]
    rfl
  ·rw [Array.toList_modify]
   refine uu K.inj (rD h2) h3 f2 f3 _ fun e' he'=>?_
   rw [f2] at he'; cases he'
   exact ⟨f3.symm,rfl⟩
theorem iU.uniq {L':List (κ×Value)} (hi:∀ x y,en x=en y→x=y) (h:iU en w b L) (h':iU en w b L'):L=L':=by
 obtain ⟨es,c,h1,_,h3⟩:=h
 obtain ⟨es',c',g1,_,g3⟩:=h'
 rw [h1] at g1
 cases g1
 rw [h3] at g3
 refine List.map_inj_right (fun x y hxy=>?_) |>.1 g3
 obtain ⟨x1,x2⟩:=x
 obtain ⟨y1,y2⟩:=y
 simp only [Prod.mk.injEq] at hxy
 rw [hi _ _ hxy.1,hxy.2]
theorem AV {κ:Type} [DecidableEq κ] {x:κ} {v:Value}:∀ {L:List (κ×Value)},lh L x=some v→oP L x v=L
 | [],h=>by cases h
 | (z,u)::L,h=>by
  unfold lh at h
  unfold oP
  split at h
  ·rename_i e
   cases h
   subst e
   simp
  ·rename_i e
   rw [if_neg e,AV h]
end
structure Cj {α:Type} (k:Nat) (en:α→List Value) (eo ei B:Nat) (w:World) (a:Option Addr) (n c:Nat) (l:List (RW α)) (g:Nat):Prop where
 out:Arr WY eo w a n c l g
 fr:g=0∨B<g
 row:∀ t∈l,aO k en ei w t.1.a t.1.n t.1.c t.2.1 t.2.2∧(t.2.2=0∨B<t.2.2)
 ap:l.Pairwise fun x y=>x.2.2=0∨x.2.2≠y.2.2
section
variable {α:Type} {k:Nat} {en:α→List Value} {eo ei B:Nat} {w u:World} {a:Option Addr} {n c g:Nat} {l:List (RW α)} {S:Nat→Prop} {i:Int}
theorem Cj.kept (h:Cj k en eo ei B w a n c l g) (hk:Kept w u):Cj k en eo ei B u a n c l g:=⟨h.out.kept hk,h.fr,fun t ht=>⟨(h.row t ht).1.kept hk,(h.row t ht).2⟩,h.ap⟩
theorem Cj.mod (h:Cj k en eo ei B w a n c l g) (hm:Mod S w u) (hg:∀ j,j+1=g→¬ S j) (hr:∀ t∈l,∀ j,j+1=t.2.2→¬ S j):Cj k en eo ei B u a n c l g :=
 ⟨h.out.mod hm hg,h.fr,fun t ht=>⟨(h.row t ht).1.mod hm (hr t ht),(h.row t ht).2⟩,h.ap⟩
theorem Cj.len (h:Cj k en eo ei B w a n c l g):n=l.length:=h.out.len
theorem Cj.VU (h:Cj k en eo ei B w a n c l g) {K:Option Addr→Nat→Nat→Prop} (h0:0≤i) (hi:i<n) (hk:∀ t,l[i.toNat]?=some t→K t.1.a t.1.n t.1.c) :
  bK a fun q=>chk (0≤i∧i<(n:Int)) (∃ ya:Option Addr,∃ yn:Nat,∃ yc:Nat,w.cell? (q.add (i.toNat*1))=some (.slice ya yn yc)∧K ya yn yc):=by
 have hi':i.toNat<n:=by omega
 refine h.out.sl.read hi' fun p hp=>dJ ⟨h0,hi⟩ ⟨_,_,_,by rw [Nat.mul_one]; exact hp,hk _ (List.getElem?_eq_getElem (h.len ▸ hi'))⟩
theorem Cj.rne (h:Cj k en eo ei B w a n c l g) (hne:eo≠ei) {t:RW α} (ht:t∈l):g=0∨g≠t.2.2:=Row.ne h.out (h.row t ht).1 hne
theorem Cj.putRow (h:Cj k en eo ei B w a n c l g) (hne:eo≠ei) {j:Int} {t t':RW α} (ht:l[j.toNat]?=some t) (hm:Only t.2.2 w u) (hx:aO k en ei u t'.1.a t'.1.n t'.1.c t'.2.1 t'.2.2) (hg:t'.2.2=t.2.2∨w.heap.size<t'.2.2) (hB:B≤w.heap.size) {K:World→Prop} (h0:0≤j) (hi:j<n) (hk:∀ x,Cj k en eo ei B x a n c (l.set j.toNat t') g→Only g u x→K x) :
  bK a fun q=>chk (0≤j∧j<(n:Int)) (nD u ((q.add (j.toNat*1)).add 0)∧nw (u.setCell ((q.add (j.toNat*1)).add 0) (.slice t'.1.a t'.1.n t'.1.c)) K):=by
 have htm:=List.mem_of_getElem? ht
 have ho:=h.out.mod hm (fun k' h1 h2=>by
  have h2':k'+1=t.2.2:=h2
  have:=h.rne hne htm
  omega)
 have hle:∀ s∈l,s.2.2≤w.heap.size:=fun s hs=>(h.row s hs).1.le
 have others:∀ q s,q≠j.toNat→l[q]?=some s→s.2.2=0∨s.2.2≠t.2.2:=fun q s hq hqs=>by
  have hp:=List.pairwise_iff_getElem.1 h.ap
  obtain ⟨l1,e1⟩:=List.getElem?_eq_some_iff.1 hqs
  obtain ⟨l2,e2⟩:=List.getElem?_eq_some_iff.1 ht
  rcases Nat.lt_or_gt_of_ne hq with hlt | hgt
  ·have:=hp q j.toNat l1 l2 hlt; rw [e1,e2] at this; exact this
  ·have:=hp j.toNat q l2 l1 hgt; rw [e1,e2] at this; omega
 refine ho.wr h0 hi (x:=t') rfl fun x hxx hox=>hk x ⟨hxx,h.fr,fun s hs'=>?_,?_⟩ hox
 ·rcases mem_set hs' with rfl | ⟨q,hq,hqs⟩
  ·refine ⟨hx.mod hox fun k' h1 h2=>?_,by have:=(h.row t htm).2; omega⟩
   have h2':k'+1=g:=h2
   have:=Row.ne ho hx hne
   omega
  ·have hsm:=List.mem_of_getElem? hqs
   obtain ⟨r1,r2⟩:=h.row s hsm
   refine ⟨(r1.mod hm fun k' h1 h2=>?_).mod hox fun k' h1 h2=>?_,r2⟩
   ·have h2':k'+1=t.2.2:=h2
    have:=others q s hq hqs
    omega
   ·have h2':k'+1=g:=h2
    have:=h.rne hne hsm
    omega
 ·refine AX h.ap (fun q s hq hqs=>?_) (fun q s hq hqs=>?_)
  ·have:=others q s (by omega) hqs
   have:=hle s (List.mem_of_getElem? hqs)
   omega
  ·have:=others q s (by omega) hqs
   have:=hle s (List.mem_of_getElem? hqs)
   omega
end
end Go.E
