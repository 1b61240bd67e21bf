/- Part of a proof; no conditions. -/
import Derived.Test.YtmjlipmapfofmaaGreatSSA
set_option linter.unusedVariables false
set_option linter.unusedSimpArgs false
set_option linter.unusedSectionVars false
namespace Go.E
open Go Go.RowKit
structure NR where
 (kind value feature:Int) (thr:Nat) (aT:SH) (missing left right:Int)
structure yh where
 (nd:NR) (frm to:Int)
structure xh where
 (thr:Nat) (aT:SH) (tree frm to:Int)
structure vV where
 (feature:Int) (numbers aT lost:SH)
abbrev uM(x:yh):List Value:=[.int .u8 x.nd.kind,.int .i64 x.nd.value,.int .i64 x.nd.feature,.float .f64 x.nd.thr,x.nd.aT.v,.int .u8 x.nd.missing,.int .i64 x.nd.left,.int .i64 x.nd.right,.int .i64 x.frm,.int .i64 x.to]
abbrev mQ(x:xh):List Value:=[.float .f64 x.thr,x.aT.v,.int .i64 x.tree,.int .i64 x.frm,.int .i64 x.to]
abbrev gZ(x:vV):List Value:=[.int .i64 x.feature,x.numbers.v,x.aT.v,x.lost.v]
end Go.E
namespace Go.E
open Go Go.RowKit Go.Tr Go.ChangeShapes
structure cZ where
 (thr:Nat) (aT:List Int) (tree frm to:Int)
 deriving DecidableEq
structure dL where
 (feature:Int) (numbers aT lost:List cZ)
 deriving DecidableEq
structure kJ where
 (first:Int) (leaves:List Int) (values:List (List Int)) (outputs:List Int) (lists:List dL)
 deriving DecidableEq
structure fC where
 (features outputs:Int) (base:List Int) (blocks:List kJ)
 deriving DecidableEq
def AtL(w:World)(p:Addr)(cs:List Value):Prop:=∀j v,cs[j]?=some v->w.cell? (p.add j)=some v
abbrev LsI:=Ls (vJ .i64)
abbrev enC(x:cZ)(s:SH):List Value:=[.float .f64 x.thr,s.v,.int .i64 x.tree,.int .i64 x.frm,.int .i64 x.to]
abbrev enL(x:dL)(s t u:SH):List Value:=[.int .i64 x.feature,s.v,t.v,u.v]
abbrev mG(x:kJ)(s t u v:SH):List Value:=[.int .i64 x.first,s.v,t.v,u.v,v.v]
abbrev jo(x:fC)(s t:SH):List Value:=[.int .i64 x.features,.int .i64 x.outputs,s.v,t.v]
def tC:Ty cZ where
 k:=5
 rd F w x cs:=∃s:SH,cs=enC x s/\LsI F w s.a s.n s.c x.aT
 len:=by rintro F w x cs ⟨s,rfl,_⟩;rfl
 one:=by rintro F w x cs ⟨s,rfl,_⟩ v hv;simp only[enC,zb3,zf9,or_false]at hv;rcases hv with h | h | h | h | h <;> subst h <;> rfl
 mono:=by rintro F F' w x cs hF ⟨s,rfl,h⟩;exact⟨s,rfl,h.mono hF⟩
 keep:=by rintro F w u x cs hu ⟨s,rfl,h⟩;exact⟨s,rfl,h.keep hu⟩
def tL:Ty dL where
 k:=4
 rd F w x cs:=∃s t u:SH,cs=enL x s t u/\Ls tC F w s.a s.n s.c x.numbers/\Ls tC F w t.a t.n t.c x.aT/\Ls tC F w u.a u.n u.c x.lost
 len:=by rintro F w x cs ⟨s,t,u,rfl,_⟩;rfl
 one:=by rintro F w x cs ⟨s,t,u,rfl,_⟩ v hv;simp only[enL,zb3,zf9,or_false]at hv;rcases hv with h | h | h | h <;> subst h <;> rfl
 mono:=by rintro F F' w x cs hF ⟨s,t,u,rfl,h1,h2,h3⟩;exact⟨s,t,u,rfl,h1.mono hF,h2.mono hF,h3.mono hF⟩
 keep:=by rintro F w u x cs hu ⟨s,t,v,rfl,h1,h2,h3⟩;exact⟨s,t,v,rfl,h1.keep hu,h2.keep hu,h3.keep hu⟩
def tB:Ty kJ where
 k:=5
 rd F w x cs:=∃s t u v:SH,cs=mG x s t u v/\LsI F w s.a s.n s.c x.leaves/\Ls (vJ .i64).sl F w t.a t.n t.c x.values/\LsI F w u.a u.n u.c x.outputs/\Ls tL F w v.a v.n v.c x.lists
 len:=by rintro F w x cs ⟨s,t,u,v,rfl,_⟩;rfl
 one:=by rintro F w x cs ⟨s,t,u,v,rfl,_⟩ z hv;simp only[mG,zb3,zf9,or_false]at hv;rcases hv with h | h | h | h | h <;> subst h <;> rfl
 mono:=by rintro F F' w x cs hF ⟨s,t,u,v,rfl,h1,h2,h3,h4⟩;exact⟨s,t,u,v,rfl,h1.mono hF,h2.mono hF,h3.mono hF,h4.mono hF⟩
 keep:=by rintro F w z x cs hu ⟨s,t,u,v,rfl,h1,h2,h3,h4⟩;exact⟨s,t,u,v,rfl,h1.keep hu,h2.keep hu,h3.keep hu,h4.keep hu⟩
section
variable{α:Type}{T:Ty α}{F:Nat->Prop}{w u:World}{p:Addr}{a:OA}{n c:Nat}{xs:List α}{i:Int}
theorem AtL.mod{S:Nat->Prop}{cs:List Value}(h:AtL w p cs)(hm:Mod S w u)(hn:¬ S p.block):AtL u p cs:=λj v hj=>hm.cell (by rwa [add_block]) (h j v hj)
theorem AtL.kept{cs:List Value}(h:AtL w p cs)(hm:Kept w u):AtL u p cs:=h.mod (S:=λ_=>False) (Kept.mod hm) (λh=>h)
theorem AtL.new(w:World)(cs:List Value)(e:Nat):AtL (w.alloc (.cells cs.toArray e)) (na w) cs:=λj v hj=>(Blk.new w cs.toArray e).rd (by simpa using hj)
theorem AtL.blk{b:World}{cs:Array Value}{e:Nat}(h:Blk w b.heap.size cs e):AtL w (na b) cs.toList:=λj v hj=>h.rd (by simpa using hj)
theorem Ls.at(h:Ls T F w a n c xs)(h0:0<=i)(hi:i<n){K:Addr->Prop}(hk:∀p x cs,xs[i.toNat]?=some x->F p.block->T.rd F w x cs->AtL w p cs->K p):ix a n i λq=>K (q.add (i.toNat*T.k)):=by
 have hi':i.toNat<n:=by omega
 obtain⟨p,cs,rfl,h2,h3,h4⟩:=h.get i.toNat _ (za2 (h.len ▸ hi'));exact dK ⟨h0,hi⟩ (hk _ _ cs (za2 (h.len ▸ hi')) (by rwa [add_block]) h3 λj v hj=>by rw[add_add];exact h4 j v hj)
theorem Ls.elem(h:Ls T F w a n c xs){i:Nat}(hi:i<n):∃p x cs,a=some p/\xs[i]?=some x/\F p.block/\T.rd F w x cs/\AtL w (p.add (i*T.k)) cs:=by
 obtain⟨p,cs,h1,h2,h3,h4⟩:=h.get i _ (za2 (h.len ▸ hi));exact⟨p,_,cs,h1,za2 (h.len ▸ hi),h2,h3,λj v hj=>by rw[add_add];exact h4 j v hj⟩
abbrev ldC(w:World)(a:Addr)(K:Nat->OA->Nat->Nat->Int->Int->Int->Prop):Prop:=cF w (a.add 0) .f64 λx0=>cL w (a.add 1) λa1 n1 c1=>cI w (a.add 2) .i64 λx2=>cI w (a.add 3) .i64 λx3=>cI w (a.add 4) .i64 λx4=>K x0 a1 n1 c1 x2 x3 x4
abbrev ldL(w:World)(a:Addr)(K:Int->OA->Nat->Nat->OA->Nat->Nat->OA->Nat->Nat->Prop):Prop:=cI w (a.add 0) .i64 λx0=>cL w (a.add 1) λa1 n1 c1=>cL w (a.add 2) λa2 n2 c2=>cL w (a.add 3) λa3 n3 c3=>K x0 a1 n1 c1 a2 n2 c2 a3 n3 c3
abbrev ldB(w:World)(a:Addr)(K:Int->OA->Nat->Nat->OA->Nat->Nat->OA->Nat->Nat->OA->Nat->Nat->Prop):Prop:=cI w (a.add 0) .i64 λx0=>cL w (a.add 1) λa1 n1 c1=>cL w (a.add 2) λa2 n2 c2=>cL w (a.add 3) λa3 n3 c3=>cL w (a.add 4) λa4 n4 c4=>K x0 a1 n1 c1 a2 n2 c2 a3 n3 c3 a4 n4 c4
theorem AtL.ldC{x:cZ}{s:SH}(h:AtL w p (enC x s)){K:Nat->OA->Nat->Nat->Int->Int->Int->Prop}(hk:K x.thr s.a s.n s.c x.tree x.frm x.to):Go.E.ldC w p K :=
 ⟨_,h 0 _ rfl,_,_,_,h 1 _ rfl,_,h 2 _ rfl,_,h 3 _ rfl,_,h 4 _ rfl,hk⟩
theorem AtL.ldL{x:dL}{s t v:SH}(h:AtL w p (enL x s t v)){K:Int->OA->Nat->Nat->OA->Nat->Nat->OA->Nat->Nat->Prop}(hk:K x.feature s.a s.n s.c t.a t.n t.c v.a v.n v.c):Go.E.ldL w p K :=
 ⟨_,h 0 _ rfl,_,_,_,h 1 _ rfl,_,_,_,h 2 _ rfl,_,_,_,h 3 _ rfl,hk⟩
theorem AtL.ldB{x:kJ}{s t v z:SH}(h:AtL w p (mG x s t v z)){K:Int->OA->Nat->Nat->OA->Nat->Nat->OA->Nat->Nat->OA->Nat->Nat->Prop}(hk:K x.first s.a s.n s.c t.a t.n t.c v.a v.n v.c z.a z.n z.c):Go.E.ldB w p K :=
 ⟨_,h 0 _ rfl,_,_,_,h 1 _ rfl,_,_,_,h 2 _ rfl,_,_,_,h 3 _ rfl,_,_,_,h 4 _ rfl,hk⟩
theorem Ls.rdC{xs:List cZ}(h:Ls tC F w a n c xs)(h0:0<=i)(hi:i<n){K:Nat->OA->Nat->Nat->Int->Int->Int->Prop}(hk:∀x a' n' c',xs[i.toNat]?=some x->LsI F w a' n' c' x.aT->K x.thr a' n' c' x.tree x.frm x.to) :
  ix a n i λq=>ldC w (q.add (i.toNat*5)) K:=h.at h0 hi λp x cs hx _ ⟨s,e,h1⟩ h2=>by subst e;exact h2.ldC (hk x _ _ _ hx h1)
theorem Ls.rdL{xs:List dL}(h:Ls tL F w a n c xs)(h0:0<=i)(hi:i<n){K:Int->OA->Nat->Nat->OA->Nat->Nat->OA->Nat->Nat->Prop}(hk:∀x a1 n1 c1 a2 n2 c2 a3 n3 c3,xs[i.toNat]?=some x->Ls tC F w a1 n1 c1 x.numbers->Ls tC F w a2 n2 c2 x.aT->Ls tC F w a3 n3 c3 x.lost->K x.feature a1 n1 c1 a2 n2 c2 a3 n3 c3) :
  ix a n i λq=>ldL w (q.add (i.toNat*4)) K:=h.at h0 hi λp x cs hx _ ⟨s,t,v,e,h1,h3,h4⟩ h2=>by subst e;exact h2.ldL (hk x _ _ _ _ _ _ _ _ _ hx h1 h3 h4)
theorem Ls.rdB{xs:List kJ}(h:Ls tB F w a n c xs)(h0:0<=i)(hi:i<n){K:Int->OA->Nat->Nat->OA->Nat->Nat->OA->Nat->Nat->OA->Nat->Nat->Prop}
  (hk:∀x a1 n1 c1 a2 n2 c2 a3 n3 c3 a4 n4 c4,xs[i.toNat]?=some x->LsI F w a1 n1 c1 x.leaves->Ls (vJ .i64).sl F w a2 n2 c2 x.values->LsI F w a3 n3 c3 x.outputs->Ls tL F w a4 n4 c4 x.lists->K x.first a1 n1 c1 a2 n2 c2 a3 n3 c3 a4 n4 c4) :
  ix a n i λq=>ldB w (q.add (i.toNat*5)) K:=h.at h0 hi λp x cs hx _ ⟨s,t,v,z,e,h1,h3,h4,h5⟩ h2=>by subst e;exact h2.ldB (hk x _ _ _ _ _ _ _ _ _ _ _ _ hx h1 h3 h4 h5)
theorem Ls.rdI{xs:List Int}(h:LsI F w a n c xs)(h0:0<=i)(hi:i<n){K:Int->Prop}(hk:∀x,xs[i.toNat]?=some x->K x):ix a n i λq=>cI w (q.add (i.toNat*1)) .i64 K :=
 h.at (K:=λq=>cI w q .i64 K) h0 hi λp x cs hx _ e h2=>by obtain rfl:cs=[.int .i64 x]:=e;exact⟨_,by simpa[add_zero] using h2 0 _ rfl,hk x hx⟩
theorem Ls.RQ{β:Type}{S:Ty β}{xs:List (List β)}(h:Ls S.sl F w a n c xs)(h0:0<=i)(hi:i<n){K:OA->Nat->Nat->Prop}(hk:∀x a' n' c',xs[i.toNat]?=some x->Ls S F w a' n' c' x->K a' n' c'):ix a n i λq=>cL w (q.add (i.toNat*1)) K :=
 h.at (K:=λq=>cL w q K) h0 hi λp x cs hx _ ⟨a',n',c',e,h1⟩ h2=>by subst e;exact⟨a',n',c',by simpa[add_zero] using h2 0 _ rfl,hk x _ _ _ hx h1⟩
end
def cZ.sm(x:cZ):Prop:=x.aT.length<=1048576
def nz(l:List cZ):Prop:=l.length<=1073741824/\∀x∈l,x.sm
def dL.sm(x:dL):Prop:=nz x.numbers/\nz x.aT/\nz x.lost
def kJ.sm(x:kJ):Prop:=x.leaves.length<=1048576/\x.values.length<=1048576/\(∀v∈x.values,v.length<=1048576)/\x.outputs.length<=1048576/\x.lists.length<=1073741824/\∀l∈x.lists,l.sm
def fC.sm(x:fC):Prop:=x.base.length<=1048576/\x.blocks.length<=1048576/\∀b∈x.blocks,b.sm
structure jr(F:Nat->Prop)(w:World)(x:fC)(s t:SH):Prop where
 bs:LsI F w s.a s.n s.c x.base
 ks:Ls tB F w t.a t.n t.c x.blocks
 sm:x.sm
theorem jr.kept{F:Nat->Prop}{w u:World}{x:fC}{s t:SH}(h:jr F w x s t)(hk:Kept w u):jr F u x s t:=⟨h.bs.kept hk,h.ks.kept hk,h.sm⟩
section
variable{w u:World}{e:Nat}{K:zg6}
theorem yE{cs:Array Value}(hk:∀u,AtL u (na w) cs.toList->Kept w u->K u):nw (w.alloc (.cells cs e)) K :=
 bZ (hk _ (AtL.blk (b:=w) (Blk.new w cs e)) (zg3 w _))
theorem Pn:∀(vs pre post:List Value) (w1:World),Blk w1 w.heap.size (pre++post).toArray e->post.length=vs.length->From w.heap.size w w1->(∀u,Blk u w.heap.size (pre++vs).toArray e->From w.heap.size w u->K u)->wrS w1 (na w) pre.length vs K
 | [],pre,post,w1,hb,hl,hf,hk=>by
  obtain rfl:post=[]:=za9 hl;exact hk _ hb hf
 |v::vs,pre,[],w1,hb,hl,hf,hk=>by simp at hl
 |v::vs,pre,z::post,w1,hb,hl,hf,hk=>by
  have h1:=hb.set pre.length v;have e1:(pre++z::post).toArray.setIfInBounds pre.length v=((pre++[v])++post).toArray:=by
   rw[List.setIfInBounds_toArray];simp
  rw[e1]at h1;refine⟨?_,bZ ?_⟩
  .rw[gK];exact hb.ok (by simp)
  .rw[gK];have:=Pn vs (pre++[v]) post (w1.setCell ⟨w.heap.size,pre.length,none⟩ v) h1 (by simpa using hl) (From.then hf (zg5 _ w.heap.size _ v) λk h1 h2=>by omega) (λu hb' hf'=>hk u (by simpa using hb') hf');simpa using this
theorem wrB{b:Nat}:∀(vs pre post:List Value) (w1:World),Blk w1 b (pre++post).toArray e->post.length=vs.length->(∀u,Blk u b (pre++vs).toArray e->Only (b+1) w1 u->K u)->wrS w1 ⟨b,0,none⟩ pre.length vs K
 | [],pre,post,w1,hb,hl,hk=>by
  obtain rfl:post=[]:=za9 hl;exact hk _ hb (Mod.refl _)
 |v::vs,pre,[],w1,hb,hl,hk=>by simp at hl
 |v::vs,pre,z::post,w1,hb,hl,hk=>by
  have h1:=hb.set pre.length v;have e1:(pre++z::post).toArray.setIfInBounds pre.length v=((pre++[v])++post).toArray:=by
   rw[List.setIfInBounds_toArray];simp
  rw[e1]at h1;refine⟨?_,bZ ?_⟩
  .rw[addr_add,zd1];exact hb.ok (by simp)
  .rw[addr_add,zd1];have:=wrB vs (pre++[v]) post (w1.setCell ⟨b,pre.length,none⟩ v) h1 (by simpa using hl) (λu hb' hf'=>hk u (by simpa using hb') ((zg5 w1 b _ v).trans hf' zg7 zg7));simpa using this
theorem wrA{b:Nat}{zs vs:List Value}{w1:World}(hb:Blk w1 b zs.toArray e)(hl:zs.length=vs.length)(hk:∀u,Blk u b vs.toArray e->Only (b+1) w1 u->K u):wrS w1 ⟨b,0,none⟩ 0 vs K:=by
 have:=wrB (K:=K) vs [] zs w1 (by simpa using hb) hl (λu h1 h2=>hk u (by simpa using h1) h2);simpa using this
theorem boxS{zs vs:List Value}(hl:zs.length=vs.length)(hk:∀u,AtL u (na w) vs->Blk u w.heap.size vs.toArray e->Kept w u->K u):nw (w.alloc (.cells zs.toArray e)) λw1=>wrS w1 (na w) 0 vs K :=
 bZ (Pn vs [] zs _ (Blk.new w zs.toArray e) hl (Kept.mod (zg3 w _)) λu hb hf=>hk u (by have:=AtL.blk (b:=w) hb;simpa using this) (by simpa using hb) hf.kept)
end
section
variable{P:Program}{f:FuncId}{args:Array Value}{w:World}{p:Prop}
theorem LZ{A B:zg6}(h:Pure P f args w (.bool (jW p)))(ht:p->∀u,Kept w u->A u)(hf:¬ p->∀u,Kept w u->B u):E.CallsD P f args w λv u=>∃b,v = .bool b/\af b (A u) (B u) :=
 zg0 h λv u ⟨hv,hk⟩=>⟨_,hv,(aQ _ _ _).2 ⟨λh=>ht (ze4 λhp=>by rw[dG hp]at h;cases h) u hk,λh=>hf (λhp=>by rw[iG hp]at h;cases h) u hk⟩⟩
theorem uT{A B:zg6}(h:Pure P f args w (.bool (jW p)))(hf:¬ p->∀u,Kept w u->A u)(ht:p->∀u,Kept w u->B u):E.CallsD P f args w λv u=>∃b,v = .bool b/\af (!b) (A u) (B u) :=
 zg0 h λv u ⟨hv,hk⟩=>⟨_,hv,(aQ _ _ _).2 ⟨λh=>hf (λhp=>by rw[iG hp]at h;cases h) u hk,λh=>ht (ze4 λhp=>by rw[dG hp]at h;cases h) u hk⟩⟩
theorem QR{A:Bool->zg6}(h:Pure P f args w (.bool (jW p)))(hA:∀u,Kept w u->A (jW p) u):E.CallsD P f args w λv u=>∃b,v = .bool b/\A b u :=
 zg0 h λv u ⟨hv,hk⟩=>⟨_,hv,hA u hk⟩
end
theorem eqS{α:Type}{xs ys:List α}{n:Nat}(hn:n=xs.length)(he:xs.length=ys.length){W:zg6}{L:Nat->Int->zg6}{T Fl:zg6}
  (step:∀(k i:Nat) (w:World) (x y:α),W w->i<n->xs[i]?=some x->ys[i]?=some y->(x=y->∀u,W u->L k ((i+1:Nat):Int) u)->(x≠y->∀u,W u->Fl u)->L (k+1) i w)
  (fin:∀k w,W w->T w->L (k+1) n w) (hT:xs=ys->∀u,W u->T u) (hF:xs≠ys->∀u,W u->Fl u):∀(k i:Nat) (w:World),i+k=n->xs.take i=ys.take i->W w->L (k+1) i w
 |0,i,w,hi,hp,hw=>by
  obtain rfl:i=n:=by omega
  rw[zb1 (by omega),zb1 (by omega)]at hp;exact fin 0 w hw (hT hp w hw)
 |k+1,i,w,hi,hp,hw=>by
  have hx:xs[i]?=some (xs[i]'(by omega)):=za2 (by omega);have hy:ys[i]?=some (ys[i]'(by omega)):=za2 (by omega);refine step (k+1) i w _ _ hw (by omega) hx hy (λh u hu=>eqS hn he step fin hT hF k (i+1) u (by omega) ?_ hu) λh u hu=>hF (λe=>h ?_) u hu
  .rw[List.take_add_one,List.take_add_one,hp,hx,hy,h]
  .subst e;rfl
end Go.E
namespace Go.E
open Go Go.RowKit Go.ChangeShapes Go.Tr
abbrev CD:=cZ×SH
abbrev nJ(x:CD):List Value:=enC x.1 x.2
abbrev RC:=SH×List CD×Nat
abbrev eI(x:Int):Value := .int .i64 x
structure HE where
 (f:Int) (p:Nat) (rs:List RC)
abbrev HE.cells(h:HE):List Value := .int .i64 h.f::h.rs.map (λr=>r.1.v)
abbrev HE.kv(h:HE):Int×Value:=(h.f,.pointer (some ⟨h.p,0,none⟩))
def COK(tI B:Nat)(w:World)(x:CD):Prop:=∃g,Arr eI tI w x.2.a x.2.n x.2.c x.1.aT g/\(g=0\/B<g)
def ROK(tI tC B:Nat)(w:World)(r:RC):Prop:=aK 5 nJ tC w r.1.a r.1.n r.1.c r.2.1 r.2.2/\(r.2.2=0\/B<r.2.2)/\∀x∈r.2.1,COK tI B w x
structure HOK(tI tC tL B:Nat)(w:World)(mb:Nat)(H:List HE):Prop where
 map:ji (enK .i64) w mb (H.map HE.kv)
 mB:B<=mb
 box:∀h∈H,Blk w h.p h.cells.toArray tL/\B<=h.p/\h.rs.length=3
 row:∀h∈H,∀r∈h.rs,ROK tI tC B w r
 pn:∀(i j:Nat) x y,H[i]?=some x->H[j]?=some y->i≠j->x.p≠y.p
 gn:∀(i j k l:Nat) x y r s,H[i]?=some x->H[j]?=some y->x.rs[k]?=some r->y.rs[l]?=some s->(i≠j\/k≠l)->r.2.2=0\/r.2.2≠s.2.2
section
variable{tI tC tL B mb:Nat}{w u:World}{H:List HE}{S:Nat->Prop}{x:HE}{r r':RC}
theorem Blk.ne{w:World}{b:Nat}{cs cs':Array Value}{e e':Nat}(h:Blk w b cs e)(h':Blk w b cs' e'):e=e':=by
 unfold Blk at h h';rw[h]at h'
 cases h'
 rfl
theorem ji.lJ{κ:Type}[DecidableEq κ]{en:κ->Value}{L:List (κ×Value)}{cs:Array Value}{e:Nat}(h:ji en w mb L)(h':Blk w mb cs e):False:=by
 obtain⟨es,c,h1,_⟩:=h;unfold Blk at h';rw[h1]at h'
 cases h'
theorem Row.blk{e size:Nat}{a:OA}{n c g:Nat}{cs:List Value}(h:Row w e size a n c cs g){k:Nat}(hk:k+1=g):∃cur,Blk w k cur e:=by
 rcases h.2 with ⟨h0,_⟩ | ⟨b,cur,hb,_,hblk,_⟩
 .omega
 .obtain rfl:b=k:=by omega
  exact⟨cur,hblk⟩
theorem COK.mod{y:CD}(h:COK tI B w y)(hm:Mod S w u)(hI:∀k cur,Blk w k cur tI->¬ S k):COK tI B u y:=by
 obtain⟨g,h1,h2⟩:=h;exact⟨g,h1.mod hm λk hk=>by obtain⟨cur,hb⟩:=Row.blk h1 hk;exact hI k cur hb,h2⟩
theorem ROK.mod(h:ROK tI tC B w r)(hm:Mod S w u)(hS:∀k,k+1=r.2.2->¬ S k)(hI:∀k cur,Blk w k cur tI->¬ S k):ROK tI tC B u r :=
 ⟨h.1.mod hm hS,h.2.1,λy hy=>(h.2.2 y hy).mod hm hI⟩
theorem ROK.kept(h:ROK tI tC B w r)(hk:Kept w u):ROK tI tC B u r:=h.mod (S:=λ_=>False) (Kept.mod hk) (λ_ _ h=>h) (λ_ _ _ h=>h)
theorem ROK.blk(h:ROK tI tC B w r){k:Nat}(hk:k+1=r.2.2):∃cur,Blk w k cur tC:=Row.blk h.1 hk
theorem HOK.kept(h:HOK tI tC tL B w mb H)(hk:Kept w u):HOK tI tC tL B u mb H :=
 ⟨h.map.kept hk,h.mB,λy hy=>⟨(h.box y hy).1.keep hk,(h.box y hy).2⟩,λy hy r hr=>(h.row y hy r hr).kept hk,h.pn,h.gn⟩
theorem HOK.nil(tI tC tL:Nat)(w:World)(hB:B<=w.heap.size):HOK tI tC tL B (w.alloc (.map #[] 0)) w.heap.size [] :=
 ⟨ji.new _ w,hB,(λ_ h=>by cases h),(λ_ h=>by cases h),(λ_ _ _ _ h=>by simp at h),(λ_ _ _ _ _ _ _ _ h=>by simp at h)⟩
theorem HOK.grow(h:HOK tI tC tL B w mb H)(hIC:tI≠tC)(hIL:tI≠tL)(hCL:tC≠tL){i j:Nat}(hx:H[i]?=some x)(hr:x.rs[j]?=some r)(ho:Only r.2.2 w u)(hr':ROK tI tC B u r')(hg:r'.2.2=r.2.2\/w.heap.size<r'.2.2) :
  su u ⟨x.p,j+1,none⟩/\HOK tI tC tL B (u.setCell ⟨x.p,j+1,none⟩ r'.1.v) mb (H.set i { x with rs:=x.rs.set j r' })/\Only (x.p+1) u (u.setCell ⟨x.p,j+1,none⟩ r'.1.v):=by
 have hxm:=za0 hx;have hrm:=za0 hr;obtain⟨hxb,hxB,hx3⟩:=h.box x hxm;have hjl:=(za1.1 hr).1;have hil:=(za1.1 hx).1;have hrb:∀k,k+1=r.2.2->∃cur,Blk w k cur tC:=λk hk=>(h.row x hxm r hrm).blk hk;have hxu:Blk u x.p x.cells.toArray tL:=hxb.mod ho λhk=>by
  obtain⟨cur,hb⟩:=hrb x.p hk;exact hCL (hb.ne hxb)
 have hset:=hxu.set (j+1) r'.1.v;have hon:=zg5 u x.p (j+1) r'.1.v;have hM:Mod (λk=>k+1=r.2.2\/k=x.p) w (u.setCell ⟨x.p,j+1,none⟩ r'.1.v):=ho.trans hon (λ_ _ h => .inl h) (λk _ hk => .inr (by have hk':k+1=x.p+1:=hk;omega));have hI:∀k cur,Blk w k cur tI->¬ (k+1=r.2.2\/k=x.p):=by
  rintro k cur hb (hk | rfl)
  .obtain⟨cur',hb'⟩:=hrb k hk;exact hIC (hb.ne hb')
  .exact hIL (hb.ne hxb)
 have hIu:∀k cur,Blk u k cur tI->¬ (k+1=x.p+1):=λk cur hb hk=>by
  obtain rfl:k=x.p:=by omega
  exact hIL (hb.ne hxu)
 have le:∀y∈H,∀s∈y.rs,s.2.2<=w.heap.size:=λy hy s hs=>Row.le (h.row y hy s hs).1;refine⟨hxu.ok (by simp;omega),⟨?_,h.mB,?_,?_,?_,?_⟩,hon⟩
 .have e:(H.set i { x with rs:=x.rs.set j r' }).map HE.kv=H.map HE.kv:=by
   rw[List.map_set];apply List.ext_getElem?;intro q;rw[zf4]
   split
   .rename_i e;subst e;rw[za7,if_pos hil,zc1,hx];rfl
   .rfl
  rw[e];refine h.map.mod hM λhk=>?_
  rcases hk with hk | hk
  .obtain⟨cur,hb⟩:=hrb mb hk;exact h.map.lJ hb
  .subst hk;exact h.map.lJ hxb
 .intro y hy
  rcases mem_set hy with rfl | ⟨q,hq,hqs⟩
  .refine⟨?_,hxB,by simpa using hx3⟩;have e:(x.cells.toArray.setIfInBounds (j+1) r'.1.v)=(HE.cells { x with rs:=x.rs.set j r' }).toArray:=by
    rw[List.setIfInBounds_toArray];simp[List.map_set]
   rw[e]at hset;exact hset
  .obtain⟨b1,b2⟩:=h.box y (za0 hqs);refine⟨b1.mod hM λhk=>?_,b2⟩
   rcases hk with hk | hk
   .obtain⟨cur,hb⟩:=hrb y.p hk;exact hCL (hb.ne b1)
   .exact h.pn q i y x hqs hx hq hk
 .intro y hy s hs;have other:∀q l,H[q]?=some y->y.rs[l]?=some s->(q≠i\/l≠j)->ROK tI tC B (u.setCell ⟨x.p,j+1,none⟩ r'.1.v) s:=λq l hq hl hne=>by
   have hrow:=h.row y (za0 hq) s (za0 hl);refine hrow.mod hM (λk hk hS=>?_) hI;obtain⟨cur,hb⟩:=hrow.blk hk
   rcases hS with hS | hS
   .have:=h.gn q i l j y x s r hq hx hl hr hne;omega
   .subst hS;exact hCL (hb.ne hxb)
  rcases mem_set hy with rfl | ⟨q,hq,hqs⟩
  .rcases mem_set hs with rfl | ⟨l,hl,hls⟩
   .refine hr'.mod hon (λk hk hS=>?_) hIu;obtain⟨cur,hb⟩:=hr'.blk hk;have hS':k+1=x.p+1:=hS;obtain rfl:k=x.p:=by omega
    exact hCL (hb.ne hxu)
   .have hrow:=h.row x hxm s (za0 hls);refine hrow.mod hM (λk hk hS=>?_) hI;obtain⟨cur,hb⟩:=hrow.blk hk
    rcases hS with hS | hS
    .have:=h.gn i i l j x x s r hx hx hls hr (.inr hl);omega
    .subst hS;exact hCL (hb.ne hxb)
  .obtain⟨l,hl⟩:=List.getElem?_of_mem hs;exact other q l hqs hl (.inl hq)
 .intro p q y z hy hz hpq;rw[zf4]at hy hz;split at hy
  .rename_i e;subst e
   (try rw[if_pos hil]at hy);cases hy
   rw[if_neg (by omega)]at hz;exact h.pn i q x z hx hz hpq
  .split at hz
   .rename_i e;subst e
    (try rw[if_pos hil]at hz);cases hz
    exact h.pn p i y x hy hx hpq
   .exact h.pn p q y z hy hz hpq
 .intro p q k l y z s t hy hz hs ht hne;rw[zf4]at hy hz;have new:∀(q' l':Nat) (z':HE) (t':RC),H[q']?=some z'->z'.rs[l']?=some t'->(q'≠i\/l'≠j)->(r'.2.2=0\/r'.2.2≠t'.2.2)/\(t'.2.2=0\/t'.2.2≠r'.2.2):=λq' l' z' t' h1 h2 hne'=>by
   have:=h.gn q' i l' j z' x t' r h1 hx h2 hr hne';have:=le z' (za0 h1) t' (za0 h2);omega
  split at hy <;> split at hz
  .rename_i e1 e2;subst e1;subst e2
   (try rw[if_pos hil]at hy);(try rw[if_pos hil]at hz);cases hy;cases hz
   simp only at hs ht;rw[zf4]at hs ht
   split at hs <;> split at ht
   .omega
   .rename_i e3 e4;subst e3;(try rw[if_pos hjl]at hs);cases hs;exact(new i l x t hx ht (.inr (Ne.symm e4))).1
   .rename_i e3 e4;subst e4;(try rw[if_pos hjl]at ht);cases ht;exact(new i k x s hx hs (.inr (Ne.symm e3))).2
   .exact h.gn i i k l x x s t hx hx hs ht hne
  .rename_i e1 e2;subst e1
   (try rw[if_pos hil]at hy);cases hy
   simp only at hs;rw[zf4]at hs;split at hs
   .rename_i e3;subst e3;(try rw[if_pos hjl]at hs);cases hs;exact(new q l z t hz ht (.inl (Ne.symm e2))).1
   .exact h.gn i q k l x z s t hx hz hs ht hne
  .rename_i e1 e2;subst e2
   (try rw[if_pos hil]at hz);cases hz
   simp only at ht;rw[zf4]at ht;split at ht
   .rename_i e3;subst e3;(try rw[if_pos hjl]at ht);cases ht;exact(new p k y s hy hs (.inl (Ne.symm e1))).2
   .exact h.gn p i k l y x s t hy hx hs ht hne
  .exact h.gn p q k l y z s t hy hz hs ht hne
abbrev wH:RC:=(⟨none,0,0⟩,[],0)
theorem WA(tI tC B:Nat)(w:World):ROK tI tC B w wH:=⟨Row.nil w tC 5,.inl rfl,λ_ h=>by cases h⟩
theorem Jd{κ:Type}[DecidableEq κ]:∀ {L:List (κ×Value)} {x:κ} {v:Value},x∉L.map (·.1)->rP L x v=L++[(x,v)]
 | [],x,v,_=>rfl
 | (y,u)::L,x,v,h=>by
  unfold rP;rw[if_neg (λe=>h (by subst e;simp)),Jd (λhm=>h (by simp at hm ⊢;exact .inr hm))];rfl
theorem HOK.push(h:HOK tI tC tL B w mb H)(hB:B<=w.heap.size){f:Int}(hf:f∉H.map HE.f){w1:World}(hb:Blk w1 w.heap.size (HE.cells ⟨f,w.heap.size,[wH,wH,wH]⟩).toArray tL)(hk:Kept w w1)
  (hu:ji (enK .i64) u mb (rP (H.map HE.kv) f (.pointer (some ⟨w.heap.size,0,none⟩)))) (ho:Only (mb+1) w1 u):HOK tI tC tL B u mb (H++[⟨f,w.heap.size,[wH,wH,wH]⟩]):=by
 have h1:=h.kept hk;have hlt:=h.map.lt;have hmb:mb≠w.heap.size:=by omega
 have nb:∀k cur e,Blk w1 k cur e->¬ (k+1=mb+1):=λk cur e hbk hk'=>by
  obtain rfl:k=mb:=by omega
  exact h1.map.lJ hbk
 have ps:∀y∈H,y.p<w.heap.size:=λy hy=>(h.box y hy).1.lt;refine⟨?_,h.mB,?_,?_,?_,?_⟩
 .rw[Jd (by simpa using hf)]at hu;rw[zb8];exact hu
 .intro y hy
  rcases zb2.1 hy with hy | hy
  .obtain⟨b1,b2⟩:=h1.box y hy;exact⟨b1.mod ho (nb _ _ _ b1),b2⟩
  .obtain rfl:=by simpa using hy
   exact⟨hb.mod ho (nb _ _ _ hb),hB,rfl⟩
 .intro y hy r hr
  rcases zb2.1 hy with hy | hy
  .have hrow:=h1.row y hy r hr;exact hrow.mod ho (λk hk'=>by obtain⟨cur,hbk⟩:=hrow.blk hk';exact nb _ _ _ hbk) (λk cur hbk=>nb _ _ _ hbk)
  .obtain rfl:=by simpa using hy
   have:r=wH:=by simpa using hr
   subst this;exact WA _ _ _ _
 .intro i j y z hy hz hij;have key:∀(i:Nat) y,(H++[(⟨f,w.heap.size,[wH,wH,wH]⟩:HE)])[i]?=some y->(H[i]?=some y/\i<H.length)\/(i=H.length/\y.p=w.heap.size):=λi y hy=>by
   rcases Nat.lt_or_ge i H.length with hlt | hge
   .rw[zb9 hlt]at hy;exact .inl ⟨hy,hlt⟩
   .rw[zc0 hge]at hy;have:i - H.length=0:=by
     have:=(za1.1 hy).1;simp at this;omega
    rw[this]at hy;simp at hy;subst hy;exact .inr ⟨by omega,rfl⟩
  rcases key i y hy with ⟨a1,a2⟩ | ⟨a1,a2⟩ <;> rcases key j z hz with ⟨b1,b2⟩ | ⟨b1,b2⟩
  .exact h.pn i j y z a1 b1 hij
  .have:=ps y (za0 a1);omega
  .have:=ps z (za0 b1);omega
  .omega
 .intro i j k l y z r s hy hz hr hs hne
  rcases Nat.lt_or_ge i H.length with hlt1 | hge1
  .rw[zb9 hlt1]at hy
   rcases Nat.lt_or_ge j H.length with hlt2 | hge2
   .rw[zb9 hlt2]at hz;exact h.gn i j k l y z r s hy hz hr hs hne
   .have hz':=za0 hz;rw[zc0 hge2]at hz;have hz':=za0 hz;obtain rfl:=by simpa using hz'
    have:=za0 hs;have:s=wH:=by simpa using this
    subst this
    by_cases h0:r.2.2=0
    .exact .inl h0
    .exact .inr h0
  .rw[zc0 hge1]at hy;have hy':=za0 hy;obtain rfl:=by simpa using hy'
   have:=za0 hr;have:r=wH:=by simpa using this
   subst this;exact .inl rfl
end
end Go.E
namespace Go.Ss
section
variable{α β:Type}{lt:α->α->Bool}
theorem Tm(f:β->α)(l:List β)(x:β):lX lt (l.map f) (f x)=(lX (λa b=>lt (f a) (f b)) l x).map f:=by
 unfold lX;rw[<- List.map_reverse,O8,Ns];simp[List.map_reverse]
theorem lH(f:β->α)(l:List β):sorted lt (l.map f)=(sorted (λa b=>lt (f a) (f b)) l).map f:=by
 unfold sorted;have key:∀(l acc:List β),(l.map f).foldl (lX lt) (acc.map f)=(l.foldl (lX λa b=>lt (f a) (f b)) acc).map f:=by
  intro l
  induction l with
  |nil=>intro acc;rfl
  |cons x l ih=>intro acc;rw[ze0,ze9,ze9,Tm,ih]
 exact key l []
theorem sorted_perm(lt:α->α->Bool)(l:List α):(sorted lt l).Perm l:=by
 unfold sorted;have key:∀(l acc:List α),(l.foldl (lX lt) acc).Perm (acc++l):=by
  intro l
  induction l with
  |nil=>intro acc;simp
  |cons x l ih=>
   intro acc;rw[ze9];exact(ih _).trans (by have:=(Fa lt acc x).append_right l;simpa using this)
 simpa using key l []
theorem A7(h:Wk lt)(l:List α):(sorted lt l).Pairwise λa b=>lt b a=false:=by
 obtain⟨h1,h2,h3⟩:=Vd h l.zipIdx [] List.Pairwise.nil (λy hy=>by cases hy) (IE l 0);have e:sorted lt l=(l.zipIdx.foldl (QB lt) []).map (·.1):=by rw[h3,zip_fst];rfl
 rw[e,List.pairwise_map];refine List.Pairwise.imp ?_ h1;rintro a b (h' | h')
 .cases hb:lt b.1 a.1 with
  |false=>rfl
  |true=>have:=h.trans _ _ _ h' hb;rw[h.irrefl]at this;cases this
 .exact h'.1
theorem Hq{key:α->Int}{xs ys:List α}(hp:xs.Perm ys)(hn:(xs.map key).Nodup):sorted (λa b=>decide (key a<key b)) xs=sorted (λa b=>decide (key a<key b)) ys:=by
 have hw:Wk λa b:α=>decide (key a<key b):=⟨λx=>by simp,λx y z=>by simp;omega,λx y z=>by simp;omega⟩;have hp2:=((sorted_perm (λa b=>decide (key a<key b)) xs).trans hp).trans (sorted_perm (λa b=>decide (key a<key b)) ys).symm;refine List.Perm.eq_of_pairwise (le:=λa b=>decide (key b<key a)=false) ?_ (A7 hw xs) (A7 hw ys) hp2;intro a b ha hb h1 h2;have e:key a=key b:=by simp at h1 h2;omega
 have ha':a∈xs:=(sorted_perm _ xs).mem_iff.1 ha;have hb':b∈xs:=hp.mem_iff.2 ((sorted_perm _ ys).mem_iff.1 hb);obtain⟨i,hi⟩:=List.getElem?_of_mem ha';obtain⟨j,hj⟩:=List.getElem?_of_mem hb';have li:=(za1.1 hi).1;have lj:=(za1.1 hj).1;have:i=j:=Go.E.lD hn (by simpa using li) (by simpa using lj) (by
  simp only[List.getElem_map];rw[(za1.1 hi).2,(za1.1 hj).2,e])
 subst this;rw[hi]at hj;cases hj;rfl
end
end Go.Ss
namespace Go.E
open Go Go.RowKit Go.ChangeShapes Go.Tr
section
variable{tI tC tL B mb:Nat}{w u:World}{H:List HE}{S:Nat->Prop}{x:HE}{r r':RC}
theorem HOK.other(h:HOK tI tC tL B w mb H)(hm:Mod S w u)(hS:∀k cur e,Blk w k cur e->¬ S k)(hmb:¬ S mb):HOK tI tC tL B u mb H :=
 ⟨h.map.mod hm hmb,h.mB,λy hy=>⟨(h.box y hy).1.mod hm (hS _ _ _ (h.box y hy).1),(h.box y hy).2⟩,λy hy r hr=>by
  have hrow:=h.row y hy r hr;exact hrow.mod hm (λk hk=>by obtain⟨cur,hb⟩:=hrow.blk hk;exact hS _ _ _ hb) λk cur hb=>hS _ _ _ hb,h.pn,h.gn⟩
theorem HOK.apart(h:HOK tI tC tL B w mb H)(hIL:tI≠tL)(hCL:tC≠tL){g:Nat}{cur:Array Value}(hm:Only (g+1) w u)(hg:Blk w g cur tL)(hp:∀y∈H,y.p≠g):HOK tI tC tL B u mb H:=by
 have no:∀k cur' e,Blk w k cur' e->e≠tL->¬ (k+1=g+1):=λk cur' e hb he hk=>by
  obtain rfl:k=g:=by omega
  exact he (hb.ne hg)
 refine⟨h.map.mod hm (λhk=>?_),h.mB,λy hy=>⟨(h.box y hy).1.mod hm (λhk=>hp y hy (by have hk':y.p+1=g+1:=hk;omega)),(h.box y hy).2⟩,λy hy r hr=>?_,h.pn,h.gn⟩
 .have hk':mb+1=g+1:=hk;obtain rfl:mb=g:=by omega
  exact h.map.lJ hg
 .have hrow:=h.row y hy r hr;exact hrow.mod hm (λk hk=>by obtain⟨cur',hb⟩:=hrow.blk hk;exact no _ _ _ hb hCL) λk cur' hb=>no _ _ _ hb hIL
theorem EG{w:World}{b i e:Nat}{cs:Array Value}{v:Value}(h:Blk w b cs e)(hv:cs[i]?=some v):w.setCell ⟨b,i,none⟩ v=w:=by
 have key:(w.setCell ⟨b,i,none⟩ v).heap=w.heap:=by
  unfold World.setCell;apply Array.ext_getElem?;intro k;simp only[Array.getElem?_modify]
  split
  .rename_i hk;subst hk;unfold Blk at h;rw[h];have:cs.setIfInBounds i v=cs:=by
    obtain⟨h1,rfl⟩:=zc4.1 hv;simp[Array.setIfInBounds,h1]
   simp[this]
  .rfl
 have e2:w.setCell ⟨b,i,none⟩ v={ w with heap:=(w.setCell ⟨b,i,none⟩ v).heap }:=rfl;rw[e2,key]
theorem HOK.turn(h:HOK tI tC tL B w mb H)(hIC:tI≠tC)(hIL:tI≠tL)(hCL:tC≠tL){i j:Nat}(hx:H[i]?=some x)(hr:x.rs[j]?=some r)(ho:Only r.2.2 w u)(hr':ROK tI tC B u r')(hg:r'.2.2=r.2.2)(hv:r'.1=r.1) :
  HOK tI tC tL B u mb (H.set i { x with rs:=x.rs.set j r' }):=by
 obtain⟨_,h2,_⟩:=h.grow hIC hIL hCL hx hr ho hr' (.inl hg);have hxm:=za0 hx;have hrm:=za0 hr;have hxb:Blk u x.p x.cells.toArray tL:=(h.box x hxm).1.mod ho λhk=>by
  obtain⟨cur,hb⟩:=(h.row x hxm r hrm).blk hk;exact hCL (hb.ne (h.box x hxm).1)
 rw[hv,EG hxb (by simp[HE.cells,zc1,hr])]at h2;exact h2
end
theorem FW{P:Program}{w:World}{t ty e size bytes:Nat}(hT:fV P t e size bytes)(hsz:0<size){a:Option Addr}{n c g:Nat}{xs:List Value}(hown:Row w e size a n c xs g)
  {news:List Value} {s:Option Addr} {m d:Nat} (hl:news.length=m*size) (hnews:∀j u,news[j]?=some u->∃p,s=some p/\w.cell? (p.add j)=some u) (hm0:s=none->m=0)
  (h1:∀u∈news,u.oneCell'=true) (h63:n+m<=maxLen) (hbytes:(n+m)*bytes<=140737488355328) {K:Value->zg6}
  (hk:∀a' c' g' w',Row w' e size a' (n+m) c' (xs++news) g'->((g'=g/\a'=a/\c'=c)\/(g'=w.heap.size+1/\Kept w w'))->Only g w w'->K (.slice a' (n+m) c') w') :
  dC P (Builtin.append_ #[t,t] ty #[.slice a n c,.slice s m d]) w K:=by
 obtain⟨ht,i,z,hi,hz,rfl,rfl,hzs⟩:=hT;intro dd;have hsmall:n+m<=9223372036854775807:=by simp only[maxLen]at h63;omega
 have hlen:(xs++news).length=(n+m)*i.size:=by rw[za6,hown.1,hl,ze7]
 cases s with
 |none=>
  obtain rfl:=hm0 rfl;obtain rfl:news=[]:=za9 (by simpa using hl);refine⟨.slice a n c,w,dd,oC ht hi _ _ _ _ hown.cap,?_⟩;exact hk a c g w (by simpa using hown) (.inl ⟨rfl,rfl,rfl⟩) (Mod.refl _)
 |some p=>
  have hn':∀j u,news[j]?=some u->(dr w dd).cell? (p.add j)=some u:=λj u hj=>by obtain⟨p',hp,hc⟩:=hnews j u hj;cases hp;exact hc
  have hnew:∀(old:Nat),old<n+m ->
    Row ((dr w dd).drew.alloc (.cells (xs.toArray++news.toArray++Builtin.zeroCells z.cells (grownCap (dr w dd) (n+m) old e - (n+m))) e)) e i.size (some ⟨w.heap.size,0,none⟩) (n+m) (grownCap (dr w dd) (n+m) old e) (xs++news) (w.heap.size+1):=by
   intro old ho;have hge:=grownCap_ge (dr w dd) (n+m) old e;have hcm:grownCap (dr w dd) (n+m) old e<=maxLen:=grownCap_le_maxLen (dr w dd) (n+m) old e h63;refine⟨hlen,.inr ⟨w.heap.size,_,rfl,rfl,heap_alloc_new (dr w dd).drew _,hge,hcm,?_,?_⟩⟩
   .simp only[Array.size_append,List.size_toArray,size_zeroCells,hzs,hown.1,hl,<- Nat.add_mul];congr 1;omega
   .simp only[Array.toList_append,za5];rw[<- List.append_assoc,<- hlen];exact List.take_left
  have hdr:∀(o:Obj),(dr w dd).drew.alloc o=dr (w.alloc o) ((dr w dd).drew).drawn:=λo=>rfl;have honly:∀(o:Obj),Only g w (w.alloc o):=λo=>Kept.mod (zg3 w o)
  rcases hown.2 with ⟨rfl,rfl,rfl,rfl⟩ | ⟨b,cur,rfl,rfl,hg,hnc,hcm,hcs,htake⟩
  .have hx:xs=[]:=za9 (by simpa using hown.1);subst hx
   by_cases hm:m=0
   .subst hm;have hn:news=[]:=za9 (by simpa using hl);subst hn;refine⟨.slice none 0 0,w,dd,?_,hk none 0 0 w (Row.nil w e i.size) (.inl ⟨rfl,rfl,rfl⟩) (Mod.refl _)⟩;simp[Builtin.append_,run_underlying ht,sizeOf,typeInfo,hi,Builtin.lenOf,Builtin.firstCells,loadCells,loadCellsFrom]
   .have hr:=run_append_nil (P:=P) (dr w dd) t ty e i z ht hi hz p m d news hl hn' (by omega) (by omega) (by have hb:=hbytes;simp only[zd1]at hb;omega);have hgr:=hnew 0 (by omega);simp only[zd1,zc9,Array.empty_append]at hgr hk;rw[hdr]at hr;refine⟨_,_,_,hr,hk _ _ _ _ ?_ (.inr ⟨rfl,zg3 w _⟩) (honly _)⟩;exact hgr
  .by_cases hroom:n+m<=c
   .have hfit:n*i.size+news.length<=cur.size:=by rw[hl,hcs,<- Nat.add_mul];exact Nat.mul_le_mul_right _ hroom
    have hr:=run_append_room (P:=P) (dr w dd) t ty e i ht hi b n c cur hg p m d news hl hn' h1 hroom hfit;refine⟨_,w.setRow b _,dd,hr,hk _ _ (b+1) _ ⟨hlen,.inr ⟨b,_,rfl,rfl,setRow_heap w b cur _ e _ hg,hroom,hcm,?_,?_⟩⟩ (.inl ⟨rfl,rfl,rfl⟩) ⟨rfl,rfl,rfl,by simp[World.setRow],λk _ hk=>setRow_other w b k _ (λe=>hk (by omega))⟩⟩
    .simp only[List.size_toArray,za6,zb6,zb7,zf2];omega
    .rw[htake,<- hlen];exact List.take_left
   .have holds:∀j u,xs[j]?=some u->(dr w dd).cell? ((⟨b,0,none⟩:Addr).add j)=some u:=λj u hj=>by
     obtain⟨b',hb',_,hc⟩:=hown.cell hj;obtain rfl:b'=b:=by omega
     rw[addr_add,zd1];exact hc
    have hr:=run_append_grow (P:=P) (dr w dd) t ty e i z ht hi hz ⟨b,0,none⟩ n c xs hown.1 holds p m d news hl hn' (by omega) (by omega) (growslice_fits (by omega) hbytes);rw[hdr]at hr;exact⟨_,_,_,hr,hk _ _ _ _ (hnew c (by omega)) (.inr ⟨rfl,zg3 w _⟩) (honly _)⟩
structure AD where
 (nd:ND) (frm to:Int)
abbrev AE:=AD×SH
abbrev jG(x:AE):List Value:=[.int .u8 x.1.nd.kind,.int .i64 x.1.nd.value,.int .i64 x.1.nd.feature,.float .f64 x.1.nd.thr,x.2.v,.int .u8 x.1.nd.missing,.int .i64 x.1.nd.left,.int .i64 x.1.nd.right,.int .i64 x.1.frm,.int .i64 x.1.to]
abbrev RA:=SH×List AE×Nat
abbrev Xy:RA:=(⟨none,0,0⟩,[],0)
abbrev kvA(h:Int×RA):Int×Value:=(h.1,h.2.1.v)
def Gg:List (Int×RA)->Int->RA->List (Int×RA)
 | [],f,r=>[(f,r)]
 | (y,s)::H,f,r=>if y=f then(y,r)::H else(y,s)::Gg H f r
def xG:List (Int×RA)->Int->RA
 | [],_=>Xy
 | (y,s)::H,f=>if y=f then s else xG H f
theorem GK:∀(H:List (Int×RA)) (f:Int) (r:RA),(Gg H f r).map kvA=rP (H.map kvA) f r.1.v
 | [],f,r=>rfl
 | (y,s)::H,f,r=>by
  unfold Gg;rw[ze0];unfold rP
  split
  .rename_i h;subst h;simp
  .rename_i h;simp[GK H f r]
theorem OC:∀(H:List (Int×RA)) (f:Int),(nI (H.map kvA) f).getD (.slice none 0 0)=(xG H f).1.v
 | [],f=>rfl
 | (y,s)::H,f=>by
  unfold xG;rw[ze0];unfold nI
  split
  .rfl
  .exact OC H f
theorem JG:∀ {H:List (Int×RA)} {f:Int} {r:RA} {h:Int×RA},h∈Gg H f r->h=(f,r)\/(h∈H/\h.1≠f)\/(h∈H/\∃a b,H=a++b/\h∈b/\f∈a.map (·.1))
 | [],f,r,h,hm=>by simp[Gg]at hm;exact .inl hm
 | (y,s)::H,f,r,h,hm=>by
  unfold Gg at hm;split at hm
  .rename_i hy;subst hy
   rcases zb3.1 hm with rfl | hm
   .exact .inl rfl
   .exact .inr (.inr ⟨.tail _ hm,[(y,s)],H,rfl,hm,by simp⟩)
  .rename_i hy
   rcases zb3.1 hm with rfl | hm
   .exact .inr (.inl ⟨.head _,hy⟩)
   .rcases JG hm with h1 | ⟨h1,h2⟩ | ⟨h1,a,b,h2,h3,h4⟩
    .exact .inl h1
    .exact .inr (.inl ⟨.tail _ h1,h2⟩)
    .exact .inr (.inr ⟨.tail _ h1,(y,s)::a,b,by rw[h2];rfl,h3,by simp;exact .inr (by simpa using h4)⟩)
theorem qG{H:List (Int×RA)}{f:Int}{r:RA}{h:Int×RA}(hn:(H.map (·.1)).Nodup)(hm:h∈Gg H f r):h=(f,r)\/(h∈H/\h.1≠f):=by
 rcases JG hm with h1 | h1 | ⟨h1,a,b,h2,h3,h4⟩
 .exact .inl h1
 .exact .inr h1
 .refine .inr ⟨h1,λe=>?_⟩;rw[h2,zb8]at hn;exact(List.nodup_append.1 hn).2.2 f h4 h.1 (ze8 h3) e.symm
theorem Oy(H:List (Int×RA))(f:Int)(r:RA):(Gg H f r).map (·.1)=if f∈H.map (·.1) then H.map (·.1) else H.map (·.1)++[f]:=by
 have:=Nu (H.map kvA) f r.1.v;rw[<- GK,ze6,ze6]at this;exact this
theorem pG:∀ {H:List (Int×RA)} {f:Int},(f,xG H f)∈H\/(xG H f=Xy/\f∉H.map (·.1))
 | [],f => .inr ⟨rfl,by simp⟩
 | (y,s)::H,f=>by
  unfold xG
  split
  .rename_i h;subst h;exact .inl (.head _)
  .rename_i h
   rcases pG (H:=H) (f:=f) with h1 | ⟨h1,h2⟩
   .exact .inl (.tail _ h1)
   .exact .inr ⟨h1,by simp at h2 ⊢;exact⟨Ne.symm h,h2⟩⟩
structure MOK(tA B:Nat)(w:World)(mb:Nat)(H:List (Int×RA)):Prop where
 map:ji (enK .i64) w mb (H.map kvA)
 mB:B<=mb
 row:∀h∈H,aK 10 jG tA w h.2.1.a h.2.1.n h.2.1.c h.2.2.1 h.2.2.2/\(h.2.2.2=0\/B<h.2.2.2)
 gn:∀x∈H,∀y∈H,x.1≠y.1->x.2.2.2=0\/x.2.2.2≠y.2.2.2
 nd:(H.map (·.1)).Nodup
section
variable{tA B mb:Nat}{w u:World}{H:List (Int×RA)}{r':RA}{f:Int}
theorem MOK.kept(h:MOK tA B w mb H)(hk:Kept w u):MOK tA B u mb H:=⟨h.map.kept hk,h.mB,λx hx=>⟨(h.row x hx).1.kept hk,(h.row x hx).2⟩,h.gn,h.nd⟩
theorem MOK.nil(tA:Nat)(w:World)(hB:B<=w.heap.size):MOK tA B (w.alloc (.map #[] 0)) w.heap.size [] :=
 ⟨ji.new _ w,hB,(λ_ h=>by cases h),(λ_ h=>by cases h),List.nodup_nil⟩
theorem MOK.get(h:MOK tA B w mb H)(f:Int):aK 10 jG tA w (xG H f).1.a (xG H f).1.n (xG H f).1.c (xG H f).2.1 (xG H f).2.2/\((xG H f).2.2=0\/B<(xG H f).2.2):=by
 rcases pG (H:=H) (f:=f) with h1 | ⟨h1,_⟩
 .exact h.row _ h1
 .rw[h1];exact⟨aK.nil _ _ _ _,.inl rfl⟩
theorem MOK.put(h:MOK tA B w mb H){w1:World}(ho:Only (xG H f).2.2 w w1)(hr:aK 10 jG tA w1 r'.1.a r'.1.n r'.1.c r'.2.1 r'.2.2)(hg:r'.2.2=(xG H f).2.2\/w.heap.size<r'.2.2)(hB:B<=w.heap.size)
  (hu:ji (enK .i64) u mb (rP (H.map kvA) f r'.1.v)) (hou:Only (mb+1) w1 u):MOK tA B u mb (Gg H f r'):=by
 have hget:=h.get f;have nomb:∀k cur e,Blk w1 k cur e->¬ (k+1=mb+1):=λk cur e hb hk=>by
  obtain rfl:k=mb:=by omega
  have hm1:=h.map.mod ho (λhk'=>by
   obtain⟨cur',hb'⟩:=Row.blk hget.1 hk';exact h.map.lJ hb')
  exact hm1.lJ hb
 have le:∀x∈H,x.2.2.2<=w.heap.size:=λx hx=>Row.le (h.row x hx).1;have apart:∀x∈H,x.1≠f->x.2.2.2=0\/x.2.2.2≠(xG H f).2.2:=λx hx hf=>by
  rcases pG (H:=H) (f:=f) with h1 | ⟨h1,_⟩
  .exact h.gn x hx _ h1 hf
  .rw[h1]
   by_cases h0:x.2.2.2=0
   .exact .inl h0
   .exact .inr h0
 have apart':∀x∈H,x.1≠f->(x.2.2.2=0\/x.2.2.2≠r'.2.2)/\(r'.2.2=0\/r'.2.2≠x.2.2.2):=λx hx hf=>by
  have:=apart x hx hf;have:=le x hx;omega
 refine⟨by rw[GK];exact hu,h.mB,λx hx=>?_,λx hx y hy hxy=>?_,?_⟩
 .rcases qG h.nd hx with rfl | ⟨hx,hf⟩
  .exact⟨hr.mod hou λk hk=>by obtain⟨cur,hb⟩:=Row.blk hr hk;exact nomb _ _ _ hb,by have:=hget.2;show r'.2.2=0\/B<r'.2.2;omega⟩
  .have h1:=(h.row x hx).1.mod ho (λk hk hS=>by
    have hS':k+1=(xG H f).2.2:=hS;have:=apart x hx hf
    omega)
   exact⟨h1.mod hou λk hk=>by obtain⟨cur,hb⟩:=Row.blk h1 hk;exact nomb _ _ _ hb,(h.row x hx).2⟩
 .rcases qG h.nd hx with rfl | ⟨hx,hf⟩ <;> rcases qG h.nd hy with rfl | ⟨hy,hf'⟩
  .exact absurd rfl hxy
  .exact(apart' y hy hf').2
  .exact(apart' x hx hf).1
  .exact h.gn x hx y hy hxy
 .rw[Oy]
  split
  .exact h.nd
  .rename_i hf;exact List.nodup_append.2 ⟨h.nd,by simp,λa ha b hb e=>by
    have hb':b=f:=by simpa using hb
    subst hb';subst e;exact hf ha⟩
end
end Go.E
namespace Go.E
open Go Go.RowKit Go.Tr Go.ChangeShapes Go.MapKept
open Go.ChangeMaps (setBlock)
section
variable{κ:Type}[DecidableEq κ]{en:κ->Value}{w u:World}{b:Nat}{L:List (κ×Value)}{P:Program}{t kt et:TypeId}
theorem ji.U7(K:Rj P kt en)(ht:P.underlying t=some (.map kt et)){z:Value}(hz:∀w,(zeroValue et).run P w = .ok z w)(h:ji en w b L){x:κ}{R:Value->zg6}
  (hk:∀u s,G8 en u b (rP L x ((nI L x).getD z)) x s->Only (b+1) w u->(∀s',G8 en w b L x s'->G8 en u b (rP L x ((nI L x).getD z)) x s')->R (.tuple #[(nI L x).getD z,.int .i64 s]) u) :
  dC P (Instr.mapEntry t (.map (some b)) (en x)) w R:=by
 obtain⟨es,c,h1,h2,h3⟩:=h
 rcases K.find es.toList x w (keysOf h3) with ⟨f1,f2⟩ | ⟨j,e,f1,f2,f3⟩
 .have hg:=get_none K.inj h3 f2;rw[hg]at hk;refine dC.of (u:={ w with heap:=w.heap.setIfInBounds b (.map (es.push { key:=en x,val:=z,born:=c }) (c+1)) }) (λd=>?_) (hk _ c ⟨_,_,(heap_set h1).1,stamped_push h2 f2,?_,{ key:=en x,val:=z,born:=c },by simp,rfl,rfl⟩ (rE h1) (λs' h'=>by
   obtain⟨es',c',g1,g2,g3,e,he,hek,_⟩:=h';rw[h1]at g1;cases g1;exact absurd hek (f2 e he)))
  .have h1':(dr w d).heap[b]?=some (.map es c):=h1
   rcases K.find es.toList x (dr w d) (keysOf h3) with ⟨g1,g2⟩ | ⟨j,e,g1,g2,g3⟩
   .simp[Instr.mapEntry,run_underlying ht,MapKept.run_getObj_map h1',K.check,g1,hz,MapKept.run_setObj_map _ h1',Result.andThen,goInt];rfl
   .exact absurd g3 (f2 e (za0 g2))
  .rw[Array.toList_push];exact Hg h3 hg
 .have hj:es[j]?=some e:=by simpa using f2
  have hg:=get_some K.inj (uD h2) h3 (za0 f2) f3;rw[hg]at hk;have hkey:∀e',es[j]?=some e'->({ e' with key:=en x }:MapEntry).key=e'.key:=λe' he'=>by rw[hj]at he';cases he';exact f3.symm
  have hmem:∀f:MapEntry->MapEntry,f e∈(es.modify j f).toList:=λf=>by
   rw[Array.toList_modify];refine za0 (i:=j) ?_;simp[List.getElem?_modify,f2]
  refine dC.of (u:={ w with heap:=w.heap.setIfInBounds b (.map (es.modify j λe=>{ e with key:=en x }) c) }) (λd=>?_) (hk _ e.born ⟨_,_,(heap_set h1).1,stamped_modify h2 _ _ (λ_ _=>rfl) (λe' _ he'=>hkey e' he'),?_,_,hmem _,rfl,rfl⟩ (rE h1) (λs' h'=>by
   obtain⟨es',c',g1,g2,g3,e1,he,hek,hs⟩:=h';rw[h1]at g1;cases g1;have he1:e1=e:=by
    obtain⟨k,hk',hke⟩:=List.getElem_of_mem he;have l2:j<es.toList.length:=(za1.1 f2).1;have hkj:k=j:=by
     refine lD (uD h2) (by simpa using hk') (by simpa using l2) ?_;simp only[List.getElem_map];rw[hke,(za1.1 f2).2,hek,f3]
    subst hkj;rw[<- hke];exact(za1.1 f2).2
   subst he1;refine⟨_,_,(heap_set h1).1,stamped_modify h2 _ _ (λ_ _=>rfl) (λe' _ he'=>hkey e' he'),?_,_,hmem _,rfl,hs⟩;rw[Array.toList_modify];refine xB K.inj (uD h2) h3 f2 f3 _ λe' he'=>?_;rw[f2]at he';cases he';exact⟨f3.symm,rfl⟩))
  .have h1':(dr w d).heap[b]?=some (.map es c):=h1
   rcases K.find es.toList x (dr w d) (keysOf h3) with ⟨g1,g2⟩ | ⟨j',e',g1,g2,g3⟩
   .exact absurd f3 (g2 e (za0 f2))
   .have hjj:j'=j:=by
     have hnd:=uD h2;have l1:j'<es.toList.length:=(za1.1 g2).1;have l2:j<es.toList.length:=(za1.1 f2).1;refine lD hnd (by simpa using l1) (by simpa using l2) ?_;simp only[List.getElem_map];rw[(za1.1 g2).2,(za1.1 f2).2,g3,f3]
    subst hjj;obtain rfl:e'=e:=by rw[f2]at g2;cases g2;rfl
    simp[Instr.mapEntry,run_underlying ht,MapKept.run_getObj_map h1',K.check,g1,hj,f3,K.same,MapKept.run_setObj_map _ h1',Result.andThen,goInt];rfl
  .rw[Array.toList_modify];refine xB K.inj (uD h2) h3 f2 f3 _ λe' he'=>?_;rw[f2]at he';cases he';exact⟨f3.symm,rfl⟩
theorem ji.uniq{L':List (κ×Value)}(hi:∀x y,en x=en y->x=y)(h:ji en w b L)(h':ji en w b L'):L=L':=by
 obtain⟨es,c,h1,_,h3⟩:=h;obtain⟨es',c',g1,_,g3⟩:=h';rw[h1]at g1;cases g1;rw[h3]at g3;refine List.map_inj_right (λx y hxy=>?_) |>.1 g3;obtain⟨x1,x2⟩:=x;obtain⟨y1,y2⟩:=y;simp only[Prod.mk.injEq]at hxy;rw[hi _ _ hxy.1,hxy.2]
theorem Fj{κ:Type}[DecidableEq κ]{x:κ}{v:Value}:∀ {L:List (κ×Value)},nI L x=some v->rP L x v=L
 | [],h=>by cases h
 | (z,u)::L,h=>by
  unfold nI at h;unfold rP;split at h
  .rename_i e;cases h;subst e;simp
  .rename_i e;rw[if_neg e,Fj h]
end
structure G9{α:Type}(k:Nat)(en:α->List Value)(eo ei B:Nat)(w:World)(a:Option Addr)(n c:Nat)(l:List (RW α))(g:Nat):Prop where
 out:Arr a0s eo w a n c l g
 fr:g=0\/B<g
 row:∀t∈l,aK k en ei w t.1.a t.1.n t.1.c t.2.1 t.2.2/\(t.2.2=0\/B<t.2.2)
 ap:l.Pairwise λx y=>x.2.2=0\/x.2.2≠y.2.2
section
variable{α:Type}{k:Nat}{en:α->List Value}{eo ei B:Nat}{w u:World}{a:Option Addr}{n c g:Nat}{l:List (RW α)}{S:Nat->Prop}{i:Int}
theorem G9.kept(h:G9 k en eo ei B w a n c l g)(hk:Kept w u):G9 k en eo ei B u a n c l g:=⟨h.out.kept hk,h.fr,λt ht=>⟨(h.row t ht).1.kept hk,(h.row t ht).2⟩,h.ap⟩
theorem G9.mod(h:G9 k en eo ei B w a n c l g)(hm:Mod S w u)(hg:∀j,j+1=g->¬ S j)(hr:∀t∈l,∀j,j+1=t.2.2->¬ S j):G9 k en eo ei B u a n c l g :=
 ⟨h.out.mod hm hg,h.fr,λt ht=>⟨(h.row t ht).1.mod hm (hr t ht),(h.row t ht).2⟩,h.ap⟩
theorem G9.len(h:G9 k en eo ei B w a n c l g):n=l.length:=h.out.len
theorem G9.Zj(h:G9 k en eo ei B w a n c l g){K:Option Addr->Nat->Nat->Prop}(h0:0<=i)(hi:i<n)(hk:∀t,l[i.toNat]?=some t->K t.1.a t.1.n t.1.c) :
  aV a λq=>chk (0<=i/\i<(n:Int)) (∃ya:Option Addr,∃yn:Nat,∃yc:Nat,w.cell? (q.add (i.toNat*1))=some (.slice ya yn yc)/\K ya yn yc):=by
 have hi':i.toNat<n:=by omega
 refine h.out.sl.read hi' λp hp=>dK ⟨h0,hi⟩ ⟨_,_,_,by rw[Nat.mul_one];exact hp,hk _ (za2 (h.len ▸ hi'))⟩
theorem G9.rne(h:G9 k en eo ei B w a n c l g)(hne:eo≠ei){t:RW α}(ht:t∈l):g=0\/g≠t.2.2:=Row.ne h.out (h.row t ht).1 hne
theorem G9.putRow(h:G9 k en eo ei B w a n c l g)(hne:eo≠ei){j:Int}{t t':RW α}(ht:l[j.toNat]?=some t)(hm:Only t.2.2 w u)(hx:aK k en ei u t'.1.a t'.1.n t'.1.c t'.2.1 t'.2.2)(hg:t'.2.2=t.2.2\/w.heap.size<t'.2.2)(hB:B<=w.heap.size){K:zg6}(h0:0<=j)(hi:j<n)(hk:∀x,G9 k en eo ei B x a n c (l.set j.toNat t') g->Only g u x->K x) :
  aV a λq=>chk (0<=j/\j<(n:Int)) (su u ((q.add (j.toNat*1)).add 0)/\nw (u.setCell ((q.add (j.toNat*1)).add 0) (.slice t'.1.a t'.1.n t'.1.c)) K):=by
 have htm:=za0 ht;have ho:=h.out.mod hm (λk' h1 h2=>by
  have h2':k'+1=t.2.2:=h2;have:=h.rne hne htm
  omega)
 have hle:∀s∈l,s.2.2<=w.heap.size:=λs hs=>(h.row s hs).1.le;have others:∀q s,q≠j.toNat->l[q]?=some s->s.2.2=0\/s.2.2≠t.2.2:=λq s hq hqs=>by
  have hp:=List.pairwise_iff_getElem.1 h.ap;obtain⟨l1,e1⟩:=za1.1 hqs;obtain⟨l2,e2⟩:=za1.1 ht
  rcases Nat.lt_or_gt_of_ne hq with hlt | hgt
  .have:=hp q j.toNat l1 l2 hlt;rw[e1,e2]at this;exact this
  .have:=hp j.toNat q l2 l1 hgt;rw[e1,e2]at this;omega
 refine ho.wr h0 hi (x:=t') rfl λx hxx hox=>hk x ⟨hxx,h.fr,λs hs'=>?_,?_⟩ hox
 .rcases mem_set hs' with rfl | ⟨q,hq,hqs⟩
  .refine⟨hx.mod hox λk' h1 h2=>?_,by have:=(h.row t htm).2;omega⟩;have h2':k'+1=g:=h2;have:=Row.ne ho hx hne;omega
  .have hsm:=za0 hqs;obtain⟨r1,r2⟩:=h.row s hsm;refine⟨(r1.mod hm λk' h1 h2=>?_).mod hox λk' h1 h2=>?_,r2⟩
   .have h2':k'+1=t.2.2:=h2;have:=others q s hq hqs;omega
   .have h2':k'+1=g:=h2;have:=h.rne hne hsm;omega
 .refine FT h.ap (λq s hq hqs=>?_) (λq s hq hqs=>?_)
  .have:=others q s (by omega) hqs;have:=hle s (za0 hqs);omega
  .have:=others q s (by omega) hqs;have:=hle s (za0 hqs);omega
end
end Go.E
