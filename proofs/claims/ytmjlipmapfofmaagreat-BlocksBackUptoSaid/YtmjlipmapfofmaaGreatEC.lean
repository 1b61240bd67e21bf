/- Part of a proof; no conditions. -/
import Derived.Laws.Strings
import Derived.Test.YtmjlipmapfofmaaGreatEB
import Derived.Test.YtmjlipmapfofmaaGreatTPA
set_option linter.unusedVariables false
set_option linter.unusedSimpArgs false
set_option linter.unusedSectionVars false
namespace Go.E
open Go Go.RowKit Go.ChangeShapes Go.Tr
def enN(x:ND)(a:Option Addr)(n c:Nat):List Value:=[.int .u8 x.kind,.int .i64 x.value,.int .i64 x.feature,.float .f64 x.thr,.slice a n c,.int .u8 x.missing,.int .i64 x.left,.int .i64 x.right]
structure At8(w:World)(p:Addr)(x:ND)(a:Option Addr)(n c:Nat):Prop where
 c0:w.cell? (p.add 0)=some (.int .u8 x.kind)
 c1:w.cell? (p.add 1)=some (.int .i64 x.value)
 c2:w.cell? (p.add 2)=some (.int .i64 x.feature)
 c3:w.cell? (p.add 3)=some (.float .f64 x.thr)
 c4:w.cell? (p.add 4)=some (.slice a n c)
 c5:w.cell? (p.add 5)=some (.int .u8 x.missing)
 c6:w.cell? (p.add 6)=some (.int .i64 x.left)
 c7:w.cell? (p.add 7)=some (.int .i64 x.right)
section
variable{w u:World}{p:Addr}{x:ND}{a a':Option Addr}{n c n' c' e:Nat}{xs:List ND}{F S:Nat->Prop}
theorem At8.of(h:∀j v,(enN x a n c)[j]?=some v->w.cell? (p.add j)=some v):At8 w p x a n c :=
 ⟨h 0 _ rfl,h 1 _ rfl,h 2 _ rfl,h 3 _ rfl,h 4 _ rfl,h 5 _ rfl,h 6 _ rfl,h 7 _ rfl⟩
theorem At8.mod(h:At8 w p x a n c)(hm:Mod S w u)(hn:¬ S p.block):At8 u p x a n c :=
 ⟨hm.cell hn h.c0,hm.cell hn h.c1,hm.cell hn h.c2,hm.cell hn h.c3,hm.cell hn h.c4,hm.cell hn h.c5,hm.cell hn h.c6,hm.cell hn h.c7⟩
theorem At8.kept(h:At8 w p x a n c)(hm:Kept w u):At8 u p x a n c:=h.mod (S:=λ_=>False) (Kept.mod hm) (λh=>h)
theorem At8.IC{b:World}(h:Blk w b.heap.size (enN x a n c).toArray e):At8 w (na b) x a n c := .of λj v hj=>h.rd (by simpa using hj)
theorem At8.ld(h:At8 w p x a n c){K:Int->Int->Int->Nat->Option Addr->Nat->Nat->Int->Int->Int->Prop}(hk:K x.kind x.value x.feature x.thr a n c x.missing x.left x.right) :
  ∃y0:Int,w.cell? (p.add 0)=some (.int .u8 y0)/\(∃y1:Int,w.cell? (p.add 1)=some (.int .i64 y1)/\(∃y2:Int,w.cell? (p.add 2)=some (.int .i64 y2)/\(∃y3:Nat,w.cell? (p.add 3)=some (.float .f64 y3) /\
   (∃ya:Option Addr,∃yn:Nat,∃yc:Nat,w.cell? (p.add 4)=some (.slice ya yn yc)/\(∃y5:Int,w.cell? (p.add 5)=some (.int .u8 y5)/\(∃y6:Int,w.cell? (p.add 6)=some (.int .i64 y6)/\(∃y7:Int,w.cell? (p.add 7)=some (.int .i64 y7) /\
    K y0 y1 y2 y3 ya yn yc y5 y6 y7))))))) :=
 ⟨_,h.c0,_,h.c1,_,h.c2,_,h.c3,_,_,_,h.c4,_,h.c5,_,h.c6,_,h.c7,hk⟩
def tN:Ty ND where
 k:=8
 rd F w x cs:=∃a n c,cs=enN x a n c/\Ls (vJ .i64) F w a n c x.aT
 len:=by rintro F w x cs ⟨a,n,c,rfl,_⟩;rfl
 one:=by
  rintro F w x cs ⟨a,n,c,rfl,_⟩ v hv
  simp only[enN,zb3,zf9,or_false]at hv
  rcases hv with h | h | h | h | h | h | h | h <;> subst h <;> rfl
 mono:=by rintro F F' w x cs hF ⟨a,n,c,rfl,h⟩;exact⟨a,n,c,rfl,h.mono hF⟩
 keep:=by rintro F w u x cs hu ⟨a,n,c,rfl,h⟩;exact⟨a,n,c,rfl,h.keep hu⟩
theorem Ls.nd(h:Ls tN F w a n c xs){i:Nat}(hi:i<n):∃p x a' n' c',a=some p/\F p.block/\xs[i]?=some x/\At8 w (p.add (i*8)) x a' n' c'/\Ls (vJ .i64) F w a' n' c' x.aT:=by
 have hi':i<xs.length:=h.len ▸ hi;obtain⟨p,cs,rfl,h2,⟨a',n',c',rfl,h3⟩,h4⟩:=h.get i _ (za2 hi');exact⟨p,_,a',n',c',rfl,h2,za2 hi',.of λj v hj=>by rw[add_add];exact h4 j v hj,h3⟩
theorem Ls.rdN(h:Ls tN F w a n c xs){i:Int}{K:Int->Int->Int->Nat->Option Addr->Nat->Nat->Int->Int->Int->Prop}(h0:0<=i)(hi:i<n)
  (hk:∀x a' n' c',xs[i.toNat]?=some x->Ls (vJ .i64) F w a' n' c' x.aT->K x.kind x.value x.feature x.thr a' n' c' x.missing x.left x.right) :
  aV a λq=>chk (0<=i/\i<(n:Int)) (∃y0:Int,w.cell? ((q.add (i.toNat*8)).add 0)=some (.int .u8 y0)/\(∃y1:Int,w.cell? ((q.add (i.toNat*8)).add 1)=some (.int .i64 y1)/\(∃y2:Int,w.cell? ((q.add (i.toNat*8)).add 2)=some (.int .i64 y2)/\(∃y3:Nat,w.cell? ((q.add (i.toNat*8)).add 3)=some (.float .f64 y3) /\
   (∃ya:Option Addr,∃yn:Nat,∃yc:Nat,w.cell? ((q.add (i.toNat*8)).add 4)=some (.slice ya yn yc)/\(∃y5:Int,w.cell? ((q.add (i.toNat*8)).add 5)=some (.int .u8 y5)/\(∃y6:Int,w.cell? ((q.add (i.toNat*8)).add 6)=some (.int .i64 y6)/\(∃y7:Int,w.cell? ((q.add (i.toNat*8)).add 7)=some (.int .i64 y7) /\
    K y0 y1 y2 y3 ya yn yc y5 y6 y7)))))))):=by
 obtain⟨p,x,a',n',c',rfl,_,hx,h8,hc⟩:=h.nd (i:=i.toNat) (by omega);exact dK ⟨h0,hi⟩ (h8.ld (hk x a' n' c' hx hc))
theorem Ls.rdF(h:Ls tN F w a n c xs){i:Int}{K:Addr->Prop}(h0:0<=i)(hi:i<n)(hk:∀p x a' n' c',xs[i.toNat]?=some x->Ls (vJ .i64) F w a' n' c' x.aT->At8 w (p.add (i.toNat*8)) x a' n' c'->K p) :
  aV a λq=>chk (0<=i/\i<(n:Int)) (K q):=by
 obtain⟨p,x,a',n',c',rfl,_,hx,h8,hc⟩:=h.nd (i:=i.toNat) (by omega);exact dK ⟨h0,hi⟩ (hk p x a' n' c' hx hc h8)
theorem XU{x:ND}{a:Option Addr}{n c:Nat}{K:zg6}(hk:∀u,Blk u w.heap.size (enN x a n c).toArray e->At8 u (na w) x a n c->Kept w u->K u) :
  nw (w.alloc (.cells #[.int .u8 x.kind,.int .i64 x.value,.int .i64 x.feature,.float .f64 x.thr,.slice a n c,.int .u8 x.missing,.int .i64 x.left,.int .i64 x.right] e)) K :=
 bZ (hk _ (Blk.new w _ e) (.IC (Blk.new w (enN x a n c).toArray e)) (zg3 w _))
set_option maxHeartbeats 1000000 in
theorem qm{x:ND}{a:Option Addr}{n c:Nat}{K:zg6}(hk:∀u,Blk u w.heap.size (enN x a n c).toArray e->At8 u (na w) x a n c->Kept w u->K u) :
  nw (w.alloc (.cells #[.int .u8 0,.int .i64 0,.int .i64 0,.float .f64 0,.slice none 0 0,.int .u8 0,.int .i64 0,.int .i64 0] e)) λw1=>su w1 ((na w).add 0)/\(nw (w1.setCell ((na w).add 0) (.int .u8 x.kind)) λw2=>su w2 ((na w).add 1)/\(nw (w2.setCell ((na w).add 1) (.int .i64 x.value)) λw3=>
   su w3 ((na w).add 2)/\(nw (w3.setCell ((na w).add 2) (.int .i64 x.feature)) λw4=>su w4 ((na w).add 3)/\(nw (w4.setCell ((na w).add 3) (.float .f64 x.thr)) λw5=>su w5 ((na w).add 4)/\(nw (w5.setCell ((na w).add 4) (.slice a n c)) λw6=>
   su w6 ((na w).add 5)/\(nw (w6.setCell ((na w).add 5) (.int .u8 x.missing)) λw7=>su w7 ((na w).add 6)/\(nw (w7.setCell ((na w).add 6) (.int .i64 x.left)) λw8=>su w8 ((na w).add 7)/\(nw (w8.setCell ((na w).add 7) (.int .i64 x.right)) K)))))))):=by
 have b0:=Blk.new w #[.int .u8 0,.int .i64 0,.int .i64 0,.float .f64 0,.slice none 0 0,.int .u8 0,.int .i64 0,.int .i64 0] e;have s0:From w.heap.size w _:=Kept.mod (zg3 w (.cells #[.int .u8 0,.int .i64 0,.int .i64 0,.float .f64 0,.slice none 0 0,.int .u8 0,.int .i64 0,.int .i64 0] e));have b1:Blk _ _ #[.int .u8 x.kind,.int .i64 0,.int .i64 0,.float .f64 0,.slice none 0 0,.int .u8 0,.int .i64 0,.int .i64 0] e:=b0.set 0 (.int .u8 x.kind);have b2:Blk _ _ #[.int .u8 x.kind,.int .i64 x.value,.int .i64 0,.float .f64 0,.slice none 0 0,.int .u8 0,.int .i64 0,.int .i64 0] e:=b1.set 1 (.int .i64 x.value);have b3:Blk _ _ #[.int .u8 x.kind,.int .i64 x.value,.int .i64 x.feature,.float .f64 0,.slice none 0 0,.int .u8 0,.int .i64 0,.int .i64 0] e:=b2.set 2 (.int .i64 x.feature);have b4:Blk _ _ #[.int .u8 x.kind,.int .i64 x.value,.int .i64 x.feature,.float .f64 x.thr,.slice none 0 0,.int .u8 0,.int .i64 0,.int .i64 0] e:=b3.set 3 (.float .f64 x.thr);have b5:Blk _ _ #[.int .u8 x.kind,.int .i64 x.value,.int .i64 x.feature,.float .f64 x.thr,.slice a n c,.int .u8 0,.int .i64 0,.int .i64 0] e:=b4.set 4 (.slice a n c);have b6:Blk _ _ #[.int .u8 x.kind,.int .i64 x.value,.int .i64 x.feature,.float .f64 x.thr,.slice a n c,.int .u8 x.missing,.int .i64 0,.int .i64 0] e:=b5.set 5 (.int .u8 x.missing);have b7:Blk _ _ #[.int .u8 x.kind,.int .i64 x.value,.int .i64 x.feature,.float .f64 x.thr,.slice a n c,.int .u8 x.missing,.int .i64 x.left,.int .i64 0] e:=b6.set 6 (.int .i64 x.left);have b8:Blk _ _ #[.int .u8 x.kind,.int .i64 x.value,.int .i64 x.feature,.float .f64 x.thr,.slice a n c,.int .u8 x.missing,.int .i64 x.left,.int .i64 x.right] e:=b7.set 7 (.int .i64 x.right);simp only[gK];have st:∀ {u:World} (i:Nat) (v:Value),From w.heap.size w u->From w.heap.size w (u.setCell ⟨w.heap.size,i,none⟩ v):=λi v s=>From.then s (zg5 _ w.heap.size i v) λk h1 h2=>by omega
 refine bZ ⟨b0.ok (by simp),bZ ⟨b1.ok (by simp),bZ ⟨b2.ok (by simp),bZ ⟨b3.ok (by simp),bZ ⟨b4.ok (by simp),bZ ⟨b5.ok (by simp),bZ ⟨b6.ok (by simp),bZ ⟨b7.ok (by simp),hk _ b8 (.IC b8) ?_⟩⟩⟩⟩⟩⟩⟩⟩;exact(st _ _ (st _ _ (st _ _ (st _ _ (st _ _ (st _ _ (st _ _ (st _ _ s0)))))))).kept
structure At2(w:World)(p:Addr)(o:Int)(a:Option Addr)(n c:Nat):Prop where
 c0:w.cell? (p.add 0)=some (.int .i64 o)
 c1:w.cell? (p.add 1)=some (.slice a n c)
theorem At2.mod{o:Int}(h:At2 w p o a n c)(hm:Mod S w u)(hn:¬ S p.block):At2 u p o a n c:=⟨hm.cell hn h.c0,hm.cell hn h.c1⟩
theorem At2.kept{o:Int}(h:At2 w p o a n c)(hm:Kept w u):At2 u p o a n c:=h.mod (S:=λ_=>False) (Kept.mod hm) (λh=>h)
def tT:Ty TD where
 k:=2
 rd F w x cs:=∃a n c,cs=[.int .i64 x.output,.slice a n c]/\Ls tN F w a n c x.nodes
 len:=by rintro F w x cs ⟨a,n,c,rfl,_⟩;rfl
 one:=by
  rintro F w x cs ⟨a,n,c,rfl,_⟩ v hv
  simp only[zb3,zf9,or_false]at hv
  rcases hv with h | h <;> subst h <;> rfl
 mono:=by rintro F F' w x cs hF ⟨a,n,c,rfl,h⟩;exact⟨a,n,c,rfl,h.mono hF⟩
 keep:=by rintro F w u x cs hu ⟨a,n,c,rfl,h⟩;exact⟨a,n,c,rfl,h.keep hu⟩
theorem Ls.td{xs:List TD}(h:Ls tT F w a n c xs){i:Nat}(hi:i<n):∃p x a' n' c',a=some p/\F p.block/\xs[i]?=some x/\At2 w (p.add (i*2)) x.output a' n' c'/\Ls tN F w a' n' c' x.nodes:=by
 have hi':i<xs.length:=h.len ▸ hi;obtain⟨p,cs,rfl,h2,⟨a',n',c',rfl,h3⟩,h4⟩:=h.get i _ (za2 hi');exact⟨p,_,a',n',c',rfl,h2,za2 hi',⟨by rw[add_add];exact h4 0 _ rfl,by rw[add_add];exact h4 1 _ rfl⟩,h3⟩
theorem Ls.rdT{xs:List TD}(h:Ls tT F w a n c xs){i:Int}{K:Int->Option Addr->Nat->Nat->Prop}(h0:0<=i)(hi:i<n)(hk:∀x a' n' c',xs[i.toNat]?=some x->Ls tN F w a' n' c' x.nodes->K x.output a' n' c') :
  aV a λq=>chk (0<=i/\i<(n:Int)) (∃y0:Int,w.cell? ((q.add (i.toNat*2)).add 0)=some (.int .i64 y0)/\(∃ya:Option Addr,∃yn:Nat,∃yc:Nat,w.cell? ((q.add (i.toNat*2)).add 1)=some (.slice ya yn yc)/\K y0 ya yn yc)):=by
 obtain⟨p,x,a',n',c',rfl,_,hx,h2,hc⟩:=h.td (i:=i.toNat) (by omega);exact dK ⟨h0,hi⟩ ⟨_,h2.c0,_,_,_,h2.c1,hk x a' n' c' hx hc⟩
theorem qc{o:Int}{a:Option Addr}{n c:Nat}{K:zg6}(hk:∀u,Blk u w.heap.size #[.int .i64 o,.slice a n c] e->At2 u (na w) o a n c->Kept w u->K u) :
  nw (w.alloc (.cells #[.int .i64 o,.slice a n c] e)) K:=by
 have b:=Blk.new w #[.int .i64 o,.slice a n c] e;exact bZ (hk _ b ⟨b.rd (by simp),b.rd (by simp)⟩ (zg3 w _))
end
end Go.E
namespace Go.E
open Go Go.Tr
abbrev vN(x:ND)(a:Option Addr)(n c:Nat):Value := .agg #[.int .u8 x.kind,.int .i64 x.value,.int .i64 x.feature,.float .f64 x.thr,.slice a n c,.int .u8 x.missing,.int .i64 x.left,.int .i64 x.right]
abbrev vT(o:Int)(a:Option Addr)(n c:Nat):Value := .agg #[.int .i64 o,.slice a n c]
def iC(f:Nat):Bool:=FloatKind.f64.format.order f f != some .eq
end Go.E
namespace Go.E
open Go Go.RowKit Go.ChangeShapes Go.Tr
theorem lC(a:Option Addr)(m sz:Nat):slA a m 0 sz=a:=by
 unfold slA
 split
 .rfl
 .cases a with
  |none=>rfl
  |some p=>simp[add_zero]
section
variable{w:World}{e size:Nat}{a:Option Addr}{n c g m:Nat}{cs:List Value}
theorem Row.take(h:Row w e size a n c cs g)(hm:m<=n):Row w e size a m c (cs.take (m*size)) g:=by
 have hle:m*size<=n*size:=Nat.mul_le_mul_right _ hm;refine⟨by rw[zb6,h.1];omega,?_⟩
 rcases h.2 with ⟨h1,h2,h3,h4⟩ | ⟨b,cur,h1,h2,h3,h4,h5,h6,h7⟩
 .exact .inl ⟨h1,h2,by omega,h4⟩
 .exact .inr ⟨b,cur,h1,h2,h3,by omega,h5,h6,by rw[<- h7,List.take_take,Nat.min_eq_left hle]⟩
theorem Row.new(w:World)(e size n:Nat)(cs:Array Value)(hl:cs.size=n*size)(hn:n<=maxLen):Row (w.alloc (.cells cs e)) e size (some (na w)) n n cs.toList (w.heap.size+1) :=
 ⟨by simpa using hl,.inr ⟨w.heap.size,cs,rfl,rfl,Blk.new w cs e,zb4 _,hn,hl,by rw[<- hl,zb1 (by simp)]⟩⟩
end
section
variable{α:Type}{en:α->Value}{w u:World}{a:Option Addr}{n c g e m:Nat}{xs ys:List α}{S:Nat->Prop}
theorem Arr.take(h:Arr en e w a n c xs g)(hm:m<=n):Arr en e w a m c (xs.take m) g:=by
 have:=Row.take h hm
 rwa [Nat.mul_one,<- List.map_take]at this
theorem Arr.new(en:α->Value)(e:Nat)(w:World)(xs:List α)(cs:Array Value)(hc:cs.toList=xs.map en)(hn:xs.length<=maxLen):Arr en e (w.alloc (.cells cs e)) (some (na w)) xs.length xs.length xs (w.heap.size+1):=by
 have:=Row.new w e 1 xs.length cs (by rw[<- Array.length_toList,hc];simp) hn
 rwa [hc]at this
theorem Arr.pY{P:Program}{t ty by_:Nat}(hT:fV P t e 1 by_)(h:Arr en e w a n c xs g)(h1:∀x,(en x).oneCell'=true){cs:Array Value}{m:Nat}{ys:List α}(hc:cs.toList=ys.map en)(hm:m=ys.length)(hm0:0<m)(h63:n+m<=maxLen)(hb:(n+m)*by_<=140737488355328){K:Value->zg6}
  (hk:∀a' c' g' u,Arr en e u a' (n+m) c' (xs++ys) g'->(g'=g\/w.heap.size<g')->g'≠0->Only g w u->K (.slice a' (n+m) c') u) :
  nw (w.alloc (.cells cs e)) λw'=>dC P (Builtin.append_ #[t,t] ty #[.slice a n c,.slice (some (na w)) m m]) w' K:=by
 have hn:=zg3 w (.cells cs e);refine jJ hT (by omega) (Row.kept h hn) (news:=ys.map en) (by simp[hm]) (λj u hj=>⟨_,rfl,by rw[uz,<- Array.getElem?_toList,hc];exact hj⟩) (λh=>by cases h) (by simpa usingλx _=>h1 x) h63 hb λa' c' g' u hr hg ho=>?_;refine hk a' c' g' u (by unfold Arr;simpa using hr) (by rcases hg with h | h <;> simp_all;omega) ?_ ?_
 .rcases hr.2 with ⟨_,_,h0,_⟩ | ⟨b,_,rfl,_⟩ <;> omega
 .exact(Kept.mod (S:=λk=>k+1=g) hn).trans ho zg7 zg7
theorem Arr.pos(h:Arr en e w a n c xs g)(hn:0<n):0<g:=by
 rcases h.2 with ⟨_,_,h0,_⟩ | ⟨b,_,rfl,_⟩ <;> omega
theorem From.only{B:Nat}{x:World}(h:From B w u)(k:Only g u x)(hg:g=0\/B<g):From B w x:=zg2 (S:=λk=>B<=k) h k (λ_ _ h=>h) (λb _ hb=>by show B<=b;have hb':b+1=g:=hb;omega)
theorem From.refl(B:Nat)(w:World):From B w w:=Mod.refl (S:=λk=>B<=k) w
theorem From.ls{T:Ty α}{F:Nat->Prop}{B:Nat}(h:Ls T F w a n c xs)(hm:From B w u)(hF:∀b,F b->b<B):Ls T F u a n c xs:=h.mod (S:=λk=>B<=k) hm λb hb hB=>by have:=hF b hb;have hB':B<=b:=hB;omega
end
section
variable{w u:World}{p:Addr}{a:Option Addr}{n c:Nat}{o:Int}
theorem At2.lt(h:At2 w p o a n c):p.block<w.heap.size:=by have:=block_lt_of_cell h.c0;rwa [add_block]at this
theorem At2.from(h:At2 w p o a n c)(hm:From w.heap.size w u):At2 u p o a n c:=h.mod (S:=λk=>w.heap.size<=k) hm (λhb=>by have:=h.lt;have hb':w.heap.size<=p.block:=hb;omega)
end
end Go.E
namespace Go.E
open Go Go.RowKit
def CO{α:Type}(en:α->Value)(e:Nat)(w u:World)(a:Option Addr)(n c:Nat)(xs:List α):Prop:=∃g,Arr en e u a n c xs g/\(g=0\/w.heap.size<g)/\Kept w u
section
variable{α:Type}{en:α->Value}{e:Nat}{w u x:World}{a:Option Addr}{n c:Nat}{xs:List α}
theorem CO.len(h:CO en e w u a n c xs):n=xs.length:=by obtain⟨g,h,_⟩:=h;exact h.len
theorem CO.kept(h:CO en e w u a n c xs):Kept w u:=by obtain⟨g,_,_,h⟩:=h;exact h
theorem CO.sl(h:CO en e w u a n c xs):Sl en u a n xs:=by obtain⟨g,h,_⟩:=h;exact h.sl
theorem CO.ahead(h:CO en e u x a n c xs)(hk:Kept w u):CO en e w x a n c xs:=by
 obtain⟨g,h1,h2,h3⟩:=h;refine⟨g,h1,h2.imp id (λh=>Nat.lt_of_le_of_lt hk.size h),zg1 hk h3⟩
end
section
variable{α:Type}{k:Nat}{en:α->List Value}{w u:World}{a:Option Addr}{n c g e m:Nat}{xs ys:List α}{S:Nat->Prop}
theorem xg(hl:∀x,(en x).length=k):∀(xs:List α) (m:Nat),(xs.flatMap en).take (m*k)=(xs.take m).flatMap en
 | [],m=>by simp
 |x::xs,0=>by simp
 |x::xs,m+1=>by
  rw[List.take_succ_cons,zd9,zd9,List.take_append,hl,zb1 (by rw[hl,Nat.succ_mul];omega),show(m+1)*k - k=m*k from by rw[Nat.succ_mul];omega,xg hl xs m]
theorem aK.take(hl:∀x,(en x).length=k)(h:aK k en e w a n c xs g)(hm:m<=n):aK k en e w a m c (xs.take m) g:=by
 have:=Row.take h hm
 rwa [xg hl]at this
theorem aK.capLe(h:aK k en e w a n c xs g):n<=c:=Row.cap h
theorem aK.new(hl:∀x,(en x).length=k)(e:Nat)(w:World)(xs:List α)(cs:Array Value)(hc:cs.toList=xs.flatMap en)(hn:xs.length<=maxLen):aK k en e (w.alloc (.cells cs e)) (some (na w)) xs.length xs.length xs (w.heap.size+1):=by
 have:=Row.new w e k xs.length cs (by rw[<- Array.length_toList,hc,gQ xs (λx _=>hl x)]) hn
 rwa [hc]at this
theorem aK.pY{P:Program}{t ty by_:Nat}(hT:fV P t e k by_)(hl:∀x,(en x).length=k)(hk0:0<k)(h:aK k en e w a n c xs g)(h1:∀x,∀v∈en x,v.oneCell'=true){cs:Array Value}{m:Nat}{ys:List α}(hc:cs.toList=ys.flatMap en)(hm:m=ys.length)(hm0:0<m)(h63:n+m<=maxLen)(hb:(n+m)*by_<=140737488355328){K:Value->zg6}
  (hk:∀a' c' g' u,aK k en e u a' (n+m) c' (xs++ys) g'->(g'=g\/w.heap.size<g')->g'≠0->Only g w u->K (.slice a' (n+m) c') u) :
  nw (w.alloc (.cells cs e)) λw'=>dC P (Builtin.append_ #[t,t] ty #[.slice a n c,.slice (some (na w)) m m]) w' K:=by
 have hn:=zg3 w (.cells cs e);refine jJ hT hk0 (Row.kept h hn) (news:=ys.flatMap en) (by rw[gQ ys (λx _=>hl x),hm]) (λj u hj=>⟨_,rfl,by rw[uz,<- Array.getElem?_toList,hc];exact hj⟩) (λh=>by cases h) (λv hv=>?_) h63 hb λa' c' g' u hr hg ho=>?_
 .obtain⟨x,_,hx⟩:=List.mem_flatMap.1 hv;exact h1 x v hx
 refine hk a' c' g' u (by unfold aK;simpa using hr) (by rcases hg with h | h <;> simp_all;omega) ?_ ?_
 .rcases hr.2 with ⟨_,_,h0,_⟩ | ⟨b,_,rfl,_⟩ <;> omega
 .exact(Kept.mod (S:=λk=>k+1=g) hn).trans ho zg7 zg7
end
theorem Sl.from{α:Type}{en:α->Value}{w u:World}{a:Option Addr}{n:Nat}{xs:List α}(h:Sl en w a n xs)(hm:From w.heap.size w u):Sl en u a n xs:=h.keep (zg4 hm)
end Go.E
namespace Go.E
open Go Go.RowKit Go.ChangeShapes Go.Tr
structure SH where
 a:Option Addr
 n:Nat
 c:Nat
abbrev SH.v(s:SH):Value := .slice s.a s.n s.c
def enE(e:ED)(f b t:SH):List Value:=[.string e.name,.slice f.a f.n f.c,.int .i64 e.outputs,.slice b.a b.n b.c,.slice t.a t.n t.c]
abbrev vE(e:ED)(f b t:SH):Value := .agg #[.string e.name,.slice f.a f.n f.c,.int .i64 e.outputs,.slice b.a b.n b.c,.slice t.a t.n t.c]
section
variable{w u:World}{ty:Nat}
theorem BR{o:Int}{a:Option Addr}{n c:Nat}{K:zg6}(hk:∀u,Blk u w.heap.size #[.int .i64 o,.slice a n c] ty->At2 u (na w) o a n c->Kept w u->K u) :
  nw (w.alloc (.cells #[.int .i64 0,.slice none 0 0] ty)) λw1=>su w1 ((na w).add 0)/\(nw (w1.setCell ((na w).add 0) (.int .i64 o)) λw2=>su w2 ((na w).add 1)/\(nw (w2.setCell ((na w).add 1) (.slice a n c)) K)):=by
 have b0:=Blk.new w #[.int .i64 0,.slice none 0 0] ty;have b1:Blk _ _ #[.int .i64 o,.slice none 0 0] ty:=b0.set 0 (.int .i64 o);have b2:Blk _ _ #[.int .i64 o,.slice a n c] ty:=b1.set 1 (.slice a n c);simp only[gK];refine bZ ⟨b0.ok (by simp),bZ ⟨b1.ok (by simp),hk _ b2 ⟨b2.rd rfl,b2.rd rfl⟩ ?_⟩⟩;have s1:From w.heap.size w _:=Kept.mod (zg3 w (.cells #[.int .i64 0,.slice none 0 0] ty));have s2:=From.then s1 (zg5 _ w.heap.size 0 (.int .i64 o)) λk h1 h2=>by omega
 exact(From.then s2 (zg5 _ w.heap.size 1 (.slice a n c)) λk h1 h2=>by omega).kept
end
theorem Uj{α:Type}{en:α->Value}{P:Program}{w:World}{t ty e by_:Nat}(hT:fV P t e 1 by_)(h1:∀x,(en x).oneCell'=true){a:Option Addr}{n c:Nat}{xs:List α}(hs:Sl en w a n xs)(h63:n<=maxLen)(hb:n*by_<=140737488355328){R K:Value->zg6}
  (hR:a=none->xs=[]->R (.slice none 0 0) w) (hk:∀a' c' u,CO en e w u a' n c' xs->K (.slice a' n c') u) :
  af a.isNone (R (.slice none 0 0) w) (nw (w.alloc (.cells #[] e)) λw'=>dC P (Builtin.append_ #[t,t] ty #[.slice (some (na w)) 0 0,.slice a n c]) w' K):=by
 refine(aQ _ _ _).2 ⟨λh=>hR (by simpa using h) ?_,λh=>bZ ?_⟩
 .have ha:a=none:=by simpa using h
  subst ha
  cases xs with
  |nil=>rfl
  |cons x xs=>obtain⟨p,hp,_⟩:=hs.get 0 x rfl;cases hp
 .have hk0:=zg3 w (.cells #[] e);have h0:=Arr.new en e w [] #[] rfl (by simp[maxLen]);refine Arr.pushes hT h0 h1 (hs.keep hk0) (by simpa using h63) (by simpa using hb) λa' c' g' u ha hg ho=>?_;simp only[zc6,zd1,zc9]at ha ⊢;refine hk a' c' u ⟨g',ha,?_,?_⟩
  .have:w.heap.size<(w.alloc (.cells #[] e)).heap.size:=by simp
   rcases hg with h | h
   .exact .inr (by omega)
   .exact .inr (by omega)
  .exact((Kept.mod (S:=λk=>w.heap.size<=k) hk0).trans ho (U:=λk=>w.heap.size<=k) (λ_ _ h=>h) (λk _ h=>by show w.heap.size<=k;have h':k+1=w.heap.size+1:=h;omega)).kept (λk h1 h2=>by have h2':w.heap.size<=k:=h2;omega)
noncomputable def jW(p:Prop):Bool := @decide p (Classical.propDecidable p)
theorem iG{p:Prop}(h:p):jW p=true := @decide_eq_true p (Classical.propDecidable p) h
theorem dG{p:Prop}(h:¬ p):jW p=false := @decide_eq_false p (Classical.propDecidable p) h
theorem yX{p q:Prop}(h:p↔q):jW p=jW q:=by
 by_cases hp:p
 .rw[iG hp,iG (h.1 hp)]
 .rw[dG hp,dG (λhq=>hp (h.2 hq))]
theorem TP{p:Prop}[Decidable p]:decide p=jW p:=by
 by_cases h:p
 .rw[decide_eq_true h,iG h]
 .rw[decide_eq_false h,dG h]
def enH(x:ND×SH):List Value:=enN x.1 x.2.a x.2.n x.2.c
def Aj(x:TD×SH):List Value:=[.int .i64 x.1.output,.slice x.2.a x.2.n x.2.c]
section
variable{α β:Type}{T:Ty α}{k:Nat}{en:β->List Value}{f:β->α}{w u:World}{a:Option Addr}{n c g e:Nat}{F:Nat->Prop}
theorem aK.lsK{l:List β}(hl:∀x,(en x).length=k)(hk:0<k)(hTk:T.k=k)(h:aK k en e w a n c l g)(hF:∀b,b+1=g->F b)(hc:∀x∈l,T.rd F w (f x) (en x)):Ls T F w a n c (l.map f):=by
 refine⟨by rw[za7];exact aK.len hl hk h,h.capLe,λi x hi=>?_⟩;rw[zc1]at hi;obtain⟨y,hy,rfl⟩:=zd7.1 hi;have hf:∀j v,(en y)[j]?=some v->(l.flatMap en)[i*k+j]?=some v:=λj v hj=>nY l (λx _=>hl x) i y hy j v hj;obtain⟨v0,h0⟩:∃v,(en y)[0]?=some v:=⟨(en y)[0]'(by rw[hl];omega),za2 _⟩;obtain⟨b,hb,rfl,_⟩:=Row.cell h (hf 0 v0 h0);refine⟨_,en y,rfl,hF b hb.symm,hc y (za0 hy),λj v hj=>?_⟩;obtain⟨b',hb',_,hcell⟩:=Row.cell h (hf j v hj);obtain rfl:b'=b:=by omega
 rw[addr_add,zd1,hTk];exact hcell
theorem zh(hl:∀x,(en x).length=k):∀(xs:List β) (i:Nat) (y:β),i<xs.length->(xs.flatMap en).take (i*k)++en y++(xs.flatMap en).drop (i*k+k)=(xs.set i y).flatMap en
 | [],i,y,h=>by simp at h
 |x::xs,0,y,_=>by
  rw[Nat.zero_mul,List.take_zero,zc9,zd1,zd9,List.drop_append,hl,zf8,List.drop_zero,List.drop_of_length_le (by rw[hl];exact zb4 _),zc9,List.set_cons_zero,zd9]
 |x::xs,i+1,y,h=>by
  have ih:=zh hl xs i y (by simpa using h);rw[List.set_cons_succ,zd9,zd9,List.take_append,hl,zb1 (by rw[hl,Nat.succ_mul];omega),show(i+1)*k - k=i*k by rw[Nat.succ_mul];omega,List.drop_append,hl,List.drop_of_length_le (by rw[hl,Nat.succ_mul];omega),zc9,show(i+1)*k+k - k=i*k+k by rw[Nat.succ_mul];omega,<- ih];simp only[za5]
def XX:List Value->Nat->List Value->List Value
 |cs,_,[]=>cs
 |cs,p,v::vs=>XX (cs.set p v) (p+1) vs
theorem O1:∀(vs cs:List Value) (p:Nat),p+vs.length<=cs.length->XX cs p vs=cs.take p++vs++cs.drop (p+vs.length)
 | [],cs,p,_=>by simp[XX]
 |v::vs,cs,p,h=>by
  simp only[zc5]at h;unfold XX;rw[O1 vs (cs.set p v) (p+1) (by simp;omega),List.drop_set_of_lt (by omega),List.take_set,zc5,show p+1+vs.length=p+(vs.length+1) by omega,List.take_succ_eq_append_getElem (by omega),List.set_append_right _ _ (by simp;omega)];have:p - (cs.take p).length=0:=by rw[zb6];omega
  rw[this,List.set_cons_zero];simp
def wrS:World->Addr->Nat->List Value->(zg6)->Prop
 |w,_,_,[],K=>K w
 |w,q,j,v::vs,K=>su w (q.add j)/\nw (w.setCell (q.add j) v) λw'=>wrS w' q (j+1) vs K
theorem Row.wrS{size b:Nat}{K:zg6}:∀(vs:List Value) (w:World) (cs:List Value) (p j:Nat),Row w e size (some ⟨b,0,none⟩) n c cs (b+1)->p+j+vs.length<=n*size->(∀u,Row u e size (some ⟨b,0,none⟩) n c (XX cs (p+j) vs) (b+1)->Only (b+1) w u->K u)->wrS w (⟨b,p,none⟩:Addr) j vs K
 | [],w,cs,p,j,h,_,hk=>hk w h (Mod.refl _)
 |v::vs,w,cs,p,j,h,hlt,hk=>by
  simp only[zc5]at hlt;obtain⟨b',hb',_,hok,hr,ho⟩:=Row.set h (i:=p+j) (by omega) v;obtain rfl:b'=b:=by omega
  refine⟨by rw[addr_add];exact hok,bZ ?_⟩;rw[addr_add];refine Row.wrS vs _ _ p (j+1) hr (by omega) λu hu ho2=>hk u ?_ (ho.trans ho2 zg7 zg7);rw[show p+(j+1)=p+j+1 by omega]at hu;exact hu
theorem aK.put{l:List β}(hl:∀x,(en x).length=k)(h:aK k en e w a n c l g){i:Nat}(hi:i<l.length)(hln:n=l.length){y:β}{K:zg6}(hk:∀u,aK k en e u a n c (l.set i y) g->Only g w u->K u) :
  ∃b,g=b+1/\a=some ⟨b,0,none⟩/\Go.E.wrS w (⟨b,i*k,none⟩:Addr) 0 (en y) K:=by
 have hin:i<n:=by omega
 rcases h.2 with ⟨_,_,h0,_⟩ | ⟨b,cur,rfl,rfl,_⟩
 .omega
 .have hle:i*k+k<=n*k:=by have:=Nat.mul_le_mul_right k hin;rw[Nat.succ_mul]at this;omega
  refine⟨b,rfl,rfl,Row.wrS (en y) w (l.flatMap en) (i*k) 0 h (by rw[hl];omega) λu hu ho=>hk u ?_ ho⟩;have hlen:(l.flatMap en).length=n*k:=h.1;rw[O1 _ _ _ (by rw[hl,hlen];omega),hl,zd2,zh hl l i y hi]at hu;exact hu
end
section
variable{w:World}{a:Option Addr}{n c g e:Nat}{F:Nat->Prop}
theorem aK.lsN{l:List (ND×SH)}(h:aK 8 enH e w a n c l g)(hF:∀b,b+1=g->F b)(hc:∀x∈l,Ls (vJ .i64) F w x.2.a x.2.n x.2.c x.1.aT):Ls tN F w a n c (l.map (·.1)) :=
 aK.lsK (T:=tN) (k:=8) (en:=enH) (f:=λx=>x.1) (λ_=>rfl) (by omega) rfl h hF λx hx=>⟨_,_,_,rfl,hc x hx⟩
theorem aK.lsT{l:List (TD×SH)}(h:aK 2 Aj e w a n c l g)(hF:∀b,b+1=g->F b)(hc:∀x∈l,Ls tN F w x.2.a x.2.n x.2.c x.1.nodes):Ls tT F w a n c (l.map (·.1)) :=
 aK.lsK (T:=tT) (k:=2) (en:=Aj) (f:=λx=>x.1) (λ_=>rfl) (by omega) rfl h hF λx hx=>⟨_,_,_,rfl,hc x hx⟩
theorem aK.KD{l:List (TD×SH)}(h:aK 2 Aj e w a n c l g):n=l.length:=aK.len (k:=2) (en:=Aj) (λ_=>rfl) (by omega) h
end
theorem Kept.fr{w u:World}(h:Kept w u):From w.heap.size w u:=Kept.mod h
section
variable{w u:World}{e:Nat}{cs:Array Value}
theorem Blk.wr{b0:World}(h:Blk w b0.heap.size cs e){i:Nat}{v:Value}(hi:i<cs.size){K:zg6}(hk:∀u,Blk u b0.heap.size (cs.setIfInBounds i v) e->Only (b0.heap.size+1) w u->K u) :
  su w ((na b0).add i)/\nw (w.setCell ((na b0).add i) v) K:=by
 rw[gK];exact⟨h.ok hi,hk _ (h.set i v) (zg5 w _ _ v)⟩
theorem Blk.wr0{b0:World}(h:Blk w b0.heap.size cs e){i:Nat}{v:Value}(hi:i<cs.size){K:zg6}(hk:∀u,Blk u b0.heap.size (cs.setIfInBounds i v) e->Only (b0.heap.size+1) w u->K u) :
  su w (((na b0).add i).add 0)/\nw (w.setCell (((na b0).add i).add 0) v) K:=by
 rw[add_zero];exact h.wr hi hk
end
set_option maxHeartbeats 1000000 in
theorem Zl{w b0:World}{e:Nat}{x:ND}{a:Option Addr}{n c:Nat}(h:Blk w b0.heap.size #[.int .u8 0,.int .i64 0,.int .i64 0,.float .f64 0,.slice none 0 0,.int .u8 0,.int .i64 0,.int .i64 0] e){K:zg6}(hk:∀u,Blk u b0.heap.size (enN x a n c).toArray e->At8 u (na b0) x a n c->Only (b0.heap.size+1) w u->K u) :
  su w ((na b0).add 0)/\(nw (w.setCell ((na b0).add 0) (.int .u8 x.kind)) λw1=>su w1 ((na b0).add 1)/\(nw (w1.setCell ((na b0).add 1) (.int .i64 x.value)) λw2=>su w2 ((na b0).add 2)/\(nw (w2.setCell ((na b0).add 2) (.int .i64 x.feature)) λw3=>su w3 ((na b0).add 3)/\(nw (w3.setCell ((na b0).add 3) (.float .f64 x.thr)) λw4=>su w4 ((na b0).add 4)/\(nw (w4.setCell ((na b0).add 4) (.slice a n c)) λw5=>su w5 ((na b0).add 5)/\(nw (w5.setCell ((na b0).add 5) (.int .u8 x.missing)) λw6=>su w6 ((na b0).add 6)/\(nw (w6.setCell ((na b0).add 6) (.int .i64 x.left)) λw7=>su w7 ((na b0).add 7)/\(nw (w7.setCell ((na b0).add 7) (.int .i64 x.right)) λw8=>K w8)))))))):=by
 have st:∀ {w u x:World},Only (b0.heap.size+1) w u->Only (b0.heap.size+1) u x->Only (b0.heap.size+1) w x:=λh k=>h.trans k zg7 zg7;exact h.wr (by simp) λu1 b1 o1=>b1.wr (by simp) λu2 b2 o2=>b2.wr (by simp) λu3 b3 o3=>b3.wr (by simp) λu4 b4 o4=>b4.wr (by simp) λu5 b5 o5=>b5.wr (by simp) λu6 b6 o6=>b6.wr (by simp) λu7 b7 o7=>b7.wr (by simp) λu8 b8 o8=>hk u8 b8 (.IC b8) (st (st (st (st (st (st (st o1 o2) o3) o4) o5) o6) o7) o8)
section
variable{α:Type}{k:Nat}{en:α->List Value}{w u:World}{a:Option Addr}{n c g e m:Nat}{xs ys:List α}
theorem aK.mY{P:Program}{t ty by_ d:Nat}(hT:fV P t e k by_)(hl:∀x,(en x).length=k)(hk0:0<k)(h:aK k en e w a n c xs g){x:α}{q:Addr}(hq:∀j v,(en x)[j]?=some v->w.cell? (q.add j)=some v)(h1:∀v∈en x,v.oneCell'=true)(h63:n+1<=maxLen)(hb:(n+1)*by_<=140737488355328){K:Value->zg6}
  (hk:∀a' c' g' u,aK k en e u a' (n+1) c' (xs++[x]) g'->(g'=g\/w.heap.size<g')->g'≠0->Only g w u->K (.slice a' (n+1) c') u) :
  dC P (Builtin.append_ #[t,t] ty #[.slice a n c,.slice (some q) 1 d]) w K:=by
 refine jJ hT hk0 h (news:=en x) (by simp[hl]) (λj u hj=>⟨_,rfl,hq j u hj⟩) (λh=>by cases h) h1 h63 hb λa' c' g' u hr hg ho=>?_;refine hk a' c' g' u (by unfold aK;simpa using hr) (by omega) ?_ ho
 rcases hr.2 with ⟨_,_,h0,_⟩ | ⟨b,_,rfl,_⟩ <;> omega
theorem SlK.none{a:Option Addr}(hl:∀x,(en x).length=k)(hk0:0<k)(hs:SlK k en w a m ys)(ha:a=none):m=0/\ys=[]:=by
 cases ys with
 |nil=>exact⟨by simpa using hs.len,rfl⟩
 |cons y l=>obtain⟨p,hp,_⟩:=hs.get 0 y rfl;rw[ha]at hp;cases hp
theorem aK.pushes{P:Program}{t ty by_ d:Nat}(hT:fV P t e k by_)(hl:∀x,(en x).length=k)(hk0:0<k)(h:aK k en e w a n c xs g)(h1:∀x,∀v∈en x,v.oneCell'=true){s:Option Addr}(hs:SlK k en w s m ys)(h63:n+m<=maxLen)(hb:(n+m)*by_<=140737488355328){K:Value->zg6}
  (hk:∀a' c' g' u,aK k en e u a' (n+m) c' (xs++ys) g'->(g'=g\/w.heap.size<g')->Only g w u->K (.slice a' (n+m) c') u) :
  dC P (Builtin.append_ #[t,t] ty #[.slice a n c,.slice s m d]) w K:=by
 refine jJ hT hk0 h (news:=ys.flatMap en) (by rw[gQ ys (λx _=>hl x),hs.len]) (λj u hj=>?_) (λh0=>(hs.none hl hk0 h0).1) (λv hv=>?_) h63 hb λa' c' g' u hr hg ho=>?_
 .have hlt:=(za1.1 hj).1;rw[gQ ys (λx _=>hl x)]at hlt;have hi:j / k<ys.length:=(Nat.div_lt_iff_lt_mul hk0).2 hlt;obtain⟨p,hp,hc⟩:=hs.get (j / k) _ (za2 hi);have hm:j % k<(en ys[j / k]).length:=by rw[hl];exact Nat.mod_lt _ hk0
  have e1:=nY ys (λx _=>hl x) (j / k) _ (za2 hi) (j % k) _ (za2 hm);have hj':j / k*k+j % k=j:=by rw[Nat.mul_comm];exact Nat.div_add_mod j k
  rw[hj',hj]at e1;have e2:=hc (j % k) _ (za2 hm);rw[hj']at e2;refine⟨p,hp,?_⟩;rw[e2];exact e1.symm
 .obtain⟨x,_,hx⟩:=List.mem_flatMap.1 hv;exact h1 x v hx
 .exact hk a' c' g' u (by unfold aK;simpa using hr) (by omega) ho
end
theorem Aw{α:Type}{k:Nat}{en:α->List Value}{x:α}{vs:Array Value}(hl:∀x,(en x).length=k)(hk:0<k)(hv:vs.toList=en x)(n:Nat):(madeCells vs (n*k)).toList=(List.replicate n x).flatMap en:=by
 have hvs:vs.size=k:=by rw[<- Array.length_toList,hv,hl]
 apply List.ext_getElem?;intro j
 by_cases hj:j<n*k
 .have hi:j / k<n:=(Nat.div_lt_iff_lt_mul hk).2 hj;have hm:j % k<(en x).length:=by rw[hl];exact Nat.mod_lt _ hk
  have e1:=nY (List.replicate n x) (en:=en) (λx _=>hl x) (j / k) x (by rw[List.getElem?_replicate,if_pos hi]) (j % k) _ (za2 hm);have hj':j / k*k+j % k=j:=by rw[Nat.mul_comm];exact Nat.div_add_mod j k
  rw[hj']at e1;rw[e1,Array.getElem?_toList];have e2:vs.toList[j % k]?=(en x)[j % k]?:=by rw[hv]
  rw[za2 hm,Array.getElem?_toList]at e2;unfold madeCells;rw[Array.getElem?_map,hvs];have e3:(Array.range (n*k))[j]?=some j:=by simp[hj]
  rw[e3];simp only[Option.map_some,Option.some.injEq];simp[getElem!_def,e2]
 .rw[zc3 (by rw[zf2,size_madeCells];omega),zc3 (by rw[gQ _ (λx _=>hl x),zd5];omega)]
theorem aK.made{α:Type}{k:Nat}{en:α->List Value}{x:α}{vs:Array Value}(hl:∀x,(en x).length=k)(hk:0<k)(hv:vs.toList=en x)(e:Nat)(w:World)(n:Nat)(hn:n<=maxLen):aK k en e (w.alloc (.cells (madeCells vs (n*k)) e)) (some (na w)) n n (List.replicate n x) (w.heap.size+1):=by
 have:=Row.new w e k n (madeCells vs (n*k)) (size_madeCells _ _) hn
 rwa [Aw hl hk hv]at this
section
variable{w u:World}{a:Option Addr}{n c:Nat}{F S:Nat->Prop}
theorem Ia{α β:Type}{p:Nat->α->β->Prop}:∀(xs:List α),(∀i x,xs[i]?=some x->∃y,p i x y)->∃ys:List β,ys.length=xs.length/\∀i x y,xs[i]?=some x->ys[i]?=some y->p i x y:=by
 intro xs h;have each:∀i:Fin xs.length,∃y,p i xs[i] y:=λi=>h i _ (za2 i.isLt);obtain⟨f,hf⟩:=Classical.axiomOfChoice each;refine⟨List.ofFn f,by simp,λi x y hx hy=>?_⟩;obtain⟨hlt,rfl⟩:=za1.1 hx;obtain⟨hlt',rfl⟩:=za1.1 hy;simpa using hf ⟨i,hlt⟩
theorem Ls.flat{α β:Type}{T:Ty α}{k:Nat}{en:α×β->List Value}{Q:α->β->Prop}{xs:List α}(h:Ls T F w a n c xs)(hTk:T.k=k)(hrd:∀x cs,T.rd F w x cs->∃y,cs=en (x,y)/\Q x y) :
  ∃l:List (α×β),l.map (·.1)=xs/\SlK k en w a n l/\∀x∈l,Q x.1 x.2:=by
 obtain⟨ys,hl,hy⟩:=Ia (p:=λi x y=>Q x y/\∃p,a=some p/\∀j v,(en (x,y))[j]?=some v->w.cell? (p.add (i*k+j))=some v) xs λi x hx=>by
  obtain⟨p,cs,h1,_,h3,h4⟩:=h.get i x hx;obtain⟨y,rfl,hQ⟩:=hrd x cs h3;exact⟨y,hQ,p,h1,λj v hj=>by rw[<- hTk];exact h4 j v hj⟩
 have hz:∀(i:Nat) z,(xs.zip ys)[i]?=some z->xs[i]?=some z.1/\ys[i]?=some z.2:=λi z hz=>by
  rw[List.getElem?_zip_eq_some]at hz;exact hz
 refine⟨xs.zip ys,by rw[List.map_fst_zip];omega,⟨by rw[h.len,List.length_zip];omega,λi z hi=>?_⟩,λz hz'=>?_⟩
 .obtain⟨h1,h2⟩:=hz i z hi;exact(hy i z.1 z.2 h1 h2).2
 .obtain⟨i,hi⟩:=List.getElem?_of_mem hz';obtain⟨h1,h2⟩:=hz i z hi;exact(hy i z.1 z.2 h1 h2).1
theorem Ls.YZ{xs:List TD}(h:Ls tT F w a n c xs):∃l:List (TD×SH),l.map (·.1)=xs/\SlK 2 Aj w a n l/\∀x∈l,Ls tN F w x.2.a x.2.n x.2.c x.1.nodes :=
 Ls.flat (β:=SH) (en:=Aj) (Q:=λx y=>Ls tN F w y.a y.n y.c x.nodes) h rfl λx cs ⟨a,n,c,h1,h2⟩=>⟨⟨a,n,c⟩,h1,h2⟩
theorem Ls.sub{α:Type}{T:Ty α}{xs:List α}(h:Ls T F w a n c xs){i j:Nat}(hij:i<=j)(hj:j<=n):Ls T F w (slA a c i T.k) (j - i) (c - i) ((xs.take j).drop i):=by
 have hn:=h.len;have hc:=h.cap;refine⟨by rw[zb7,zb6];omega,by omega,λm x hm=>?_⟩;rw[List.getElem?_drop,zd6]at hm;split at hm
 .rename_i hlt;obtain⟨p,cs,rfl,h2,h3,h4⟩:=h.get (i+m) x hm;refine⟨p.add (i*T.k),cs,?_,by rw[add_block];exact h2,h3,λjj y hy=>?_⟩
  .unfold slA;rw[if_neg (by omega)];rfl
  .rw[add_add,show i*T.k+(m*T.k+jj)=(i+m)*T.k+jj by rw[ze7];omega];exact h4 jj y hy
 .cases hm
theorem CK.hide{w u:World}{b:Nat}(hm:Mod (λk=>k=b) w u):CK (w.putObj b (.deferred none)) u:=by
 intro a v h
 by_cases hb:a.block=b
 .exfalso;have hlt:=block_lt_of_cell h;have hlt':b<w.heap.size:=by rw[<- hb];simpa[World.putObj] using hlt
  unfold World.cell? at h;rw[hb]at h;simp[World.putObj,hlt']at h
 .have h1:w.cell? a=some v:=by
   rw[World.cell?_of_block (show(w.putObj b (.deferred none)).heap[a.block]?=w.heap[a.block]? from (Mod.put (S:=λk=>k=b) w (.deferred none) rfl).block a.block (by simpa[World.putObj] using block_lt_of_cell h) hb)]at h;exact h
  exact hm.cell hb h1
theorem OD{w:World}{b:Nat}{a:Addr}{v:Value}(h:w.cell? a=some v)(hb:a.block≠b):(w.putObj b (.deferred none)).cell? a=some v:=(Mod.put (S:=λk=>k=b) w (.deferred none) rfl).cell hb h
end
section
end
end Go.E
namespace Go.E
open Go Go.RowKit Go.ChangeShapes
abbrev RW(α:Type):=SH×List α×Nat
abbrev RW.s{α:Type}(t:RW α):SH:=t.1
abbrev RW.xs{α:Type}(t:RW α):List α:=t.2.1
abbrev RW.g{α:Type}(t:RW α):Nat:=t.2.2
abbrev a0s{α:Type}(t:RW α):Value := .slice t.1.a t.1.n t.1.c
section
variable{w:World}{a:Option Addr}{n c g:Nat}
theorem Row.ne{e e' size size':Nat}{a a':Option Addr}{n n' c c' g g':Nat}{cs cs':List Value}(h:Row w e size a n c cs g)(h':Row w e' size' a' n' c' cs' g')(hne:e≠e'):g=0\/g≠g':=by
 rcases h.2 with ⟨h0,_⟩ | ⟨b,cur,rfl,_,hb,_⟩
 .exact .inl h0
 .refine .inr λhg=>?_
  rcases h'.2 with ⟨h0,_⟩ | ⟨b',cur',hg',_,hb',_⟩
  .omega
  .obtain rfl:b=b':=by omega
   unfold Blk at hb hb';rw[hb]at hb'
   cases hb'
   exact hne rfl
end
end Go.E
namespace Go.Tr
open Go
structure MkD where
 node:Int
 frm:Int
 to:Int
deriving DecidableEq,Inhabited
def BT.nl(T:BT):Nat:=T.leaves.length
theorem BT.tK(i:Nat):(BT.leaf i).nl=1:=rfl
theorem BT.jR(i:Nat)(l r:BT):(BT.node i l r).nl=l.nl+r.nl:=by simp[BT.nl,BT.leaves]
theorem BT.mg:∀T:BT,0<T.nl
 | .leaf _=>by rw[BT.tK];omega
 | .node _ l r=>by rw[BT.jR];have:=l.mg;omega
theorem BT.DK:∀T:BT,T.nl<=T.size
 | .leaf _=>by rw[BT.tK];exact zb4 _
 | .node _ l r=>by rw[BT.jR];have:=l.DK;have:=r.DK;simp only[BT.size];omega
def BT.marks:BT->Nat->List MkD
 | .leaf _,_=>[]
 | .node i l r,k=>⟨(i:Nat),(k:Nat),(k+l.nl:Nat)⟩::(l.marks k++r.marks (k+l.nl))
theorem BT.kT:∀(T:BT) (k:Nat),(T.marks k).length+1=T.nl
 | .leaf _,_=>rfl
 | .node _ l r,k=>by
  have h1:=l.kT k;have h2:=r.kT (k+l.nl);rw[BT.jR];simp only[BT.marks,zc5,za6];omega
end Go.Tr
namespace Go.E
open Go Go.RowKit Go.ChangeShapes Go.Tr
def enM(x:MkD):List Value:=[.int .i64 x.node,.int .i64 x.frm,.int .i64 x.to]
theorem wE(x:MkD):(enM x).length=3:=rfl
theorem Qx(x:MkD):∀v∈enM x,v.oneCell'=true:=by
 intro v hv;simp only[enM,zb3,zf9,or_false]at hv
 rcases hv with h | h | h <;> subst h <;> rfl
section
variable{w u:World}{x:MkD}{a:Option Addr}{n c g e:Nat}{xs:List MkD}{i:Int}
theorem aK.a1j(h:aK 3 enM e w a n c xs g){K:zg6}(h0:0<=i)(hi:i<n){v:Int}{x:MkD}(hx:xs[i.toNat]?=some x)(hk:∀u,aK 3 enM e u a n c (xs.set i.toNat ⟨x.node,x.frm,v⟩) g->Only g w u->K u) :
  aV a λq=>chk (0<=i/\i<(n:Int)) (su w (((q.add (i.toNat*3)).add 2).add 0)/\nw (w.setCell (((q.add (i.toNat*3)).add 2).add 0) (.int .i64 v)) K):=by
 obtain⟨b,rfl,rfl,h3,h4,h5⟩:=aK.set (k:=3) (en:=enM) wE h (i:=i.toNat) (j:=2) (x:=x) (y:=⟨x.node,x.frm,v⟩) (v := .int .i64 v) hx (by omega) (by omega) rfl;refine dK ⟨h0,hi⟩ ?_;simp only[addr_add,zd1,zd2];exact⟨h3,hk _ h4 h5⟩
end
end Go.E
namespace Go.Tr
open Go
section
end
section
end
end Go.Tr
namespace Go.E
open Go Go.RowKit Go.ChangeShapes Go.Tr
section
variable{α:Type}{l:List (RW α)}{i:Int}
theorem mem_set{β:Type}{l:List β}{i:Nat}{x y:β}(h:y∈l.set i x):y=x\/∃j,j≠i/\l[j]?=some y:=by
 obtain⟨j,hj⟩:=List.getElem?_of_mem h;rw[zf4]at hj;split at hj
 .split at hj
  .exact .inl (by simpa using hj.symm)
  .cases hj
 .rename_i hne;exact .inr ⟨j,λe=>hne e.symm,hj⟩
theorem FT{β:Type}{R:β->β->Prop}{l:List β}{i:Nat}{x:β}(h:l.Pairwise R)(hl:∀j y,j<i->l[j]?=some y->R y x)(hr:∀j y,i<j->l[j]?=some y->R x y):(l.set i x).Pairwise R:=by
 rw[List.pairwise_iff_getElem]at h ⊢;intro p q hp hq hpq;rw[zf6]at hp hq;rw[List.getElem_set,List.getElem_set]
 split
 .rename_i e;subst e;rw[if_neg (by omega)];exact hr q _ hpq (za2 hq)
 .split
  .rename_i e;subst e;exact hl p _ hpq (za2 hp)
  .exact h p q hp hq hpq
end
end Go.E
namespace Go.E
open Go Go.RowKit Go.ChangeShapes
abbrev Lay:=Nat->List (Option Nat)
section
variable{w:World}
def uG(a:Option Addr)(w:World):World:=match a with
 |some p=>w.putObj p.block (.deferred none)
 |none=>w
end
end Go.E
