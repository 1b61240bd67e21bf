/- Nodes, trees and ensembles in memory; no conditions. -/
import Derived.Laws.Strings
import Derived.Test.YtmjlipmapfofmaaGreatEB
import Derived.Test.YtmjlipmapfofmaaGreatTPA
set_option linter.unusedVariables false
set_option linter.unusedSimpArgs false
set_option linter.unusedSectionVars false
namespace Go.E
open Go Go.RowKit Go.ChangeShapes Go.Tr
def enN (x:ND) (a:Option Addr) (n c:Nat):List Value:=[.int .u8 x.kind,.int .i64 x.value,.int .i64 x.feature,.float .f64 x.thr,.slice a n c,.int .u8 x.missing,.int .i64 x.left,.int .i64 x.right]
structure At8 (w:World) (p:Addr) (x:ND) (a:Option Addr) (n c:Nat):Prop where
 c0:w.cell? (p.add 0)=some (.int .u8 x.kind)
 c1:w.cell? (p.add 1)=some (.int .i64 x.value)
 c2:w.cell? (p.add 2)=some (.int .i64 x.feature)
 c3:w.cell? (p.add 3)=some (.float .f64 x.thr)
 c4:w.cell? (p.add 4)=some (.slice a n c)
 c5:w.cell? (p.add 5)=some (.int .u8 x.missing)
 c6:w.cell? (p.add 6)=some (.int .i64 x.left)
 c7:w.cell? (p.add 7)=some (.int .i64 x.right)
section
variable {w u:World} {p:Addr} {x:ND} {a a':Option Addr} {n c n' c' e:Nat} {xs:List ND} {F S:Nat→Prop}
theorem At8.of (h:∀ j v,(enN x a n c)[j]?=some v→w.cell? (p.add j)=some v):At8 w p x a n c :=
 ⟨h 0 _ rfl,h 1 _ rfl,h 2 _ rfl,h 3 _ rfl,h 4 _ rfl,h 5 _ rfl,h 6 _ rfl,h 7 _ rfl⟩
theorem At8.mod (h:At8 w p x a n c) (hm:Mod S w u) (hn:¬ S p.block):At8 u p x a n c :=
 ⟨hm.cell hn h.c0,hm.cell hn h.c1,hm.cell hn h.c2,hm.cell hn h.c3,hm.cell hn h.c4,hm.cell hn h.c5,hm.cell hn h.c6,hm.cell hn h.c7⟩
theorem At8.kept (h:At8 w p x a n c) (hm:Kept w u):At8 u p x a n c:=h.mod (S:=fun _=>False) (Kept.mod hm) (fun h=>h)
theorem At8.tH {b:World} (h:Blk w b.heap.size (enN x a n c).toArray e):At8 w (na b) x a n c := .of fun j v hj=>h.rd (by simpa using hj)
theorem At8.ld (h:At8 w p x a n c) {K:Int→Int→Int→Nat→Option Addr→Nat→Nat→Int→Int→Int→Prop} (hk:K x.kind x.value x.feature x.thr a n c x.missing x.left x.right) :
  ∃ y0:Int,w.cell? (p.add 0)=some (.int .u8 y0)∧(∃ y1:Int,w.cell? (p.add 1)=some (.int .i64 y1)∧(∃ y2:Int,w.cell? (p.add 2)=some (.int .i64 y2)∧(∃ y3:Nat,w.cell? (p.add 3)=some (.float .f64 y3) ∧
   (∃ ya:Option Addr,∃ yn:Nat,∃ yc:Nat,w.cell? (p.add 4)=some (.slice ya yn yc)∧(∃ y5:Int,w.cell? (p.add 5)=some (.int .u8 y5)∧(∃ y6:Int,w.cell? (p.add 6)=some (.int .i64 y6)∧(∃ y7:Int,w.cell? (p.add 7)=some (.int .i64 y7) ∧
    K y0 y1 y2 y3 ya yn yc y5 y6 y7))))))) :=
 ⟨_,h.c0,_,h.c1,_,h.c2,_,h.c3,_,_,_,h.c4,_,h.c5,_,h.c6,_,h.c7,hk⟩
def tN:Ty ND where
 k:=8
 rd F w x cs:=∃ a n c,cs=enN x a n c∧Ls (vP .i64) F w a n c x.bH
 len:=by rintro F w x cs ⟨a,n,c,rfl,_⟩; rfl
 one:=by
  rintro F w x cs ⟨a,n,c,rfl,_⟩ v hv
  simp only [enN,List.mem_cons,List.not_mem_nil,or_false] at hv
  rcases hv with h | h | h | h | h | h | h | h <;> subst h <;> rfl
 mono:=by rintro F F' w x cs hF ⟨a,n,c,rfl,h⟩; exact ⟨a,n,c,rfl,h.mono hF⟩
 keep:=by rintro F w u x cs hu ⟨a,n,c,rfl,h⟩; exact ⟨a,n,c,rfl,h.keep hu⟩
theorem Ls.nd (h:Ls tN F w a n c xs) {i:Nat} (hi:i<n):∃ p x a' n' c',a=some p∧F p.block∧xs[i]?=some x∧At8 w (p.add (i*8)) x a' n' c'∧Ls (vP .i64) F w a' n' c' x.bH:=by
 have hi':i<xs.length:=h.len ▸ hi
 obtain ⟨p,cs,rfl,h2,⟨a',n',c',rfl,h3⟩,h4⟩:=h.get i _ (List.getElem?_eq_getElem hi')
 exact ⟨p,_,a',n',c',rfl,h2,List.getElem?_eq_getElem hi',.of fun j v hj=>by rw [add_add]; exact h4 j v hj,h3⟩
theorem Ls.rdN (h:Ls tN F w a n c xs) {i:Int} {K:Int→Int→Int→Nat→Option Addr→Nat→Nat→Int→Int→Int→Prop} (h0:0≤i) (hi:i<n)
  (hk:∀ x a' n' c',xs[i.toNat]?=some x→Ls (vP .i64) F w a' n' c' x.bH→K x.kind x.value x.feature x.thr a' n' c' x.missing x.left x.right) :
  bK a fun q=>chk (0≤i∧i<(n:Int)) (∃ y0:Int,w.cell? ((q.add (i.toNat*8)).add 0)=some (.int .u8 y0)∧(∃ y1:Int,w.cell? ((q.add (i.toNat*8)).add 1)=some (.int .i64 y1)∧(∃ y2:Int,w.cell? ((q.add (i.toNat*8)).add 2)=some (.int .i64 y2)∧(∃ y3:Nat,w.cell? ((q.add (i.toNat*8)).add 3)=some (.float .f64 y3) ∧
   (∃ ya:Option Addr,∃ yn:Nat,∃ yc:Nat,w.cell? ((q.add (i.toNat*8)).add 4)=some (.slice ya yn yc)∧(∃ y5:Int,w.cell? ((q.add (i.toNat*8)).add 5)=some (.int .u8 y5)∧(∃ y6:Int,w.cell? ((q.add (i.toNat*8)).add 6)=some (.int .i64 y6)∧(∃ y7:Int,w.cell? ((q.add (i.toNat*8)).add 7)=some (.int .i64 y7) ∧
    K y0 y1 y2 y3 ya yn yc y5 y6 y7)))))))):=by
 obtain ⟨p,x,a',n',c',rfl,_,hx,h8,hc⟩:=h.nd (i:=i.toNat) (by omega)
 exact dJ ⟨h0,hi⟩ (h8.ld (hk x a' n' c' hx hc))
theorem Ls.rdF (h:Ls tN F w a n c xs) {i:Int} {K:Addr→Prop} (h0:0≤i) (hi:i<n) (hk:∀ p x a' n' c',xs[i.toNat]?=some x→Ls (vP .i64) F w a' n' c' x.bH→At8 w (p.add (i.toNat*8)) x a' n' c'→K p) :
  bK a fun q=>chk (0≤i∧i<(n:Int)) (K q):=by
 obtain ⟨p,x,a',n',c',rfl,_,hx,h8,hc⟩:=h.nd (i:=i.toNat) (by omega)
 exact dJ ⟨h0,hi⟩ (hk p x a' n' c' hx hc h8)
theorem Sv {x:ND} {a:Option Addr} {n c:Nat} {K:World→Prop} (hk:∀ u,Blk u w.heap.size (enN x a n c).toArray e→At8 u (na w) x a n c→Kept w u→K u) :
  nw (w.alloc (.cells #[.int .u8 x.kind,.int .i64 x.value,.int .i64 x.feature,.float .f64 x.thr,.slice a n c,.int .u8 x.missing,.int .i64 x.left,.int .i64 x.right] e)) K :=
 bU (hk _ (Blk.new w _ e) (.tH (Blk.new w (enN x a n c).toArray e)) (Kept.new w _))
set_option maxHeartbeats 1000000 in
theorem oD {x:ND} {a:Option Addr} {n c:Nat} {K:World→Prop} (hk:∀ u,Blk u w.heap.size (enN x a n c).toArray e→At8 u (na w) x a n c→Kept w u→K u) :
  nw (w.alloc (.cells #[.int .u8 0,.int .i64 0,.int .i64 0,.float .f64 0,.slice none 0 0,.int .u8 0,.int .i64 0,.int .i64 0] e)) fun w1=>nD w1 ((na w).add 0)∧(nw (w1.setCell ((na w).add 0) (.int .u8 x.kind)) fun w2=>nD w2 ((na w).add 1)∧(nw (w2.setCell ((na w).add 1) (.int .i64 x.value)) fun w3 =>
   nD w3 ((na w).add 2)∧(nw (w3.setCell ((na w).add 2) (.int .i64 x.feature)) fun w4=>nD w4 ((na w).add 3)∧(nw (w4.setCell ((na w).add 3) (.float .f64 x.thr)) fun w5=>nD w5 ((na w).add 4)∧(nw (w5.setCell ((na w).add 4) (.slice a n c)) fun w6 =>
   nD w6 ((na w).add 5)∧(nw (w6.setCell ((na w).add 5) (.int .u8 x.missing)) fun w7=>nD w7 ((na w).add 6)∧(nw (w7.setCell ((na w).add 6) (.int .i64 x.left)) fun w8=>nD w8 ((na w).add 7)∧(nw (w8.setCell ((na w).add 7) (.int .i64 x.right)) K)))))))):=by
 have b0:=Blk.new w #[.int .u8 0,.int .i64 0,.int .i64 0,.float .f64 0,.slice none 0 0,.int .u8 0,.int .i64 0,.int .i64 0] e
 have s0:From w.heap.size w _:=Kept.mod (Kept.new w (.cells #[.int .u8 0,.int .i64 0,.int .i64 0,.float .f64 0,.slice none 0 0,.int .u8 0,.int .i64 0,.int .i64 0] e))
 have b1:Blk _ _ #[.int .u8 x.kind,.int .i64 0,.int .i64 0,.float .f64 0,.slice none 0 0,.int .u8 0,.int .i64 0,.int .i64 0] e:=b0.set 0 (.int .u8 x.kind)
 have b2:Blk _ _ #[.int .u8 x.kind,.int .i64 x.value,.int .i64 0,.float .f64 0,.slice none 0 0,.int .u8 0,.int .i64 0,.int .i64 0] e:=b1.set 1 (.int .i64 x.value)
 have b3:Blk _ _ #[.int .u8 x.kind,.int .i64 x.value,.int .i64 x.feature,.float .f64 0,.slice none 0 0,.int .u8 0,.int .i64 0,.int .i64 0] e:=b2.set 2 (.int .i64 x.feature)
 have b4:Blk _ _ #[.int .u8 x.kind,.int .i64 x.value,.int .i64 x.feature,.float .f64 x.thr,.slice none 0 0,.int .u8 0,.int .i64 0,.int .i64 0] e:=b3.set 3 (.float .f64 x.thr)
 have b5:Blk _ _ #[.int .u8 x.kind,.int .i64 x.value,.int .i64 x.feature,.float .f64 x.thr,.slice a n c,.int .u8 0,.int .i64 0,.int .i64 0] e:=b4.set 4 (.slice a n c)
 have b6:Blk _ _ #[.int .u8 x.kind,.int .i64 x.value,.int .i64 x.feature,.float .f64 x.thr,.slice a n c,.int .u8 x.missing,.int .i64 0,.int .i64 0] e:=b5.set 5 (.int .u8 x.missing)
 have b7:Blk _ _ #[.int .u8 x.kind,.int .i64 x.value,.int .i64 x.feature,.float .f64 x.thr,.slice a n c,.int .u8 x.missing,.int .i64 x.left,.int .i64 0] e:=b6.set 6 (.int .i64 x.left)
 have b8:Blk _ _ #[.int .u8 x.kind,.int .i64 x.value,.int .i64 x.feature,.float .f64 x.thr,.slice a n c,.int .u8 x.missing,.int .i64 x.left,.int .i64 x.right] e:=b7.set 7 (.int .i64 x.right)
 simp only [fQ]
 have st:∀ {u:World} (i:Nat) (v:Value),From w.heap.size w u→From w.heap.size w (u.setCell ⟨w.heap.size,i,none⟩ v):=fun i v s=>From.then s (Only.set _ w.heap.size i v) fun k h1 h2=>by omega
 refine bU ⟨b0.ok (by simp),bU ⟨b1.ok (by simp),bU ⟨b2.ok (by simp),bU ⟨b3.ok (by simp),bU ⟨b4.ok (by simp),bU ⟨b5.ok (by simp),bU ⟨b6.ok (by simp),bU ⟨b7.ok (by simp),hk _ b8 (.tH b8) ?_⟩⟩⟩⟩⟩⟩⟩⟩
 exact (st _ _ (st _ _ (st _ _ (st _ _ (st _ _ (st _ _ (st _ _ (st _ _ s0)))))))).kept
structure At2 (w:World) (p:Addr) (o:Int) (a:Option Addr) (n c:Nat):Prop where
 c0:w.cell? (p.add 0)=some (.int .i64 o)
 c1:w.cell? (p.add 1)=some (.slice a n c)
theorem At2.mod {o:Int} (h:At2 w p o a n c) (hm:Mod S w u) (hn:¬ S p.block):At2 u p o a n c:=⟨hm.cell hn h.c0,hm.cell hn h.c1⟩
theorem At2.kept {o:Int} (h:At2 w p o a n c) (hm:Kept w u):At2 u p o a n c:=h.mod (S:=fun _=>False) (Kept.mod hm) (fun h=>h)
def tT:Ty TD where
 k:=2
 rd F w x cs:=∃ a n c,cs=[.int .i64 x.output,.slice a n c]∧Ls tN F w a n c x.nodes
 len:=by rintro F w x cs ⟨a,n,c,rfl,_⟩; rfl
 one:=by
  rintro F w x cs ⟨a,n,c,rfl,_⟩ v hv
  simp only [List.mem_cons,List.not_mem_nil,or_false] at hv
  rcases hv with h | h <;> subst h <;> rfl
 mono:=by rintro F F' w x cs hF ⟨a,n,c,rfl,h⟩; exact ⟨a,n,c,rfl,h.mono hF⟩
 keep:=by rintro F w u x cs hu ⟨a,n,c,rfl,h⟩; exact ⟨a,n,c,rfl,h.keep hu⟩
theorem Ls.td {xs:List TD} (h:Ls tT F w a n c xs) {i:Nat} (hi:i<n):∃ p x a' n' c',a=some p∧F p.block∧xs[i]?=some x∧At2 w (p.add (i*2)) x.output a' n' c'∧Ls tN F w a' n' c' x.nodes:=by
 have hi':i<xs.length:=h.len ▸ hi
 obtain ⟨p,cs,rfl,h2,⟨a',n',c',rfl,h3⟩,h4⟩:=h.get i _ (List.getElem?_eq_getElem hi')
 exact ⟨p,_,a',n',c',rfl,h2,List.getElem?_eq_getElem hi',⟨by rw [add_add]; exact h4 0 _ rfl,by rw [add_add]; exact h4 1 _ rfl⟩,h3⟩
theorem Ls.rdT {xs:List TD} (h:Ls tT F w a n c xs) {i:Int} {K:Int→Option Addr→Nat→Nat→Prop} (h0:0≤i) (hi:i<n) (hk:∀ x a' n' c',xs[i.toNat]?=some x→Ls tN F w a' n' c' x.nodes→K x.output a' n' c') :
  bK a fun q=>chk (0≤i∧i<(n:Int)) (∃ y0:Int,w.cell? ((q.add (i.toNat*2)).add 0)=some (.int .i64 y0)∧(∃ ya:Option Addr,∃ yn:Nat,∃ yc:Nat,w.cell? ((q.add (i.toNat*2)).add 1)=some (.slice ya yn yc)∧K y0 ya yn yc)):=by
 obtain ⟨p,x,a',n',c',rfl,_,hx,h2,hc⟩:=h.td (i:=i.toNat) (by omega)
 exact dJ ⟨h0,hi⟩ ⟨_,h2.c0,_,_,_,h2.c1,hk x a' n' c' hx hc⟩
theorem ny {o:Int} {a:Option Addr} {n c:Nat} {K:World→Prop} (hk:∀ u,Blk u w.heap.size #[.int .i64 o,.slice a n c] e→At2 u (na w) o a n c→Kept w u→K u) :
  nw (w.alloc (.cells #[.int .i64 o,.slice a n c] e)) K:=by
 have b:=Blk.new w #[.int .i64 o,.slice a n c] e
 exact bU (hk _ b ⟨b.rd (by simp),b.rd (by simp)⟩ (Kept.new w _))
end
end Go.E
namespace Go.E
open Go Go.Tr
abbrev vN (x:ND) (a:Option Addr) (n c:Nat):Value := .agg #[.int .u8 x.kind,.int .i64 x.value,.int .i64 x.feature,.float .f64 x.thr,.slice a n c,.int .u8 x.missing,.int .i64 x.left,.int .i64 x.right]
abbrev vT (o:Int) (a:Option Addr) (n c:Nat):Value := .agg #[.int .i64 o,.slice a n c]
def iG (f:Nat):Bool:=FloatKind.f64.format.order f f != some .eq
end Go.E
namespace Go.E
open Go Go.RowKit Go.ChangeShapes Go.Tr
theorem mg (a:Option Addr) (m sz:Nat):slA a m 0 sz=a:=by
 unfold slA
 split
 ·rfl
 ·cases a with
  | none=>rfl
  | some p=>simp [add_zero]
section
variable {w u:World} {e size:Nat} {a:Option Addr} {n c g m:Nat} {cs:List Value} {S:Nat→Prop}
theorem Row.take (h:Row w e size a n c cs g) (hm:m≤n):Row w e size a m c (cs.take (m*size)) g:=by
 have hle:m*size≤n*size:=Nat.mul_le_mul_right _ hm
 refine ⟨by rw [List.length_take,h.1]; omega,?_⟩
 rcases h.2 with ⟨h1,h2,h3,h4⟩ | ⟨b,cur,h1,h2,h3,h4,h5,h6,h7⟩
 ·exact .inl ⟨h1,h2,by omega,h4⟩
 ·exact .inr ⟨b,cur,h1,h2,h3,by omega,h5,h6,by rw [← h7,List.take_take,Nat.min_eq_left hle]⟩
theorem Row.new (w:World) (e size n:Nat) (cs:Array Value) (hl:cs.size=n*size) (hn:n≤maxLen):Row (w.alloc (.cells cs e)) e size (some (na w)) n n cs.toList (w.heap.size+1) :=
 ⟨by simpa using hl,.inr ⟨w.heap.size,cs,rfl,rfl,Blk.new w cs e,Nat.le_refl _,hn,hl,by rw [← hl,List.take_of_length_le (by simp)]⟩⟩
end
section
variable {α:Type} {en:α→Value} {w u:World} {a:Option Addr} {n c g e m:Nat} {xs ys:List α} {S:Nat→Prop}
theorem Arr.take (h:Arr en e w a n c xs g) (hm:m≤n):Arr en e w a m c (xs.take m) g:=by
 have:=Row.take h hm
 rwa [Nat.mul_one,← List.map_take] at this
theorem Arr.new (en:α→Value) (e:Nat) (w:World) (xs:List α) (cs:Array Value) (hc:cs.toList=xs.map en) (hn:xs.length≤maxLen):Arr en e (w.alloc (.cells cs e)) (some (na w)) xs.length xs.length xs (w.heap.size+1):=by
 have:=Row.new w e 1 xs.length cs (by rw [← Array.length_toList,hc]; simp) hn
 rwa [hc] at this
theorem Arr.oz {P:Program} {t ty by_:Nat} (hT:fE P t e 1 by_) (h:Arr en e w a n c xs g) (h1:∀ x,(en x).oneCell'=true) {cs:Array Value} {m:Nat} {ys:List α} (hc:cs.toList=ys.map en) (hm:m=ys.length) (hm0:0<m) (h63:n+m≤maxLen) (hb:(n+m)*by_≤140737488355328) {K:Value→World→Prop}
  (hk:∀ a' c' g' u,Arr en e u a' (n+m) c' (xs++ys) g'→(g'=g∨w.heap.size<g')→g'≠0→Only g w u→K (.slice a' (n+m) c') u) :
  nw (w.alloc (.cells cs e)) fun w'=>dm P (Builtin.append_ #[t,t] ty #[.slice a n c,.slice (some (na w)) m m]) w' K:=by
 have hn:=Kept.new w (.cells cs e)
 refine jH hT (by omega) (Row.kept h hn) (news:=ys.map en) (by simp [hm]) (fun j u hj=>⟨_,rfl,by rw [qX,← Array.getElem?_toList,hc]; exact hj⟩) (fun h=>by cases h) (by simpa using fun x _=>h1 x) h63 hb fun a' c' g' u hr hg ho=>?_
 refine hk a' c' g' u (by unfold Arr; simpa using hr) (by rcases hg with h | h <;> simp_all; omega) ?_ ?_
 ·rcases hr.2 with ⟨_,_,h0,_⟩ | ⟨b,_,rfl,_⟩ <;> omega
 ·exact (Kept.mod (S:=fun k=>k+1=g) hn).trans ho (fun _ _ h=>h) (fun _ _ h=>h)
theorem Arr.pos (h:Arr en e w a n c xs g) (hn:0<n):0<g:=by
 rcases h.2 with ⟨_,_,h0,_⟩ | ⟨b,_,rfl,_⟩ <;> omega
theorem From.only {B:Nat} {x:World} (h:From B w u) (k:Only g u x) (hg:g=0∨B<g):From B w x:=Mod.trans (S:=fun k=>B≤k) h k (fun _ _ h=>h) (fun b _ hb=>by show B≤b; have hb':b+1=g:=hb; omega)
theorem From.refl (B:Nat) (w:World):From B w w:=Mod.refl (S:=fun k=>B≤k) w
theorem From.ls {T:Ty α} {F:Nat→Prop} {B:Nat} (h:Ls T F w a n c xs) (hm:From B w u) (hF:∀ b,F b→b<B):Ls T F u a n c xs:=h.mod (S:=fun k=>B≤k) hm fun b hb hB=>by have:=hF b hb; have hB':B≤b:=hB; omega
end
section
variable {w u:World} {p:Addr} {a:Option Addr} {n c:Nat} {o:Int}
theorem At2.lt (h:At2 w p o a n c):p.block<w.heap.size:=by have:=block_lt_of_cell h.c0; rwa [add_block] at this
theorem At2.from (h:At2 w p o a n c) (hm:From w.heap.size w u):At2 u p o a n c:=h.mod (S:=fun k=>w.heap.size≤k) hm (fun hb=>by have:=h.lt; have hb':w.heap.size≤p.block:=hb; omega)
end
end Go.E
namespace Go.E
open Go Go.RowKit
def Ac {α:Type} (en:α→Value) (e:Nat) (w u:World) (a:Option Addr) (n c:Nat) (xs:List α):Prop:=∃ g,Arr en e u a n c xs g∧(g=0∨w.heap.size<g)∧Kept w u
section
variable {α:Type} {en:α→Value} {e:Nat} {w u x:World} {a:Option Addr} {n c:Nat} {xs:List α}
theorem Ac.len (h:Ac en e w u a n c xs):n=xs.length:=by obtain ⟨g,h,_⟩:=h; exact h.len
theorem Ac.kept (h:Ac en e w u a n c xs):Kept w u:=by obtain ⟨g,_,_,h⟩:=h; exact h
theorem Ac.sl (h:Ac en e w u a n c xs):Sl en u a n xs:=by obtain ⟨g,h,_⟩:=h; exact h.sl
theorem Ac.ahead (h:Ac en e u x a n c xs) (hk:Kept w u):Ac en e w x a n c xs:=by
 obtain ⟨g,h1,h2,h3⟩:=h
 refine ⟨g,h1,h2.imp id (fun h=>Nat.lt_of_le_of_lt hk.size h),Kept.trans hk h3⟩
end
end Go.E
namespace Go.E
open Go Go.RowKit
section
variable {α:Type} {k:Nat} {en:α→List Value} {w u:World} {a:Option Addr} {n c g e m:Nat} {xs ys:List α} {S:Nat→Prop}
theorem ug (hl:∀ x,(en x).length=k):∀ (xs:List α) (m:Nat),(xs.flatMap en).take (m*k)=(xs.take m).flatMap en
 | [],m=>by simp
 | x::xs,0=>by simp
 | x::xs,m+1=>by
  rw [List.take_succ_cons,List.flatMap_cons,List.flatMap_cons,List.take_append,hl,List.take_of_length_le (by rw [hl,Nat.succ_mul]; omega),show (m+1)*k - k=m*k from by rw [Nat.succ_mul]; omega,ug hl xs m]
theorem aO.take (hl:∀ x,(en x).length=k) (h:aO k en e w a n c xs g) (hm:m≤n):aO k en e w a m c (xs.take m) g:=by
 have:=Row.take h hm
 rwa [ug hl] at this
theorem aO.capLe (h:aO k en e w a n c xs g):n≤c:=Row.cap h
theorem aO.new (hl:∀ x,(en x).length=k) (e:Nat) (w:World) (xs:List α) (cs:Array Value) (hc:cs.toList=xs.flatMap en) (hn:xs.length≤maxLen):aO k en e (w.alloc (.cells cs e)) (some (na w)) xs.length xs.length xs (w.heap.size+1):=by
 have:=Row.new w e k xs.length cs (by rw [← Array.length_toList,hc,gQ xs (fun x _=>hl x)]) hn
 rwa [hc] at this
theorem aO.oz {P:Program} {t ty by_:Nat} (hT:fE P t e k by_) (hl:∀ x,(en x).length=k) (hk0:0<k) (h:aO k en e w a n c xs g) (h1:∀ x,∀ v∈en x,v.oneCell'=true) {cs:Array Value} {m:Nat} {ys:List α} (hc:cs.toList=ys.flatMap en) (hm:m=ys.length) (hm0:0<m) (h63:n+m≤maxLen) (hb:(n+m)*by_≤140737488355328) {K:Value→World→Prop}
  (hk:∀ a' c' g' u,aO k en e u a' (n+m) c' (xs++ys) g'→(g'=g∨w.heap.size<g')→g'≠0→Only g w u→K (.slice a' (n+m) c') u) :
  nw (w.alloc (.cells cs e)) fun w'=>dm P (Builtin.append_ #[t,t] ty #[.slice a n c,.slice (some (na w)) m m]) w' K:=by
 have hn:=Kept.new w (.cells cs e)
 refine jH hT hk0 (Row.kept h hn) (news:=ys.flatMap en) (by rw [gQ ys (fun x _=>hl x),hm]) (fun j u hj=>⟨_,rfl,by rw [qX,← Array.getElem?_toList,hc]; exact hj⟩) (fun h=>by cases h) (fun v hv=>?_) h63 hb fun a' c' g' u hr hg ho=>?_
 ·obtain ⟨x,_,hx⟩:=List.mem_flatMap.1 hv
  exact h1 x v hx
 refine hk a' c' g' u (by unfold aO; simpa using hr) (by rcases hg with h | h <;> simp_all; omega) ?_ ?_
 ·rcases hr.2 with ⟨_,_,h0,_⟩ | ⟨b,_,rfl,_⟩ <;> omega
 ·exact (Kept.mod (S:=fun k=>k+1=g) hn).trans ho (fun _ _ h=>h) (fun _ _ h=>h)
end
end Go.E
namespace Go.E
open Go Go.RowKit
theorem Sl.from {α:Type} {en:α→Value} {w u:World} {a:Option Addr} {n:Nat} {xs:List α} (h:Sl en w a n xs) (hm:From w.heap.size w u):Sl en u a n xs:=h.keep (From.kept hm)
end Go.E
namespace Go.E
open Go Go.RowKit Go.ChangeShapes Go.Tr
structure SH where
 a:Option Addr
 n:Nat
 c:Nat
abbrev SH.v (s:SH):Value := .slice s.a s.n s.c
def enE (e:ED) (f b t:SH):List Value:=[.string e.name,.slice f.a f.n f.c,.int .i64 e.outputs,.slice b.a b.n b.c,.slice t.a t.n t.c]
abbrev vE (e:ED) (f b t:SH):Value := .agg #[.string e.name,.slice f.a f.n f.c,.int .i64 e.outputs,.slice b.a b.n b.c,.slice t.a t.n t.c]
structure At5 (w:World) (p:Addr) (e:ED) (f b t:SH):Prop where
 c0:w.cell? (p.add 0)=some (.string e.name)
 c1:w.cell? (p.add 1)=some (.slice f.a f.n f.c)
 c2:w.cell? (p.add 2)=some (.int .i64 e.outputs)
 c3:w.cell? (p.add 3)=some (.slice b.a b.n b.c)
 c4:w.cell? (p.add 4)=some (.slice t.a t.n t.c)
section
variable {w u:World} {p:Addr} {e:ED} {f b t:SH} {S:Nat→Prop} {ty:Nat}
theorem At5.mod (h:At5 w p e f b t) (hm:Mod S w u) (hn:¬ S p.block):At5 u p e f b t:=⟨hm.cell hn h.c0,hm.cell hn h.c1,hm.cell hn h.c2,hm.cell hn h.c3,hm.cell hn h.c4⟩
theorem At5.kept (h:At5 w p e f b t) (hm:Kept w u):At5 u p e f b t:=h.mod (S:=fun _=>False) (Kept.mod hm) (fun h=>h)
theorem At5.lt (h:At5 w p e f b t):p.block<w.heap.size:=by have:=block_lt_of_cell h.c0; rwa [add_block] at this
theorem At5.from (h:At5 w p e f b t) (hm:From w.heap.size w u):At5 u p e f b t:=h.kept (From.kept hm)
theorem At5.tH {b0:World} (h:Blk w b0.heap.size (enE e f b t).toArray ty):At5 w (na b0) e f b t:=⟨h.rd rfl,h.rd rfl,h.rd rfl,h.rd rfl,h.rd rfl⟩
theorem UA {K:World→Prop} (hk:∀ u,Blk u w.heap.size (enE e f b t).toArray ty→At5 u (na w) e f b t→Kept w u→K u) :
  nw (w.alloc (.cells #[.string e.name,.slice f.a f.n f.c,.int .i64 e.outputs,.slice b.a b.n b.c,.slice t.a t.n t.c] ty)) K :=
 bU (hk _ (Blk.new w _ ty) (.tH (Blk.new w (enE e f b t).toArray ty)) (Kept.new w _))
theorem uY {o:Int} {a:Option Addr} {n c:Nat} {K:World→Prop} (hk:∀ u,Blk u w.heap.size #[.int .i64 o,.slice a n c] ty→At2 u (na w) o a n c→Kept w u→K u) :
  nw (w.alloc (.cells #[.int .i64 0,.slice none 0 0] ty)) fun w1=>nD w1 ((na w).add 0)∧(nw (w1.setCell ((na w).add 0) (.int .i64 o)) fun w2=>nD w2 ((na w).add 1)∧(nw (w2.setCell ((na w).add 1) (.slice a n c)) K)):=by
 have b0:=Blk.new w #[.int .i64 0,.slice none 0 0] ty
 have b1:Blk _ _ #[.int .i64 o,.slice none 0 0] ty:=b0.set 0 (.int .i64 o)
 have b2:Blk _ _ #[.int .i64 o,.slice a n c] ty:=b1.set 1 (.slice a n c)
 simp only [fQ]
 refine bU ⟨b0.ok (by simp),bU ⟨b1.ok (by simp),hk _ b2 ⟨b2.rd rfl,b2.rd rfl⟩ ?_⟩⟩
 have s1:From w.heap.size w _:=Kept.mod (Kept.new w (.cells #[.int .i64 0,.slice none 0 0] ty))
 have s2:=From.then s1 (Only.set _ w.heap.size 0 (.int .i64 o)) fun k h1 h2=>by omega
 exact (From.then s2 (Only.set _ w.heap.size 1 (.slice a n c)) fun k h1 h2=>by omega).kept
end
theorem Pm {α:Type} {en:α→Value} {P:Program} {w:World} {t ty e by_:Nat} (hT:fE P t e 1 by_) (h1:∀ x,(en x).oneCell'=true) {a:Option Addr} {n c:Nat} {xs:List α} (hs:Sl en w a n xs) (h63:n≤maxLen) (hb:n*by_≤140737488355328) {R:Value→World→Prop} {K:Value→World→Prop}
  (hR:a=none→xs=[]→R (.slice none 0 0) w) (hk:∀ a' c' u,Ac en e w u a' n c' xs→K (.slice a' n c') u) :
  af a.isNone (R (.slice none 0 0) w) (nw (w.alloc (.cells #[] e)) fun w'=>dm P (Builtin.append_ #[t,t] ty #[.slice (some (na w)) 0 0,.slice a n c]) w' K):=by
 refine (aH _ _ _).2 ⟨fun h=>hR (by simpa using h) ?_,fun h=>bU ?_⟩
 ·have ha:a=none:=by simpa using h
  subst ha
  cases xs with
  | nil=>rfl
  | cons x xs=>obtain ⟨p,hp,_⟩:=hs.get 0 x rfl; cases hp
 ·have hk0:=Kept.new w (.cells #[] e)
  have h0:=Arr.new en e w [] #[] rfl (by simp [maxLen])
  refine Arr.pushes hT h0 h1 (hs.keep hk0) (by simpa using h63) (by simpa using hb) fun a' c' g' u ha hg ho=>?_
  simp only [List.length_nil,Nat.zero_add,List.nil_append] at ha ⊢
  refine hk a' c' u ⟨g',ha,?_,?_⟩
  ·have:w.heap.size<(w.alloc (.cells #[] e)).heap.size:=by simp
   rcases hg with h | h
   ·exact .inr (by omega)
   ·exact .inr (by omega)
  ·exact ((Kept.mod (S:=fun k=>w.heap.size≤k) hk0).trans ho (U:=fun k=>w.heap.size≤k) (fun _ _ h=>h) (fun k _ h=>by show w.heap.size≤k; have h':k+1=w.heap.size+1:=h; omega)).kept (fun k h1 h2=>by have h2':w.heap.size≤k:=h2; omega)
end Go.E
namespace Go.E
open Go Go.RowKit Go.ChangeShapes Go.Tr
noncomputable def jh (p:Prop):Bool := @decide p (Classical.propDecidable p)
theorem gm {p:Prop} (h:p):jh p=true := @decide_eq_true p (Classical.propDecidable p) h
theorem bY {p:Prop} (h:¬ p):jh p=false := @decide_eq_false p (Classical.propDecidable p) h
theorem pX {p q:Prop} (h:p↔q):jh p=jh q:=by
 by_cases hp:p
 ·rw [gm hp,gm (h.1 hp)]
 ·rw [bY hp,bY (fun hq=>hp (h.2 hq))]
theorem EK {p:Prop} [Decidable p]:decide p=jh p:=by
 by_cases h:p
 ·rw [decide_eq_true h,gm h]
 ·rw [decide_eq_false h,bY h]
theorem str_eq (a b:ByteArray):(a.toList==b.toList)=jh (a=b):=by
 have e:(a.toList==b.toList)=decide (a=b):=by
  rw [Bool.eq_iff_iff]
  simp only [beq_iff_eq,decide_eq_true_eq]
  rw [ByteArray.toList_eq,ByteArray.toList_eq]
  exact ⟨fun h=>by cases a; cases b; simpa [Array.toList_inj] using h,fun h=>by rw [h]⟩
 rw [e,EK]
def enH (x:ND×SH):List Value:=enN x.1 x.2.a x.2.n x.2.c
def xu (x:TD×SH):List Value:=[.int .i64 x.1.output,.slice x.2.a x.2.n x.2.c]
section
variable {α β:Type} {T:Ty α} {k:Nat} {en:β→List Value} {f:β→α} {w u:World} {a:Option Addr} {n c g e:Nat} {F S:Nat→Prop}
theorem aO.lsK {l:List β} (hl:∀ x,(en x).length=k) (hk:0<k) (hTk:T.k=k) (h:aO k en e w a n c l g) (hF:∀ b,b+1=g→F b) (hc:∀ x∈l,T.rd F w (f x) (en x)):Ls T F w a n c (l.map f):=by
 refine ⟨by rw [List.length_map]; exact aO.len hl hk h,h.capLe,fun i x hi=>?_⟩
 rw [List.getElem?_map] at hi
 obtain ⟨y,hy,rfl⟩:=Option.map_eq_some_iff.1 hi
 have hf:∀ j v,(en y)[j]?=some v→(l.flatMap en)[i*k+j]?=some v:=fun j v hj=>oN l (fun x _=>hl x) i y hy j v hj
 obtain ⟨v0,h0⟩:∃ v,(en y)[0]?=some v:=⟨(en y)[0]'(by rw [hl]; omega),List.getElem?_eq_getElem _⟩
 obtain ⟨b,hb,rfl,_⟩:=Row.cell h (hf 0 v0 h0)
 refine ⟨_,en y,rfl,hF b hb.symm,hc y (List.mem_of_getElem? hy),fun j v hj=>?_⟩
 obtain ⟨b',hb',_,hcell⟩:=Row.cell h (hf j v hj)
 obtain rfl:b'=b:=by omega
 rw [addr_add,Nat.zero_add,hTk]
 exact hcell
theorem wu (hl:∀ x,(en x).length=k):∀ (xs:List β) (i:Nat) (y:β),i<xs.length→(xs.flatMap en).take (i*k)++en y++(xs.flatMap en).drop (i*k+k)=(xs.set i y).flatMap en
 | [],i,y,h=>by simp at h
 | x::xs,0,y,_=>by
  rw [Nat.zero_mul,List.take_zero,List.nil_append,Nat.zero_add,List.flatMap_cons,List.drop_append,hl,Nat.sub_self,List.drop_zero,List.drop_of_length_le (by rw [hl]; exact Nat.le_refl _),List.nil_append,List.set_cons_zero,List.flatMap_cons]
 | x::xs,i+1,y,h=>by
  have ih:=wu hl xs i y (by simpa using h)
  rw [List.set_cons_succ,List.flatMap_cons,List.flatMap_cons,List.take_append,hl,List.take_of_length_le (by rw [hl,Nat.succ_mul]; omega),show (i+1)*k - k=i*k by rw [Nat.succ_mul]; omega,List.drop_append,hl,List.drop_of_length_le (by rw [hl,Nat.succ_mul]; omega),List.nil_append,show (i+1)*k+k - k=i*k+k by rw [Nat.succ_mul]; omega,← ih]
  simp only [List.append_assoc]
def Ur:List Value→Nat→List Value→List Value
 | cs,_,[]=>cs
 | cs,p,v::vs=>Ur (cs.set p v) (p+1) vs
theorem Jf:∀ (vs cs:List Value) (p:Nat),p+vs.length≤cs.length→Ur cs p vs=cs.take p++vs++cs.drop (p+vs.length)
 | [],cs,p,_=>by simp [Ur]
 | v::vs,cs,p,h=>by
  simp only [List.length_cons] at h
  unfold Ur
  rw [Jf vs (cs.set p v) (p+1) (by simp; omega),List.drop_set_of_lt (by omega),List.take_set,List.length_cons,show p+1+vs.length=p+(vs.length+1) by omega,List.take_succ_eq_append_getElem (by omega),List.set_append_right _ _ (by simp; omega)]
  have:p - (cs.take p).length=0:=by rw [List.length_take]; omega
  rw [this,List.set_cons_zero]
  simp
def wrS:World→Addr→Nat→List Value→(World→Prop)→Prop
 | w,_,_,[],K=>K w
 | w,q,j,v::vs,K=>nD w (q.add j)∧nw (w.setCell (q.add j) v) fun w'=>wrS w' q (j+1) vs K
theorem Row.wrS {size:Nat} {b:Nat} {K:World→Prop}:∀ (vs:List Value) (w:World) (cs:List Value) (p j:Nat),Row w e size (some ⟨b,0,none⟩) n c cs (b+1)→p+j+vs.length≤n*size→(∀ u,Row u e size (some ⟨b,0,none⟩) n c (Ur cs (p+j) vs) (b+1)→Only (b+1) w u→K u)→wrS w (⟨b,p,none⟩:Addr) j vs K
 | [],w,cs,p,j,h,_,hk=>hk w h (Mod.refl _)
 | v::vs,w,cs,p,j,h,hlt,hk=>by
  simp only [List.length_cons] at hlt
  obtain ⟨b',hb',_,hok,hr,ho⟩:=Row.set h (i:=p+j) (by omega) v
  obtain rfl:b'=b:=by omega
  refine ⟨by rw [addr_add]; exact hok,bU ?_⟩
  rw [addr_add]
  refine Row.wrS vs _ _ p (j+1) hr (by omega) fun u hu ho2=>hk u ?_ (ho.trans ho2 (fun _ _ h=>h) (fun _ _ h=>h))
  rw [show p+(j+1)=p+j+1 by omega] at hu
  exact hu
theorem aO.put {l:List β} (hl:∀ x,(en x).length=k) (h:aO k en e w a n c l g) {i:Nat} (hi:i<l.length) (hln:n=l.length) {y:β} {K:World→Prop} (hk:∀ u,aO k en e u a n c (l.set i y) g→Only g w u→K u) :
  ∃ b,g=b+1∧a=some ⟨b,0,none⟩∧Go.E.wrS w (⟨b,i*k,none⟩:Addr) 0 (en y) K:=by
 have hin:i<n:=by omega
 rcases h.2 with ⟨_,_,h0,_⟩ | ⟨b,cur,rfl,rfl,_⟩
 ·omega
 ·have hle:i*k+k≤n*k:=by have:=Nat.mul_le_mul_right k hin; rw [Nat.succ_mul] at this; omega
  refine ⟨b,rfl,rfl,Row.wrS (en y) w (l.flatMap en) (i*k) 0 h (by rw [hl]; omega) fun u hu ho=>hk u ?_ ho⟩
  have hlen:(l.flatMap en).length=n*k:=h.1
  rw [Jf _ _ _ (by rw [hl,hlen]; omega),hl,Nat.add_zero,wu hl l i y hi] at hu
  exact hu
end
section
variable {w u:World} {a:Option Addr} {n c g e:Nat} {F S:Nat→Prop}
theorem aO.lsN {l:List (ND×SH)} (h:aO 8 enH e w a n c l g) (hF:∀ b,b+1=g→F b) (hc:∀ x∈l,Ls (vP .i64) F w x.2.a x.2.n x.2.c x.1.bH):Ls tN F w a n c (l.map (·.1)) :=
 aO.lsK (T:=tN) (k:=8) (en:=enH) (f:=fun x=>x.1) (fun _=>rfl) (by omega) rfl h hF fun x hx=>⟨_,_,_,rfl,hc x hx⟩
theorem aO.lsT {l:List (TD×SH)} (h:aO 2 xu e w a n c l g) (hF:∀ b,b+1=g→F b) (hc:∀ x∈l,Ls tN F w x.2.a x.2.n x.2.c x.1.nodes):Ls tT F w a n c (l.map (·.1)) :=
 aO.lsK (T:=tT) (k:=2) (en:=xu) (f:=fun x=>x.1) (fun _=>rfl) (by omega) rfl h hF fun x hx=>⟨_,_,_,rfl,hc x hx⟩
theorem aO.Qs {l:List (TD×SH)} (h:aO 2 xu e w a n c l g):n=l.length:=aO.len (k:=2) (en:=xu) (fun _=>rfl) (by omega) h
end
theorem Kept.fr {w u:World} (h:Kept w u):From w.heap.size w u:=Kept.mod h
section
variable {w u:World} {e:Nat} {cs:Array Value}
theorem Blk.wr {b0:World} (h:Blk w b0.heap.size cs e) {i:Nat} {v:Value} (hi:i<cs.size) {K:World→Prop} (hk:∀ u,Blk u b0.heap.size (cs.setIfInBounds i v) e→Only (b0.heap.size+1) w u→K u) :
  nD w ((na b0).add i)∧nw (w.setCell ((na b0).add i) v) K:=by
 rw [fQ]
 exact ⟨h.ok hi,hk _ (h.set i v) (Only.set w _ _ v)⟩
theorem Blk.wr0 {b0:World} (h:Blk w b0.heap.size cs e) {i:Nat} {v:Value} (hi:i<cs.size) {K:World→Prop} (hk:∀ u,Blk u b0.heap.size (cs.setIfInBounds i v) e→Only (b0.heap.size+1) w u→K u) :
  nD w (((na b0).add i).add 0)∧nw (w.setCell (((na b0).add i).add 0) v) K:=by
 rw [add_zero]
 exact h.wr hi hk
end
set_option maxHeartbeats 1000000 in
theorem Vp {w b0:World} {e:Nat} {x:ND} {a:Option Addr} {n c:Nat} (h:Blk w b0.heap.size #[.int .u8 0,.int .i64 0,.int .i64 0,.float .f64 0,.slice none 0 0,.int .u8 0,.int .i64 0,.int .i64 0] e) {K:World→Prop} (hk:∀ u,Blk u b0.heap.size (enN x a n c).toArray e→At8 u (na b0) x a n c→Only (b0.heap.size+1) w u→K u) :
  nD w ((na b0).add 0)∧(nw (w.setCell ((na b0).add 0) (.int .u8 x.kind)) fun w1=>nD w1 ((na b0).add 1)∧(nw (w1.setCell ((na b0).add 1) (.int .i64 x.value)) fun w2=>nD w2 ((na b0).add 2)∧(nw (w2.setCell ((na b0).add 2) (.int .i64 x.feature)) fun w3=>nD w3 ((na b0).add 3)∧(nw (w3.setCell ((na b0).add 3) (.float .f64 x.thr)) fun w4=>nD w4 ((na b0).add 4)∧(nw (w4.setCell ((na b0).add 4) (.slice a n c)) fun w5=>nD w5 ((na b0).add 5)∧(nw (w5.setCell ((na b0).add 5) (.int .u8 x.missing)) fun w6=>nD w6 ((na b0).add 6)∧(nw (w6.setCell ((na b0).add 6) (.int .i64 x.left)) fun w7=>nD w7 ((na b0).add 7)∧(nw (w7.setCell ((na b0).add 7) (.int .i64 x.right)) fun w8=>K w8)))))))):=by
 have st:∀ {w u x:World},Only (b0.heap.size+1) w u→Only (b0.heap.size+1) u x→Only (b0.heap.size+1) w x:=fun h k=>h.trans k (fun _ _ h=>h) (fun _ _ h=>h)
 exact h.wr (by simp) fun u1 b1 o1=>b1.wr (by simp) fun u2 b2 o2=>b2.wr (by simp) fun u3 b3 o3=>b3.wr (by simp) fun u4 b4 o4=>b4.wr (by simp) fun u5 b5 o5=>b5.wr (by simp) fun u6 b6 o6=>b6.wr (by simp) fun u7 b7 o7=>b7.wr (by simp) fun u8 b8 o8=>hk u8 b8 (.tH b8) (st (st (st (st (st (st (st o1 o2) o3) o4) o5) o6) o7) o8)
section
variable {α:Type} {k:Nat} {en:α→List Value} {w u:World} {a:Option Addr} {n c g e m:Nat} {xs ys:List α} {S:Nat→Prop}
theorem aO.qQ {P:Program} {t ty by_ d:Nat} (hT:fE P t e k by_) (hl:∀ x,(en x).length=k) (hk0:0<k) (h:aO k en e w a n c xs g) {x:α} {q:Addr} (hq:∀ j v,(en x)[j]?=some v→w.cell? (q.add j)=some v) (h1:∀ v∈en x,v.oneCell'=true) (h63:n+1≤maxLen) (hb:(n+1)*by_≤140737488355328) {K:Value→World→Prop}
  (hk:∀ a' c' g' u,aO k en e u a' (n+1) c' (xs++[x]) g'→(g'=g∨w.heap.size<g')→g'≠0→Only g w u→K (.slice a' (n+1) c') u) :
  dm P (Builtin.append_ #[t,t] ty #[.slice a n c,.slice (some q) 1 d]) w K:=by
 refine jH hT hk0 h (news:=en x) (by simp [hl]) (fun j u hj=>⟨_,rfl,hq j u hj⟩) (fun h=>by cases h) h1 h63 hb fun a' c' g' u hr hg ho=>?_
 refine hk a' c' g' u (by unfold aO; simpa using hr) (by omega) ?_ ho
 rcases hr.2 with ⟨_,_,h0,_⟩ | ⟨b,_,rfl,_⟩ <;> omega
theorem SlK.none {a:Option Addr} (hl:∀ x,(en x).length=k) (hk0:0<k) (hs:SlK k en w a m ys) (ha:a=none):m=0∧ys=[]:=by
 cases ys with
 | nil=>exact ⟨by simpa using hs.len,rfl⟩
 | cons y l=>obtain ⟨p,hp,_⟩:=hs.get 0 y rfl; rw [ha] at hp; cases hp
theorem aO.pushes {P:Program} {t ty by_ d:Nat} (hT:fE P t e k by_) (hl:∀ x,(en x).length=k) (hk0:0<k) (h:aO k en e w a n c xs g) (h1:∀ x,∀ v∈en x,v.oneCell'=true) {s:Option Addr} (hs:SlK k en w s m ys) (h63:n+m≤maxLen) (hb:(n+m)*by_≤140737488355328) {K:Value→World→Prop}
  (hk:∀ a' c' g' u,aO k en e u a' (n+m) c' (xs++ys) g'→(g'=g∨w.heap.size<g')→Only g w u→K (.slice a' (n+m) c') u) :
  dm P (Builtin.append_ #[t,t] ty #[.slice a n c,.slice s m d]) w K:=by
 refine jH hT hk0 h (news:=ys.flatMap en) (by rw [gQ ys (fun x _=>hl x),hs.len]) (fun j u hj=>?_) (fun h0=>(hs.none hl hk0 h0).1) (fun v hv=>?_) h63 hb fun a' c' g' u hr hg ho=>?_
 ·have hlt:=(List.getElem?_eq_some_iff.1 hj).1
  rw [gQ ys (fun x _=>hl x)] at hlt
  have hi:j / k<ys.length:=(Nat.div_lt_iff_lt_mul hk0).2 hlt
  obtain ⟨p,hp,hc⟩:=hs.get (j / k) _ (List.getElem?_eq_getElem hi)
  have hm:j % k<(en ys[j / k]).length:=by rw [hl]; exact Nat.mod_lt _ hk0
  have e1:=oN ys (fun x _=>hl x) (j / k) _ (List.getElem?_eq_getElem hi) (j % k) _ (List.getElem?_eq_getElem hm)
  have hj':j / k*k+j % k=j:=by rw [Nat.mul_comm]; exact Nat.div_add_mod j k
  rw [hj',hj] at e1
  have e2:=hc (j % k) _ (List.getElem?_eq_getElem hm)
  rw [hj'] at e2
  refine ⟨p,hp,?_⟩
  rw [e2]
  exact e1.symm
 ·obtain ⟨x,_,hx⟩:=List.mem_flatMap.1 hv
  exact h1 x v hx
 ·exact hk a' c' g' u (by unfold aO; simpa using hr) (by omega) ho
end
section
variable {w u:World} {a:Option Addr} {n c g e:Nat} {F S:Nat→Prop}
theorem Dk {α β:Type} {p:Nat→α→β→Prop}:∀ (xs:List α),(∀ i x,xs[i]?=some x→∃ y,p i x y)→∃ ys:List β,ys.length=xs.length∧∀ i x y,xs[i]?=some x→ys[i]?=some y→p i x y:=by
 intro xs h
 have each:∀ i:Fin xs.length,∃ y,p i xs[i] y:=fun i=>h i _ (List.getElem?_eq_getElem i.isLt)
 obtain ⟨f,hf⟩:=Classical.axiomOfChoice each
 refine ⟨List.ofFn f,by simp,fun i x y hx hy=>?_⟩
 obtain ⟨hlt,rfl⟩:=List.getElem?_eq_some_iff.1 hx
 obtain ⟨hlt',rfl⟩:=List.getElem?_eq_some_iff.1 hy
 simpa using hf ⟨i,hlt⟩
theorem Ls.flat {α β:Type} {T:Ty α} {k:Nat} {en:α×β→List Value} {Q:α→β→Prop} {xs:List α} (h:Ls T F w a n c xs) (hTk:T.k=k) (hrd:∀ x cs,T.rd F w x cs→∃ y,cs=en (x,y)∧Q x y) :
  ∃ l:List (α×β),l.map (·.1)=xs∧SlK k en w a n l∧∀ x∈l,Q x.1 x.2:=by
 obtain ⟨ys,hl,hy⟩:=Dk (p:=fun i x y=>Q x y∧∃ p,a=some p∧∀ j v,(en (x,y))[j]?=some v→w.cell? (p.add (i*k+j))=some v) xs fun i x hx=>by
  obtain ⟨p,cs,h1,_,h3,h4⟩:=h.get i x hx
  obtain ⟨y,rfl,hQ⟩:=hrd x cs h3
  exact ⟨y,hQ,p,h1,fun j v hj=>by rw [← hTk]; exact h4 j v hj⟩
 have hz:∀ (i:Nat) z,(xs.zip ys)[i]?=some z→xs[i]?=some z.1∧ys[i]?=some z.2:=fun i z hz=>by
  rw [List.getElem?_zip_eq_some] at hz
  exact hz
 refine ⟨xs.zip ys,by rw [List.map_fst_zip]; omega,⟨by rw [h.len,List.length_zip]; omega,fun i z hi=>?_⟩,fun z hz'=>?_⟩
 ·obtain ⟨h1,h2⟩:=hz i z hi
  exact (hy i z.1 z.2 h1 h2).2
 ·obtain ⟨i,hi⟩:=List.getElem?_of_mem hz'
  obtain ⟨h1,h2⟩:=hz i z hi
  exact (hy i z.1 z.2 h1 h2).1
theorem Ls.Vq {xs:List TD} (h:Ls tT F w a n c xs):∃ l:List (TD×SH),l.map (·.1)=xs∧SlK 2 xu w a n l∧∀ x∈l,Ls tN F w x.2.a x.2.n x.2.c x.1.nodes :=
 Ls.flat (β:=SH) (en:=xu) (Q:=fun x y=>Ls tN F w y.a y.n y.c x.nodes) h rfl fun x cs ⟨a,n,c,h1,h2⟩=>⟨⟨a,n,c⟩,h1,h2⟩
theorem Ls.sub {α:Type} {T:Ty α} {xs:List α} (h:Ls T F w a n c xs) {i j:Nat} (hij:i≤j) (hj:j≤n):Ls T F w (slA a c i T.k) (j - i) (c - i) ((xs.take j).drop i):=by
 have hn:=h.len
 have hc:=h.cap
 refine ⟨by rw [List.length_drop,List.length_take]; omega,by omega,fun m x hm=>?_⟩
 rw [List.getElem?_drop,List.getElem?_take] at hm
 split at hm
 ·rename_i hlt
  obtain ⟨p,cs,rfl,h2,h3,h4⟩:=h.get (i+m) x hm
  refine ⟨p.add (i*T.k),cs,?_,by rw [add_block]; exact h2,h3,fun jj y hy=>?_⟩
  ·unfold slA; rw [if_neg (by omega)]; rfl
  ·rw [add_add,show i*T.k+(m*T.k+jj)=(i+m)*T.k+jj by rw [Nat.add_mul]; omega]
   exact h4 jj y hy
 ·cases hm
theorem CK.hide {w u:World} {b:Nat} (hm:Mod (fun k=>k=b) w u):CK (w.putObj b (.deferred none)) u:=by
 intro a v h
 by_cases hb:a.block=b
 ·exfalso
  have hlt:=block_lt_of_cell h
  have hlt':b<w.heap.size:=by rw [← hb]; simpa [World.putObj] using hlt
  unfold World.cell? at h
  rw [hb] at h
  simp [World.putObj,hlt'] at h
 ·have h1:w.cell? a=some v:=by
   rw [World.cell?_of_block (show (w.putObj b (.deferred none)).heap[a.block]?=w.heap[a.block]? from (Mod.put (S:=fun k=>k=b) w (.deferred none) rfl).block a.block (by simpa [World.putObj] using block_lt_of_cell h) hb)] at h
   exact h
  exact hm.cell hb h1
theorem JV {w:World} {b:Nat} {a:Addr} {v:Value} (h:w.cell? a=some v) (hb:a.block≠b):(w.putObj b (.deferred none)).cell? a=some v:=(Mod.put (S:=fun k=>k=b) w (.deferred none) rfl).cell hb h
end
section
variable {w u:World} {p:Addr} {e:ED} {f b t:SH} {S:Nat→Prop} {ty:Nat}
theorem At5.ld (h:At5 w p e f b t) {K:ByteArray→Option Addr→Nat→Nat→Int→Option Addr→Nat→Nat→Option Addr→Nat→Nat→Prop} (hk:K e.name f.a f.n f.c e.outputs b.a b.n b.c t.a t.n t.c) :
  ∃ y0:ByteArray,w.cell? (p.add 0)=some (.string y0)∧(∃ a1:Option Addr,∃ n1:Nat,∃ c1:Nat,w.cell? (p.add 1)=some (.slice a1 n1 c1)∧(∃ y2:Int,w.cell? (p.add 2)=some (.int .i64 y2)∧(∃ a3:Option Addr,∃ n3:Nat,∃ c3:Nat,w.cell? (p.add 3)=some (.slice a3 n3 c3) ∧
   (∃ a4:Option Addr,∃ n4:Nat,∃ c4:Nat,w.cell? (p.add 4)=some (.slice a4 n4 c4)∧K y0 a1 n1 c1 y2 a3 n3 c3 a4 n4 c4)))) :=
 ⟨_,h.c0,_,_,_,h.c1,_,h.c2,_,_,_,h.c3,_,_,_,h.c4,hk⟩
theorem Ve {K:World→Prop} (hk:∀ u,Blk u w.heap.size (enE e f b t).toArray ty→At5 u (na w) e f b t→Kept w u→K u) :
  nw (w.alloc (.cells #[.string ⟨#[]⟩,.slice none 0 0,.int .i64 0,.slice none 0 0,.slice none 0 0] ty)) fun w0=>nD w0 ((na w).add 0)∧(nw (w0.setCell ((na w).add 0) (.string e.name)) fun w1=>nD w1 ((na w).add 1)∧(nw (w1.setCell ((na w).add 1) (.slice f.a f.n f.c)) fun w2=>nD w2 ((na w).add 2)∧(nw (w2.setCell ((na w).add 2) (.int .i64 e.outputs)) fun w3=>nD w3 ((na w).add 3)∧(nw (w3.setCell ((na w).add 3) (.slice b.a b.n b.c)) fun w4=>nD w4 ((na w).add 4)∧(nw (w4.setCell ((na w).add 4) (.slice t.a t.n t.c)) fun w5=>K w5))))):=by
 have b0:=Blk.new w #[.string ⟨#[]⟩,.slice none 0 0,.int .i64 0,.slice none 0 0,.slice none 0 0] ty
 have s0:From w.heap.size w _:=Kept.mod (Kept.new w (.cells #[.string ⟨#[]⟩,.slice none 0 0,.int .i64 0,.slice none 0 0,.slice none 0 0] ty))
 have st:∀ {u u':World},From w.heap.size w u→Only (w.heap.size+1) u u'→From w.heap.size w u':=fun s o=>s.only o (.inr (by omega))
 refine bU (b0.wr (by simp) fun u1 b1 o1=>b1.wr (by simp) fun u2 b2 o2=>b2.wr (by simp) fun u3 b3 o3=>b3.wr (by simp) fun u4 b4 o4=>b4.wr (by simp) fun u5 b5 o5=>?_)
 exact hk u5 b5 (.tH b5) (st (st (st (st (st s0 o1) o2) o3) o4) o5).kept
end
end Go.E
namespace Go.E
open Go Go.RowKit Go.ChangeShapes
abbrev RW (α:Type):=SH×List α×Nat
abbrev RW.s {α:Type} (t:RW α):SH:=t.1
abbrev RW.xs {α:Type} (t:RW α):List α:=t.2.1
abbrev RW.g {α:Type} (t:RW α):Nat:=t.2.2
abbrev WY {α:Type} (t:RW α):Value := .slice t.1.a t.1.n t.1.c
section
variable {α:Type} {en:α→Value} {eo ei B:Nat} {w u:World} {a:Option Addr} {n c g:Nat} {l:List (RW α)} {S:Nat→Prop}
theorem Row.ne {e e' size size':Nat} {a a':Option Addr} {n n' c c' g g':Nat} {cs cs':List Value} (h:Row w e size a n c cs g) (h':Row w e' size' a' n' c' cs' g') (hne:e≠e'):g=0∨g≠g':=by
 rcases h.2 with ⟨h0,_⟩ | ⟨b,cur,rfl,_,hb,_⟩
 ·exact .inl h0
 ·refine .inr fun hg=>?_
  rcases h'.2 with ⟨h0,_⟩ | ⟨b',cur',hg',_,hb',_⟩
  ·omega
  ·obtain rfl:b=b':=by omega
   unfold Blk at hb hb'
   rw [hb] at hb'
   cases hb'
   exact hne rfl
end
end Go.E
namespace Go.Tr
open Go
structure MkD where
 node:Int
 frm:Int
 to:Int
deriving DecidableEq,Inhabited
def BT.nl (T:BT):Nat:=T.leaves.length
theorem BT.xe (i:Nat):(BT.leaf i).nl=1:=rfl
theorem BT.qp (i:Nat) (l r:BT):(BT.node i l r).nl=l.nl+r.nl:=by simp [BT.nl,BT.leaves]
theorem BT.BG:∀ T:BT,0<T.nl
 | .leaf _=>by rw [BT.xe]; omega
 | .node _ l r=>by rw [BT.qp]; have:=l.BG; omega
theorem BT.zk:∀ T:BT,T.nl≤T.size
 | .leaf _=>by rw [BT.xe]; exact Nat.le_refl _
 | .node _ l r=>by rw [BT.qp]; have:=l.zk; have:=r.zk; simp only [BT.size]; omega
def BT.marks:BT→Nat→List MkD
 | .leaf _,_=>[]
 | .node i l r,k=>⟨(i:Nat),(k:Nat),(k+l.nl:Nat)⟩::(l.marks k++r.marks (k+l.nl))
theorem BT.jJ:∀ (T:BT) (k:Nat),(T.marks k).length+1=T.nl
 | .leaf _,_=>rfl
 | .node _ l r,k=>by
  have h1:=l.jJ k
  have h2:=r.jJ (k+l.nl)
  rw [BT.qp]
  simp only [BT.marks,List.length_cons,List.length_append]
  omega
end Go.Tr
namespace Go.E
open Go Go.RowKit Go.ChangeShapes Go.Tr
def enM (x:MkD):List Value:=[.int .i64 x.node,.int .i64 x.frm,.int .i64 x.to]
theorem su (x:MkD):(enM x).length=3:=rfl
theorem Jp (x:MkD):∀ v∈enM x,v.oneCell'=true:=by
 intro v hv
 simp only [enM,List.mem_cons,List.not_mem_nil,or_false] at hv
 rcases hv with h | h | h <;> subst h <;> rfl
section
variable {w u:World} {p:Addr} {x:MkD} {a:Option Addr} {n c g e:Nat} {xs:List MkD} {S:Nat→Prop} {i:Int}
theorem aO.Xh (h:aO 3 enM e w a n c xs g) {K:World→Prop} (h0:0≤i) (hi:i<n) {v:Int} {x:MkD} (hx:xs[i.toNat]?=some x) (hk:∀ u,aO 3 enM e u a n c (xs.set i.toNat ⟨x.node,x.frm,v⟩) g→Only g w u→K u) :
  bK a fun q=>chk (0≤i∧i<(n:Int)) (nD w (((q.add (i.toNat*3)).add 2).add 0)∧nw (w.setCell (((q.add (i.toNat*3)).add 2).add 0) (.int .i64 v)) K):=by
 obtain ⟨b,rfl,rfl,h3,h4,h5⟩:=aO.set (k:=3) (en:=enM) su h (i:=i.toNat) (j:=2) (x:=x) (y:=⟨x.node,x.frm,v⟩) (v := .int .i64 v) hx (by omega) (by omega) rfl
 refine dJ ⟨h0,hi⟩ ?_
 simp only [addr_add,Nat.zero_add,Nat.add_zero]
 exact ⟨h3,hk _ h4 h5⟩
end
end Go.E
namespace Go.Tr
open Go
section
variable {U:BT} {o:List Nat} {i j:Nat} {Ts:List BT}
end
section
variable {nan:Nat→Bool} {nodes:List ND} {U:BT} {o:List Nat}
end
end Go.Tr
namespace Go.E
open Go Go.RowKit Go.ChangeShapes Go.Tr
section
variable {α:Type} {en:α→Value} {eo ei B:Nat} {w u:World} {a:Option Addr} {n c g:Nat} {l:List (RW α)} {S:Nat→Prop} {i:Int}
theorem mem_set {β:Type} {l:List β} {i:Nat} {x y:β} (h:y∈l.set i x):y=x∨∃ j,j≠i∧l[j]?=some y:=by
 obtain ⟨j,hj⟩:=List.getElem?_of_mem h
 rw [List.getElem?_set] at hj
 split at hj
 ·split at hj
  ·exact .inl (by simpa using hj.symm)
  ·cases hj
 ·rename_i hne; exact .inr ⟨j,fun e=>hne e.symm,hj⟩
theorem AX {β:Type} {R:β→β→Prop} {l:List β} {i:Nat} {x:β} (h:l.Pairwise R) (hl:∀ j y,j<i→l[j]?=some y→R y x) (hr:∀ j y,i<j→l[j]?=some y→R x y):(l.set i x).Pairwise R:=by
 rw [List.pairwise_iff_getElem] at h ⊢
 intro p q hp hq hpq
 rw [List.length_set] at hp hq
 rw [List.getElem_set,List.getElem_set]
 split
 ·rename_i e
  subst e
  rw [if_neg (by omega)]
  exact hr q _ hpq (List.getElem?_eq_getElem hq)
 ·split
  ·rename_i e
   subst e
   exact hl p _ hpq (List.getElem?_eq_getElem hp)
  ·exact h p q hp hq hpq
end
end Go.E
namespace Go.E
open Go Go.RowKit Go.ChangeShapes
abbrev Lay:=Nat→List (Option Nat)
section
variable {Γ:Lay} {M:Nat→Nat} {Z:Nat→Prop} {w u:World} {e:Nat} {s:SH} {lv:Nat→Nat}
def rO (a:Option Addr) (w:World):World:=match a with
 | some p=>w.putObj p.block (.deferred none)
 | none=>w
end
end Go.E
