/- Part of a proof of laws of the seat YtmjlipmapfofmaaGreat: functions' weakest preconditions, each checked by the kernel, contracts out of them, plain lemmas; no conditions. -/
import Derived.Test.YtmjlipmapfofmaaGreatF65
set_option linter.unusedVariables false
set_option linter.unusedSimpArgs false
set_option linter.unusedSectionVars false
set_option maxRecDepth 100000
namespace Go.Mir
open Go Go.E Go.RowKit Go.Tr Go.Ss Go.ChangeShapes
section
variable {w w0 u w1 wB x:World} {a a0 a1 a4:OA} {n c n0 c0 n1 c1 n4 c4 g m:Nat} {F F' S:Nat→Prop} {p q:Addr} {B B':Nat} {R:VP} {cs:List dF} {ts:List TD} {nodes:List ND} {s t:SH}
def ElC (B:Nat) (w:World) (l:List CD):Prop:=∀ x∈l,∃ gx,Arr enI tI' w x.2.a x.2.n x.2.c x.1.bH gx∧fresh B gx
theorem ElC.kR {l:List CD} (h:ElC B w l) (hm:Mod S w u) (hS:Apart S w [tI']):ElC B u l:=fun x hx=>let ⟨gx,k1,k2⟩:=h x hx; ⟨gx,Row.kR k1 hm hS (by simp),k2⟩
structure pJ (B:Nat) (w:World) (s:SH) (cs:List dF) (g:Nat):Prop where
 row:∃ l,aO 5 lX tC' w s.a s.n s.c l g∧cs=l.map (·.1)∧ElC B w l
 fr:fresh B g
theorem pJ.kept (h:pJ B w s cs g) (hk:Kept w u):pJ B u s cs g:=by
 obtain ⟨⟨l,h1,h2,h3⟩,h4⟩:=h
 exact ⟨⟨l,aO.kept h1 hk,h2,h3.kR (S:=fun _=>False) (Kept.mod hk) (fun _ _ _ h=>h.elim)⟩,h4⟩
theorem pJ.le (h:pJ B w s cs g):g≤w.heap.size:=by
 obtain ⟨⟨l,h1,_⟩,_⟩:=h
 exact Row.le h1
theorem pJ.len (h:pJ B w s cs g):s.n=cs.length:=by
 obtain ⟨⟨l,h1,h2,_⟩,_⟩:=h
 rw [h2,List.length_map]
 exact aO.len (k:=5) (en:=lX) (fun _=>rfl) (by omega) h1
theorem pJ.nil (B:Nat) (w:World):pJ B w ⟨none,0,0⟩ [] 0:=⟨⟨[],aO.nil _ _ _ _,rfl,fun _ h=>by cases h⟩,.inl rfl⟩
theorem pJ.ap (h:pJ B w s cs g) (es:List Nat) (he:tC'∉es):Apart (fun k=>k+1=g) w es:=by
 obtain ⟨⟨l,h1,_⟩,_⟩:=h
 exact Row.apart h1 he
theorem pJ.other {g':Nat} (h:pJ B w s cs g) (ho:Only g' w u) (hne:g=0∨g≠g') (hap:Apart (fun k=>k+1=g') w [tI']):pJ B u s cs g:=by
 obtain ⟨⟨l,h1,h2,h3⟩,h4⟩:=h
 exact ⟨⟨l,aO.mod h1 ho (fun k hk hk2=>by have hk':k+1=g':=hk2; omega),h2,h3.kR ho hap⟩,h4⟩
theorem pJ.box {pb e:Nat} {cur:Array Value} (h:pJ B w s cs g) (hb:Blk w pb cur e) (h1:e≠tC') (h2:e≠tI') (ho:Only (pb+1) w u):pJ B u s cs g:=by
 obtain ⟨⟨l,k1,k2,k3⟩,k4⟩:=h
 exact ⟨⟨l,Row.kR k1 ho (Blk.ve (es:=[tC']) hb (by simpa using h1)) (by simp),k2,k3.kR ho (Blk.ve (es:=[tI']) hb (by simpa using h2))⟩,k4⟩
theorem pJ.qQ (h:pJ B w s cs g) {y:dF} (hq:AtL w q (lX (y,t))) {gx:Nat} (hy:Arr enI tI' w t.a t.n t.c y.bH gx) (hgx:fresh B gx) (hB:B≤w.heap.size) (hm:s.n≤1073741824) {K:Value→World→Prop}
  (hk:∀ a' c' u g',pJ B u ⟨a',s.n+1,c'⟩ (cs++[y]) g'→(g'=g∨w.heap.size<g')→g'≠0→Only g w u→K (.slice a' (s.n+1) c') u) :
  dm Go.Proofs.Tryz.prog (Builtin.append_ #[72,72] 72 #[.slice s.a s.n s.c,.slice (some q) 1 1]) w K:=by
 have hap:=h.ap
 obtain ⟨⟨l,h1,h2,h3⟩,h4⟩:=h
 refine aO.qQ (P:=Go.Proofs.Tryz.prog) (k:=5) (en:=lX) S53 (fun _=>rfl) (by omega) h1 (x:=(y,t)) hq (zL _) (by simp only [maxLen]; omega) (by omega) fun a5 c5 g5 w5 r5 hg5 h0 ho5=>hk a5 c5 w5 g5 ⟨⟨l++[(y,t)],r5,by rw [h2]; simp,fun x hx=>?_⟩,by unfold fresh at h4 ⊢; omega⟩ hg5 h0 ho5
 have ap:=hap [tI'] (by decide)
 rcases List.mem_append.1 hx with hx | hx
 ·exact h3.kR ho5 ap x hx
 ·obtain rfl:=List.mem_singleton.1 hx
  exact ⟨gx,Row.kR hy ho5 ap (by simp),hgx⟩
structure rf (B:Nat) (w:World) (po:Nat) (e:ed) (s1 s2 s3:SH) (g1 g2 g3:Nat):Prop where
 box:Blk w po (enL e s1 s2 s3).toArray tL'
 r1:pJ B w s1 e.numbers g1
 r2:pJ B w s2 e.bH g2
 r3:pJ B w s3 e.lost g3
 a12:g1=0∨g1≠g2
 a13:g1=0∨g1≠g3
 a23:g2=0∨g2≠g3
 pB:B≤po
variable {po:Nat} {e:ed} {s1 s2 s3:SH} {g1 g2 g3:Nat}
theorem rf.kept (h:rf B w po e s1 s2 s3 g1 g2 g3) (hk:Kept w u):rf B u po e s1 s2 s3 g1 g2 g3:=⟨h.box.keep hk,h.r1.kept hk,h.r2.kept hk,h.r3.kept hk,h.a12,h.a13,h.a23,h.pB⟩
abbrev St (g po:Nat):Nat→Prop:=fun k=>k+1=g∨k=po
theorem St.from (h:rf B w po e s1 s2 s3 g1 g2 g3) (hg:fresh B g) (hm:Mod (St g po) w u):From B w u:=hm.weak fun k _ hk=>by
 have:=h.pB
 unfold fresh at hg
 show B≤k
 rcases hk with hk | hk <;> omega
theorem rf.numAt (h:rf B w po e s1 s2 s3 g1 g2 g3) {y:dF} (hq:AtL w q (lX (y,t))) {gx:Nat} (hy:Arr enI tI' w t.a t.n t.c y.bH gx) (hgx:fresh B gx) (hB:B≤w.heap.size) (hm:s1.n≤1073741824) {K:World→Prop}
  (hk:∀ u a' c' g',rf B u po { e with numbers:=e.numbers++[y] } ⟨a',s1.n+1,c'⟩ s2 s3 g' g2 g3→(g'=g1∨w.heap.size<g')→Mod (St g1 po) w u→K u) :
  dm Go.Proofs.Tryz.prog (Builtin.append_ #[72,72] 72 #[.slice s1.a s1.n s1.c,.slice (some q) 1 1]) w fun v u=>∃ a' n' c',v = .slice a' n' c'∧st u (((⟨po,0,none⟩:Addr).add 1).add 0) (.slice a' n' c') K:=by
 refine h.r1.qQ hq hy hgx hB hm fun a' c' u g' hr hg h0 ho=>⟨_,_,_,rfl,?_⟩
 have ap:=h.r1.ap
 have hb:=h.box.mod ho fun hk=>ap [tL'] (by decide) _ _ _ hk h.box (by simp)
 have hle:=h.r2.le
 have hle3:=h.r3.le
 have r2:=h.r2.other ho (by have:=h.a12; omega) (ap [tI'] (by decide))
 have r3:=h.r3.other ho (by have:=h.a13; omega) (ap [tI'] (by decide))
 refine stB hb (by simp) fun v hb' ho'=>hk v a' c' g' ⟨hb',hr.box hb (by decide) (by decide) ho',r2.box hb (by decide) (by decide) ho',r3.box hb (by decide) (by decide) ho',?_,?_,h.a23,h.pB⟩ hg (Mod.trans ho ho' (fun _ _ h => .inl h) (fun _ _ h => .inr (Nat.succ.inj h)))
 ·have:=h.a12; omega
 ·have:=h.a13; omega
theorem rf.Vt (h:rf B w po e s1 s2 s3 g1 g2 g3) {y:dF} (hq:AtL w q (lX (y,t))) {gx:Nat} (hy:Arr enI tI' w t.a t.n t.c y.bH gx) (hgx:fresh B gx) (hB:B≤w.heap.size) (hm:s2.n≤1073741824) {K:World→Prop}
  (hk:∀ u a' c' g',rf B u po { e with bH:=e.bH++[y] } s1 ⟨a',s2.n+1,c'⟩ s3 g1 g' g3→(g'=g2∨w.heap.size<g')→Mod (St g2 po) w u→K u) :
  dm Go.Proofs.Tryz.prog (Builtin.append_ #[72,72] 72 #[.slice s2.a s2.n s2.c,.slice (some q) 1 1]) w fun v u=>∃ a' n' c',v = .slice a' n' c'∧st u (((⟨po,0,none⟩:Addr).add 2).add 0) (.slice a' n' c') K:=by
 refine h.r2.qQ hq hy hgx hB hm fun a' c' u g' hr hg h0 ho=>⟨_,_,_,rfl,?_⟩
 have ap:=h.r2.ap
 have hb:=h.box.mod ho fun hk=>ap [tL'] (by decide) _ _ _ hk h.box (by simp)
 have hle:=h.r1.le
 have hle3:=h.r3.le
 have r1:=h.r1.other ho (by have:=h.a12; omega) (ap [tI'] (by decide))
 have r3:=h.r3.other ho (by have:=h.a23; omega) (ap [tI'] (by decide))
 refine stB hb (by simp) fun v hb' ho'=>hk v a' c' g' ⟨hb',r1.box hb (by decide) (by decide) ho',hr.box hb (by decide) (by decide) ho',r3.box hb (by decide) (by decide) ho',?_,h.a13,?_,h.pB⟩ hg (Mod.trans ho ho' (fun _ _ h => .inl h) (fun _ _ h => .inr (Nat.succ.inj h)))
 ·have:=h.a12; omega
 ·have:=h.a23; omega
theorem rf.SL (h:rf B w po e s1 s2 s3 g1 g2 g3) {y:dF} (hq:AtL w q (lX (y,t))) {gx:Nat} (hy:Arr enI tI' w t.a t.n t.c y.bH gx) (hgx:fresh B gx) (hB:B≤w.heap.size) (hm:s3.n≤1073741824) {K:World→Prop}
  (hk:∀ u a' c' g',rf B u po { e with lost:=e.lost++[y] } s1 s2 ⟨a',s3.n+1,c'⟩ g1 g2 g'→(g'=g3∨w.heap.size<g')→Mod (St g3 po) w u→K u) :
  dm Go.Proofs.Tryz.prog (Builtin.append_ #[72,72] 72 #[.slice s3.a s3.n s3.c,.slice (some q) 1 1]) w fun v u=>∃ a' n' c',v = .slice a' n' c'∧st u (((⟨po,0,none⟩:Addr).add 3).add 0) (.slice a' n' c') K:=by
 refine h.r3.qQ hq hy hgx hB hm fun a' c' u g' hr hg h0 ho=>⟨_,_,_,rfl,?_⟩
 have ap:=h.r3.ap
 have hb:=h.box.mod ho fun hk=>ap [tL'] (by decide) _ _ _ hk h.box (by simp)
 have hle:=h.r1.le
 have hle2:=h.r2.le
 have r1:=h.r1.other ho (by have:=h.a13; omega) (ap [tI'] (by decide))
 have r2:=h.r2.other ho (by have:=h.a23; omega) (ap [tI'] (by decide))
 refine stB hb (by simp) fun v hb' ho'=>hk v a' c' g' ⟨hb',r1.box hb (by decide) (by decide) ho',r2.box hb (by decide) (by decide) ho',hr.box hb (by decide) (by decide) ho',h.a12,?_,?_,h.pB⟩ hg (Mod.trans ho ho' (fun _ _ h => .inl h) (fun _ _ h => .inr (Nat.succ.inj h)))
 ·have:=h.a13; omega
 ·have:=h.a23; omega
theorem pJ.rd (h:pJ B w s cs g) {i:Int} {K:Addr→Prop} (h0:0≤i) (hi:i<s.n) (hk:∀ p y t gx,cs[i.toNat]?=some y→AtL w (p.add (i.toNat*5)) (lX (y,t))→Arr enI tI' w t.a t.n t.c y.bH gx→fresh B gx→K p):ix s.a s.n i K:=by
 obtain ⟨⟨l,h1,h2,h3⟩,h4⟩:=h
 have hl:=aO.len (k:=5) (en:=lX) (fun _=>rfl) (by omega) h1
 have hx:l[i.toNat]?=some (l[i.toNat]'(by omega)):=List.getElem?_eq_getElem _
 generalize l[i.toNat]'(by omega)=y at hx
 obtain ⟨gx,k1,k2⟩:=h3 y (List.mem_of_getElem? hx)
 exact atF (k:=5) (en:=lX) (fun _=>rfl) (by omega) h1 h0 hi hx fun p _ hA=>hk p y.1 y.2 gx (by rw [h2,List.getElem?_map,hx]; rfl) hA k1 k2
theorem pJ.wr (h:pJ B w s cs g) {i:Int} (h0:0≤i) (hi:i<s.n) {y:dF} {gx:Nat} (hy:Arr enI tI' w t.a t.n t.c y.bH gx) (hgx:fresh B gx) {K:World→Prop} (hk:∀ u,pJ B u s (cs.set i.toNat y) g→Only g w u→K u) :
  ix s.a s.n i fun q=>vw w (q.add (i.toNat*5)) y.thr t.a t.n t.c y.tree y.frm y.to K:=by
 have hap:=h.ap
 obtain ⟨⟨l,h1,h2,h3⟩,h4⟩:=h
 have hl:=aO.len (k:=5) (en:=lX) (fun _=>rfl) (by omega) h1
 have hk2:∀ u,aO 5 lX tC' u s.a s.n s.c (l.set i.toNat (y,t)) g→Only g w u→K u:=fun u hu ho=>hk u ⟨⟨_,hu,by rw [h2,List.map_set],fun x hx=>by
  have ap:=hap [tI'] (by decide)
  rcases mem_set hx with rfl | ⟨j,_,hj⟩
  ·exact ⟨gx,Row.kR hy ho ap (by simp),hgx⟩
  ·exact h3.kR ho ap x (List.mem_of_getElem? hj)⟩,h4⟩ ho
 obtain ⟨b,rfl,ha,hw⟩:=aO.put (k:=5) (en:=lX) (fun _=>rfl) h1 (i:=i.toNat) (by omega) hl (y:=(y,t)) (K:=K) hk2
 rw [ha]
 refine dJ ⟨h0,hi⟩ ?_
 refine Eq.mpr (congrArg (fun q=>vw w q y.thr t.a t.n t.c y.tree y.frm y.to K) (show ((⟨b,0,none⟩:Addr).add (i.toNat*5))=⟨b,i.toNat*5,none⟩ by rw [addr_add,Nat.zero_add])) hw
end
end Go.Mir
