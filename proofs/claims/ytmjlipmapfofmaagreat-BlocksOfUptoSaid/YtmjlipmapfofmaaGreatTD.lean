/- Part of a proof of laws of the seat YtmjlipmapfofmaaGreat: functions' weakest preconditions, each checked by the kernel, contracts out of them, plain lemmas; no conditions. -/
import Derived.Test.YtmjlipmapfofmaaGreatTC
import Derived.Test.YtmjlipmapfofmaaGreatTPA
set_option linter.unusedVariables false
set_option linter.unusedSimpArgs false
set_option linter.unusedSectionVars false
set_option maxRecDepth 100000
namespace Go.Mir
open Go Go.E Go.RowKit Go.Tr
section
variable {w w1:World} {p:Addr} {o:Int} {a a1:Option Addr} {n c n1 c1:Nat} {F:Nat→Prop} {nodes:List ND} {xs:List Nat}
end
end Go.Mir
set_option maxRecDepth 100000
namespace Go.Mir
open Go Go.E Go.RowKit Go.Tr
theorem S_N:fE Go.Proofs.Tryz.prog 48 56 8 80:=sliceT (by kernel_rfl)
theorem S_T:fE Go.Proofs.Tryz.prog 24 50 2 32:=sliceT (by kernel_rfl)
def fresh (B g:Nat):Prop:=g=0∨B<g
def Apart (S:Nat→Prop) (w:World) (es:List Nat):Prop:=∀ k cs e,S k→Blk w k cs e→e∉es
section
variable {w u w1:World} {p:Addr} {o:Int} {a a1:Option Addr} {n c n1 c1 g B B':Nat} {F S:Nat→Prop} {nodes:List ND} {xs:List Nat} {ts:List TD} {e:ED} {f b t:SH}
theorem Row.kR {e size:Nat} {cs:List Value} {es:List Nat} (h:Row w e size a n c cs g) (hm:Mod S w u) (hS:Apart S w es) (he:e∈es):Row u e size a n c cs g:=by
 refine ⟨h.1,?_⟩
 rcases h.2 with h0 | ⟨b,cur,rfl,h1,hb,h2⟩
 ·exact .inl h0
 ·exact .inr ⟨b,cur,rfl,h1,hb.mod hm (fun hs=>hS b cur e hs hb he),h2⟩
theorem Row.apart {e' size:Nat} {cs:List Value} {es:List Nat} (h:Row w e' size a n c cs g) (he:e'∉es):Apart (fun k=>k+1=g) w es:=by
 intro k cs' e hk hb
 rcases h.2 with ⟨rfl,_⟩ | ⟨b,cur,rfl,_,hb',_⟩
 ·cases hk
 ·obtain rfl:k=b:=by have hk':k+1=b+1:=hk; omega
  unfold Blk at hb hb'
  rw [hb] at hb'
  cases hb'
  exact he
theorem Blk.ve {k0 e':Nat} {cs:Array Value} {es:List Nat} (h:Blk w k0 cs e') (he:e'∉es):Apart (fun k=>k+1=k0+1) w es:=by
 intro k cs' e hk hb
 obtain rfl:k=k0:=by have hk':k+1=k0+1:=hk; omega
 unfold Blk at hb h
 rw [hb] at h
 cases h
 exact he
def qy (B:Nat) (w:World) (a:Option Addr) (n c:Nat) (nodes:List ND):Prop:=∃ g l,aO 8 enH 56 w a n c l g∧fresh B g∧nodes=l.map (·.1)∧∀ x∈l,∃ gx,Arr enI 3 w x.2.a x.2.n x.2.c x.1.bH gx∧fresh B gx
theorem qy.kR (h:qy B w a n c nodes) (hm:Mod S w u) (hS:Apart S w [56,3]):qy B u a n c nodes:=by
 obtain ⟨g,l,h1,h2,h3,h4⟩:=h
 exact ⟨g,l,Row.kR h1 hm hS (by simp),h2,h3,fun x hx=>let ⟨gx,k1,k2⟩:=h4 x hx; ⟨gx,Row.kR k1 hm hS (by simp),k2⟩⟩
theorem qy.kept (h:qy B w a n c nodes) (hk:Kept w u):qy B u a n c nodes:=h.kR (S:=fun _=>False) (Kept.mod hk) (fun _ _ _ h=>h.elim)
theorem qy.weak (h:qy B w a n c nodes) (hB:B'≤B):qy B' w a n c nodes:=by
 obtain ⟨g,l,h1,h2,h3,h4⟩:=h
 exact ⟨g,l,h1,h2.imp id (fun h=>Nat.lt_of_le_of_lt hB h),h3,fun x hx=>let ⟨gx,k1,k2⟩:=h4 x hx; ⟨gx,k1,k2.imp id (fun h=>Nat.lt_of_le_of_lt hB h)⟩⟩
def MP (B:Nat) (w:World) (b:Nat):Prop:=B≤b∧b<w.heap.size
theorem qy.ls (h:qy B w a n c nodes):Ls tN (MP B w) w a n c nodes:=by
 obtain ⟨g,l,h1,h2,rfl,h4⟩:=h
 have l1:=h1.le
 refine h1.lsN (fun b hb=>⟨?_,?_⟩) fun x hx=>?_
 ·unfold fresh at h2; omega
 ·omega
 ·obtain ⟨gx,k1,k2⟩:=h4 x hx
  have l2:=k1.le
  refine (k1.ls (h1:=fun _=>rfl)).mono fun b hb=>⟨?_,?_⟩
  ·unfold fresh at k2; omega
  ·omega
theorem qy.len (h:qy B w a n c nodes):n=nodes.length:=h.ls.len
theorem qy.nil (B:Nat) (w:World) (a:Option Addr) (c:Nat) (h:a=none∧c=0):qy B w a 0 c []:=by
 obtain ⟨rfl,rfl⟩:=h
 exact ⟨0,[],aO.nil _ _ _ _,.inl rfl,rfl,fun x hx=>by cases hx⟩
def RF (B:Nat) (w:World) (a:Option Addr) (n c:Nat) (ts:List TD):Prop:=∃ g l,aO 2 xu 50 w a n c l g∧fresh B g∧ts=l.map (·.1)∧∀ x∈l,qy B w x.2.a x.2.n x.2.c x.1.nodes
theorem RF.kR (h:RF B w a n c ts) (hm:Mod S w u) (hS:Apart S w [50,56,3]):RF B u a n c ts:=by
 obtain ⟨g,l,h1,h2,h3,h4⟩:=h
 exact ⟨g,l,Row.kR h1 hm hS (by simp),h2,h3,fun x hx=>(h4 x hx).kR hm fun k cs e hk hb he=>hS k cs e hk hb (by simp only [List.mem_cons] at he ⊢; exact .inr he)⟩
theorem RF.ls (h:RF B w a n c ts):Ls tT (MP B w) w a n c ts:=by
 obtain ⟨g,l,h1,h2,rfl,h4⟩:=h
 have l1:=h1.le
 refine h1.lsT (fun b hb=>⟨?_,?_⟩) fun x hx=>(h4 x hx).ls
 ·unfold fresh at h2; omega
 ·omega
structure Pq (B:Nat) (w:World) (e:ED) (f b t:SH):Prop where
 fs:∃ g,Arr enS 9 w f.a f.n f.c e.features g∧fresh B g
 bs:∃ g,Arr enI 2 w b.a b.n b.c e.base g∧fresh B g
 ts:RF B w t.a t.n t.c e.trees
theorem Pq.kR (h:Pq B w e f b t) (hm:Mod S w u) (hS:Apart S w [9,2,50,56,3]):Pq B u e f b t :=
 ⟨let ⟨g,h1,h2⟩:=h.fs; ⟨g,Row.kR h1 hm hS (by simp),h2⟩,let ⟨g,h1,h2⟩:=h.bs; ⟨g,Row.kR h1 hm hS (by simp),h2⟩,h.ts.kR hm fun k cs e hk hb he=>hS k cs e hk hb (by simp only [List.mem_cons] at he ⊢; exact .inr (.inr he))⟩
theorem Jm {α:Type} {en:α→Value} {h1:∀ x,(en x).oneCell'=true} {e:Nat} {ys:List α} (h:Arr en e w a n c ys g) (hg:fresh B g):Ls (Ty.flat en h1) (MP B w) w a n c ys:=by
 have l2:=h.le
 refine h.ls.mono fun b hb=>⟨?_,?_⟩
 ·unfold fresh at hg; omega
 ·omega
structure Us (e:ED):Prop where
 fm:e.features.length≤1048576
 bm:e.base.length≤1048576
 tm:e.trees.length≤1048576
 good:∀ x∈e.trees,x.nodes.length≤1048576∧Short 1048576 x.nodes
theorem iH.sized (h:iH F w e f b t):Us e:=⟨by rw [← h.fs.len]; exact h.fm,by rw [← h.bs.len]; exact h.bm,by rw [← h.ts.len]; exact h.tm,h.good⟩
theorem Pq.good (h:Pq B w e f b t) (hs:Us e):iH (MP B w) w e f b t:=by
 obtain ⟨g1,h1,k1⟩:=h.fs
 obtain ⟨g2,h2,k2⟩:=h.bs
 have l3:=h.ts.ls
 exact ⟨Jm h1 k1,Jm h2 k2,l3,fun b hb=>hb.2,by rw [h1.len]; exact hs.fm,by rw [h2.len]; exact hs.bm,by rw [l3.len]; exact hs.tm,hs.good⟩
theorem Md {ys:List Int} (hs:Sl enI w a n ys) (hm:n≤1048576):E.CallsD Go.Proofs.Tryz.prog 43 #[.slice a n c] w fun v u=>∃ a' c',v = .slice a' n c'∧Ac enI 3 w u a' n c' ys:=by
 refine slices_Clone_int.calls ?_
 unfold slices_Clone_int slices_Clone_int.g0
 refine Pm (R:=fun v u=>∃ a' c',v = .slice a' n c'∧Ac enI 3 w u a' n c' ys) S_I (fun _=>rfl) hs (by simp only [maxLen]; omega) (by omega) (fun h1 h2=>?_) fun a' c' u h=>⟨_,_,_,rfl,_,_,rfl,h⟩
 have hl:=hs.len
 subst h2
 simp only [List.length_nil] at hl
 subst hl
 exact ⟨_,_,rfl,0,Arr.nil _ _ _,.inl rfl,Kept.refl _⟩
theorem L9 (x:ND×SH):∀ v∈enH x,v.oneCell'=true:=by
 intro v hv
 simp only [enH,enN,List.mem_cons,List.not_mem_nil,or_false] at hv
 rcases hv with h | h | h | h | h | h | h | h <;> subst h <;> rfl
theorem Aj (x:TD×SH):∀ v∈xu x,v.oneCell'=true:=by
 intro v hv
 simp only [xu,List.mem_cons,List.not_mem_nil,or_false] at hv
 rcases hv with h | h <;> subst h <;> rfl
theorem Hu {B B' g:Nat} (h:fresh B g) (hB:B'≤B):fresh B' g:=h.imp id fun h=>Nat.lt_of_le_of_lt hB h
theorem qU {α:Type} {l:List α} {x y:α} (h:y∈l++[x]):y∈l∨y=x:=by simpa using h
theorem yX {R:Value→World→Prop} (hG:Good F w1 a n c nodes) (hend:∀ u a' c',From w1.heap.size w1 u→qy w1.heap.size u a' n c' nodes→R (.slice a' n c') u) :
  ∀ (k i:Nat) (w:World) (l:List (ND×SH)) (a3:Option Addr) (c3 g3:Nat),i+k=n→From w1.heap.size w1 w→aO 8 enH 56 w a3 i c3 l g3→fresh w1.heap.size g3→l.map (·.1)=nodes.take i→(∀ x∈l,∃ gx,Arr enI 3 w x.2.a x.2.n x.2.c x.1.bH gx∧fresh w1.heap.size gx)→aW.l8 R (k+1) a3 i c3 a n c n i w:=by
 have hn:=hG.len
 have hmx:=hG.max
 intro k
 induction k with
 | zero =>
  intro i w l a3 c3 g3 hi hw h3 hg3 hl hx
  rw [aW.u8]; unfold aW.g8
  refine az (by omega) ?_
  rw [List.take_of_length_le (by omega)] at hl
  obtain rfl:i=n:=by omega
  exact hend w a3 c3 hw ⟨g3,l,h3,hg3,hl.symm,hx⟩
 | succ k ih =>
  intro i w l a3 c3 g3 hi hw h3 hg3 hl hx
  rw [aW.u8]; unfold aW.g8
  refine aI (by omega) ?_
  refine (hG.from hw).ls.rdN (by omega) (by omega) fun x a5 n5 c5 hxi hcs=>?_
  rw [Int.toNat_natCast] at hxi
  have hsx:=hG.short x (List.mem_of_getElem? hxi)
  have hc5:=hcs.len
  refine oD fun u2 hb2 hb8 hk2=>⟨_,_,_,hb8.c4,?_⟩
  refine Arr.pushes S_I (Arr.nil enI 3 u2) (fun _=>rfl) (hcs.kept hk2).sl (by simp only [maxLen]; omega) (by omega) fun a6 c6 g6 u3 h6 hg6 ho=>⟨_,_,_,rfl,?_⟩
  simp only [Nat.zero_add,List.nil_append] at h6 ⊢
  have hk3:Kept u2 u3:=Mod.kept (S:=fun k=>k+1=0) ho (fun k _ h=>by omega)
  have hb3:=hb2.mod (Kept.mod (S:=fun _=>False) hk3) (fun h=>h)
  refine hb3.wr0 (by simp [enN]) fun u4 hb4 ho4=>?_
  have hb84:At8 u4 (na w) x a6 n5 c6 := .tH hb4
  refine hb84.ld ?_
  have s2:=hk2.size
  have s3:=hk3.size
  have l3:=h3.le
  have l6:=h6.le
  have hw4:From w1.heap.size w1 u4:=((hw.aF hk2).aF hk3).only ho4 (.inr (by have:=hw.size; omega))
  have hk23:=Kept.trans hk2 hk3
  have h34:aO 8 enH 56 u4 a3 i c3 l g3:=(h3.kept hk23).mod ho4 fun k h1 h2=>by omega
  have s1:=hw.size
  have ap4:Apart (fun k=>k+1=w.heap.size+1) u3 [3]:=Blk.ve hb3 (by decide)
  refine aO.push (k:=8) (en:=enH) S_N (fun _=>rfl) (by omega) h34 (x:=(x,⟨a6,n5,c6⟩)) rfl (L9 _) (by simp only [maxLen]; omega) (by omega) fun a7 c7 g7 u5 h7 hg7 hg70 ho5=>⟨_,_,_,rfl,?_⟩
  refine aA (by omega) ?_
  have ap5:Apart (fun k=>k+1=g3) u4 [3]:=Row.apart h34 (by decide)
  have s4:=ho4.size
  refine ih (i+1) u5 (l++[(x,⟨a6,n5,c6⟩)]) a7 c7 g7 (by omega) (hw4.only ho5 hg3) h7 (by unfold fresh at hg3 ⊢; omega) (by rw [List.map_append,hl,take_snoc hxi]; rfl) fun y hy=>?_
  rcases qU hy with h | h
  ·obtain ⟨gx,k1,k2⟩:=hx y h
   exact ⟨gx,Row.kR (Row.kR (k1.kept hk23) ho4 ap4 (by simp)) ho5 ap5 (by simp),k2⟩
  ·subst h
   exact ⟨g6,Row.kR (Row.kR h6 ho4 ap4 (by simp)) ho5 ap5 (by simp),by unfold fresh; omega⟩
theorem yh (hG:Good F w a n c nodes):E.CallsD Go.Proofs.Tryz.prog 22 #[.slice a n c] w fun v u=>∃ a' c',v = .slice a' n c'∧qy w.heap.size u a' n c' nodes∧Kept w u:=by
 refine aW.calls ?_
 unfold aW aW.g0
 exact ⟨n+1,yX (w1:=w) hG (fun u a' c' hu ho=>⟨_,_,rfl,ho,From.kept hu⟩) n 0 w [] none 0 0 (by omega) (From.refl _ _) (aO.nil _ _ _ _) (.inl rfl) (by simp) (fun x hx=>by cases hx)⟩
end
end Go.Mir
set_option maxRecDepth 100000
namespace Go.Mir
open Go Go.E Go.RowKit Go.Tr
section
variable {w u w1:World} {p:Addr} {o:Int} {a a1:Option Addr} {n c n1 c1 g B B':Nat} {F S:Nat→Prop} {nodes:List ND} {xs:List Nat} {ts:List TD} {e:ED} {f b t:SH}
def FTo (B n:Nat) (x:TD):Nat→Value→World→Prop:=fun i v u=>(i=5→∃ a c,v = .slice a n c∧qy B u a n c x.nodes)∧(i=7→∃ q a c,v = .slice (some q) 1 1∧At2 u q x.output a n c∧qy B u a n c x.nodes)
theorem FTo.keep {B n:Nat} {x:TD} (i:Nat) (v:Value) (u u':World) (h:FTo B n x i v u) (hk:Below u.heap.size u u'):FTo B n x i v u':=⟨fun hi=>by
 obtain ⟨a,c,h1,h2⟩:=h.1 hi
 exact ⟨a,c,h1,h2.kept hk⟩,fun hi=>by
 obtain ⟨q,a,c,h1,h2,h3⟩:=h.2 hi
 exact ⟨q,a,c,h1,h2.kept hk,h3.kept hk⟩⟩
theorem iH.at (hE:iH F w e f b t) {i:Nat} {x:TD} {a':Option Addr} {n' c':Nat} (hx:e.trees[i]?=some x) (hL:Ls tN F w a' n' c' x.nodes):Good F w a' n' c' x.nodes:=by
 obtain ⟨hg1,hg2⟩:=hE.good x (List.mem_of_getElem? hx)
 exact ⟨hL,hE.old,by rw [hL.len]; exact hg1,hg2⟩
theorem Bh {R:Value→World→Prop} {p2 p6:Addr} {f' b':SH} {cs2:Array Value} {B2 B6:World} (hp2:p2=na B2) (hp6:p6=na B6) (hne:B2.heap.size≠B6.heap.size) (hE:iH F w1 e f b t) (hb2:Blk w1 B2.heap.size cs2 26) (hc2:cs2.size=5) (hb6:Blk w1 B6.heap.size (enE e f' b' t).toArray 26)
  (hf:∃ g,Arr enS 9 w1 f'.a f'.n f'.c e.features g∧fresh B g) (hb:∃ g,Arr enI 2 w1 b'.a b'.n b'.c e.base g∧fresh B g) (hB:B≤w1.heap.size) (hB2:B≤B2.heap.size) (hB6:B≤B6.heap.size)
  (hend:∀ u t',From B w1 u→Pq B u e f' b' t'→t'.n=t.n→R (vE e f' b' t') u) :
  ∀ (k i:Nat) (w:World) (l:List (TD×SH)) (a5:Option Addr) (c5 g5:Nat),i+k=t.n→From w1.heap.size w1 w→aO 2 xu 50 w a5 i c5 l g5→fresh w1.heap.size g5→l.map (·.1)=e.trees.take i→(∀ x∈l,qy w1.heap.size w x.2.a x.2.n x.2.c x.1.nodes)→bu.l18 R (k+1) (some p2) a5 i c5 (some p6) t.a t.n t.c t.n i w:=by
 subst hp2 hp6
 have htn:=hE.ts.len
 have htm:=hE.tm
 intro k
 induction k with
 | zero =>
  intro i w l a5 c5 g5 hi hw h5 hg5 hl hx
  rw [bu.u18]; unfold bu.g18
  refine az (by omega) ?_
  rw [List.take_of_length_le (by omega)] at hl
  obtain rfl:i=t.n:=by omega
  have hb6w:=hb6.mod hw (fun h=>by have:=hb6.lt; have h':w1.heap.size≤B6.heap.size:=h; omega)
  have hb2w:=hb2.mod hw (fun h=>by have:=hb2.lt; have h':w1.heap.size≤B2.heap.size:=h; omega)
  refine bI (hb6w.wr0 (by simp [enE]) fun u1 hb61 ho1=>?_)
  have h55:At5 u1 (na B6) e f' b' ⟨a5,t.n,c5⟩ := .tH hb61
  refine bI (h55.ld ?_)
  have hb21:=hb2w.mod ho1 (fun h=>hne (by have h':B2.heap.size+1=B6.heap.size+1:=h; omega))
  refine bI (hb21.wr (by omega) fun u2 hb22 ho2=>hb22.wr (by simp; omega) fun u3 hb23 ho3=>hb23.wr (by simp; omega) fun u4 hb24 ho4=>hb24.wr (by simp; omega) fun u5 hb25 ho5=>hb25.wr (by simp; omega) fun u6 hb26 ho6=>?_)
  have h56:At5 u6 (na B2) e f' b' ⟨a5,t.n,c5⟩:=by
   refine ⟨hb26.rd ?_,hb26.rd ?_,hb26.rd ?_,hb26.rd ?_,hb26.rd ?_⟩ <;> simp [Array.getElem?_setIfInBounds,hc2]
  refine bI (h56.ld ?_)
  have hm:Mod (fun k=>k=B6.heap.size∨k=B2.heap.size) w u6 :=
   ((((((Mod.refl w).trans ho1 (fun _ _ h=>h) (fun k _ h => .inl (by omega))).trans ho2 (fun _ _ h=>h) (fun k _ h => .inr (by omega))).trans ho3 (fun _ _ h=>h) (fun k _ h => .inr (by omega))).trans ho4 (fun _ _ h=>h) (fun k _ h => .inr (by omega))).trans ho5 (fun _ _ h=>h) (fun k _ h => .inr (by omega))).trans ho6 (fun _ _ h=>h) (fun k _ h => .inr (by omega))
  have hap:Apart (fun k=>k=B6.heap.size∨k=B2.heap.size) w [9,2,50,56,3]:=by
   intro k cs e' hk hb'
   rcases hk with rfl | rfl
   ·exact Blk.ve hb6w (es:=[9,2,50,56,3]) (by decide) _ cs e' rfl hb'
   ·exact Blk.ve hb2w (es:=[9,2,50,56,3]) (by decide) _ cs e' rfl hb'
  refine hend u6 ⟨a5,t.n,c5⟩ ?_ ?_ rfl
  ·exact (Mod.weak (hw.trans hm (U:=fun k=>B≤k) (fun k _ h=>by have h':w1.heap.size≤k:=h; show B≤k; omega) (fun k _ h=>by show B≤k; rcases h with h | h <;> omega)) (fun _ _ h=>h))
  ·obtain ⟨gf,hf1,hf2⟩:=hf
   obtain ⟨gb,hb1,hb2'⟩:=hb
   have own:Pq B w e f' b' ⟨a5,t.n,c5⟩:=⟨⟨gf,hf1.mod hw (fun k h1 h2=>by have:=hf1.le; have h2':w1.heap.size≤k:=h2; omega),hf2⟩,⟨gb,hb1.mod hw (fun k h1 h2=>by have:=hb1.le; have h2':w1.heap.size≤k:=h2; omega),hb2'⟩,g5,l,h5,Hu hg5 hB,hl.symm,fun x hx'=>(hx x hx').weak hB⟩
   exact own.kR hm hap
 | succ k ih =>
  intro i w l a5 c5 g5 hi hw h5 hg5 hl hx
  rw [bu.u18]; unfold bu.g18
  refine aI (by omega) ?_
  have hEw:=hE.from hw
  refine hEw.ts.rdT (by omega) (by omega) fun x a' n' c' hxi hL=>?_
  rw [Int.toNat_natCast] at hxi
  have hGx:=hEw.at hxi hL
  refine uY fun w2 hb2' hT2 hk2=>?_
  have hw2:=hw.aF hk2
  have s1:=hw.size
  have s2:=hk2.size
  refine ⟨FTo w1.heap.size n' x,FTo.keep,_,hT2.c0,_,_,_,hT2.c1,fun u hu=>?_,fun a3 n3 c3 _=>⟨fun u hu hF=>⟨fun h=>by omega,fun _=>?_⟩,fun q _ u hu hF5 hF7=>?_⟩⟩
  ·refine E.CallsD.mono (yh (hGx.kept (Kept.trans hk2 hu))) fun v u' ⟨a',c',hv,ho,hk⟩=>⟨_,_,_,hv,⟨fun _=>⟨_,_,rfl,ho.weak (by have:=hu.size; omega)⟩,fun h=>by omega⟩,hk⟩
  ·obtain ⟨a4,c4,hv,ho⟩:=hF.1 rfl
   simp only [Value.slice.injEq] at hv
   obtain ⟨rfl,rfl,rfl⟩:=hv
   have b0:=Blk.new u #[.int .i64 x.output,.slice a3 n3 c3] 50
   exact ⟨_,_,_,rfl,⟨b0.rd rfl,b0.rd rfl⟩,ho.kept (Kept.new u _)⟩
  ·obtain ⟨q',a4,c4,hv,hT4,ho4⟩:=hF7.2 rfl
   simp only [Value.slice.injEq,Option.some.injEq] at hv
   obtain ⟨rfl,_,_⟩:=hv
   have hk2u:=Kept.trans hk2 hu
   refine aO.qQ (k:=2) (en:=xu) S_T (fun _=>rfl) (by omega) (h5.kept hk2u) (x:=(x,⟨a4,n',c4⟩)) (fun j v hj=>?_) (Aj _) (by simp only [maxLen]; omega) (by omega) fun a6 c6 g6 u2 h6 hg6 hg60 ho6=>⟨_,_,_,rfl,?_⟩
   ·match j,hj with
    | 0,hj=>cases hj; exact hT4.c0
    | 1,hj=>cases hj; exact hT4.c1
    | j+2,hj=>cases hj
   refine aA (by omega) ?_
   have ap:Apart (fun k=>k+1=g5) u [56,3]:=Row.apart (h5.kept hk2u) (by decide)
   have s3:=hu.size
   refine ih (i+1) u2 (l++[(x,⟨a4,n',c4⟩)]) a6 c6 g6 (by omega) ((hw2.aF hu).only ho6 hg5) h6 (by unfold fresh at hg5 ⊢; omega) (by rw [List.map_append,hl,take_snoc hxi]; rfl) fun y hy=>?_
   rcases qU hy with h | h
   ·exact ((hx y h).kept hk2u).kR ho6 ap
   ·subst h
    exact ho4.kR ho6 ap
theorem Jj (hE:iH F w e f b t):E.CallsD Go.Proofs.Tryz.prog 6 #[vE e f b t] w fun v u=>∃ f' b' t',v=vE e f' b' t'∧Pq w.heap.size u e f' b' t'∧Kept w u:=by
 refine bu.calls ?_
 unfold bu bu.g0
 refine UA fun w1 _ h5 hk1=>UA (e:=⟨⟨#[]⟩,[],0,[],[]⟩) (f:=⟨none,0,0⟩) (b:=⟨none,0,0⟩) (t:=⟨none,0,0⟩) fun w2 hbr _ hk2=>?_
 have h52:=h5.kept hk2
 refine h52.ld ?_
 refine Ve (f:=f) (b:=b) (t:=t) fun w3 hbo _ hk3=>?_
 have h53:=h52.kept hk3
 have hk13:=Kept.trans hk1 (Kept.trans hk2 hk3)
 have hE3:=hE.kept hk13
 have hfm:=hE.fm
 have hbm:=hE.bm
 have s1:=hk1.size
 have s2:=hk2.size
 have s3:=hk3.size
 have l1:=h5.lt
 have e1:(na w).block=w.heap.size:=rfl
 have hbr3:=hbr.mod (Kept.mod (S:=fun _=>False) hk3) (fun h=>h)
 have lr:=hbr.lt
 have lo:=hbo.lt
 refine ⟨_,_,_,h53.c1,?_⟩
 refine Arr.pushes V6 (Arr.nil enS 9 w3) (fun _=>rfl) hE3.fs.sl (by simp only [maxLen]; omega) (by omega) fun a6 c6 g6 w4 h6 hg6 ho=>⟨_,_,_,rfl,?_⟩
 simp only [Nat.zero_add,List.nil_append] at h6 ⊢
 have hk4:Kept w3 w4:=Mod.kept (S:=fun k=>k+1=0) ho (fun k _ h=>by omega)
 refine (hbo.mod (Kept.mod (S:=fun _=>False) hk4) (fun h=>h)).wr0 (by simp [enE]) fun w5 hbo5 ho5=>?_
 have hbo5':Blk w5 w2.heap.size (enE e ⟨a6,f.n,c6⟩ b t).toArray 26:=hbo5
 have f5:From w2.heap.size w2 w5:=(Kept.trans hk3 hk4).fr.only ho5 (.inr (by omega))
 have h55:=h52.from f5
 have hE5:=hE.kept (Kept.trans (Kept.trans hk1 hk2) (From.kept f5))
 refine ⟨_,_,_,h55.c3,?_⟩
 refine Arr.pushes TJ (Arr.nil enI 2 w5) (fun _=>rfl) hE5.bs.sl (by simp only [maxLen]; omega) (by omega) fun a7 c7 g7 w6 h7 hg7 ho7=>⟨_,_,_,rfl,?_⟩
 simp only [Nat.zero_add,List.nil_append] at h7 ⊢
 have hk6:Kept w5 w6:=Mod.kept (S:=fun k=>k+1=0) ho7 (fun k _ h=>by omega)
 have hbo6:=hbo5'.mod (Kept.mod (S:=fun _=>False) hk6) (fun h=>h)
 refine hbo6.wr0 (by simp [enE]) fun w7 hbo7 ho8=>?_
 have hbo7':Blk w7 w2.heap.size (enE e ⟨a6,f.n,c6⟩ ⟨a7,b.n,c7⟩ t).toArray 26:=hbo7
 have f7:From w2.heap.size w2 w7:=(f5.aF hk6).only ho8 (.inr (by omega))
 have h57:=h52.from f7
 have hE7:=hE.kept (Kept.trans (Kept.trans hk1 hk2) (From.kept f7))
 refine ⟨_,_,_,h57.c4,?_⟩
 have s4:=hk4.size
 have s5:=ho5.size
 have s6:=hk6.size
 have s7:=ho8.size
 have hbr7:=hbr.mod (Kept.mod (S:=fun _=>False) (From.kept f7)) (fun h=>h)
 have h67:=(((Row.mod h6 ho5 fun k h1 h2=>by omega).kept hk6).mod ho8 fun k h1 h2=>by omega)
 have h77:=Row.mod h7 ho8 fun k h1 h2=>by omega
 have k07:=Kept.trans (Kept.trans hk1 hk2) (From.kept f7)
 have s07:=k07.size
 refine ⟨t.n+1,Bh (w1:=w7) (B:=w.heap.size) (B2:=w1) (B6:=w2) (f':=⟨a6,f.n,c6⟩) (b':=⟨a7,b.n,c7⟩) (e:=e) (cs2:=(enE ⟨⟨#[]⟩,[],0,[],[]⟩ ⟨none,0,0⟩ ⟨none,0,0⟩ ⟨none,0,0⟩).toArray) rfl rfl (by omega) hE7 hbr7 (by simp [enE]) hbo7' ⟨g6,h67,by unfold fresh; omega⟩ ⟨g7,h77,by unfold fresh; omega⟩ s07 (by omega) (by omega) (fun u t' hu ho hn=>⟨_,_,_,rfl,ho,?_⟩) t.n 0 w7 [] none 0 0 (by omega) (From.refl _ _) (aO.nil _ _ _ _) (.inl rfl) (by simp) (fun x hx=>by cases hx)⟩
 exact BQ k07 hu (fun b h=>h)
end
end Go.Mir
set_option maxRecDepth 100000
namespace Go.Mir
open Go Go.E Go.RowKit Go.Tr
def F1 (j:Nat) (Q:Value→World→Prop):Nat→Value→World→Prop:=fun i v u=>i=j→Q v u
section
variable {w u w1:World} {p:Addr} {o:Int} {a a1:Option Addr} {n c n1 c1 g B B':Nat} {F S:Nat→Prop} {nodes:List ND} {xs:List Nat} {ts:List TD} {e:ED} {f b t:SH}
end
end Go.Mir
set_option maxRecDepth 100000
namespace Go.Mir
open Go Go.E Go.RowKit Go.Tr
section
variable {w u w1:World} {p:Addr} {o o1:Int} {a a1 b1:Option Addr} {n c n1 c1 m d g B B':Nat} {F F' S:Nat→Prop} {nodes nodes':List ND} {xs ys:List Int} {ss rs:List ByteArray} {ts ts':List TD} {e e':ED} {f b t f' b' t':SH} {x y:ND}
theorem kK {α:Type} {l r:List α} {i:Nat} {x y:α} (hx:l[i]?=some x) (hy:r[i]?=some y) (h:x≠y):l≠r:=fun e=>by subst e; rw [hx] at hy; exact h (by simpa using hy)
theorem ER {R:Value→World→Prop} (hn:n=xs.length) (hm:n≤16777216) (he:xs.length=ys.length) (hs:Sl enI w a n xs) (ht:Sl enI w a1 m ys) (hR:R (.bool (jh (xs=ys))) w):∀ (k i:Nat),i+k=n→xs.take i=ys.take i→slices_Equal_int.l14 R (k+1) a n c a1 m d n i w
 | 0,i,hi,hp=>by
  rw [slices_Equal_int.u14]; unfold slices_Equal_int.g14
  refine az (by omega) ?_
  rw [List.take_of_length_le (by omega),List.take_of_length_le (by omega)] at hp
  rw [gm hp] at hR
  exact hR
 | k+1,i,hi,hp=>by
  rw [slices_Equal_int.u14]; unfold slices_Equal_int.g14
  refine aI (by omega) ?_
  have hml:=ht.len
  refine hs.rdI (k := .i64) (by omega) (by omega) fun x hx=>?_
  refine ht.rdI (k := .i64) (by omega) (by omega) fun y hy=>?_
  rw [Int.toNat_natCast] at hx hy
  refine iJ (fun h=>?_) fun h=>?_
  ·rw [bY (kK hx hy h)] at hR
   exact hR
  ·subst h
   refine aA (by omega) ?_
   exact ER hn hm he hs ht hR k (i+1) (by omega) (by rw [take_snoc hx,take_snoc hy,hp])
theorem uG (hs:Sl enI w a n xs) (ht:Sl enI w a1 m ys) (hm:n≤16777216):Pure Go.Proofs.Tryz.prog 57 #[.slice a n c,.slice a1 m d] w (.bool (jh (xs=ys))):=by
 refine slices_Equal_int.calls (R:=fun v' u=>v'=_∧Below w.heap.size w u) ?_
 unfold slices_Equal_int slices_Equal_int.g0
 have hl:=hs.len
 have hl2:=ht.len
 refine iJ (fun h=>⟨by rw [bY]; intro e; subst e; omega,Below.refl _ _⟩) fun h=>?_
 exact ⟨n+1,ER hl hm (by omega) hs ht ⟨rfl,Below.refl _ _⟩ n 0 (by omega) rfl⟩
theorem Ed {R:Value→World→Prop} (hn:n=xs.length) (hm:n≤16777216) (he:xs.length=ys.length) (hs:Sl enI w a n xs) (ht:Sl enI w a1 m ys) (hR:R (.bool (jh (xs=ys))) w):∀ (k i:Nat),i+k=n→xs.take i=ys.take i→bP.l14 R (k+1) a n c a1 m d n i w
 | 0,i,hi,hp=>by
  rw [bP.u14]; unfold bP.g14
  refine az (by omega) ?_
  rw [List.take_of_length_le (by omega),List.take_of_length_le (by omega)] at hp
  rw [gm hp] at hR
  exact hR
 | k+1,i,hi,hp=>by
  rw [bP.u14]; unfold bP.g14
  refine aI (by omega) ?_
  have hml:=ht.len
  refine hs.rdI (k := .i64) (by omega) (by omega) fun x hx=>?_
  refine ht.rdI (k := .i64) (by omega) (by omega) fun y hy=>?_
  rw [Int.toNat_natCast] at hx hy
  refine iJ (fun h=>?_) fun h=>?_
  ·rw [bY (kK hx hy h)] at hR
   exact hR
  ·subst h
   refine aA (by omega) ?_
   exact Ed hn hm he hs ht hR k (i+1) (by omega) (by rw [take_snoc hx,take_snoc hy,hp])
theorem ET (hs:Sl enI w a n xs) (ht:Sl enI w a1 m ys) (hm:n≤16777216):Pure Go.Proofs.Tryz.prog 60 #[.slice a n c,.slice a1 m d] w (.bool (jh (xs=ys))):=by
 refine bP.calls (R:=fun v' u=>v'=_∧Below w.heap.size w u) ?_
 unfold bP bP.g0
 have hl:=hs.len
 have hl2:=ht.len
 refine iJ (fun h=>⟨by rw [bY]; intro e; subst e; omega,Below.refl _ _⟩) fun h=>?_
 exact ⟨n+1,Ed hl hm (by omega) hs ht ⟨rfl,Below.refl _ _⟩ n 0 (by omega) rfl⟩
theorem rdS (h:Sl enS w a n ss) {i:Int} {K:ByteArray→Prop} (h0:0≤i) (hi:i<n) (hk:∀ x,ss[i.toNat]?=some x→K x) :
  bK a fun q=>chk (0≤i∧i<(n:Int)) (∃ y:ByteArray,w.cell? (q.add (i.toNat*1))=some (.string y)∧K y):=h.rd (f:=fun y => .string y) (sel:=fun x=>x) (fun _=>rfl) h0 hi hk
theorem OW {s r:ByteArray} {t f:Prop} (ht:s≠r→t) (hf:s=r→f):af (!(s.toList==r.toList)) t f:=by
 rw [str_eq]
 by_cases h:s=r
 ·rw [gm h]; exact hf h
 ·rw [bY h]; exact ht h
theorem Sj (h0:x.kind=y.kind) (h1:x.value=y.value) (h2:x.feature=y.feature) (h3:x.thr=y.thr) (h4:x.bH=y.bH) (h5:x.missing=y.missing) (h6:x.left=y.left) (h7:x.right=y.right):x=y:=by
 cases x; cases y; simp_all
theorem Oi (hs:Sl enI w a n x.bH) (ht:Sl enI w a1 m y.bH) (hm:n≤16777216):Pure Go.Proofs.Tryz.prog 55 #[vN x a n c,vN y a1 m d] w (.bool (jh (x=y))):=by
 refine fF.calls (R:=fun v' u=>v'=_∧Below w.heap.size w u) ?_
 unfold fF fF.g0
 refine Sv fun w1 _ hx1 hk1=>Sv fun w2 _ hy hk2=>?_
 have hx:=hx1.kept hk2
 have hk:=Kept.trans hk1 hk2
 have no:x≠y→∀ u,Below w2.heap.size w2 u→(Value.bool false = .bool (jh (x=y))∧Below w.heap.size w u):=fun h u hu=>⟨by rw [bY h],Kept.trans hk hu⟩
 refine ⟨_,hx.c0,_,hy.c0,oJ (fun e0=>?_) fun e0=>no fun h=>e0 (by rw [h])⟩
 refine ⟨_,hx.c1,_,hy.c1,oJ (fun e1=>?_) fun e0=>no fun h=>e0 (by rw [h])⟩
 refine ⟨_,hx.c2,_,hy.c2,oJ (fun e2=>?_) fun e0=>no fun h=>e0 (by rw [h])⟩
 refine ⟨_,hx.c3,_,fb _ _,_,hy.c3,_,fb _ _,oJ (fun e3=>?_) fun e0=>no fun h=>e0 (by rw [h])⟩
 refine ⟨_,_,_,hx.c4,_,_,_,hy.c4,jh (x.bH=y.bH),fun u hu=>pq (uG (hs.keep (Kept.trans hk hu)) (ht.keep (Kept.trans hk hu)) hm) hu,?_⟩
 refine (aH _ _ _).2 ⟨fun e4=>?_,fun e4=>no fun h=>by rw [gm (by rw [h])] at e4; cases e4⟩
 refine ⟨_,hx.c5,_,hy.c5,oJ (fun e5=>?_) fun e0=>no fun h=>e0 (by rw [h])⟩
 refine ⟨_,hx.c6,_,hy.c6,oJ (fun e6=>?_) fun e0=>no fun h=>e0 (by rw [h])⟩
 refine ⟨_,hx.c7,_,hy.c7,fun u hu=>⟨?_,Kept.trans hk hu⟩⟩
 have h4:x.bH=y.bH:=Classical.byContradiction fun h=>by rw [bY h] at e4; cases e4
 by_cases e7:x.right=y.right
 ·rw [gm (Sj e0 e1 e2 (by omega) h4 e5 e6 e7),e7]; simp
 ·rw [bY (fun h=>e7 (by rw [h]))]; simp [e7]
theorem EP {R:Value→World→Prop} (hG:Good F w1 a n c nodes) (hG':Good F' w1 a1 m d nodes') (he:n=m) (hR:∀ u,From w1.heap.size w1 u→R (.bool (jh (nodes=nodes'))) u):∀ (k i:Nat) (w:World),i+k=n→From w1.heap.size w1 w→nodes.take i=nodes'.take i→eP.l14 R (k+1) a1 m d a n c n i w
 | 0,i,w,hi,hw,hp=>by
  have hn:=hG.len
  have hn':=hG'.len
  rw [eP.u14]; unfold eP.g14
  refine az (by omega) ?_
  rw [List.take_of_length_le (by omega),List.take_of_length_le (by omega)] at hp
  have:=hR w hw
  rw [gm hp] at this
  exact this
 | k+1,i,w,hi,hw,hp=>by
  have hn:=hG.len
  have hn':=hG'.len
  have hmx:=hG.max
  rw [eP.u14]; unfold eP.g14
  refine aI (by omega) ?_
  refine (hG.from hw).ls.rdN (by omega) (by omega) fun x a5 n5 c5 hx hcs=>?_
  rw [Int.toNat_natCast] at hx
  refine oD fun u _ hb hk=>?_
  have hu:=hw.aF hk
  refine (hG'.from hu).ls.rdN (by omega) (by omega) fun y a6 n6 c6 hy hcs'=>?_
  rw [Int.toNat_natCast] at hy
  refine oD fun u2 _ hb2 hk2=>?_
  have hb':=hb.kept hk2
  refine hb'.ld (hb2.ld ?_)
  have hs5:=hG.short x (List.mem_of_getElem? hx)
  have hl5:=hcs.len
  refine E.CallsD.mono (Oi (x:=x) (y:=y) (hcs.kept (Kept.trans hk hk2)).sl (hcs'.kept hk2).sl (by omega)) fun v u3 ⟨hv,hk3⟩=>⟨_,hv,?_⟩
  have hu3:=(hu.aF hk2).aF hk3
  by_cases h:x=y
  ·rw [gm h]
   subst h
   refine DR ?_
   refine aA (by omega) ?_
   exact EP hG hG' he hR k (i+1) u3 (by omega) hu3 (by rw [take_snoc hx,take_snoc hy,hp])
  ·rw [bY h]
   refine F7 ?_
   have:=hR u3 hu3
   rw [bY (kK hx hy h)] at this
   exact this
theorem Nj (hG:Good F w a n c nodes) (hG':Good F' w a1 m d nodes'):Pure Go.Proofs.Tryz.prog 54 #[.slice a n c,.slice a1 m d,.func (.func 55) #[] #[]] w (.bool (jh (nodes=nodes'))):=by
 refine eP.calls (R:=fun v' u=>v'=_∧Below w.heap.size w u) ?_
 unfold eP eP.g0
 have hl:=hG.len
 have hl2:=hG'.len
 refine iJ (fun h=>⟨by rw [bY]; intro e; subst e; omega,Below.refl _ _⟩) fun h=>?_
 exact ⟨n+1,EP hG hG' (by omega) (fun u hu=>⟨rfl,From.kept hu⟩) n 0 w (by omega) (From.refl _ _) rfl⟩
theorem QI (hG:Good F w a n c nodes) (hG':Good F' w a1 m d nodes'):Pure Go.Proofs.Tryz.prog 32 #[vT o a n c,vT o1 a1 m d] w (.bool (jh (o=o1∧nodes=nodes'))):=by
 refine ig.calls (R:=fun v' u=>v'=_∧Below w.heap.size w u) ?_
 unfold ig ig.g0
 refine ny fun w1 _ hT1 hk1=>ny fun w2 _ hT2 hk2=>?_
 have hT:=hT1.kept hk2
 have hk:=Kept.trans hk1 hk2
 refine ⟨_,hT.c0,_,hT2.c0,oJ (fun e0=>?_) fun e0=>⟨by rw [bY (fun h=>e0 h.1)],hk⟩⟩
 refine ⟨_,_,_,hT.c1,_,_,_,hT2.c1,?_⟩
 refine E.CallsD.mono (Nj (hG.kept hk) (hG'.kept hk)) fun v u ⟨hv,hk3⟩=>⟨_,hv,?_,Kept.trans hk hk3⟩
 rw [pX (p:=nodes=nodes') (q:=o=o1∧nodes=nodes') ⟨fun h=>⟨e0,h⟩,fun h=>h.2⟩]
theorem qV {R:Value→World→Prop} (hG:Good F w1 a n c nodes) (hG':Good F' w1 a1 m d nodes') (hT:At2 w1 p o1 a1 m d) (he:n=m) (hR:∀ u,From w1.heap.size w1 u→R (.bool (jh (nodes=nodes'))) u):∀ (k i:Nat) (w:World),i+k=n→From w1.heap.size w1 w→nodes.take i=nodes'.take i→aS.l14 R (k+1) (some p) a n c n i w
 | 0,i,w,hi,hw,hp=>by
  have hn:=hG.len
  have hn':=hG'.len
  rw [aS.u14]; unfold aS.g14
  refine az (by omega) ?_
  rw [List.take_of_length_le (by omega),List.take_of_length_le (by omega)] at hp
  have:=hR w hw
  rw [gm hp] at this
  exact this
 | k+1,i,w,hi,hw,hp=>by
  have hn:=hG.len
  have hn':=hG'.len
  have hmx:=hG.max
  rw [aS.u14]; unfold aS.g14
  refine aI (by omega) ?_
  refine (hG.from hw).ls.rdN (by omega) (by omega) fun x a5 n5 c5 hx hcs=>?_
  rw [Int.toNat_natCast] at hx
  refine oD fun u _ hb hk=>?_
  have hu:=hw.aF hk
  refine bI ⟨_,_,_,(hT.from hu).c1,?_⟩
  refine (hG'.from hu).ls.rdN (by omega) (by omega) fun y a6 n6 c6 hy hcs'=>?_
  rw [Int.toNat_natCast] at hy
  refine oD fun u2 _ hb2 hk2=>?_
  have hb':=hb.kept hk2
  have hs5:=hG.short x (List.mem_of_getElem? hx)
  have hl5:=hcs.len
  have hu2:=hu.aF hk2
  have no:x≠y→∀ u,Below u2.heap.size u2 u→R (.bool false) u:=fun h u hu=>by
   have:=hR u (hu2.aF hu)
   rw [bY (kK hx hy h)] at this
   exact this
  refine ⟨_,hb'.c0,_,hb2.c0,iJ (fun e0=>no fun h=>e0 (by rw [h])) fun e0=>?_⟩
  refine ⟨_,hb'.c1,_,hb2.c1,iJ (fun e0=>no fun h=>e0 (by rw [h])) fun e1=>?_⟩
  refine ⟨_,hb'.c2,_,hb2.c2,iJ (fun e0=>no fun h=>e0 (by rw [h])) fun e2=>?_⟩
  refine ⟨_,hb'.c3,_,fb _ _,_,hb2.c3,_,fb _ _,iJ (fun e0=>no fun h=>e0 (by rw [h])) fun e3=>?_⟩
  refine ⟨_,_,_,hb'.c4,_,_,_,hb2.c4,decide (x.bH=y.bH),fun u hu=>pq (P8 (hcs.kept (Kept.trans hk (Kept.trans hk2 hu))).sl (hcs'.kept (Kept.trans hk2 hu)).sl (by omega)) hu,?_⟩
  by_cases e4:x.bH=y.bH
  ·rw [decide_eq_true e4]
   refine DR ?_
   refine ⟨_,hb'.c5,_,hb2.c5,iJ (fun e0=>no fun h=>e0 (by rw [h])) fun e5=>?_⟩
   refine ⟨_,hb'.c6,_,hb2.c6,iJ (fun e0=>no fun h=>e0 (by rw [h])) fun e6=>?_⟩
   refine ⟨_,hb'.c7,_,hb2.c7,fun u3 hu3=>iJ (fun e0=>no (fun h=>e0 (by rw [h])) u3 hu3) fun e7=>?_⟩
   have h:=Sj e0 e1 e2 (by omega) e4 e5 e6 e7
   subst h
   refine aA (by omega) ?_
   exact qV hG hG' hT he hR k (i+1) u3 (by omega) (hu2.aF hu3) (by rw [take_snoc hx,take_snoc hy,hp])
  ·rw [decide_eq_false e4]
   exact F7 (no fun h=>e4 (by rw [h]))
theorem Gy (hG:Good F w a n c nodes) (hG':Good F' w a1 m d nodes'):Pure Go.Proofs.Tryz.prog 36 #[vT o a n c,vT o1 a1 m d] w (.bool (jh (o=o1∧nodes=nodes'))):=by
 refine aS.calls (R:=fun v' u=>v'=_∧Below w.heap.size w u) ?_
 unfold aS aS.g0
 refine ny fun w1 _ hT1 hk1=>ny fun w2 _ hT2 hk2=>?_
 have hT:=hT1.kept hk2
 have hk:=Kept.trans hk1 hk2
 have hl:=hG.len
 have hl2:=hG'.len
 refine ⟨_,hT.c0,_,hT2.c0,iJ (fun e0=>⟨by rw [bY (fun h=>e0 h.1)],hk⟩) fun e0=>?_⟩
 refine ⟨_,_,_,hT.c1,_,_,_,hT2.c1,iJ (fun e1=>⟨by rw [bY (fun h=>e1 (by rw [hl,hl2,h.2]))],hk⟩) fun e1=>⟨_,_,_,hT.c1,?_⟩⟩
 exact ⟨n+1,qV (w1:=w2) (hG.kept hk) (hG'.kept hk) hT2 (by omega) (fun u hu=>⟨by rw [pX (p:=nodes=nodes') (q:=o=o1∧nodes=nodes') ⟨fun h=>⟨e0,h⟩,fun h=>h.2⟩],Kept.trans hk (From.kept hu)⟩) n 0 w2 (by omega) (From.refl _ _) rfl⟩
end
end Go.Mir
set_option maxRecDepth 100000
namespace Go.Mir
open Go Go.E Go.RowKit Go.Tr
section
variable {w u w1:World} {p q:Addr} {o o1:Int} {a a1 b1:Option Addr} {n c n1 c1 m d g B B':Nat} {F F' S:Nat→Prop} {nodes nodes':List ND} {ts ts':List TD} {e e':ED} {f b t f' b' t':SH} {x y:TD}
theorem Sm:x=y↔(x.output=y.output∧x.nodes=y.nodes):=by
 constructor
 ·intro h; rw [h]; exact ⟨rfl,rfl⟩
 ·intro h; cases x; cases y; simp_all
theorem Vb (h0:e.name=e'.name) (h1:e.features=e'.features) (h2:e.outputs=e'.outputs) (h3:e.base=e'.base) (h4:e.trees=e'.trees):e=e':=by
 cases e; cases e'; simp_all
theorem y8 {R:Value→World→Prop} (hE:iH F w1 e f b t) (hE':iH F' w1 e' f' b' t') (h5:At5 w1 p e f b t) (h5':At5 w1 q e' f' b' t') (he:t.n=t'.n) (hR:∀ u,From w1.heap.size w1 u→R (.bool (jh (e.trees=e'.trees))) u):∀ (k i:Nat) (w:World),i+k=t.n→From w1.heap.size w1 w→e.trees.take i=e'.trees.take i→aj.l60 R (k+1) (some p) (some q) t.n i w
 | 0,i,w,hi,hw,hp=>by
  have hn:=hE.ts.len
  have hn':=hE'.ts.len
  rw [aj.u60]; unfold aj.g60
  refine az (by omega) ?_
  rw [List.take_of_length_le (by omega),List.take_of_length_le (by omega)] at hp
  have:=hR w hw
  rw [gm hp] at this
  exact this
 | k+1,i,w,hi,hw,hp=>by
  have hn:=hE.ts.len
  have hn':=hE'.ts.len
  have hmx:=hE.tm
  rw [aj.u60]; unfold aj.g60
  refine aI (by omega) ?_
  have hEw:=hE.from hw
  have hEw':=hE'.from hw
  refine bI ⟨_,_,_,(h5.from hw).c4,?_⟩
  refine hEw.ts.rdT (by omega) (by omega) fun x a5 n5 c5 hx hL=>?_
  rw [Int.toNat_natCast] at hx
  refine bI ⟨_,_,_,(h5'.from hw).c4,?_⟩
  refine hEw'.ts.rdT (by omega) (by omega) fun y a6 n6 c6 hy hL'=>?_
  rw [Int.toNat_natCast] at hy
  refine E.CallsD.mono (Gy (o:=x.output) (o1:=y.output) (Go.Mir.iH.at hEw hx hL) (Go.Mir.iH.at hEw' hy hL')) fun v u3 ⟨hv,hk3⟩=>⟨_,hv,?_⟩
  have hu3:=hw.aF hk3
  rw [pX Sm.symm]
  by_cases h:x=y
  ·rw [gm h]
   subst h
   refine DR ?_
   refine aA (by omega) ?_
   exact y8 hE hE' h5 h5' he hR k (i+1) u3 (by omega) hu3 (by rw [take_snoc hx,take_snoc hy,hp])
  ·rw [bY h]
   refine F7 ?_
   have:=hR u3 hu3
   rw [bY (kK hx hy h)] at this
   exact this
theorem yJ {R:Value→World→Prop} (hE:iH F w1 e f b t) (hE':iH F' w1 e' f' b' t') (h5:At5 w1 p e f b t) (h5':At5 w1 q e' f' b' t') (he:b.n=b'.n) (hno:e.base≠e'.base→R (.bool false) w1) (hyes:e.base=e'.base→aj.e60 R (some p) (some q) t.n 0 w1):∀ (k i:Nat),i+k=b.n→e.base.take i=e'.base.take i→aj.l37 R (k+1) (some p) (some q) b.n i w1
 | 0,i,hi,hp=>by
  have hn:=hE.bs.len
  have hn':=hE'.bs.len
  rw [aj.u37]; unfold aj.g37
  refine az (by omega) ?_
  rw [List.take_of_length_le (by omega),List.take_of_length_le (by omega)] at hp
  exact bI ⟨_,_,_,h5.c4,hyes hp⟩
 | k+1,i,hi,hp=>by
  have hn:=hE.bs.len
  have hn':=hE'.bs.len
  have hmx:=hE.bm
  rw [aj.u37]; unfold aj.g37
  refine aI (by omega) ?_
  refine bI ⟨_,_,_,h5.c3,?_⟩
  refine hE.bs.sl.rdI (k := .i64) (by omega) (by omega) fun x hx=>bI ⟨_,_,_,h5'.c3,?_⟩
  refine hE'.bs.sl.rdI (k := .i64) (by omega) (by omega) fun y hy=>?_
  rw [Int.toNat_natCast] at hx hy
  refine iJ (fun h=>hno (kK hx hy h)) fun h=>?_
  subst h
  refine aA (by omega) ?_
  exact yJ hE hE' h5 h5' he hno hyes k (i+1) (by omega) (by rw [take_snoc hx,take_snoc hy,hp])
theorem yf {R:Value→World→Prop} (hE:iH F w1 e f b t) (hE':iH F' w1 e' f' b' t') (h5:At5 w1 p e f b t) (h5':At5 w1 q e' f' b' t') (he:f.n=f'.n) (hno:e.features≠e'.features→R (.bool false) w1) (hyes:e.features=e'.features→aj.e37 R (some p) (some q) b.n 0 w1):∀ (k i:Nat),i+k=f.n→e.features.take i=e'.features.take i→aj.l14 R (k+1) (some p) (some q) f.n i w1
 | 0,i,hi,hp=>by
  have hn:=hE.fs.len
  have hn':=hE'.fs.len
  rw [aj.u14]; unfold aj.g14
  refine az (by omega) ?_
  rw [List.take_of_length_le (by omega),List.take_of_length_le (by omega)] at hp
  exact bI ⟨_,_,_,h5.c3,hyes hp⟩
 | k+1,i,hi,hp=>by
  have hn:=hE.fs.len
  have hn':=hE'.fs.len
  have hmx:=hE.fm
  rw [aj.u14]; unfold aj.g14
  refine aI (by omega) ?_
  refine bI ⟨_,_,_,h5.c1,?_⟩
  refine rdS hE.fs.sl (by omega) (by omega) fun x hx=>bI ⟨_,_,_,h5'.c1,?_⟩
  refine rdS hE'.fs.sl (by omega) (by omega) fun y hy=>?_
  rw [Int.toNat_natCast] at hx hy
  refine OW (fun h=>hno (kK hx hy h)) fun h=>?_
  subst h
  refine aA (by omega) ?_
  exact yf hE hE' h5 h5' he hno hyes k (i+1) (by omega) (by rw [take_snoc hx,take_snoc hy,hp])
theorem JZ (hE:iH F w e f b t) (hE':iH F' w e' f' b' t'):Pure Go.Proofs.Tryz.prog 13 #[vE e f b t,vE e' f' b' t'] w (.bool (jh (e=e'))):=by
 refine aj.calls (R:=fun v' u=>v'=_∧Below w.heap.size w u) ?_
 unfold aj aj.g0
 refine UA fun w1 _ h51 hk1=>UA fun w2 _ h52 hk2=>?_
 have h5:=h51.kept hk2
 have hk:=Kept.trans hk1 hk2
 have no:e≠e'→(Value.bool false = .bool (jh (e=e'))∧Below w.heap.size w w2):=fun h=>⟨by rw [bY h],hk⟩
 have hE2:=hE.kept hk
 have hE2':=hE'.kept hk
 have l1:=hE.fs.len
 have l1':=hE'.fs.len
 have l2:=hE.bs.len
 have l2':=hE'.bs.len
 have l3:=hE.ts.len
 have l3':=hE'.ts.len
 refine ⟨_,h5.c0,_,h52.c0,OW (fun e0=>no fun h=>e0 (by rw [h])) fun e0=>?_⟩
 refine ⟨_,h5.c2,_,h52.c2,iJ (fun e0=>no fun h=>e0 (by rw [h])) fun e2=>?_⟩
 refine ⟨_,_,_,h5.c1,_,_,_,h52.c1,iJ (fun e0=>no fun h=>e0 (by rw [l1,l1',h])) fun n1=>?_⟩
 refine ⟨_,_,_,h5.c3,_,_,_,h52.c3,iJ (fun e0=>no fun h=>e0 (by rw [l2,l2',h])) fun n2=>?_⟩
 refine ⟨_,_,_,h5.c4,_,_,_,h52.c4,iJ (fun e0=>no fun h=>e0 (by rw [l3,l3',h])) fun n3=>⟨_,_,_,h5.c1,?_⟩⟩
 refine ⟨f.n+1,yf hE2 hE2' h5 h52 (by omega) (fun h=>no fun h'=>h (by rw [h'])) (fun e1=>?_) f.n 0 (by omega) rfl⟩
 refine ⟨b.n+1,yJ hE2 hE2' h5 h52 (by omega) (fun h=>no fun h'=>h (by rw [h'])) (fun e3=>?_) b.n 0 (by omega) rfl⟩
 exact ⟨t.n+1,y8 (w1:=w2) hE2 hE2' h5 h52 (by omega) (fun u hu=>⟨by rw [pX (p:=e.trees=e'.trees) (q:=e=e') ⟨fun h=>Vb e0 e1 e2 e3 h,fun h=>by rw [h]⟩],Kept.trans hk (From.kept hu)⟩) t.n 0 w2 (by omega) (From.refl _ _) rfl⟩
end
end Go.Mir
set_option maxRecDepth 100000
namespace Go.Mir
open Go Go.E Go.RowKit Go.Tr
section
variable {w u w1:World} {p:Addr} {o:Int} {a a1:Option Addr} {n c n1 c1 m d g B B':Nat} {F F' S:Nat→Prop} {nodes:List ND}
end
end Go.Mir
set_option maxRecDepth 100000
namespace Go.Mir
open Go Go.E Go.RowKit Go.Tr
section
variable {w u w1 W:World} {p:Addr} {o:Int} {a a1:Option Addr} {n c n1 c1 m d g B B':Nat} {F F' S:Nat→Prop} {nodes:List ND}
end
end Go.Mir
