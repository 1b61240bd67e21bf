/- Part of a proof of laws of the seat Ytmjlipmapfofmaa: functions' weakest preconditions, each checked by the kernel, contracts out of them, plain lemmas; no conditions. -/
import Derived.Test.YtmjlipmapfofmaaTC
import Derived.Test.YtmjlipmapfofmaaTPA
set_option linter.unusedVariables false
set_option linter.unusedSimpArgs false
set_option linter.unusedSectionVars false
set_option maxRecDepth 100000
namespace Go.Mir
open Go Go.E Go.RowKit Go.Tr
section
variable {w w1:World} {p:Addr} {o:Int} {a a1:Option Addr} {n c n1 c1:Nat} {F:Nat→Prop} {nodes:List ND} {xs:List Nat}
end
end Go.Mir
set_option maxRecDepth 100000
namespace Go.Mir
open Go Go.E Go.RowKit Go.Tr
theorem S_N:dV Go.Proofs.Try.prog 42 101 8 80:=sliceT (by kernel_rfl)
theorem S_T:dV Go.Proofs.Try.prog 24 44 2 32:=sliceT (by kernel_rfl)
def fresh (B g:Nat):Prop:=g=0∨B<g
def Apart (S:Nat→Prop) (w:World) (es:List Nat):Prop:=∀ k cs e,S k→Blk w k cs e→e∉es
section
variable {w u w1:World} {p:Addr} {o:Int} {a a1:Option Addr} {n c n1 c1 g B B':Nat} {F S:Nat→Prop} {nodes:List ND} {xs:List Nat} {ts:List TD} {e:ED} {f b t:SH}
theorem Row.jP {e size:Nat} {cs:List Value} {es:List Nat} (h:Row w e size a n c cs g) (hm:Mod S w u) (hS:Apart S w es) (he:e∈es):Row u e size a n c cs g:=by
 refine ⟨h.1,?_⟩
 rcases h.2 with h0 | ⟨b,cur,rfl,h1,hb,h2⟩
 ·exact .inl h0
 ·exact .inr ⟨b,cur,rfl,h1,hb.mod hm (fun hs=>hS b cur e hs hb he),h2⟩
theorem Row.apart {e' size:Nat} {cs:List Value} {es:List Nat} (h:Row w e' size a n c cs g) (he:e'∉es):Apart (fun k=>k+1=g) w es:=by
 intro k cs' e hk hb
 rcases h.2 with ⟨rfl,_⟩ | ⟨b,cur,rfl,_,hb',_⟩
 ·cases hk
 ·obtain rfl:k=b:=by have hk':k+1=b+1:=hk; omega
  unfold Blk at hb hb'
  rw [hb] at hb'
  cases hb'
  exact he
theorem Blk.uT {k0 e':Nat} {cs:Array Value} {es:List Nat} (h:Blk w k0 cs e') (he:e'∉es):Apart (fun k=>k+1=k0+1) w es:=by
 intro k cs' e hk hb
 obtain rfl:k=k0:=by have hk':k+1=k0+1:=hk; omega
 unfold Blk at hb h
 rw [hb] at h
 cases h
 exact he
def wK (B:Nat) (w:World) (a:Option Addr) (n c:Nat) (nodes:List ND):Prop:=∃ g l,au 8 enH 101 w a n c l g∧fresh B g∧nodes=l.map (·.1)∧∀ x∈l,∃ gx,Arr enI 3 w x.2.a x.2.n x.2.c x.1.aI gx∧fresh B gx
theorem wK.jP (h:wK B w a n c nodes) (hm:Mod S w u) (hS:Apart S w [101,3]):wK B u a n c nodes:=by
 obtain ⟨g,l,h1,h2,h3,h4⟩:=h
 exact ⟨g,l,Row.jP h1 hm hS (by simp),h2,h3,fun x hx=>let ⟨gx,k1,k2⟩:=h4 x hx; ⟨gx,Row.jP k1 hm hS (by simp),k2⟩⟩
theorem wK.kept (h:wK B w a n c nodes) (hk:Kept w u):wK B u a n c nodes:=h.jP (S:=fun _=>False) (Kept.mod hk) (fun _ _ _ h=>h.elim)
theorem wK.weak (h:wK B w a n c nodes) (hB:B'≤B):wK B' w a n c nodes:=by
 obtain ⟨g,l,h1,h2,h3,h4⟩:=h
 exact ⟨g,l,h1,h2.imp id (fun h=>Nat.lt_of_le_of_lt hB h),h3,fun x hx=>let ⟨gx,k1,k2⟩:=h4 x hx; ⟨gx,k1,k2.imp id (fun h=>Nat.lt_of_le_of_lt hB h)⟩⟩
def QV (B:Nat) (w:World) (b:Nat):Prop:=B≤b∧b<w.heap.size
theorem wK.ls (h:wK B w a n c nodes):Ls tN (QV B w) w a n c nodes:=by
 obtain ⟨g,l,h1,h2,rfl,h4⟩:=h
 have l1:=h1.le
 refine h1.lsN (fun b hb=>⟨?_,?_⟩) fun x hx=>?_
 ·unfold fresh at h2; omega
 ·omega
 ·obtain ⟨gx,k1,k2⟩:=h4 x hx
  have l2:=k1.le
  refine (k1.ls (h1:=fun _=>rfl)).mono fun b hb=>⟨?_,?_⟩
  ·unfold fresh at k2; omega
  ·omega
theorem wK.nil (B:Nat) (w:World) (a:Option Addr) (c:Nat) (h:a=none∧c=0):wK B w a 0 c []:=by
 obtain ⟨rfl,rfl⟩:=h
 exact ⟨0,[],au.nil _ _ _ _,.inl rfl,rfl,fun x hx=>by cases hx⟩
def La (B:Nat) (w:World) (a:Option Addr) (n c:Nat) (ts:List TD):Prop:=∃ g l,au 2 qP 44 w a n c l g∧fresh B g∧ts=l.map (·.1)∧∀ x∈l,wK B w x.2.a x.2.n x.2.c x.1.nodes
theorem La.jP (h:La B w a n c ts) (hm:Mod S w u) (hS:Apart S w [44,101,3]):La B u a n c ts:=by
 obtain ⟨g,l,h1,h2,h3,h4⟩:=h
 exact ⟨g,l,Row.jP h1 hm hS (by simp),h2,h3,fun x hx=>(h4 x hx).jP hm fun k cs e hk hb he=>hS k cs e hk hb (by simp only [List.mem_cons] at he ⊢; exact .inr he)⟩
theorem La.weak (h:La B w a n c ts) (hB:B'≤B):La B' w a n c ts:=by
 obtain ⟨g,l,h1,h2,h3,h4⟩:=h
 exact ⟨g,l,h1,h2.imp id (fun h=>Nat.lt_of_le_of_lt hB h),h3,fun x hx=>(h4 x hx).weak hB⟩
theorem La.ls (h:La B w a n c ts):Ls tT (QV B w) w a n c ts:=by
 obtain ⟨g,l,h1,h2,rfl,h4⟩:=h
 have l1:=h1.le
 refine h1.lsT (fun b hb=>⟨?_,?_⟩) fun x hx=>(h4 x hx).ls
 ·unfold fresh at h2; omega
 ·omega
structure zV (B:Nat) (w:World) (e:ED) (f b t:SH):Prop where
 fs:∃ g,Arr enS 9 w f.a f.n f.c e.features g∧fresh B g
 bs:∃ g,Arr enI 2 w b.a b.n b.c e.base g∧fresh B g
 ts:La B w t.a t.n t.c e.trees
theorem zV.jP (h:zV B w e f b t) (hm:Mod S w u) (hS:Apart S w [9,2,44,101,3]):zV B u e f b t :=
 ⟨let ⟨g,h1,h2⟩:=h.fs; ⟨g,Row.jP h1 hm hS (by simp),h2⟩,let ⟨g,h1,h2⟩:=h.bs; ⟨g,Row.jP h1 hm hS (by simp),h2⟩,h.ts.jP hm fun k cs e hk hb he=>hS k cs e hk hb (by simp only [List.mem_cons] at he ⊢; exact .inr (.inr he))⟩
theorem zV.kept (h:zV B w e f b t) (hk:Kept w u):zV B u e f b t:=h.jP (S:=fun _=>False) (Kept.mod hk) (fun _ _ _ h=>h.elim)
theorem zV.weak (h:zV B w e f b t) (hB:B'≤B):zV B' w e f b t :=
 ⟨let ⟨g,h1,h2⟩:=h.fs; ⟨g,h1,h2.imp id (fun h=>Nat.lt_of_le_of_lt hB h)⟩,let ⟨g,h1,h2⟩:=h.bs; ⟨g,h1,h2.imp id (fun h=>Nat.lt_of_le_of_lt hB h)⟩,h.ts.weak hB⟩
theorem JY {α:Type} {en:α→Value} {h1:∀ x,(en x).oneCell'=true} {e:Nat} {ys:List α} (h:Arr en e w a n c ys g) (hg:fresh B g):Ls (Ty.flat en h1) (QV B w) w a n c ys:=by
 have l2:=h.le
 refine h.ls.mono fun b hb=>⟨?_,?_⟩
 ·unfold fresh at hg; omega
 ·omega
structure Lh (e:ED):Prop where
 fm:e.features.length≤1048576
 bm:e.base.length≤1048576
 tm:e.trees.length≤1048576
 good:∀ x∈e.trees,x.nodes.length≤1048576∧Short 1048576 x.nodes
theorem gV.sized (h:gV F w e f b t):Lh e:=⟨by rw [← h.fs.len]; exact h.fm,by rw [← h.bs.len]; exact h.bm,by rw [← h.ts.len]; exact h.tm,h.good⟩
theorem zV.good (h:zV B w e f b t) (hs:Lh e):gV (QV B w) w e f b t:=by
 obtain ⟨g1,h1,k1⟩:=h.fs
 obtain ⟨g2,h2,k2⟩:=h.bs
 have l3:=h.ts.ls
 exact ⟨JY h1 k1,JY h2 k2,l3,fun b hb=>hb.2,by rw [h1.len]; exact hs.fm,by rw [h2.len]; exact hs.bm,by rw [l3.len]; exact hs.tm,hs.good⟩
theorem wG.own {α:Type} {en:α→Value} {e:Nat} {ys:List α} (h:wG en e w u a n c ys):∃ g,Arr en e u a n c ys g∧fresh w.heap.size g:=let ⟨g,h1,h2,_⟩:=h; ⟨g,h1,h2⟩
theorem zy {ys:List Int} (hs:Sl enI w a n ys) (hm:n≤1048576):E.CallsD Go.Proofs.Try.prog 45 #[.slice a n c] w fun v u=>∃ a' c',v = .slice a' n c'∧wG enI 3 w u a' n c' ys:=by
 refine slices_Clone_int.calls ?_
 unfold slices_Clone_int slices_Clone_int.g0
 refine Ip (R:=fun v u=>∃ a' c',v = .slice a' n c'∧wG enI 3 w u a' n c' ys) S_I (fun _=>rfl) hs (by simp only [maxLen]; omega) (by omega) (fun h1 h2=>?_) fun a' c' u h=>⟨_,_,_,rfl,_,_,rfl,h⟩
 have hl:=hs.len
 subst h2
 simp only [List.length_nil] at hl
 subst hl
 exact ⟨_,_,rfl,0,Arr.nil _ _ _,.inl rfl,Kept.refl _⟩
theorem NW {ys:List ByteArray} (hs:Sl enS w a n ys) (hm:n≤1048576):E.CallsD Go.Proofs.Try.prog 67 #[.slice a n c] w fun v u=>∃ a' c',v = .slice a' n c'∧wG enS 9 w u a' n c' ys:=by
 refine bP.calls ?_
 unfold bP bP.g0
 refine Ip (R:=fun v u=>∃ a' c',v = .slice a' n c'∧wG enS 9 w u a' n c' ys) UB (fun _=>rfl) hs (by simp only [maxLen]; omega) (by omega) (fun h1 h2=>?_) fun a' c' u h=>⟨_,_,_,rfl,_,_,rfl,h⟩
 have hl:=hs.len
 subst h2
 simp only [List.length_nil] at hl
 subst hl
 exact ⟨_,_,rfl,0,Arr.nil _ _ _,.inl rfl,Kept.refl _⟩
theorem Ph (x:ND×SH):∀ v∈enH x,v.oneCell'=true:=by
 intro v hv
 simp only [enH,enN,List.mem_cons,List.not_mem_nil,or_false] at hv
 rcases hv with h | h | h | h | h | h | h | h <;> subst h <;> rfl
theorem zQ (x:TD×SH):∀ v∈qP x,v.oneCell'=true:=by
 intro v hv
 simp only [qP,List.mem_cons,List.not_mem_nil,or_false] at hv
 rcases hv with h | h <;> subst h <;> rfl
theorem kK {B B' g:Nat} (h:fresh B g) (hB:B'≤B):fresh B' g:=h.imp id fun h=>Nat.lt_of_le_of_lt hB h
theorem zg {α:Type} {l:List α} {x y:α} (h:y∈l++[x]):y∈l∨y=x:=by simpa using h
end
end Go.Mir
set_option maxRecDepth 100000
namespace Go.Mir
open Go Go.E Go.RowKit Go.Tr
section
variable {w u w1:World} {p:Addr} {o:Int} {a a1:Option Addr} {n c n1 c1 g B B':Nat} {F S:Nat→Prop} {nodes:List ND} {xs:List Nat} {ts:List TD} {e:ED} {f b t:SH}
theorem gV.at (hE:gV F w e f b t) {i:Nat} {x:TD} {a':Option Addr} {n' c':Nat} (hx:e.trees[i]?=some x) (hL:Ls tN F w a' n' c' x.nodes):Good F w a' n' c' x.nodes:=by
 obtain ⟨hg1,hg2⟩:=hE.good x (List.mem_of_getElem? hx)
 exact ⟨hL,hE.old,by rw [hL.len]; exact hg1,hg2⟩
end
end Go.Mir
set_option maxRecDepth 100000
namespace Go.Mir
open Go Go.E Go.RowKit Go.Tr
def F1 (j:Nat) (Q:Value→World→Prop):Nat→Value→World→Prop:=fun i v u=>i=j→Q v u
theorem F1.keep {j:Nat} {Q:Value→World→Prop} (hQ:∀ v u u',Q v u→Kept u u'→Q v u') (i:Nat) (v:Value) (u u':World) (h:F1 j Q i v u) (hk:Below u.heap.size u u'):F1 j Q i v u':=fun hi=>hQ _ _ _ (h hi) hk
def SG {α:Type} (en:α→Value) (e B n:Nat) (xs:List α) (v:Value) (u:World):Prop:=∃ a c,v = .slice a n c∧∃ g,Arr en e u a n c xs g∧fresh B g
theorem SG.keep {α:Type} {en:α→Value} {e B n:Nat} {xs:List α} (v:Value) (u u':World) (h:SG en e B n xs v u) (hk:Kept u u'):SG en e B n xs v u':=by
 obtain ⟨a,c,h1,g,h2,h3⟩:=h
 exact ⟨a,c,h1,g,h2.kept hk,h3⟩
section
variable {w u w1:World} {p:Addr} {o:Int} {a a1:Option Addr} {n c n1 c1 g B B':Nat} {F S:Nat→Prop} {nodes:List ND} {xs:List Nat} {ts:List TD} {e:ED} {f b t:SH}
theorem NH (hG:Good F w a n c nodes):E.CallsD Go.Proofs.Try.prog 68 #[.slice a n c] w fun v u=>∃ a' c' g l,v = .slice a' n c'∧au 8 enH 101 u a' n c' l g∧fresh w.heap.size g∧l.map (·.1)=nodes∧(∀ x∈l,Ls (qC .i64) F u x.2.a x.2.n x.2.c x.1.aI)∧Kept w u:=by
 refine gG.calls ?_
 unfold gG gG.g0
 obtain ⟨l,h1,h2,h3⟩:=hG.ls.V8
 have hmx:=hG.max
 refine Tj (k:=8) (en:=enH) (R:=fun v u=>∃ a' c' g l,v = .slice a' n c'∧au 8 enH 101 u a' n c' l g∧fresh w.heap.size g∧l.map (·.1)=nodes∧(∀ x∈l,Ls (qC .i64) F u x.2.a x.2.n x.2.c x.1.aI)∧Kept w u) S_N (fun _=>rfl) (by omega) Ph h2 (by simp only [maxLen]; omega) (by omega) (fun ha hl=>?_) fun a' c' g' u hr hg hk=>⟨_,_,_,rfl,_,_,_,_,rfl,hr,.inr hg,h1,fun x hx=>(h3 x hx).kept hk,hk⟩
 have hl0:=h2.len
 subst hl
 simp only [List.length_nil] at hl0
 subst hl0
 exact ⟨_,_,0,[],rfl,au.nil _ _ _ _,.inl rfl,h1,fun x hx=>(by cases hx),Kept.refl _⟩
theorem GR {R:Value→World→Prop} {b12:(Option Addr)→(Option Addr)→(Option Addr)→Nat→Nat→(Option Addr)→Nat→Nat→Int→Int→World→Prop} {p1 p2 a3 a20 a':Option Addr} {n3 c3 n20 c20 n' c' g':Nat} {x21 x22:Int} {W0 Bp:World} {o:Int}
  (hm:n'≤1048576) (hs:Short 1048576 nodes) (hB:B≤W0.heap.size) (hF:∀ b,F b→b<B) (hbx:Blk W0 Bp.heap.size #[.int .i64 o,.slice a' n' c'] 44) (hne:Bp.heap.size+1≠g') (hg':fresh B g')
  (hend:∀ u,Mod (fun b=>b+1=g'∨W0.heap.size≤b) W0 u→wK B u a' n' c' nodes→aU.l29 R b12 1 p1 p2 a3 n3 c3 (some (na Bp)) a20 n20 c20 x21 x22 n' n' u) :
  ∀ (k i:Nat) (w:World) (l:List (ND×SH)),i+k=n'→Mod (fun b=>b+1=g'∨W0.heap.size≤b) W0 w→au 8 enH 101 w a' n' c' l g'→l.map (·.1)=nodes→(∀ (j:Nat) x,l[j]?=some x→(j<i→∃ gx,Arr enI 3 w x.2.a x.2.n x.2.c x.1.aI gx∧fresh B gx)∧(i≤j→Ls (qC .i64) F w x.2.a x.2.n x.2.c x.1.aI)) →
   aU.l29 R b12 (k+1) p1 p2 a3 n3 c3 (some (na Bp)) a20 n20 c20 x21 x22 n' i w:=by
 intro k
 induction k with
 | zero =>
  intro i w l hi hw hA hl hx
  obtain rfl:i=n':=by omega
  refine hend w hw ⟨g',l,hA,hg',hl.symm,fun x hx'=>?_⟩
  obtain ⟨j,hj⟩:=List.getElem?_of_mem hx'
  have hlt:=(List.getElem?_eq_some_iff.1 hj).1
  exact (hx j x hj).1 (by have:=hA.QU; omega)
 | succ k ih =>
  intro i w l hi hw hA hl hx
  unfold aU.l29 aU.g29
  refine aN (by omega) ?_
  have hln:=hA.QU
  have hxi:l[i]?=some (l[i]'(by omega)):=List.getElem?_eq_getElem _
  obtain ⟨x,hxe⟩:∃ x,l[i]'(by omega)=x:=⟨_,rfl⟩
  rw [hxe] at hxi
  have hcs:=(hx i x hxi).2 (Nat.le_refl _)
  have hxn:x.1∈nodes:=by rw [← hl]; exact List.mem_map.2 ⟨x,List.mem_of_getElem? hxi,rfl⟩
  have hcl:=hcs.len
  have hsx:=hs x.1 hxn
  have hbw:=hbx.mod hw (fun h=>by have:=hbx.lt; rcases h with h | h <;> omega)
  refine ⟨F1 9 (SG enI 3 B x.2.n x.1.aI),F1.keep SG.keep,aK ⟨_,_,_,hbw.rd rfl,aK ⟨_,_,_,hbw.rd rfl,?_⟩⟩⟩
  have e0:((i:Int)).toNat=i:=by omega
  have hcell:∃ q,a'=some q∧w.cell? ((q.add (i*8)).add 4)=some (.slice x.2.a x.2.n x.2.c):=by
   obtain ⟨p,hp,hc⟩:=(au.slk (k:=8) (en:=enH) (fun _=>rfl) (by omega) hA).get i x hxi
   exact ⟨p,hp,by rw [add_add]; exact hc 4 _ rfl⟩
  obtain ⟨q,rfl,hq⟩:=hcell
  refine aK (dA ⟨by omega,by omega⟩ ⟨_,_,_,by rw [e0]; exact hq,fun u hu=>?_,fun a4 n4 c4 _=>aK (dA ⟨by omega,by omega⟩ fun u hu hF9=>?_)⟩)
  ·refine E.CallsD.mono (zy (hcs.kept hu).sl (by omega)) fun v u' ⟨a5,c5,hv,hn5⟩=>⟨_,_,_,hv,fun _=>?_,hn5.kept⟩
   obtain ⟨g5,h5,hg5⟩:=Go.Mir.wG.own hn5
   have:=hw.size
   have:=hu.size
   exact ⟨_,_,rfl,g5,h5,kK hg5 (by omega)⟩
  ·obtain ⟨a5,c5,hv,g5,h5,hg5⟩:=hF9 rfl
   simp only [Value.slice.injEq] at hv
   obtain ⟨rfl,rfl,rfl⟩:=hv
   obtain ⟨q',hq',hw2⟩:=au.Tn (k:=8) (en:=enH) (fun _=>rfl) (hA.kept hu) (i:=i) (j:=4) (x:=x) (y:=(x.1,⟨a4,x.2.n,c4⟩)) (v := .slice a4 x.2.n c4) hxi (by omega) (by omega) rfl (K:=fun w133=>nv (IntKind.i64.wrap ((i:Int)+1)) fun t134=>aU.l29 R b12 (k+1) p1 p2 a3 n3 c3 (some (na Bp)) a20 n20 c20 x21 x22 n' t134 w133) fun u2 hA2 ho2=>by
    have ap:Apart (fun k=>k+1=g') u [3]:=Row.apart (hA.kept hu) (by decide)
    refine aB (by omega) ?_
    refine ih (i+1) u2 _ (by omega) ((hw.trans (Kept.mod (S:=fun _=>False) hu) (U:=fun b=>b+1=g'∨W0.heap.size≤b) (fun _ _ h=>h) (fun _ _ h=>h.elim)).trans ho2 (fun _ _ h=>h) (fun _ _ h => .inl h)) hA2 ?_ fun j y hy=>?_
    ·rw [← hl,List.map_set]
     apply List.ext_getElem?
     intro j
     by_cases hj:i=j
     ·subst hj
      rw [List.getElem?_set_self (by rw [List.length_map]; omega),List.getElem?_map,hxi]; rfl
     ·rw [List.getElem?_set_ne hj]
    ·by_cases hj:i=j
     ·subst hj
      rw [List.getElem?_set_self (by omega)] at hy
      obtain rfl:(x.1,(⟨a4,x.2.n,c4⟩:SH))=y:=by simpa using hy
      exact ⟨fun _=>⟨g5,Row.jP h5 ho2 ap (by simp),hg5⟩,fun h=>by omega⟩
     ·rw [List.getElem?_set_ne hj] at hy
      obtain ⟨h1,h2⟩:=hx j y hy
      refine ⟨fun h=>?_,fun h=>?_⟩
      ·obtain ⟨gx,k1,k2⟩:=h1 (by omega)
       exact ⟨gx,Row.jP (k1.kept hu) ho2 ap (by simp),k2⟩
      ·refine ((h2 (by omega)).kept hu).mod ho2 fun b hb h=>?_
       have h3:b+1=g':=h
       have h4:=hF b hb
       unfold fresh at hg'
       omega
   cases hq'
   rw [e0]
   exact hw2
structure Q7 (B:Nat) (B1 B2:World) (e:ED) (f b t:SH) (cs2:Array Value) (w:World):Prop where
 fs:∃ g,Arr enS 9 w f.a f.n f.c e.features g∧fresh B g
 bs:∃ g,Arr enI 2 w b.a b.n b.c e.base g∧fresh B g
 b1:Blk w B1.heap.size (enE e f b t).toArray 26
 b2:Blk w B2.heap.size cs2 26
theorem Q7.jP {B1 B2:World} {cs2:Array Value} (h:Q7 B B1 B2 e f b t cs2 w) (hm:Mod S w u) (hS:Apart S w [9,2,26]):Q7 B B1 B2 e f b t cs2 u :=
 ⟨let ⟨g,h1,h2⟩:=h.fs; ⟨g,Row.jP h1 hm hS (by simp),h2⟩,let ⟨g,h1,h2⟩:=h.bs; ⟨g,Row.jP h1 hm hS (by simp),h2⟩,h.b1.mod hm (fun hs=>hS _ _ _ hs h.b1 (by simp)),h.b2.mod hm (fun hs=>hS _ _ _ hs h.b2 (by simp))⟩
theorem Q7.kept {B1 B2:World} {cs2:Array Value} (h:Q7 B B1 B2 e f b t cs2 w) (hk:Kept w u):Q7 B B1 B2 e f b t cs2 u:=h.jP (S:=fun _=>False) (Kept.mod hk) (fun _ _ _ h=>h.elim)
theorem gV.TI (hE:gV F w e f b t) (hF:∀ b,F b→b<B) (hm:From B w u):gV F u e f b t :=
 ⟨From.ls hE.fs hm hF,From.ls hE.bs hm hF,From.ls hE.ts hm hF,fun b hb=>Nat.lt_of_lt_of_le (hE.old b hb) hm.size,hE.fm,hE.bm,hE.tm,hE.good⟩
theorem Jk {R:Value→World→Prop} {f' b':SH} {cs2:Array Value} {B1 B2:World} (hne:B1.heap.size≠B2.heap.size) (hE:gV F w1 e f b t) (hF:∀ b,F b→b<B) (hc2:cs2.size=5) (hB:B≤w1.heap.size) (hB1:B≤B1.heap.size) (hB2:B≤B2.heap.size)
  (hend:∀ u t',From B w1 u→zV B u e f' b' t'→t'.n=t.n→R (vE e f' b' t') u) :
  ∀ (k i:Nat) (w:World) (l:List (TD×SH)) (a3:Option Addr) (c3 g3:Nat),i+k=t.n→From B w1 w→Q7 B B1 B2 e f' b' t cs2 w→au 2 qP 44 w a3 i c3 l g3→fresh B g3→l.map (·.1)=e.trees.take i→(∀ x∈l,wK B w x.2.a x.2.n x.2.c x.1.nodes)→aU.l12 R (k+1) (some (na B1)) (some (na B2)) a3 i c3 t.a t.n t.c t.n i w:=by
 have htn:=hE.ts.len
 have htm:=hE.tm
 intro k
 induction k with
 | zero =>
  intro i w l a3 c3 g3 hi hw hI h5 hg5 hl hx
  rw [aU.u12]; unfold aU.g12
  refine ai (by omega) ?_
  rw [List.take_of_length_le (by omega)] at hl
  obtain rfl:i=t.n:=by omega
  refine aK (hI.b1.wr0 (by simp [enE]) fun u1 hb11 ho1=>?_)
  have h55:At5 u1 (na B1) e f' b' ⟨a3,t.n,c3⟩ := .kT hb11
  refine aK (h55.ld ?_)
  have hb21:=hI.b2.mod ho1 (fun h=>hne (by have h':B2.heap.size+1=B1.heap.size+1:=h; omega))
  refine aK (hb21.wr (by omega) fun u2 hb22 ho2=>hb22.wr (by simp; omega) fun u3 hb23 ho3=>hb23.wr (by simp; omega) fun u4 hb24 ho4=>hb24.wr (by simp; omega) fun u5 hb25 ho5=>hb25.wr (by simp; omega) fun u6 hb26 ho6=>?_)
  have h56:At5 u6 (na B2) e f' b' ⟨a3,t.n,c3⟩:=by
   refine ⟨hb26.rd ?_,hb26.rd ?_,hb26.rd ?_,hb26.rd ?_,hb26.rd ?_⟩ <;> simp [hc2]
  refine aK (h56.ld ?_)
  have hm:Mod (fun k=>k=B1.heap.size∨k=B2.heap.size) w u6 :=
   ((((((Mod.refl w).trans ho1 (fun _ _ h=>h) (fun k _ h => .inl (by omega))).trans ho2 (fun _ _ h=>h) (fun k _ h => .inr (by omega))).trans ho3 (fun _ _ h=>h) (fun k _ h => .inr (by omega))).trans ho4 (fun _ _ h=>h) (fun k _ h => .inr (by omega))).trans ho5 (fun _ _ h=>h) (fun k _ h => .inr (by omega))).trans ho6 (fun _ _ h=>h) (fun k _ h => .inr (by omega))
  have hap:Apart (fun k=>k=B1.heap.size∨k=B2.heap.size) w [9,2,44,101,3]:=by
   intro k cs e' hk hb'
   rcases hk with rfl | rfl
   ·exact Blk.uT hI.b1 (es:=[9,2,44,101,3]) (by decide) _ cs e' rfl hb'
   ·exact Blk.uT hI.b2 (es:=[9,2,44,101,3]) (by decide) _ cs e' rfl hb'
  refine hend u6 ⟨a3,t.n,c3⟩ ?_ ?_ rfl
  ·exact hw.trans hm (U:=fun k=>B≤k) (fun k _ h=>h) (fun k _ h=>by show B≤k; rcases h with h | h <;> omega)
  ·have own:zV B w e f' b' ⟨a3,t.n,c3⟩:=⟨hI.fs,hI.bs,g3,l,h5,hg5,hl.symm,hx⟩
   exact own.jP hm hap
 | succ k ih =>
  intro i w l a3 c3 g3 hi hw hI h5 hg5 hl hx
  rw [aU.u12]; unfold aU.g12
  refine aN (by omega) ?_
  have hEw:=gV.TI hE hF hw
  refine hEw.ts.rdT (by omega) (by omega) fun x a' n' c' hxi hL=>?_
  rw [Int.toNat_natCast] at hxi
  have hGx:=Go.Mir.gV.at hEw hxi hL
  refine vU fun w2 hb2' hT2 hk2=>⟨_,_,_,hT2.c1,?_⟩
  have s1:=hw.size
  have s2:=hk2.size
  refine E.CallsD.mono (NH (hGx.kept hk2)) fun v w3 ⟨a4,c4,g4,l4,hv,h4,hg4,hl4,hx4,hk3⟩=>⟨_,_,_,hv,?_⟩
  have s3:=hk3.size
  have lb:=hb2'.lt
  have l4':=h4.le
  have hb3:=hb2'.mod (Kept.mod (S:=fun _=>False) hk3) (fun h=>h)
  refine hb3.wr0 (by simp) fun w4 hb4 ho4=>?_
  have hb4':Blk w4 w.heap.size #[.int .i64 x.output,.slice a4 n' c4] 44:=hb4
  have hk24:From w.heap.size w w4:=((Kept.trans hk2 hk3).fr).only ho4 (.inr (by omega))
  have s4:=ho4.size
  have ap4:Apart (fun k=>k+1=w.heap.size+1) w3 [101,3]:=Blk.uT hb3 (by decide)
  refine ⟨_,_,_,hb4'.rd rfl,?_⟩
  have hmx:=hGx.max
  have hsh:=hGx.short
  refine ⟨n'+1,GR (B:=w.heap.size) (F:=F) (W0:=w4) (Bp:=w) (o:=x.output) (g':=g4) hmx hsh (by omega) (fun b hb=>by have:=hF b hb; omega) hb4' (by unfold fresh at hg4; omega) (kK hg4 (by omega)) (fun u hu ho=>?_) n' 0 w4 l4 (by omega) (Mod.refl _) (Row.jP h4 ho4 ap4 (by simp)) hl4 fun j y hy=>⟨fun h=>by omega,fun _=>(hx4 y (List.mem_of_getElem? hy)).mod ho4 fun b hb h=>by have:=hF b hb; have h':b+1=w.heap.size+1:=h; omega⟩⟩
  have hku:Kept w u:=by
   have hfr:From w.heap.size w u:=hk24.trans hu (U:=fun k=>w.heap.size≤k) (fun _ _ h=>h) (fun k _ h=>by show w.heap.size≤k; unfold fresh at hg4; omega)
   exact From.kept hfr
  have su:=hu.size
  have hbu:=hb4'.mod hu (fun h=>by unfold fresh at hg4; omega)
  unfold aU.l29 aU.g29
  refine ai (by omega) ?_
  refine aK ⟨_,hbu.rd rfl,_,_,_,hbu.rd rfl,?_⟩
  have h5u:=h5.kept hku
  refine au.push (k:=2) (en:=qP) S_T (fun _=>rfl) (by omega) h5u (x:=(x,⟨a4,n',c4⟩)) rfl (zQ _) (by simp only [maxLen]; omega) (by omega) fun a6 c6 g6 u2 h6 hg6 hg60 ho6=>⟨_,_,_,rfl,?_⟩
  refine aB (by omega) ?_
  have ap6:∀ {es:List Nat},44∉es→Apart (fun k=>k+1=g3) u es:=fun hes=>Row.apart h5u hes
  have sk:=hku.size
  refine ih (i+1) u2 (l++[(x,⟨a4,n',c4⟩)]) a6 c6 g6 (by omega) ((hw.aA hku).only ho6 hg5) ((hI.kept hku).jP ho6 (ap6 (by decide))) h6 (by unfold fresh at hg5 ⊢; omega) (by rw [List.map_append,hl,take_snoc hxi]; rfl) fun y hy=>?_
  rcases zg hy with h | h
  ·exact ((hx y h).kept hku).jP ho6 (ap6 (by decide))
  ·subst h
   exact (ho.weak (by omega)).jP ho6 (ap6 (by decide))
theorem Rn (hE:gV F w e f b t):E.CallsD Go.Proofs.Try.prog 49 #[vE e f b t] w fun v u=>∃ f' b' t',v=vE e f' b' t'∧zV w.heap.size u e f' b' t'∧Kept w u:=by
 refine aU.calls ?_
 unfold aU aU.g0
 refine U7 fun w1 hba h5 hk1=>U7 (e:=⟨⟨#[]⟩,[],0,[],[]⟩) (f:=⟨none,0,0⟩) (b:=⟨none,0,0⟩) (t:=⟨none,0,0⟩) fun w2 hbr _ hk2=>?_
 have h52:=h5.kept hk2
 have hk12:=Kept.trans hk1 hk2
 have hE2:=hE.kept hk12
 have hfm:=hE.fm
 have hbm:=hE.bm
 have htm:=hE.tm
 have s1:=hk1.size
 have s2:=hk2.size
 have la:=hba.lt
 have lr:=hbr.lt
 refine ⟨_,_,_,h52.c1,?_⟩
 refine E.CallsD.mono (NW hE2.fs.sl hfm) fun v w3 ⟨a6,c6,hv,hn6⟩=>⟨_,_,_,hv,?_⟩
 obtain ⟨g6,h6,hg6⟩:=Go.Mir.wG.own hn6
 have hk3:=hn6.kept
 have s3:=hk3.size
 have hba3:=hba.mod (Kept.mod (S:=fun _=>False) (Kept.trans hk2 hk3)) (fun h=>h)
 refine hba3.wr0 (by simp [enE]) fun w4 hba4 ho4=>?_
 have hba4':Blk w4 w.heap.size (enE e ⟨a6,f.n,c6⟩ b t).toArray 26:=hba4
 have f4:From w.heap.size w w4:=((Kept.trans hk12 hk3).fr).only ho4 (.inr (by omega))
 have h54:At5 w4 (na w) e ⟨a6,f.n,c6⟩ b t := .kT hba4'
 have hE4:=hE.kept (From.kept f4)
 refine ⟨_,_,_,h54.c3,?_⟩
 refine E.CallsD.mono (xW hE4.bs.sl hbm) fun v w5 ⟨a7,n7,c7,hv,hn7,_⟩=>⟨_,_,_,hv,?_⟩
 have hn7l:n7=b.n:=by rw [hn7.len]; exact hE.bs.len.symm
 subst hn7l
 obtain ⟨g7,h7,hg7⟩:=Go.Mir.wG.own hn7
 have hk5:=hn7.kept
 have s4:=ho4.size
 have s5:=hk5.size
 have hba5:=hba4'.mod (Kept.mod (S:=fun _=>False) hk5) (fun h=>h)
 refine hba5.wr0 (by simp [enE]) fun w6 hba6 ho6=>?_
 have hba6':Blk w6 w.heap.size (enE e ⟨a6,f.n,c6⟩ ⟨a7,b.n,c7⟩ t).toArray 26:=hba6
 have f6:From w.heap.size w w6:=(f4.aA hk5).only ho6 (.inr (by omega))
 have h56:At5 w6 (na w) e ⟨a6,f.n,c6⟩ ⟨a7,b.n,c7⟩ t := .kT hba6'
 have s6:=ho6.size
 refine ⟨_,_,_,h56.c4,?_⟩
 refine au.Un (k:=2) (en:=qP) rfl (by omega) (by omega) (by omega) fun w7 h8 hk7=>?_
 have h57:=h56.kept hk7
 have s7:=hk7.size
 refine ⟨_,_,_,h57.c4,?_⟩
 have e1:((t.n:Int)).toNat=t.n:=by omega
 rw [e1] at h8 ⊢
 have f7:=f6.aA hk7
 have hE7:=hE.kept (From.kept f7)
 have apE:∀ {u0:World} {cs:Array Value},Blk u0 w.heap.size cs 26→Apart (fun k=>k+1=w.heap.size+1) u0 [9,2]:=fun h=>Blk.uT h (by decide)
 have h67:=(Row.jP ((Row.jP h6 ho4 (apE hba3) (by simp)).kept hk5) ho6 (apE hba5) (by simp)).kept hk7
 have h77:=(Row.jP h7 ho6 (apE hba5) (by simp)).kept hk7
 have hbr7:Blk w7 w1.heap.size _ 26:=((((hbr.mod (Kept.mod (S:=fun _=>False) hk3) (fun h=>h)).mod ho4 (fun h=>by have h':w1.heap.size+1=w.heap.size+1:=h; omega)).mod (Kept.mod (S:=fun _=>False) hk5) (fun h=>h)).mod ho6 (fun h=>by have h':w1.heap.size+1=w.heap.size+1:=h; omega)).mod (Kept.mod (S:=fun _=>False) hk7) (fun h=>h)
 refine ⟨t.n+1,Jk (w1:=w7) (B:=w.heap.size) (B1:=w) (B2:=w1) (f':=⟨a6,f.n,c6⟩) (b':=⟨a7,b.n,c7⟩) (cs2:=(enE ⟨⟨#[]⟩,[],0,[],[]⟩ ⟨none,0,0⟩ ⟨none,0,0⟩ ⟨none,0,0⟩).toArray) (by omega) hE7 hE.old (by simp [enE]) (by omega) (Nat.le_refl _) s1 (fun u t' hu ho hn=>⟨_,_,_,rfl,ho,?_⟩) t.n 0 w7 [] (some (na w6)) t.n (w6.heap.size+1) (by omega) (Mod.refl _) ⟨⟨g6,h67,kK hg6 (by omega)⟩,⟨g7,h77,kK hg7 (by omega)⟩,hba6'.mod (Kept.mod (S:=fun _=>False) hk7) (fun h=>h),hbr7⟩ h8 (.inr (by omega)) (by simp) (fun x hx=>by cases hx)⟩
 exact From.kept (f7.trans hu (U:=fun k=>w.heap.size≤k) (fun _ _ h=>h) (fun _ _ h=>h))
end
end Go.Mir
set_option maxRecDepth 100000
namespace Go.Mir
open Go Go.E Go.RowKit Go.Tr
section
variable {w u w1:World} {p:Addr} {o o1:Int} {a a1 b1:Option Addr} {n c n1 c1 m d g B B':Nat} {F F' S:Nat→Prop} {nodes nodes':List ND} {xs ys:List Int} {ss rs:List ByteArray} {ts ts':List TD} {e e':ED} {f b t f' b' t':SH} {x y:ND}
theorem pW {α:Type} {l r:List α} {i:Nat} {x y:α} (hx:l[i]?=some x) (hy:r[i]?=some y) (h:x≠y):l≠r:=fun e=>by subst e; rw [hx] at hy; exact h (by simpa using hy)
theorem Fg {R:Value→World→Prop} (hn:n=xs.length) (hm:n≤16777216) (he:xs.length=ys.length) (hs:Sl enI w a n xs) (ht:Sl enI w a1 m ys) (hR:R (.bool (kH (xs=ys))) w):∀ (k i:Nat),i+k=n→xs.take i=ys.take i→slices_Equal_int.l14 R (k+1) a n c a1 m d n i w
 | 0,i,hi,hp=>by
  rw [slices_Equal_int.u14]; unfold slices_Equal_int.g14
  refine ai (by omega) ?_
  rw [List.take_of_length_le (by omega),List.take_of_length_le (by omega)] at hp
  rw [gY hp] at hR
  exact hR
 | k+1,i,hi,hp=>by
  rw [slices_Equal_int.u14]; unfold slices_Equal_int.g14
  refine aN (by omega) ?_
  have hml:=ht.len
  refine hs.rdI (k := .i64) (by omega) (by omega) fun x hx=>?_
  refine ht.rdI (k := .i64) (by omega) (by omega) fun y hy=>?_
  rw [Int.toNat_natCast] at hx hy
  refine jR (fun h=>?_) fun h=>?_
  ·rw [bY (pW hx hy h)] at hR
   exact hR
  ·subst h
   refine aB (by omega) ?_
   exact Fg hn hm he hs ht hR k (i+1) (by omega) (by rw [take_snoc hx,take_snoc hy,hp])
theorem tZ (hs:Sl enI w a n xs) (ht:Sl enI w a1 m ys) (hm:n≤16777216):Pure Go.Proofs.Try.prog 35 #[.slice a n c,.slice a1 m d] w (.bool (kH (xs=ys))):=by
 refine slices_Equal_int.calls (R:=fun v' u=>v'=_∧Below w.heap.size w u) ?_
 unfold slices_Equal_int slices_Equal_int.g0
 have hl:=hs.len
 have hl2:=ht.len
 refine jR (fun h=>⟨by rw [bY]; intro e; subst e; omega,Below.refl _ _⟩) fun h=>?_
 exact ⟨n+1,Fg hl hm (by omega) hs ht ⟨rfl,Below.refl _ _⟩ n 0 (by omega) rfl⟩
theorem Eh {R:Value→World→Prop} (hn:n=xs.length) (hm:n≤16777216) (he:xs.length=ys.length) (hs:Sl enI w a n xs) (ht:Sl enI w a1 m ys) (hR:R (.bool (kH (xs=ys))) w):∀ (k i:Nat),i+k=n→xs.take i=ys.take i→aF.l14 R (k+1) a n c a1 m d n i w
 | 0,i,hi,hp=>by
  rw [aF.u14]; unfold aF.g14
  refine ai (by omega) ?_
  rw [List.take_of_length_le (by omega),List.take_of_length_le (by omega)] at hp
  rw [gY hp] at hR
  exact hR
 | k+1,i,hi,hp=>by
  rw [aF.u14]; unfold aF.g14
  refine aN (by omega) ?_
  have hml:=ht.len
  refine hs.rdI (k := .i64) (by omega) (by omega) fun x hx=>?_
  refine ht.rdI (k := .i64) (by omega) (by omega) fun y hy=>?_
  rw [Int.toNat_natCast] at hx hy
  refine jR (fun h=>?_) fun h=>?_
  ·rw [bY (pW hx hy h)] at hR
   exact hR
  ·subst h
   refine aB (by omega) ?_
   exact Eh hn hm he hs ht hR k (i+1) (by omega) (by rw [take_snoc hx,take_snoc hy,hp])
theorem ER (hs:Sl enI w a n xs) (ht:Sl enI w a1 m ys) (hm:n≤16777216):Pure Go.Proofs.Try.prog 32 #[.slice a n c,.slice a1 m d] w (.bool (kH (xs=ys))):=by
 refine aF.calls (R:=fun v' u=>v'=_∧Below w.heap.size w u) ?_
 unfold aF aF.g0
 have hl:=hs.len
 have hl2:=ht.len
 refine jR (fun h=>⟨by rw [bY]; intro e; subst e; omega,Below.refl _ _⟩) fun h=>?_
 exact ⟨n+1,Eh hl hm (by omega) hs ht ⟨rfl,Below.refl _ _⟩ n 0 (by omega) rfl⟩
theorem Rq (h0:x.kind=y.kind) (h1:x.value=y.value) (h2:x.feature=y.feature) (h3:x.thr=y.thr) (h4:x.aI=y.aI) (h5:x.missing=y.missing) (h6:x.left=y.left) (h7:x.right=y.right):x=y:=by
 cases x; cases y; simp_all
theorem KU (hs:Sl enI w a n x.aI) (ht:Sl enI w a1 m y.aI) (hm:n≤16777216):Pure Go.Proofs.Try.prog 57 #[vN x a n c,vN y a1 m d] w (.bool (kH (x=y))):=by
 refine dO.calls (R:=fun v' u=>v'=_∧Below w.heap.size w u) ?_
 unfold dO dO.g0
 refine U6 fun w1 _ hx1 hk1=>U6 fun w2 _ hy hk2=>?_
 have hx:=hx1.kept hk2
 have hk:=Kept.trans hk1 hk2
 have no:x≠y→∀ u,Below w2.heap.size w2 u→(Value.bool false = .bool (kH (x=y))∧Below w.heap.size w u):=fun h u hu=>⟨by rw [bY h],Kept.trans hk hu⟩
 refine ⟨_,hx.c0,_,hy.c0,oM (fun e0=>?_) fun e0=>no fun h=>e0 (by rw [h])⟩
 refine ⟨_,hx.c1,_,hy.c1,oM (fun e1=>?_) fun e0=>no fun h=>e0 (by rw [h])⟩
 refine ⟨_,hx.c2,_,hy.c2,oM (fun e2=>?_) fun e0=>no fun h=>e0 (by rw [h])⟩
 refine ⟨_,hx.c3,_,fb _ _,_,hy.c3,_,fb _ _,oM (fun e3=>?_) fun e0=>no fun h=>e0 (by rw [h])⟩
 refine ⟨_,_,_,hx.c4,_,_,_,hy.c4,kH (x.aI=y.aI),fun u hu=>pq (tZ (hs.keep (Kept.trans hk hu)) (ht.keep (Kept.trans hk hu)) hm) hu,?_⟩
 refine (aH _ _ _).2 ⟨fun e4=>?_,fun e4=>no fun h=>by rw [gY (by rw [h])] at e4; cases e4⟩
 refine ⟨_,hx.c5,_,hy.c5,oM (fun e5=>?_) fun e0=>no fun h=>e0 (by rw [h])⟩
 refine ⟨_,hx.c6,_,hy.c6,oM (fun e6=>?_) fun e0=>no fun h=>e0 (by rw [h])⟩
 refine ⟨_,hx.c7,_,hy.c7,fun u hu=>⟨?_,Kept.trans hk hu⟩⟩
 have h4:x.aI=y.aI:=Classical.byContradiction fun h=>by rw [bY h] at e4; cases e4
 by_cases e7:x.right=y.right
 ·rw [gY (Rq e0 e1 e2 (by omega) h4 e5 e6 e7),e7]; simp
 ·rw [bY (fun h=>e7 (by rw [h]))]; simp [e7]
theorem Ee {R:Value→World→Prop} (hG:Good F w1 a n c nodes) (hG':Good F' w1 a1 m d nodes') (he:n=m) (hR:∀ u,From w1.heap.size w1 u→R (.bool (kH (nodes=nodes'))) u):∀ (k i:Nat) (w:World),i+k=n→From w1.heap.size w1 w→nodes.take i=nodes'.take i→dw.l14 R (k+1) a1 m d a n c n i w
 | 0,i,w,hi,hw,hp=>by
  have hn:=hG.len
  have hn':=hG'.len
  rw [dw.u14]; unfold dw.g14
  refine ai (by omega) ?_
  rw [List.take_of_length_le (by omega),List.take_of_length_le (by omega)] at hp
  have:=hR w hw
  rw [gY hp] at this
  exact this
 | k+1,i,w,hi,hw,hp=>by
  have hn:=hG.len
  have hn':=hG'.len
  have hmx:=hG.max
  rw [dw.u14]; unfold dw.g14
  refine aN (by omega) ?_
  refine (hG.from hw).ls.rdN (by omega) (by omega) fun x a5 n5 c5 hx hcs=>?_
  rw [Int.toNat_natCast] at hx
  refine tq fun u _ hb hk=>?_
  have hu:=hw.aA hk
  refine (hG'.from hu).ls.rdN (by omega) (by omega) fun y a6 n6 c6 hy hcs'=>?_
  rw [Int.toNat_natCast] at hy
  refine tq fun u2 _ hb2 hk2=>?_
  have hb':=hb.kept hk2
  refine hb'.ld (hb2.ld ?_)
  have hs5:=hG.short x (List.mem_of_getElem? hx)
  have hl5:=hcs.len
  refine E.CallsD.mono (KU (x:=x) (y:=y) (hcs.kept (Kept.trans hk hk2)).sl (hcs'.kept hk2).sl (by omega)) fun v u3 ⟨hv,hk3⟩=>⟨_,hv,?_⟩
  have hu3:=(hu.aA hk2).aA hk3
  by_cases h:x=y
  ·rw [gY h]
   subst h
   refine Dy ?_
   refine aB (by omega) ?_
   exact Ee hG hG' he hR k (i+1) u3 (by omega) hu3 (by rw [take_snoc hx,take_snoc hy,hp])
  ·rw [bY h]
   refine KN ?_
   have:=hR u3 hu3
   rw [bY (pW hx hy h)] at this
   exact this
theorem LW (hG:Good F w a n c nodes) (hG':Good F' w a1 m d nodes'):Pure Go.Proofs.Try.prog 56 #[.slice a n c,.slice a1 m d,.func (.func 57) #[] #[]] w (.bool (kH (nodes=nodes'))):=by
 refine dw.calls (R:=fun v' u=>v'=_∧Below w.heap.size w u) ?_
 unfold dw dw.g0
 have hl:=hG.len
 have hl2:=hG'.len
 refine jR (fun h=>⟨by rw [bY]; intro e; subst e; omega,Below.refl _ _⟩) fun h=>?_
 exact ⟨n+1,Ee hG hG' (by omega) (fun u hu=>⟨rfl,From.kept hu⟩) n 0 w (by omega) (From.refl _ _) rfl⟩
theorem Qi (hG:Good F w a n c nodes) (hG':Good F' w a1 m d nodes'):Pure Go.Proofs.Try.prog 28 #[vT o a n c,vT o1 a1 m d] w (.bool (kH (o=o1∧nodes=nodes'))):=by
 refine fA.calls (R:=fun v' u=>v'=_∧Below w.heap.size w u) ?_
 unfold fA fA.g0
 refine tJ fun w1 _ hT1 hk1=>tJ fun w2 _ hT2 hk2=>?_
 have hT:=hT1.kept hk2
 have hk:=Kept.trans hk1 hk2
 refine ⟨_,hT.c0,_,hT2.c0,oM (fun e0=>?_) fun e0=>⟨by rw [bY (fun h=>e0 h.1)],hk⟩⟩
 refine ⟨_,_,_,hT.c1,_,_,_,hT2.c1,?_⟩
 refine E.CallsD.mono (LW (hG.kept hk) (hG'.kept hk)) fun v u ⟨hv,hk3⟩=>⟨_,hv,?_,Kept.trans hk hk3⟩
 rw [vV (p:=nodes=nodes') (q:=o=o1∧nodes=nodes') ⟨fun h=>⟨e0,h⟩,fun h=>h.2⟩]
theorem pY {R:Value→World→Prop} (hG:Good F w1 a n c nodes) (hG':Good F' w1 a1 m d nodes') (hT:At2 w1 p o1 a1 m d) (he:n=m) (hR:∀ u,From w1.heap.size w1 u→R (.bool (kH (nodes=nodes'))) u):∀ (k i:Nat) (w:World),i+k=n→From w1.heap.size w1 w→nodes.take i=nodes'.take i→ah.l14 R (k+1) (some p) a n c n i w
 | 0,i,w,hi,hw,hp=>by
  have hn:=hG.len
  have hn':=hG'.len
  rw [ah.u14]; unfold ah.g14
  refine ai (by omega) ?_
  rw [List.take_of_length_le (by omega),List.take_of_length_le (by omega)] at hp
  have:=hR w hw
  rw [gY hp] at this
  exact this
 | k+1,i,w,hi,hw,hp=>by
  have hn:=hG.len
  have hn':=hG'.len
  have hmx:=hG.max
  rw [ah.u14]; unfold ah.g14
  refine aN (by omega) ?_
  refine (hG.from hw).ls.rdN (by omega) (by omega) fun x a5 n5 c5 hx hcs=>?_
  rw [Int.toNat_natCast] at hx
  refine tq fun u _ hb hk=>?_
  have hu:=hw.aA hk
  refine aK ⟨_,_,_,(hT.from hu).c1,?_⟩
  refine (hG'.from hu).ls.rdN (by omega) (by omega) fun y a6 n6 c6 hy hcs'=>?_
  rw [Int.toNat_natCast] at hy
  refine tq fun u2 _ hb2 hk2=>?_
  have hb':=hb.kept hk2
  have hs5:=hG.short x (List.mem_of_getElem? hx)
  have hl5:=hcs.len
  have hu2:=hu.aA hk2
  have no:x≠y→∀ u,Below u2.heap.size u2 u→R (.bool false) u:=fun h u hu=>by
   have:=hR u (hu2.aA hu)
   rw [bY (pW hx hy h)] at this
   exact this
  refine ⟨_,hb'.c0,_,hb2.c0,jR (fun e0=>no fun h=>e0 (by rw [h])) fun e0=>?_⟩
  refine ⟨_,hb'.c1,_,hb2.c1,jR (fun e0=>no fun h=>e0 (by rw [h])) fun e1=>?_⟩
  refine ⟨_,hb'.c2,_,hb2.c2,jR (fun e0=>no fun h=>e0 (by rw [h])) fun e2=>?_⟩
  refine ⟨_,hb'.c3,_,fb _ _,_,hb2.c3,_,fb _ _,jR (fun e0=>no fun h=>e0 (by rw [h])) fun e3=>?_⟩
  refine ⟨_,_,_,hb'.c4,_,_,_,hb2.c4,decide (x.aI=y.aI),fun u hu=>pq (SK (hcs.kept (Kept.trans hk (Kept.trans hk2 hu))).sl (hcs'.kept (Kept.trans hk2 hu)).sl (by omega)) hu,?_⟩
  by_cases e4:x.aI=y.aI
  ·rw [decide_eq_true e4]
   refine Dy ?_
   refine ⟨_,hb'.c5,_,hb2.c5,jR (fun e0=>no fun h=>e0 (by rw [h])) fun e5=>?_⟩
   refine ⟨_,hb'.c6,_,hb2.c6,jR (fun e0=>no fun h=>e0 (by rw [h])) fun e6=>?_⟩
   refine ⟨_,hb'.c7,_,hb2.c7,fun u3 hu3=>jR (fun e0=>no (fun h=>e0 (by rw [h])) u3 hu3) fun e7=>?_⟩
   have h:=Rq e0 e1 e2 (by omega) e4 e5 e6 e7
   subst h
   refine aB (by omega) ?_
   exact pY hG hG' hT he hR k (i+1) u3 (by omega) (hu2.aA hu3) (by rw [take_snoc hx,take_snoc hy,hp])
  ·rw [decide_eq_false e4]
   exact KN (no fun h=>e4 (by rw [h]))
theorem Gp (hG:Good F w a n c nodes) (hG':Good F' w a1 m d nodes'):Pure Go.Proofs.Try.prog 52 #[vT o a n c,vT o1 a1 m d] w (.bool (kH (o=o1∧nodes=nodes'))):=by
 refine ah.calls (R:=fun v' u=>v'=_∧Below w.heap.size w u) ?_
 unfold ah ah.g0
 refine tJ fun w1 _ hT1 hk1=>tJ fun w2 _ hT2 hk2=>?_
 have hT:=hT1.kept hk2
 have hk:=Kept.trans hk1 hk2
 have hl:=hG.len
 have hl2:=hG'.len
 refine ⟨_,hT.c0,_,hT2.c0,jR (fun e0=>⟨by rw [bY (fun h=>e0 h.1)],hk⟩) fun e0=>?_⟩
 refine ⟨_,_,_,hT.c1,_,_,_,hT2.c1,jR (fun e1=>⟨by rw [bY (fun h=>e1 (by rw [hl,hl2,h.2]))],hk⟩) fun e1=>⟨_,_,_,hT.c1,?_⟩⟩
 exact ⟨n+1,pY (w1:=w2) (hG.kept hk) (hG'.kept hk) hT2 (by omega) (fun u hu=>⟨by rw [vV (p:=nodes=nodes') (q:=o=o1∧nodes=nodes') ⟨fun h=>⟨e0,h⟩,fun h=>h.2⟩],Kept.trans hk (From.kept hu)⟩) n 0 w2 (by omega) (From.refl _ _) rfl⟩
end
end Go.Mir
set_option maxRecDepth 100000
namespace Go.Mir
open Go Go.E Go.RowKit Go.Tr
section
variable {w u w1:World} {p q:Addr} {o o1:Int} {a a1 b1:Option Addr} {n c n1 c1 m d g B B':Nat} {F F' S:Nat→Prop} {nodes nodes':List ND} {ts ts':List TD} {e e':ED} {f b t f' b' t':SH} {x y:TD}
end
end Go.Mir
set_option maxRecDepth 100000
namespace Go.Mir
open Go Go.E Go.RowKit Go.Tr
def oz (pre:List Nat) (k n:Nat):List Int:=(List.range n).map fun j=>if pre.idxOf j<k then (pre.idxOf j:Int) else 0
theorem nV (pre:List Nat) (k n:Nat):(oz pre k n).length=n:=by simp [oz]
theorem nO {pre:List Nat} {k n j:Nat} (hj:j<n):(oz pre k n)[j]?=some (if pre.idxOf j<k then (pre.idxOf j:Int) else 0):=by simp [oz,hj]
theorem CJ (pre:List Nat) (n:Nat):oz pre 0 n=List.replicate n 0:=by
 apply List.ext_getElem?
 intro i
 by_cases hi:i<n
 ·rw [nO hi,List.getElem?_replicate,if_pos hi]; simp
 ·rw [List.getElem?_eq_none (by rw [nV]; omega),List.getElem?_eq_none (by simp; omega)]
theorem Dj {pre:List Nat} {k n i:Nat} (hnd:pre.Nodup) (hi:pre[k]?=some i) (hin:i<n):(oz pre k n).set i (k:Int)=oz pre (k+1) n:=by
 have hx:pre.idxOf i=k:=by
  obtain ⟨hlt,rfl⟩:=List.getElem?_eq_some_iff.1 hi
  exact hnd.idxOf_getElem k hlt
 apply List.ext_getElem?
 intro j
 by_cases hj:j<n
 ·rw [nO hj]
  by_cases hij:i=j
  ·subst hij
   rw [List.getElem?_set_self (by rw [nV]; exact hin),hx,if_pos (by omega)]
  ·rw [List.getElem?_set_ne hij,nO hj]
   have hne:pre.idxOf j≠k:=fun e=>by
    by_cases hm:j∈pre
    ·have:=rD hm
     rw [e,hi] at this
     exact hij (by simpa using this)
    ·rw [List.idxOf_eq_length hm] at e
     have:=(List.getElem?_eq_some_iff.1 hi).1
     omega
   by_cases h:pre.idxOf j<k
   ·rw [if_pos h,if_pos (by omega)]
   ·rw [if_neg h,if_neg (by omega)]
 ·rw [List.getElem?_eq_none (by rw [List.length_set,nV]; omega),List.getElem?_eq_none (by rw [nV]; omega)]
noncomputable def iD (nodes:List ND):List ND:=if (bu fQ nodes).1=0 then jl (fK nodes).pre nodes else []
noncomputable def Bh (o:Int) (nodes:List ND):Int:=if (bu fQ nodes).1=0 then o else 0
section
variable {w u w1:World} {p:Addr} {o:Int} {a a1:Option Addr} {n c n1 c1 m d g B B':Nat} {F F' S:Nat→Prop} {nodes:List ND}
theorem vX {T:BT} (hTr:Tree fQ nodes T) (hn:n=nodes.length) {j:Int} (h0:0≤j) (hj:j<n):(oz T.pre n n)[j.toNat]?=some (T.pre.idxOf j.toNat:Int):=by
 rw [nO (by omega),if_pos]
 rw [hn,← hTr.length]
 exact List.idxOf_lt_length_iff.2 ((hTr.mem _).2 (by omega))
theorem iK (h:(bu fQ nodes).1=0):iD nodes=jl (fK nodes).pre nodes:=by unfold iD; rw [if_pos h]
theorem vZ (h:(bu fQ nodes).1≠0):iD nodes=[]:=by unfold iD; rw [if_neg h]
end
end Go.Mir
set_option maxRecDepth 100000
namespace Go.Mir
open Go Go.E Go.RowKit Go.Tr
def ndZ:ND:=⟨0,0,0,0,[],0,0,0⟩
def FCn (B n:Nat):Nat→Value→World→Prop:=fun i v u=>(i=3→∃ b,v = .slice (some ⟨b,0,none⟩) n n∧au 8 enH 101 u (some ⟨b,0,none⟩) n n (List.replicate n (ndZ,⟨none,0,0⟩)) (b+1)∧B≤b)∧(i=5→∃ Bw:World,v = .pointer (some (na Bw))∧Blk u Bw.heap.size #[.int .i64 0,.slice none 0 0] 44∧B≤Bw.heap.size)
theorem FCn.keep {B n:Nat} (i:Nat) (v:Value) (u u':World) (h:FCn B n i v u) (hk:Below u.heap.size u u'):FCn B n i v u':=⟨fun hi=>by
 obtain ⟨b,h1,h2,h3⟩:=h.1 hi
 exact ⟨b,h1,h2.kept hk,h3⟩,fun hi=>by
 obtain ⟨b,h1,h2,h3⟩:=h.2 hi
 exact ⟨b,h1,h2.mod (Kept.mod (S:=fun _=>False) hk) (fun h=>h),h3⟩⟩
section
variable {w u w1 W:World} {p:Addr} {o:Int} {a a1:Option Addr} {n c n1 c1 m d g B B':Nat} {F F' S:Nat→Prop} {nodes:List ND}
structure CnI (B:Nat) (pre:List Nat) (nodes:List ND) (i:Nat) (w:World) (ao:Option Addr) (n go:Nat) (l:List (ND×SH)):Prop where
 row:au 8 enH 101 w ao n n l go
 own:∀ x∈l,∃ gx,Arr enI 3 w x.2.a x.2.n x.2.c x.1.aI gx∧fresh B gx
 done:∀ (j:Nat) x,j<i→nodes[j]?=some x→∃ sh,l[pre.idxOf j]?=some (iU pre x,sh)
theorem Good.jP (h:Good F w a n c nodes) (hm:Mod S w u) (hS:∀ b,F b→¬ S b):Good F u a n c nodes:=⟨h.ls.mod hm hS,fun b hb=>Nat.lt_of_lt_of_le (h.old b hb) hm.size,h.max,h.short⟩
theorem CnI.kept {pre:List Nat} {i:Nat} {ao:Option Addr} {go:Nat} {l:List (ND×SH)} (h:CnI B pre nodes i w ao n go l) (hk:Kept w u):CnI B pre nodes i u ao n go l :=
 ⟨h.row.kept hk,fun x hx=>let ⟨gx,h1,h2⟩:=h.own x hx; ⟨gx,h1.kept hk,h2⟩,h.done⟩
theorem CnI.all {T:BT} {ao:Option Addr} {go:Nat} {l:List (ND×SH)} (hTr:Tree fQ nodes T) (hn:n=nodes.length) (h:CnI B T.pre nodes n w ao n go l):l.map (·.1)=jl T.pre nodes:=by
 have hl:=h.row.QU
 apply List.ext_getElem?
 intro j
 by_cases hj:j<n
 ·have hjp:j<T.pre.length:=by rw [hTr.length]; omega
  obtain ⟨i,hie⟩:∃ i,T.pre[j]'hjp=i:=⟨_,rfl⟩
  have hi:T.pre[j]?=some i:=by rw [← hie]; exact List.getElem?_eq_getElem _
  have hin:i<nodes.length:=(hTr.mem i).1 (List.mem_of_getElem? hi)
  have hx:nodes[i]?=some nodes[i]:=List.getElem?_eq_getElem hin
  obtain ⟨sh,hs⟩:=h.done i _ (by omega) hx
  have e1:T.pre.idxOf i=j:=by rw [← hie]; exact hTr.nodup.idxOf_getElem j hjp
  rw [e1] at hs
  have e2:=hTr.mD hx
  rw [e1] at e2
  rw [e2,List.getElem?_map,hs]
  rfl
 ·rw [List.getElem?_eq_none (by rw [List.length_map]; omega),List.getElem?_eq_none (by rw [lH,hTr.length]; omega)]
theorem Gx {R:Value→World→Prop} {T:BT} {B2 Bp Bo:World} {cs2:Array Value} {ap ao:Option Addr} {cp gp go D:Nat} {l0:List (ND×SH)} (hG:Good F W a n c nodes) (hTr:Tree fQ nodes T) (hA0:au 8 enH 101 W ao n n l0 go)
  (hb2:Blk W B2.heap.size cs2 44) (hc2:cs2.size=2) (hbp:Blk W Bp.heap.size #[.slice ap n cp] 45) (hp:Arr enI 3 W ap n cp (oz T.pre n n) gp) (hbo:Blk W Bo.heap.size #[.int .i64 o,.slice ao n n] 44) (hne:B2.heap.size≠Bo.heap.size)
  (hD:W.heap[D]?=some (.deferred (some []))) (hB2:B≤B2.heap.size) (hBD:B≤D) (hgo:B<go) (hBW:B≤W.heap.size) (hFg:∀ b,F b→b<B)
  (hend:∀ u,From B W u→wK B u ao n n (jl T.pre nodes)→R (.tuple #[vT o ao n n,.int .i64 0]) u) :
  ∀ (k i:Nat) (w:World) (l:List (ND×SH)),i+k=n→Mod (fun b=>b+1=go∨W.heap.size≤b) W w→CnI B T.pre nodes i w ao n go l→aW.l32 R (k+1) (some (na B2)) (some (na Bp)) (some (na Bo)) a n c n i D w:=by
 have hn:=hG.len
 have hmx:=hG.max
 have l2:=hb2.lt
 have lp:=hbp.lt
 have lo:=hbo.lt
 have lgp:=hp.le
 have hDl:D<W.heap.size:=(Array.getElem?_eq_some_iff.1 hD).1
 have d2:B2.heap.size+1≠go:=fun h=>Row.apart (es:=[44]) hA0 (by decide) _ _ _ h hb2 (by simp)
 have dp:Bp.heap.size+1≠go:=fun h=>Row.apart (es:=[45]) hA0 (by decide) _ _ _ h hbp (by simp)
 have do_:Bo.heap.size+1≠go:=fun h=>Row.apart (es:=[44]) hA0 (by decide) _ _ _ h hbo (by simp)
 have dgp:gp=0∨gp≠go:=by
  rcases hp.2 with ⟨h0,_⟩ | ⟨b,cur',h0,_,hb,_⟩
  ·exact .inl h0
  ·exact .inr fun h=>Row.apart (es:=[3]) hA0 (by decide) b _ _ (by show b+1=go; omega) hb (by simp)
 have dD:D+1≠go:=by
  intro h
  rcases hA0.2 with ⟨h0,_⟩ | ⟨b,cur',h0,_,hb,_⟩
  ·omega
  ·obtain rfl:b=D:=by omega
   unfold Blk at hb
   rw [hD] at hb; cases hb
 intro k
 induction k with
 | zero =>
  intro i w l hi hw hI
  rw [aW.u32]; unfold aW.g32
  refine ai (by omega) ?_
  obtain rfl:i=n:=by omega
  have hbow:=hbo.mod hw (fun h=>by rcases h with h | h <;> omega)
  have hb2w:=hb2.mod hw (fun h=>by rcases h with h | h <;> omega)
  refine aK ⟨_,hbow.rd rfl,_,_,_,hbow.rd rfl,?_⟩
  refine aK (hb2w.wr (by omega) fun u1 hb3 ho3=>hb3.wr (by simp; omega) fun u2 hb4 ho4=>?_)
  have hDw:w.heap[D]?=some (.deferred (some [])):=(hw.block D hDl (fun h=>by rcases h with h | h <;> omega)).trans hD
  have s1:=hw.size
  have dD2:D≠B2.heap.size:=by
   intro h
   have hb2':W.heap[B2.heap.size]?=some (.cells cs2 44 (0,0)):=hb2
   rw [← h,hD] at hb2'; cases hb2'
  have hD1:u1.heap[D]?=some (.deferred (some [])):=(ho3.block D (by omega) (fun h=>by have h':D+1=B2.heap.size+1:=h; omega)).trans hDw
  have s3:=ho3.size
  have hD2:u2.heap[D]?=some (.deferred (some [])):=(ho4.block D (by omega) (fun h=>by have h':D+1=B2.heap.size+1:=h; omega)).trans hD1
  have mp:=Mod.put (S:=fun b=>b=D) u2 (.deferred none) rfl
  refine ⟨hD2,aT ?_⟩
  have hb5:=hb4.mod mp (fun h=>by have h':B2.heap.size=D:=h; omega)
  have r0:(u2.putObj D (.deferred none)).cell? ((na B2).add 0)=some (.int .i64 o):=hb5.rd (by simp [hc2])
  have r1:(u2.putObj D (.deferred none)).cell? ((na B2).add 1)=some (.slice ao i i):=hb5.rd (by simp [hc2])
  refine aK ⟨_,r0,_,_,_,r1,?_⟩
  have apb:∀ {u0:World} {cs:Array Value},Blk u0 B2.heap.size cs 44→Apart (fun k=>k+1=B2.heap.size+1) u0 [101,3]:=fun h=>Blk.uT h (by decide)
  have apD:Apart (fun b=>b=D) u2 [101,3]:=fun b cs e hb hbl=>by
   subst hb; unfold Blk at hbl; rw [hD2] at hbl; cases hbl
  have own:wK B w ao i i (jl T.pre nodes):=⟨go,l,hI.row,.inr hgo,(hI.all hTr hn).symm,hI.own⟩
  refine hend _ ?_ (((own.jP ho3 (apb hb2w)).jP ho4 (apb hb3)).jP mp apD)
  exact (((hw.trans ho3 (U:=fun k=>B≤k) (fun k _ h=>by show B≤k; rcases h with h | h <;> omega) (fun k _ h=>by show B≤k; omega)).trans ho4 (fun _ _ h=>h) (fun k _ h=>by show B≤k; omega)).trans mp (fun _ _ h=>h) (fun k _ h=>by show B≤k; omega))
 | succ k ih =>
  intro i w l hi hw hI
  rw [aW.u32]; unfold aW.g32
  refine aN (by omega) ?_
  have hGw:=Good.jP hG hw (fun b hb h=>by have:=hFg b hb; have:=hG.old b hb; rcases h with h | h <;> omega)
  refine hGw.ls.rdN (by omega) (by omega) fun x a5 n5 c5 hx hcs=>?_
  rw [Int.toNat_natCast] at hx
  have hsx:=hG.short x (List.mem_of_getElem? hx)
  have hcl:=hcs.len
  have s1:=hw.size
  refine tq fun w2 hb hb8 hk2=>⟨_,_,_,hb8.c4,?_⟩
  have lb:=hb.lt
  have s2:=hk2.size
  refine E.CallsD.mono (zy (hcs.kept hk2).sl (by omega)) fun v w3 ⟨a6,c6,hv,hn6⟩=>⟨_,_,_,hv,?_⟩
  obtain ⟨g6,h6,hg6⟩:=Go.Mir.wG.own hn6
  have hk3:=hn6.kept
  have s3:=hk3.size
  have hb3:=hb.mod (Kept.mod (S:=fun _=>False) hk3) (fun h=>h)
  refine hb3.wr0 (by simp [enN]) fun w4 hb4 ho4=>?_
  have s4:=ho4.size
  have h84:At8 w4 (na w) x a6 n5 c6 := .kT hb4
  have hk4:Kept w w4:=From.kept (((Kept.trans hk2 hk3).fr).only ho4 (.inr (by omega)))
  have ap4:∀ {w0:World} {cs:Array Value},Blk w0 w.heap.size cs 101→Apart (fun k=>k+1=w.heap.size+1) w0 [3]:=fun h=>Blk.uT h (by decide)
  have h64:=Row.jP h6 ho4 (ap4 hb3) (by simp)
  refine h84.ld ?_
  refine E.CallsD.mono (rV w4 x a6 n5 c6) fun v w5 ⟨hv,hk5⟩=>⟨_,hv,?_⟩
  have hk5':=Kept.trans hk4 hk5
  have s5:=hk5.size
  have hb5:Blk w5 w.heap.size (enN x a6 n5 c6).toArray 101:=(show Blk w4 w.heap.size (enN x a6 n5 c6).toArray 101 from hb4).mod (Kept.mod (S:=fun _=>False) hk5) (fun h=>h)
  have h65:Arr enI 3 w5 a6 n5 c6 x.aI g6:=Row.kept h64 hk5
  have hok:=hTr.right.ok i x hx
  have him:i∈T.pre:=(hTr.mem i).2 (by omega)
  have hil:T.pre.idxOf i<n:=by rw [hn,← hTr.length]; exact List.idxOf_lt_length_iff.2 him
  have hbp5:=hbp.mod (hw.trans (Kept.mod (S:=fun _=>False) hk5') (U:=fun b=>b+1=go∨W.heap.size≤b) (fun _ _ h=>h) (fun _ _ h=>h.elim)) (fun h=>by rcases h with h | h <;> omega)
  have hp5:=hp.mod (hw.trans (Kept.mod (S:=fun _=>False) hk5') (U:=fun b=>b+1=go∨W.heap.size≤b) (fun _ _ h=>h) (fun _ _ h=>h.elim)) (fun b h1 h=>by rcases h with h | h <;> omega)
  -- how a round ends
  have fin:∀ (w7:World) (x':ND),x'=iU T.pre x→Blk w7 w.heap.size (enN x' a6 n5 c6).toArray 101→Mod (fun k=>k=w.heap.size) w5 w7→aW.j51 R (aW.l32 R (k+1)) (some (na B2)) (some (na Bp)) (some (na Bo)) i (some (na w)) a n c n i D w7:=by
   intro w7 x' hx' hb7 hm7
   have s7:=hm7.size
   unfold aW.j51 aW.g51
   have hk7:Kept w w7:=From.kept ((hk5'.fr).trans hm7 (U:=fun k=>w.heap.size≤k) (fun _ _ h=>h) (fun k _ h=>by show w.heap.size≤k; omega))
   have hw7:Mod (fun b=>b+1=go∨W.heap.size≤b) W w7:=hw.trans (Kept.mod (S:=fun _=>False) hk7) (U:=fun b=>b+1=go∨W.heap.size≤b) (fun _ _ h=>h) (fun _ _ h=>h.elim)
   have hI7:=hI.kept hk7
   have hbo7:=hbo.mod hw7 (fun h=>by rcases h with h | h <;> omega)
   have hbp7:=hbp.mod hw7 (fun h=>by rcases h with h | h <;> omega)
   have hp7:=hp.mod hw7 (fun b h1 h=>by rcases h with h | h <;> omega)
   have h87:At8 w7 (na w) x' a6 n5 c6 := .kT hb7
   refine aK ⟨_,_,_,hbo7.rd rfl,aK ⟨_,_,_,gX hbp7,?_⟩⟩
   refine hp7.sl.rdI (k := .i64) (by omega) (by omega) fun y0 hy0=>?_
   obtain rfl:y0=(T.pre.idxOf i:Int):=by
    have:=vX hTr hn (j:=(i:Int)) (by omega) (by omega)
    rw [Int.toNat_natCast] at this hy0
    rw [this] at hy0; simpa using hy0.symm
   clear hy0
   refine aK (h87.ld ?_)
   refine hI7.row.wrN (by omega) (by omega) (x:=(x',⟨a6,n5,c6⟩)) fun u8 h8 ho8=>?_
   rw [Int.toNat_natCast] at h8
   have ap8:Apart (fun k=>k+1=go) w7 [3]:=Row.apart hI7.row (by decide)
   refine aB (by omega) ?_
   have hll:=hI.row.QU
   refine ih (i+1) u8 _ (by omega) (hw7.trans ho8 (fun _ _ h=>h) (fun _ _ h => .inl h)) ⟨h8,fun y hy=>?_,fun j y hj hy=>?_⟩
   ·rcases List.mem_or_eq_of_mem_set hy with h | h
    ·obtain ⟨gx,q1,q2⟩:=hI7.own y h
     exact ⟨gx,Row.jP q1 ho8 ap8 (by simp),q2⟩
    ·subst h
     have q1:Arr enI 3 w7 a6 n5 c6 x'.aI g6:=by
      rw [hx',qV]
      refine h65.mod hm7 (fun k h1 h2=>?_)
      have h2':k=w.heap.size:=h2
      unfold fresh at hg6
      omega
     exact ⟨g6,Row.jP q1 ho8 ap8 (by simp),kK hg6 (by omega)⟩
   ·by_cases hji:j=i
    ·subst hji
     rw [hx] at hy
     obtain rfl:x=y:=by simpa using hy
     exact ⟨⟨a6,n5,c6⟩,by rw [List.getElem?_set_self (by omega),hx']⟩
    ·obtain ⟨sh,hs⟩:=hI.done j y (by omega) hy
     refine ⟨sh,?_⟩
     rw [List.getElem?_set_ne (fun e=>hji ?_)]
     ·exact hs
     ·have h1:=rD him
      have h2:=rD ((hTr.mem j).2 (List.getElem?_eq_some_iff.1 hy).1)
      rw [e,h2] at h1
      simpa using h1
  have h85:At8 w5 (na w) x a6 n5 c6 := .kT hb5
  cases hin:x.inner with
  | false=>exact Dy (fin w5 x (by unfold iU; rw [if_neg (by simp [hin])]) hb5 (Mod.refl _))
  | true =>
   obtain ⟨b1,b2,b3,b4,_⟩:=dE hok hin
   have ck:∀ {v:World},Mod (fun b=>w.heap.size≤b) w v→CK w v:=fun hm a v hc=>hm.cell (fun h=>by have:=block_lt_of_cell hc; omega) hc
   have hbpw:=hbp.mod hw (fun h=>by rcases h with h | h <;> omega)
   have hpw:=hp.mod hw (fun b h1 h=>by rcases h with h | h <;> omega)
   refine KN ⟨w,ck hk5'.fr,aK ⟨_,_,_,gX hbp5,_,h85.c6,?_⟩⟩
   refine hp5.sl.rdI (k := .i64) (by omega) (by omega) fun y hy=>?_
   obtain rfl:y=(T.pre.idxOf x.left.toNat:Int):=by
    rw [vX hTr hn (by omega) (by omega)] at hy; simpa using hy.symm
   refine aK ⟨_,_,_,gX hbpw,_,h85.c7,?_⟩
   refine hpw.sl.rdI (k := .i64) (by omega) (by omega) fun y hy=>?_
   obtain rfl:y=(T.pre.idxOf x.right.toNat:Int):=by
    rw [vX hTr hn (by omega) (by omega)] at hy; simpa using hy.symm
   refine hb5.wr0 (by simp [enN]) fun w6 hb6 ho6=>⟨ck (hk5'.fr.only ho6 (.inr (by omega))),hb6.wr0 (by simp [enN]) fun w7 hb7 ho7=>?_⟩
   exact fin w7 { x with left:=(T.pre.idxOf x.left.toNat:Int),right:=(T.pre.idxOf x.right.toNat:Int) } (by unfold iU; rw [if_pos hin]) hb7 (ho6.trans ho7 (U:=fun k=>k=w.heap.size) (fun k _ h=>by show k=w.heap.size; omega) (fun k _ h=>by show k=w.heap.size; omega))
theorem PD (hG:Good F w a n c nodes):E.CallsD Go.Proofs.Try.prog 50 #[vT o a n c] w fun v u=>∃ a' n' c',v = .tuple #[vT (Bh o nodes) a' n' c',.int .i64 (bu fQ nodes).1]∧wK w.heap.size u a' n' c' (iD nodes)∧Kept w u:=by
 refine aW.calls ?_
 unfold aW aW.g0
 refine tJ fun w1 _ hT1 hk1=>tJ (o:=0) (a:=none) (n:=0) (c:=0) fun w2 hbr _ hk2=>?_
 have hT2:=hT1.kept hk2
 have hk12:=Kept.trans hk1 hk2
 have s1:=hk1.size
 have s2:=hk2.size
 have lr:=hbr.lt
 have l1:=hT1.lt
 have hn:=hG.len
 have hmx:=hG.max
 refine ⟨_,hT2.c0,_,_,_,hT2.c1,?_⟩
 have hG2:=hG.kept hk12
 refine E.CallsD.mono (JH (o:=o) hG2.max hG2.short hG2.ls hG2.old) fun v w3 ⟨hv,hk3⟩=>⟨_,_,hv,?_⟩
 have hk13:=Kept.trans hk12 hk3
 have hbr3:=hbr.mod (Kept.mod (S:=fun _=>False) hk3) (fun h=>h)
 have s3:=hk3.size
 refine jR (fun hne=>?_) fun h0=>?_
 ·refine hbr3.wr (by simp) fun u1 hb4 ho4=>hb4.wr (by simp) fun u2 hb5 ho5=>⟨_,hb5.rd rfl,_,_,_,hb5.rd rfl,_,_,_,?_,wK.nil _ _ _ _ ⟨rfl,rfl⟩ |> fun h=>(vZ hne).symm ▸ h,?_⟩
  ·unfold Bh; rw [if_neg hne]
  ·exact From.kept ((hk13.fr.only ho4 (.inr (by omega))).only ho5 (.inr (by omega)))
 have hTr:=aJ h0
 obtain ⟨T,hTe⟩:∃ T,fK nodes=T:=⟨_,rfl⟩
 rw [hTe] at hTr
 have hT3:=hT2.kept hk3
 refine ⟨_,_,_,hT3.c1,?_⟩
 refine Arr.make (en:=enI) (x:=0) rfl (by omega) (by omega) (by omega) fun w4 h4 hk4=>?_
 have e1:((n:Int)).toNat=n:=by omega
 rw [e1] at h4 ⊢
 have s4:=hk4.size
 have l4:=h4.le
 refine box1 fun w5 hb5 _ hk5=>hb5.wr (by simp) fun w6 hb6 ho6=>?_
 have hb6':Blk w6 w4.heap.size #[.slice (some (na w3)) n n] 45:=hb6
 have s5:=hk5.size
 have s6:=ho6.size
 have l5:=hb5.lt
 refine box1 fun w7 hb7 _ hk7=>hb7.wr (by simp) fun w8 hb8 ho8=>?_
 have hb8':Blk w8 w6.heap.size #[.int .i64 0] 3:=hb8
 have s7:=hk7.size
 have s8:=ho8.size
 have l7:=hb7.lt
 have k34:Kept w3 w8:=From.kept ((((hk4.fr.aA hk5).only ho6 (.inr (by omega))).aA hk7).only ho8 (.inr (by omega)))
 have hk18:=Kept.trans hk13 k34
 have hT8:=hT3.kept k34
 have h48:Arr enI 3 w8 (some (na w3)) n n (List.replicate n 0) (w3.heap.size+1):=((((Row.kept h4 hk5).mod ho6 (fun k h1 h2=>by omega)).kept hk7).mod ho8 (fun k h1 h2=>by omega))
 have hb68:=(hb6'.mod (Kept.mod (S:=fun _=>False) hk7) (fun h=>h)).mod ho8 (fun h=>by have h':w4.heap.size+1=w6.heap.size+1:=h; omega)
 refine ⟨_,hT8.c0,_,_,_,hT8.c1,?_⟩
 refine E.CallsD.mono (Sm hT8) fun v w9 ⟨hv,hTit,hk9⟩=>⟨_,rfl,?_⟩
 subst hv
 have s9:=hk9.size
 have hk19:=Kept.trans hk18 hk9
 have hG9:=hG.kept hk19
 have hT9:=hT8.kept hk9
 have hbr9:=hbr3.mod (Kept.mod (S:=fun _=>False) (Kept.trans k34 hk9)) (fun h=>h)
 have hb69:=hb68.mod (Kept.mod (S:=fun _=>False) hk9) (fun h=>h)
 have hb89:=hb8'.mod (Kept.mod (S:=fun _=>False) hk9) (fun h=>h)
 have h49:=h48.kept hk9
 rw [← CJ T.pre n] at h49
 obtain ⟨X,hX⟩:∃ X,zB (T.FO 0)=X:=⟨_,rfl⟩
 have hXl:X.length=n:=by rw [← hX,lu,BT.lT,← BT.gJ,hTr.length,hn]
 obtain ⟨J,hJ⟩:∃ J:Nat→Nat→World→Prop,J=fun (k g:Nat) (u:World)=>Blk u w6.heap.size #[.int .i64 (k:Int)] 3∧Arr enI 3 u (some (na w3)) n n (oz T.pre k n) (w3.heap.size+1)∧g=0∧Mod (fun b=>(b=w3.heap.size∨b=w6.heap.size)∨w9.heap.size≤b) w9 u:=⟨_,rfl⟩
 refine ⟨80,#[.pointer (some (na w8))],X,fun b=>b=w3.heap.size∨b=w6.heap.size,J,rfl,by kernel_rfl,fun b hb=>by omega,?_,?_,?_,?_,?_,?_⟩
 ·rw [← hX]
  refine BL (o:=o) (F:=F) hG9 hTr hTit (fun b hb=>by omega) (fun h=>?_) (fun b hb h=>?_)
  ·have h':w8.heap.size=w3.heap.size∨w8.heap.size=w6.heap.size:=h
   omega
  ·have:=hG.old b hb
   omega
 ·intro k g u u' h hmod
  rw [hJ] at h ⊢
  obtain ⟨h1,h2,h3,h4⟩:=h
  exact ⟨h1.mod hmod (fun h=>by omega),h2.mod hmod (fun k e h=>by omega),h3,h4.trans hmod (fun _ _ h=>h) (fun b _ h => .inr h.1)⟩
 ·intro k g u h
  rw [hJ] at h
  obtain ⟨h1,h2,h3,h4⟩:=h
  exact ⟨.inl h3,by omega,h4.size⟩
 ·rw [hJ]
  exact ⟨hb89,h49,rfl,Mod.refl _⟩
 ·intro k g x u hx h
  rw [hJ] at h ⊢
  obtain ⟨h1,h2,h3,h4'⟩:=h
  have hkn:k<n:=by rw [← hXl]; exact (List.getElem?_eq_some_iff.1 hx).1
  rw [← hX] at hx
  unfold zB at hx
  rw [List.getElem?_map] at hx
  obtain ⟨y,hy,rfl⟩:=Option.map_eq_some_iff.1 hx
  have hyp:T.pre[k]?=some y.1:=by rw [← T.qi 0,List.getElem?_map,hy]; rfl
  have hyn:y.1<n:=by rw [hn]; exact (hTr.mem _).1 (List.mem_of_getElem? hyp)
  have z:=h4'.size
  have hbp:=hb69.mod h4' (fun h=>by omega)
  refine ⟨_,_,_,gX hbp,_,gX h1,?_⟩
  refine h2.wr (by simp only; omega) (by simp only; omega) (x:=(k:Int)) rfl fun u2 h22 ho2=>?_
  rw [show ((y.1:Int)).toNat=y.1 by omega,Dj hTr.nodup hyp (by omega)] at h22
  have hb12:=h1.mod ho2 (fun h=>by omega)
  refine ⟨_,gX hb12,?_⟩
  refine aB (by omega) ?_
  refine hb12.wr (by simp) fun u3 hb13 ho3=>?_
  refine ⟨0,⟨hb13,h22.mod ho3 (fun k h1 h2=>by omega),rfl,(h4'.trans ho2 (fun _ _ h=>h) (fun b _ h => .inl (.inl (by omega)))).trans ho3 (fun _ _ h=>h) (fun b _ h => .inl (.inr (by omega)))⟩,.inl h3.symm,(ho2.trans ho3 (U:=fun b=>(b=w3.heap.size∨b=w6.heap.size)∨b+1=g) (fun b _ h => .inl (.inl (by omega))) (fun b _ h => .inl (.inr (by omega))))⟩
 ·intro g D u h hD1 hD2 hDg hD
  rw [hJ] at h
  obtain ⟨h1,h2,h3,h4'⟩:=h
  rw [hXl] at h1 h2
  have su:=h4'.size
  have hTu:=hT9.mod h4' (fun h=>by have e:(na w).block=w.heap.size:=rfl; omega)
  have hbpu:=hb69.mod h4' (fun h=>by omega)
  have hbru:=hbr9.mod h4' (fun h=>by omega)
  have hGu:=Good.jP hG9 h4' (fun b hb h=>by have:=hG.old b hb; omega)
  refine ⟨FCn u.heap.size n,FCn.keep,_,hTu.c0,_,gX h1,dA ⟨by omega,by omega,by omega,by omega⟩ ⟨fun u1 hu1=>⟨fun _=>?_,fun h=>by omega⟩,fun q3 n3 c3 _=>⟨fun u1 hu1=>⟨fun h=>by omega,fun _=>⟨u1,rfl,Blk.new u1 _ _,hu1.size⟩⟩,fun q5 _ u1 hu1 hF3 hF5=>?_⟩⟩⟩
  ·rw [e1]
   exact ⟨u1.heap.size,rfl,au.made (k:=8) (en:=enH) (x:=(ndZ,⟨none,0,0⟩)) (fun _=>rfl) (by omega) rfl 101 u1 n (by simp only [maxLen]; omega),hu1.size⟩
  ·obtain ⟨b3,e3,h3r,hb3⟩:=hF3.1 rfl
   simp only [Value.slice.injEq,Option.some.injEq] at e3
   obtain ⟨rfl,rfl,rfl⟩:=e3
   obtain ⟨Bw,e5,h5b,hB5⟩:=hF5.2 rfl
   simp only [Value.pointer.injEq,Option.some.injEq] at e5
   subst e5
   have z1:=hu1.size
   have l5b:=h5b.lt
   have hlr:=h3r.le
   refine h5b.wr (by simp) fun u2 hb2' ho2=>hb2'.wr (by simp) fun u3 hb3' ho3=>?_
   have hb3'':Blk u3 Bw.heap.size #[.int .i64 o,.slice (some ⟨b3,0,none⟩) c3 c3] 44:=hb3'
   have hdb:Bw.heap.size≠b3:=fun h=>Row.apart (es:=[44]) h3r (by decide) Bw.heap.size _ _ (by show Bw.heap.size+1=b3+1; omega) h5b (by simp)
   have f3:From u.heap.size u u3:=((Kept.fr hu1).only ho2 (.inr (by omega))).only ho3 (.inr (by omega))
   have hku3:=From.kept f3
   have z2:=ho2.size
   have z3:=ho3.size
   have hTu3:=hTu.kept hku3
   have h3r3:au 8 enH 101 u3 (some ⟨b3,0,none⟩) c3 c3 (List.replicate c3 (ndZ,⟨none,0,0⟩)) (b3+1):=(h3r.mod ho2 (fun k h1 h2=>by omega)).mod ho3 (fun k h1 h2=>by omega)
   have hDu3:u3.heap[D]?=some (.deferred (some [])):=(hku3.block D hD2).trans hD
   refine ⟨_,_,_,hTu3.c1,?_⟩
   refine ⟨c3+1,Gx (W:=u3) (B:=w.heap.size) (F:=F) (o:=o) (nodes:=nodes) (T:=T) (B2:=w1) (Bp:=w4) (Bo:=Bw) (cs2 := #[.int .i64 0,.slice none 0 0]) (ap:=some (na w3)) (cp:=c3) (gp:=w3.heap.size+1) (go:=b3+1) (D:=D) (hGu.kept hku3) hTr h3r3 (hbru.mod (Kept.mod (S:=fun _=>False) hku3) (fun h=>h)) rfl (hbpu.mod (Kept.mod (S:=fun _=>False) hku3) (fun h=>h)) (h2.kept hku3) hb3'' (by omega) hDu3 (by omega) (by omega) (by omega) (by omega) (fun b hb=>hG.old b hb) (fun x hx ho=>⟨some ⟨b3,0,none⟩,c3,c3,?_,?_,?_⟩) c3 0 u3 _ (by omega) (Mod.refl _) ⟨h3r3,fun y hy=>?_,fun j y hj _=>by omega⟩⟩
   ·obtain ⟨_,rfl⟩:=List.mem_replicate.1 hy
    exact ⟨0,Arr.nil _ _ _,.inl rfl⟩
   ·unfold Bh; rw [if_pos h0,h0]
   ·rw [iK h0,hTe]; exact ho
   ·have f19:From w.heap.size w u:=hk19.fr.trans h4' (U:=fun k=>w.heap.size≤k) (fun _ _ h=>h) (fun b _ h=>by show w.heap.size≤b; omega)
    exact From.kept ((f19.aA hku3).trans hx (U:=fun k=>w.heap.size≤k) (fun _ _ h=>h) (fun _ _ h=>h))
end
end Go.Mir
