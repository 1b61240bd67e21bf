/- Part of a proof of laws of the seat YtmjlipmapfofmaaGreat: functions' weakest preconditions, each checked by the kernel, contracts out of them, plain lemmas; no conditions. -/
import Derived.Test.YtmjlipmapfofmaaGreatF62
import Derived.Test.YtmjlipmapfofmaaGreatKA
set_option linter.unusedVariables false
set_option linter.unusedSimpArgs false
set_option linter.unusedSectionVars false
set_option maxRecDepth 100000
namespace Go.Mir
open Go Go.E Go.RowKit Go.Tr Go.Ss Go.ChangeShapes
def pg (B:Nat) (w:World) (a:OA) (n c:Nat) (cs:List dF):Prop:=∃ g l,aO 5 lX tC' w a n c l g∧fresh B g∧cs=l.map (·.1)∧∀ x∈l,∃ gx,Arr enI tI' w x.2.a x.2.n x.2.c x.1.bH gx∧fresh B gx
section
variable {w w0 u w1 wB x:World} {a a0 a1 a4:OA} {n c n0 c0 n1 c1 n4 c4 g m:Nat} {F F' S:Nat→Prop} {p q:Addr} {B B':Nat} {R:VP} {cs:List dF} {ts:List TD} {nodes:List ND}
theorem pg.kR (h:pg B w a n c cs) (hm:Mod S w u) (hS:Apart S w [tC',tI']):pg B u a n c cs:=by
 obtain ⟨g,l,h1,h2,h3,h4⟩:=h
 exact ⟨g,l,Row.kR h1 hm hS (by simp),h2,h3,fun x hx=>let ⟨gx,k1,k2⟩:=h4 x hx; ⟨gx,Row.kR k1 hm hS (by simp),k2⟩⟩
theorem pg.kept (h:pg B w a n c cs) (hk:Kept w u):pg B u a n c cs:=h.kR (S:=fun _=>False) (Kept.mod hk) (fun _ _ _ h=>h.elim)
theorem pg.weak (h:pg B w a n c cs) (hB:B'≤B):pg B' w a n c cs:=by
 obtain ⟨g,l,h1,h2,h3,h4⟩:=h
 exact ⟨g,l,h1,h2.imp id (fun h=>Nat.lt_of_le_of_lt hB h),h3,fun x hx=>let ⟨gx,k1,k2⟩:=h4 x hx; ⟨gx,k1,k2.imp id (fun h=>Nat.lt_of_le_of_lt hB h)⟩⟩
theorem pg.nil (B:Nat) (w:World):pg B w none 0 0 []:=⟨0,[],aO.nil _ _ _ _,.inl rfl,rfl,fun x hx=>by cases hx⟩
theorem pg.len (h:pg B w a n c cs):n=cs.length:=by
 obtain ⟨g,l,h1,h2,h3,h4⟩:=h
 rw [h3,List.length_map]
 exact aO.len (k:=5) (en:=lX) (fun _=>rfl) (by omega) h1
theorem pg.ls (h:pg B w a n c cs):Ls tC (MP B w) w a n c cs:=by
 obtain ⟨g,l,h1,h2,rfl,h4⟩:=h
 refine lsC h1 (fun b hb=>?_) fun x hx=>?_
 ·have:=Row.le h1
  unfold fresh at h2
  unfold MP
  omega
 ·obtain ⟨gx,k1,k2⟩:=h4 x hx
  refine (Arr.ls (h1:=fun _=>rfl) k1).mono fun b hb=>?_
  have:=k1.le
  unfold fresh at k2
  unfold MP
  omega
structure SN (B e:Nat) (w u:World) (g:Nat):Prop where
 only:Only g w u
 ap:∀ es:List Nat,e∉es→Apart (fun k=>k+1=g) w es
 fr:fresh B g
theorem SN.from {e:Nat} (h:SN B e w u g):From B w u:=h.only.weak fun k _ hk=>by have hk':k+1=g:=hk; have:=h.fr; unfold fresh at this; show B≤k; omega
theorem pg.push (h:pg B w a n c cs) {y:dF} {s:SH} {gx:Nat} (hy:Arr enI tI' w s.a s.n s.c y.bH gx) (hg:fresh B gx) (hB:B≤w.heap.size) (hm:n≤1073741824) {K:Value→World→Prop} (hk:∀ a' c' u g,pg B u a' (n+1) c' (cs++[y])→SN B tC' w u g→K (.slice a' (n+1) c') u) :
  nw (w.alloc (.cells (lX (y,s)).toArray tC')) fun w'=>dm Go.Proofs.Tryz.prog (Builtin.append_ #[72,72] 72 #[.slice a n c,.slice (some (na w)) 1 1]) w' K:=by
 obtain ⟨g,l,h1,h2,h3,h4⟩:=h
 refine aO.oz (P:=Go.Proofs.Tryz.prog) (k:=5) (en:=lX) (ys:=[(y,s)]) (m:=1) S53 (fun _=>rfl) (by omega) h1 zL (by simp) rfl (by omega) (by simp only [maxLen]; omega) (by omega) fun a' c' g' u hA hg' _ ho=>hk a' c' u g ⟨g',l++[(y,s)],hA,?_,by rw [h3]; simp,fun x hx=>?_⟩ ⟨ho,fun es he=>Row.apart h1 he,h2⟩
 ·unfold fresh at h2 ⊢
  omega
 ·have ap:Apart (fun k=>k+1=g) w [tI']:=Row.apart h1 (by decide)
  rcases List.mem_append.1 hx with hx | hx
  ·obtain ⟨gx,k1,k2⟩:=h4 x hx
   exact ⟨gx,Row.kR k1 ho ap (by simp),k2⟩
  ·obtain rfl:=List.mem_singleton.1 hx
   exact ⟨gx,Row.kR hy ho ap (by simp),hg⟩
theorem qy.push (h:qy B w a n c nodes) {y:ND} {s:SH} {gx:Nat} (hy:Arr enI tI' w s.a s.n s.c y.bH gx) (hg:fresh B gx) (hB:B≤w.heap.size) (hm:n≤1073741824) {K:Value→World→Prop} (hk:∀ a' c' u g,qy B u a' (n+1) c' (nodes++[y])→SN B tN' w u g→K (.slice a' (n+1) c') u) :
  nw (w.alloc (.cells (enH (y,s)).toArray tN')) fun w'=>dm Go.Proofs.Tryz.prog (Builtin.append_ #[48,48] 48 #[.slice a n c,.slice (some (na w)) 1 1]) w' K:=by
 obtain ⟨g,l,h1,h2,h3,h4⟩:=h
 refine aO.oz (P:=Go.Proofs.Tryz.prog) (k:=8) (en:=enH) (ys:=[(y,s)]) (m:=1) S_N (fun _=>rfl) (by omega) h1 L9 (by simp) rfl (by omega) (by simp only [maxLen]; omega) (by omega) fun a' c' g' u hA hg' _ ho=>hk a' c' u g ⟨g',l++[(y,s)],hA,?_,by rw [h3]; simp,fun x hx=>?_⟩ ⟨ho,fun es he=>Row.apart h1 he,h2⟩
 ·unfold fresh at h2 ⊢
  omega
 ·have ap:Apart (fun k=>k+1=g) w [tI']:=Row.apart h1 (by decide)
  rcases List.mem_append.1 hx with hx | hx
  ·obtain ⟨gx,k1,k2⟩:=h4 x hx
   exact ⟨gx,Row.kR k1 ho ap (by simp),k2⟩
  ·obtain rfl:=List.mem_singleton.1 hx
   exact ⟨gx,Row.kR hy ho ap (by simp),hg⟩
theorem tq:∀ (xs ys:List TD) (k:Nat),dZ (xs++ys) k=dZ xs k++dZ ys (k+xs.length)
 | [],ys,k=>rfl
 | x::xs,ys,k=>by
  show qJ k x.nodes++dZ (xs++ys) (k+1)=(qJ k x.nodes++dZ xs (k+1))++_
  rw [tq xs ys (k+1),List.append_assoc,List.length_cons,show k+1+xs.length=k+(xs.length+1) by omega]
theorem O0 (k:Nat) (nodes:List ND):(qJ k nodes).length≤4096:=Nat.le_trans (List.length_filterMap_le _ _) (lS nodes)
theorem zf:∀ (ts:List TD) (k:Nat),(dZ ts k).length≤4096*ts.length
 | [],_=>Nat.le_refl _
 | t::ts,k=>by
  have h1:=O0 k t.nodes
  have h2:=zf ts (k+1)
  show (qJ k t.nodes++dZ ts (k+1)).length≤_
  rw [List.length_append,List.length_cons]
  omega
structure CtS (B:Nat) (w0 w:World) (sC sN:SH) (A:List (ND×dF)):Prop where
 fr:From B w0 w
 cs:pg B w sC.a sC.n sC.c (A.map (·.2))
 ns:qy B w sN.a sN.n sN.c (A.map (·.1))
theorem CtS.kept {sC sN:SH} {A:List (ND×dF)} (h:CtS B w0 w sC sN A) (hk:Kept w u):CtS B w0 u sC sN A:=⟨h.fr.aF hk,h.cs.kept hk,h.ns.kept hk⟩
abbrev CtA (w:World) (ts:List TD):VP:=fun v u=>∃ sC sN:SH,v = .tuple #[sC.v,sN.v]∧pg w.heap.size u sC.a sC.n sC.c ((dZ ts 0).map (·.2))∧qy w.heap.size u sN.a sN.n sN.c ((dZ ts 0).map (·.1))∧Kept w u
theorem JE {d:Int} (hG:ng F w a n c ts d):E.CallsD Go.Proofs.Tryz.prog 78 #[.slice a n c] w (CtA w ts):=by
 refine aG.calls (R:=CtA w ts) ?_
 unfold aG aG.g0
 have hlen:=hG.ls.len
 have hmx:=hG.max
 have key:∀ (k i:Nat) (v:World) (sC sN:SH),i+k=n→CtS w.heap.size w v sC sN (dZ (ts.take i) 0)→aG.l10 (CtA w ts) (k+1) sC.a sC.n sC.c sN.a sN.n sN.c a n c n i v:=by
  intro k
  induction k with
  | zero =>
   intro i v sC sN hi hS
   rw [aG.u10]; unfold aG.g10
   refine az (by omega) ?_
   obtain rfl:i=ts.length:=by omega
   rw [List.take_length] at hS
   exact ⟨sC,sN,rfl,hS.cs,hS.ns,From.kept hS.fr⟩
  | succ k ih =>
   intro i v sC sN hi hS
   rw [aG.u10]; unfold aG.g10
   refine aI (by omega) ?_
   have kv:=From.kept hS.fr
   refine (hG.ls.kept kv).rdT (by omega) (by omega) fun t a' n' c' ht hnodes=>?_
   rw [Int.toNat_natCast] at ht
   obtain ⟨o1,o2,o3,o4⟩:=hG.ok t (List.mem_of_getElem? ht)
   have hnl:=hnodes.len
   have hGt:Good F v a' n' c' t.nodes:=⟨hnodes,fun b hb=>by have:=hG.old b hb; have:=kv.size; omega,by omega,o2⟩
   refine boxS (zs:=(lg 0 none 0 0).toList) (vs:=[.int .i64 t.output,.slice a' n' c']) rfl fun w1 hT hbT hk1=>?_
   refine ⟨_,hT 0 _ rfl,_,_,_,hT 1 _ rfl,?_⟩
   refine E.CallsD.mono (Hl (o:=t.output) (hGt.kept hk1)) fun r w2 ⟨a2,n2,c2,hr,hM⟩=>⟨_,_,_,_,hr,?_⟩
   have hk2:=hM.kept
   have hml:=hM.len
   have hsk:=hM.slk
   have hk12:=Kept.trans hk1 hk2
   have hS2:=hS.kept hk12
   have hm4:=lS t.nodes
   have hin:=Af o3 o4
   obtain ⟨g2,hrow,hg2,_⟩:=hM
   have hz12:=hk12.size
   have hzv:=kv.size
   have hbT2:=hbT.keep hk2
   have hil:((ts.take i).length:Int)=(i:Int):=by rw [List.length_take]; omega
   have hAl:(dZ (ts.take i) 0).length≤4096*i:=Nat.le_trans (zf _ _) (by rw [List.length_take]; omega)
   have inner:∀ (j r:Nat) (z:World) (sC sN:SH),r+j=n2→From w.heap.size v z→CtS w.heap.size w z sC sN (dZ (ts.take i) 0++((gV t.nodes).take r).filterMap (qA i t.nodes))→Blk z v.heap.size #[.int .i64 t.output,.slice a' n' c'] tT'→aO 3 enM tM' z a2 n2 c2 (gV t.nodes) g2 →
     aG.l26 (CtA w ts) (aG.l10 (CtA w ts) (k+1)) (j+1) sC.a sC.n sC.c sN.a sN.n sN.c i (some (na v)) a n c n i a2 n2 c2 n2 r z:=by
    intro j
    induction j with
    | zero =>
     intro r z sC sN hr hv hS hb hA
     unfold aG.l26 aG.g26
     refine az (by omega) ?_
     obtain rfl:r=n2:=by omega
     rw [show (gV t.nodes).take r=gV t.nodes from List.take_of_length_le (by omega)] at hS
     refine aA (by omega) (ih (i+1) z sC sN (by omega) ?_)
     rw [take_snoc ht,tq]
     have e:dZ [t] (0+(ts.take i).length)=(gV t.nodes).filterMap (qA i t.nodes):=by
      rw [Nat.zero_add,show (ts.take i).length=i by omega]
      show qJ i t.nodes++[]=_
      rw [List.append_nil]; rfl
     rw [e]
     exact hS
    | succ j ihj =>
     intro r z sC sN hr hv hS hb hA
     unfold aG.l26 aG.g26
     refine aI (by omega) ?_
     refine Wh (hA.slk su (by omega)) (by omega) (by omega) fun m hm=>?_
     rw [Int.toNat_natCast] at hm
     refine boxS (zs:=[.int .i64 0,.int .i64 0,.int .i64 0]) (vs:=enM m) (e:=tM') rfl fun z1 hAm bm hk3=>?_
     have hb1:=hb.keep hk3
     obtain ⟨q,x,hq,hx,hxi,_⟩:=hin m (List.mem_of_getElem? hm)
     have hql:=(List.getElem?_eq_some_iff.1 hx).1
     refine ⟨_,_,_,atB hb1 1 _ rfl,_,hAm 0 _ rfl,_,hAm 0 _ rfl,?_⟩
     rw [hq]
     refine aA (by omega) ?_
     have kz1:=Kept.trans (From.kept hS.fr) hk3
     have hnz:Ls tN F z1 a' n' c' t.nodes:=From.ls (B:=w.heap.size) hnodes (hv.aF hk3) hG.old
     have hcap:=hnz.cap
     refine dJ ⟨by omega,by omega⟩ ?_
     refine dJ ⟨by omega,by omega⟩ ?_
     have hsub:=hnz.sub (i:=q) (j:=q+1) (by omega) (by omega)
     have e1:((t.nodes.take (q+1)).drop q)=[x]:=by
      rw [take_snoc hx,List.drop_append_of_le_length (by rw [List.length_take]; omega),List.drop_of_length_le (by rw [List.length_take]; omega)]
      rfl
     have hGx:Good F z1 (slA a' c' q 8) (q+1 - q) (c' - q) [x]:=⟨by rw [← e1]; exact hsub,fun b hb=>by have:=hG.old b hb; have:=kz1.size; omega,by omega,fun y hy=>o2 y (by rw [List.mem_singleton.1 hy]; exact List.mem_of_getElem? hx)⟩
     refine E.CallsD.mono (yh hGx) fun r3 z2 ⟨a5,c5,hr3,hO,hk4⟩=>⟨_,_,_,hr3,?_⟩
     obtain ⟨g5,l5,h51,h52,h53,h54⟩:=hO
     obtain ⟨⟨x5,s5⟩,rfl⟩:∃ y,l5=[y]:=by
      cases l5 with
      | nil=>cases h53
      | cons y l5=>cases l5 with
       | nil=>exact ⟨y,rfl⟩
       | cons z l=>simp at h53
     obtain rfl:x=x5:=by simpa using h53
     refine atF (k:=8) (en:=enH) (fun _=>rfl) (by omega) h51 (i:=0) (x:=(x,s5)) (by omega) (by omega) rfl fun p5 _ hA5=>?_
     obtain ⟨gx,hgx1,hgx2⟩:=h54 (x,s5) (.head _)
     refine ⟨_,hA5 0 _ rfl,_,hA5 1 _ rfl,_,hA5 2 _ rfl,_,hA5 3 _ rfl,_,_,_,hA5 4 _ rfl,_,hA5 5 _ rfl,_,hA5 6 _ rfl,_,hA5 7 _ rfl,?_⟩
     refine boxS (zs:=[.int .u8 0,.int .i64 0,.int .i64 0,.float .f64 0,.slice none 0 0,.int .u8 0,.int .i64 0,.int .i64 0]) (vs:=enH (x,s5)) (e:=tN') rfl fun z3 hA6 b6 hk5=>?_
     have hAm3:=(hAm.kept hk4).kept hk5
     refine ⟨_,hA6 3 _ rfl,_,_,_,hA6 4 _ rfl,_,hAm3 1 _ rfl,_,hAm3 2 _ rfl,?_⟩
     have hk35:=Kept.trans (Kept.trans hk3 hk4) hk5
     have hS3:=hS.kept hk35
     have z35:=hk35.size
     have zz:=hS.fr.size
     have hfx:fresh w.heap.size gx:=by unfold fresh at hgx2 ⊢; have:=kz1.size; omega
     have hrc:qA i t.nodes m=some (x,⟨x.thr,x.bH,(i:Int),m.frm,m.to⟩):=by unfold qA; rw [hq,Int.toNat_natCast,hx]; rfl
     have hcl:=hS3.cs.len
     have hnl2:=hS3.ns.len
     have hfl:(((gV t.nodes).take r).filterMap (qA i t.nodes)).length≤4096:=Nat.le_trans (List.length_filterMap_le _ _) (by rw [List.length_take]; omega)
     rw [List.length_map,List.length_append] at hcl hnl2
     refine pg.push (y:=⟨x.thr,x.bH,(i:Int),m.frm,m.to⟩) (s:=s5) hS3.cs (hgx1.kept hk5) hfx (by omega) (by omega) fun a7 c7 z4 g7 hC7 ho7=>⟨_,_,_,rfl,?_⟩
     have b7:Blk z4 z2.heap.size (enH (x,s5)).toArray tN':=b6.mod ho7.only fun hk=>ho7.ap [tN'] (by decide) _ _ _ hk b6 (by simp)
     have hA7:=atB b7
     have z7:=ho7.only.size
     refine ⟨_,hA7 0 _ rfl,_,hA7 1 _ rfl,_,hA7 2 _ rfl,_,hA7 3 _ rfl,_,_,_,hA7 4 _ rfl,_,hA7 5 _ rfl,_,hA7 6 _ rfl,_,hA7 7 _ rfl,?_⟩
     have hN7:qy w.heap.size z4 sN.a sN.n sN.c _:=hS3.ns.kR ho7.only (ho7.ap _ (by decide))
     refine qy.push (y:=x) (s:=s5) hN7 (Row.kR (hgx1.kept hk5) ho7.only (ho7.ap [tI'] (by decide)) (by simp)) hfx (by omega) (by omega) fun a8 c8 z5 g8 hN8 ho8=>⟨_,_,_,rfl,aA (by omega) ?_⟩
     have fr35:From w.heap.size z z3:=Kept.mod hk35
     have frz:From w.heap.size z z5:=Mod.trans (Mod.trans fr35 ho7.from (fun _ _ h=>h) (fun _ _ h=>h)) ho8.from (fun _ _ h=>h) (fun _ _ h=>h)
     have hbz:Blk z5 v.heap.size #[.int .i64 t.output,.slice a' n' c'] tT':=by
      have h3:=hb.keep hk35
      have h4:=h3.mod ho7.only fun hk=>ho7.ap [tT'] (by decide) _ _ _ hk h3 (by simp)
      exact h4.mod ho8.only fun hk=>ho8.ap [tT'] (by decide) _ _ _ hk h4 (by simp)
     have hAz:aO 3 enM tM' z5 a2 n2 c2 (gV t.nodes) g2:=Row.kR (Row.kR (aO.kept hA hk35) ho7.only (ho7.ap [tM'] (by decide)) (by simp)) ho8.only (ho8.ap [tM'] (by decide)) (by simp)
     refine ihj (r+1) z5 ⟨a7,sC.n+1,c7⟩ ⟨a8,sN.n+1,c8⟩ (by omega) (Mod.trans hv frz (fun _ _ h=>h) (fun _ _ h=>h)) ⟨Mod.trans hS.fr frz (fun _ _ h=>h) (fun _ _ h=>h),?_,?_⟩ hbz hAz
     ·have hC8:=hC7.kR ho8.only (ho8.ap _ (by decide))
      rw [take_snoc hm,List.filterMap_append,← List.append_assoc,List.map_append]
      simpa [hrc] using hC8
     ·rw [take_snoc hm,List.filterMap_append,← List.append_assoc,List.map_append]
      simpa [hrc] using hN8
   exact Exists.intro (n2+1) (inner n2 0 w2 sC sN (by omega) (Kept.mod hk12) (by simpa using hS2) hbT2 hrow)
 exact Exists.intro (n+1) (key n 0 w ⟨none,0,0⟩ ⟨none,0,0⟩ (by omega) ⟨From.refl _ _,pg.nil _ _,qy.nil _ _ _ _ ⟨rfl,rfl⟩⟩)
end
end Go.Mir
