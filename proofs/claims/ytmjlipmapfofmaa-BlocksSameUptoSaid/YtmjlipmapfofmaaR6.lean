/- Part of a proof of laws of the seat Ytmjlipmapfofmaa: functions' weakest preconditions, each checked by the kernel, contracts out of them, plain lemmas; no conditions. -/
import Derived.Test.YtmjlipmapfofmaaR34
import Derived.Test.YtmjlipmapfofmaaFD
set_option linter.unusedVariables false
set_option linter.unusedSimpArgs false
set_option linter.unusedSectionVars false
set_option maxRecDepth 100000
namespace Go.E
open Go Go.RowKit Go.ChangeShapes
section
variable {H:Type} {enc:TypeId×Value→H} {P:Program} {w:World} {t e:TypeId} {B:DataW H→Nat} {α:Type} {cs:List Value} {x:DataW H×List MemPlace}
theorem Xm (hB:UW B) (hS:∀ es sp,(es.map B).sum≤B (.slice es sp)) (ht:P.underlying t=some (.slice e)) (h:TR enc P w t cs x) :
  ∃ a n c,cs=[.slice a n c]∧n≤c∧n≤B x.1∧(a=none→n=0∧c=0)∧∃ D:Nat→DataW H,(a≠none→((List.range n).map fun i=>B (D i)).sum≤B x.1) ∧
   ∀ p,a=some p→∀ i,i<n→∃ cs' Pl,w.cells? 0 (p.add (i*P.cellsOf e)) (P.cellsOf e)=some cs'∧TR enc P w e cs' (D i,Pl)∧B (D i)≤B x.1:=by
 obtain ⟨fuel,h⟩:=h
 rcases Deep.open_slice ht h with ⟨rfl,rfl⟩ | ⟨a,len,cap,m,n,D,Pl,rfl,_,hl,hm,hmm,rfl,hx⟩
 ·exact ⟨none,0,0,rfl,Nat.le_refl _,Nat.zero_le _,fun _=>⟨rfl,rfl⟩,fun _ => .nil,fun h=>absurd rfl h,fun p hp=>by cases hp⟩
 ·simp only [if_true] at hmm
  refine ⟨some a,len,cap,rfl,hl,?_,(fun hh=>by cases hh),D,fun _=>?_,fun p hp i hi=>?_⟩
  ·refine Nat.le_trans ?_ (Nat.le_of_succ_le (hB.len _ _))
   simp
  ·refine Nat.le_trans (Nat.le_of_eq ?_) (hS _ _)
   rw [List.map_map]
   rfl
  ·cases hp
   obtain ⟨cs',h1,h2⟩:=hx i (by omega)
   exact ⟨cs',Pl i,h1,⟨n,h2⟩,hB.elem _ _ _ (List.mem_map_of_mem (List.mem_range.2 hi))⟩
theorem Xd {wt:α→Nat}:∀ (n:Nat) (f:Fin n→α) (g:Nat→Nat),(∀ i:Fin n,wt (f i)≤g i)→((List.ofFn f).map wt).sum≤((List.range n).map g).sum
 | 0,f,g,_=>by simp
 | n+1,f,g,h=>by
  have h1:=Xd n (fun i=>f i.succ) (fun i=>g (i+1)) fun i=>h i.succ
  have h2:=h 0
  rw [List.ofFn_succ,List.range_succ_eq_map,List.map_cons,List.map_cons,List.sum_cons,List.sum_cons,List.map_map]
  have h3:wt (f 0)≤g 0:=h2
  have h4:(g∘Nat.succ)=fun i=>g (i+1):=rfl
  rw [h4]
  omega
def GS (G:α→Nat→Prop) (xs:List α) (b:Nat):Prop:=xs.length≤b∧(∀ x∈xs,∃ b',b'≤b∧G x b')∧∀ wt:α→Nat,(∀ x b,G x b→wt x≤b)→(xs.map wt).sum≤b
theorem X6 {T:Ty α} {G:α→Nat→Prop} (hB:UW B) (hS:∀ es sp,(es.map B).sum≤B (.slice es sp)) (ht:P.underlying t=some (.slice e)) (hc:P.cellsOf e=T.k) (hk0:T.k≠0) (h:Ad enc P w B T e G) :
  Ad enc P w B T.sl t (GS G):=fun cs y hy=>by
 obtain ⟨a,n,c,rfl,h1,h3,h4,D,hD,h5⟩:=Xm hB hS ht hy
 cases a with
 | none =>
  obtain ⟨rfl,rfl⟩:=h4 rfl
  exact ⟨[],⟨none,0,0,rfl,Ls.nil _ _ _ _ _⟩,Nat.zero_le _,fun x hx=>(by cases hx),fun _ _=>Nat.zero_le _⟩
 | some p =>
  have each:∀ i:Fin n,∃ x,(∃ cs,T.rd (fun b=>b<w.heap.size) w x cs∧∀ j v,cs[j]?=some v→w.cell? (p.add (i*T.k+j))=some v)∧B (D i)≤B y.1∧G x (B (D i)):=by
   intro i
   obtain ⟨cs',z,hc1,hz,hb⟩:=h5 p rfl i i.isLt
   obtain ⟨x,hx,hG⟩:=h cs' _ hz
   refine ⟨x,⟨cs',hx,fun j v hj=>?_⟩,hb,hG⟩
   rw [hc] at hc1
   rw [← add_add]
   exact cells_at hc1 j v hj
  obtain ⟨f,hf⟩:=Classical.axiomOfChoice each
  have hp:0<n→T.k≠0→p.block<w.heap.size:=fun hn hk=>by
   obtain ⟨⟨cs,hr,hcs⟩,_⟩:=hf ⟨0,hn⟩
   have hl:=T.len hr
   have:=hcs 0 (cs[0]'(by omega)) (List.getElem?_eq_getElem _)
   have:=block_lt_of_cell this
   rwa [add_block] at this
  refine ⟨List.ofFn f,⟨some p,n,c,rfl,by simp,h1,fun i x hi=>?_⟩,by simpa using h3,fun x hx=>?_,fun wt hw=>?_⟩
  ·obtain ⟨hlt,rfl⟩:=List.getElem?_eq_some_iff.1 hi
   simp only [List.length_ofFn] at hlt
   obtain ⟨⟨cs,hr,hcs⟩,_⟩:=hf ⟨i,hlt⟩
   exact ⟨p,cs,rfl,hp (by omega) hk0,by simpa using hr,hcs⟩
  ·obtain ⟨i,rfl⟩:=List.mem_ofFn.1 hx
   exact ⟨_,(hf i).2.1,(hf i).2.2⟩
  ·exact Nat.le_trans (Xd n f (fun i=>B (D i)) fun i=>hw _ _ (hf i).2.2) (hD (by simp))
end
end Go.E
namespace Go.Mir
open Go Go.E Go.RowKit Go.ChangeShapes Go.WideShapes Go.ChangeAt Go.Tr
open Go.Proofs.Ytmjlipmapfofmaa (Rows.uptoBulk Rows.uptoBulkAll Rows.uptoSmall)
section
variable {H:Type} {enc:TypeId×Value→H} {w:World}
theorem Xe:∀ l:List (DataW H),(l.map Rows.uptoBulk).sum≤Rows.uptoBulkAll l
 | []=>Nat.zero_le _
 | x::r=>by
  have:=Xe r
  simp only [Rows.uptoBulkAll,List.map_cons,List.sum_cons]
  omega
theorem measS:∀ (es:List (DataW H)) (sp:_),(es.map Rows.uptoBulk).sum≤Rows.uptoBulk (.slice es sp):=fun es sp=>by
 have:=Xe es
 simp only [Rows.uptoBulk]
 omega
theorem XJ:Ad enc Go.Proofs.Try.prog w Rows.uptoBulk tC 72 (fun x b=>x.aI.length≤b):=fun cs y hy=>by
 obtain ⟨fs,hS,hfs⟩:∃ fs,Go.Proofs.Try.prog.underlying 72=some (.struct fs)∧fs=((Go.Proofs.Try.prog).fieldsOf 72):=⟨_,by kernel_rfl,rfl⟩
 obtain ⟨hl,parts,hparts,hp⟩:=qp hS hy
 rw [show (Go.Proofs.Try.prog).cellsOf 72=5 from by kernel_rfl] at hl
 have g:∀ (i e off:Nat),(fs[i]?).map (fun f:Field=>(f.type,f.offset))=some (e,off)→(Go.Proofs.Try.prog).cellsOf e=1→∃ y',TR enc Go.Proofs.Try.prog w e ((cs.drop off).take 1) y'∧y'.1∈parts:=fun i e off h hc=>by
  obtain ⟨f,h1,h2,h3⟩:=fld h
  obtain ⟨y',hy',hm,_⟩:=hp i f h1
  rw [h2,h3,hc] at hy'
  exact ⟨y',hy',hm⟩
 have ft:∀ i:Nat,(fs[i]?).map (fun f:Field=>(f.type,f.offset))=(((Go.Proofs.Try.prog).fieldsOf 72)[i]?).map (fun f:Field=>(f.type,f.offset)):=fun i=>by rw [hfs]
 obtain ⟨y0,h0,_⟩:=g 0 70 0 (by rw [ft]; kernel_rfl) (by kernel_rfl)
 obtain ⟨y1,h1,m1⟩:=g 1 45 1 (by rw [ft]; kernel_rfl) (by kernel_rfl)
 obtain ⟨y2,h2,_⟩:=g 2 3 2 (by rw [ft]; kernel_rfl) (by kernel_rfl)
 obtain ⟨y3,h3,_⟩:=g 3 3 3 (by rw [ft]; kernel_rfl) (by kernel_rfl)
 obtain ⟨y4,h4,_⟩:=g 4 3 4 (by rw [ft]; kernel_rfl) (by kernel_rfl)
 obtain ⟨n0,e0,_⟩:=Nh (k := .f64) (by kernel_rfl) h0
 obtain ⟨l,⟨a,n,c,e1,hls⟩,hl1,_⟩:=nK meas He (T:=qC .i64) (by kernel_rfl) (by decide) (AP kV) _ _ h1
 obtain ⟨n2,e2,_⟩:=mX kV h2
 obtain ⟨n3,e3,_⟩:=mX kV h3
 obtain ⟨n4,e4,_⟩:=mX kV h4
 refine ⟨⟨n0,l,n2,n3,n4⟩,⟨⟨a,n,c⟩,?_,hls⟩,?_⟩
 ·rcases cs with _ | ⟨q0,_ | ⟨q1,_ | ⟨q2,_ | ⟨q3,_ | ⟨q4,_ | ⟨q5,r⟩⟩⟩⟩⟩⟩ <;> simp at hl
  simp at e0 e1 e2 e3 e4
  rw [e0,e1,e2,e3,e4]
 ·have hb:Rows.uptoBulk y1.1≤Rows.uptoBulk y.1:=by rw [hparts]; exact meas.part _ _ m1
  show l.length≤_
  omega
def GC (l:List dU) (b:Nat):Prop:=l.length≤b∧∀ x∈l,x.aI.length≤b
theorem X0:Ad enc Go.Proofs.Try.prog w Rows.uptoBulk tC.sl 67 GC :=
 Ad.weak (nK meas (e:=72) (by kernel_rfl) (T:=tC) (by kernel_rfl) (by decide) XJ) fun xs b ⟨h1,h2⟩=>⟨h1,fun x hx=>by obtain ⟨b',h3,h4⟩:=h2 x hx; omega⟩
theorem XI:Ad enc Go.Proofs.Try.prog w Rows.uptoBulk tL 69 (fun x b=>GC x.numbers b∧GC x.aI b∧GC x.lost b):=fun cs y hy=>by
 obtain ⟨fs,hS,hfs⟩:∃ fs,Go.Proofs.Try.prog.underlying 69=some (.struct fs)∧fs=((Go.Proofs.Try.prog).fieldsOf 69):=⟨_,by kernel_rfl,rfl⟩
 obtain ⟨hl,parts,hparts,hp⟩:=qp hS hy
 rw [show (Go.Proofs.Try.prog).cellsOf 69=4 from by kernel_rfl] at hl
 have g:∀ (i e off:Nat),(fs[i]?).map (fun f:Field=>(f.type,f.offset))=some (e,off)→(Go.Proofs.Try.prog).cellsOf e=1→∃ y',TR enc Go.Proofs.Try.prog w e ((cs.drop off).take 1) y'∧y'.1∈parts:=fun i e off h hc=>by
  obtain ⟨f,h1,h2,h3⟩:=fld h
  obtain ⟨y',hy',hm,_⟩:=hp i f h1
  rw [h2,h3,hc] at hy'
  exact ⟨y',hy',hm⟩
 have ft:∀ i:Nat,(fs[i]?).map (fun f:Field=>(f.type,f.offset))=(((Go.Proofs.Try.prog).fieldsOf 69)[i]?).map (fun f:Field=>(f.type,f.offset)):=fun i=>by rw [hfs]
 obtain ⟨y0,h0,_⟩:=g 0 3 0 (by rw [ft]; kernel_rfl) (by kernel_rfl)
 obtain ⟨y1,h1,m1⟩:=g 1 67 1 (by rw [ft]; kernel_rfl) (by kernel_rfl)
 obtain ⟨y2,h2,m2⟩:=g 2 67 2 (by rw [ft]; kernel_rfl) (by kernel_rfl)
 obtain ⟨y3,h3,m3⟩:=g 3 67 3 (by rw [ft]; kernel_rfl) (by kernel_rfl)
 obtain ⟨n0,e0,_⟩:=mX kV h0
 obtain ⟨l1,⟨a1,n1,c1,e1,hls1⟩,g1,g1'⟩:=X0 _ _ h1
 obtain ⟨l2,⟨a2,n2,c2,e2,hls2⟩,g2,g2'⟩:=X0 _ _ h2
 obtain ⟨l3,⟨a3,n3,c3,e3,hls3⟩,g3,g3'⟩:=X0 _ _ h3
 have b1:Rows.uptoBulk y1.1≤Rows.uptoBulk y.1:=by rw [hparts]; exact meas.part _ _ m1
 have b2:Rows.uptoBulk y2.1≤Rows.uptoBulk y.1:=by rw [hparts]; exact meas.part _ _ m2
 have b3:Rows.uptoBulk y3.1≤Rows.uptoBulk y.1:=by rw [hparts]; exact meas.part _ _ m3
 refine ⟨⟨n0,l1,l2,l3⟩,⟨⟨a1,n1,c1⟩,⟨a2,n2,c2⟩,⟨a3,n3,c3⟩,?_,hls1,hls2,hls3⟩,⟨by show l1.length≤_; omega,fun x hx=>by have:=g1' x hx; omega⟩,⟨by show l2.length≤_; omega,fun x hx=>by have:=g2' x hx; omega⟩,⟨by show l3.length≤_; omega,fun x hx=>by have:=g3' x hx; omega⟩⟩
 rcases cs with _ | ⟨q0,_ | ⟨q1,_ | ⟨q2,_ | ⟨q3,_ | ⟨q4,r⟩⟩⟩⟩⟩ <;> simp at hl
 simp at e0 e1 e2 e3
 rw [e0,e1,e2,e3]
structure GB (x:mr) (b:Nat):Prop where
 leaves:x.leaves.length≤b
 values:x.values.length≤b
 value:∀ v∈x.values,v.length≤b
 outputs:x.outputs.length≤b
 lists:x.lists.length≤b
 list:∀ l∈x.lists,GC l.numbers b∧GC l.aI b∧GC l.lost b
 nums:(x.lists.map fun l=>l.numbers.length).sum≤b
 aI:(x.lists.map fun l=>l.aI.length).sum≤b
theorem XF:Ad enc Go.Proofs.Try.prog w Rows.uptoBulk tB 66 GB:=fun cs y hy=>by
 obtain ⟨fs,hS,hfs⟩:∃ fs,Go.Proofs.Try.prog.underlying 66=some (.struct fs)∧fs=((Go.Proofs.Try.prog).fieldsOf 66):=⟨_,by kernel_rfl,rfl⟩
 obtain ⟨hl,parts,hparts,hp⟩:=qp hS hy
 rw [show (Go.Proofs.Try.prog).cellsOf 66=5 from by kernel_rfl] at hl
 have g:∀ (i e off:Nat),(fs[i]?).map (fun f:Field=>(f.type,f.offset))=some (e,off)→(Go.Proofs.Try.prog).cellsOf e=1→∃ y',TR enc Go.Proofs.Try.prog w e ((cs.drop off).take 1) y'∧y'.1∈parts:=fun i e off h hc=>by
  obtain ⟨f,h1,h2,h3⟩:=fld h
  obtain ⟨y',hy',hm,_⟩:=hp i f h1
  rw [h2,h3,hc] at hy'
  exact ⟨y',hy',hm⟩
 have ft:∀ i:Nat,(fs[i]?).map (fun f:Field=>(f.type,f.offset))=(((Go.Proofs.Try.prog).fieldsOf 66)[i]?).map (fun f:Field=>(f.type,f.offset)):=fun i=>by rw [hfs]
 obtain ⟨y0,h0,_⟩:=g 0 3 0 (by rw [ft]; kernel_rfl) (by kernel_rfl)
 obtain ⟨y1,h1,m1⟩:=g 1 45 1 (by rw [ft]; kernel_rfl) (by kernel_rfl)
 obtain ⟨y2,h2,m2⟩:=g 2 63 2 (by rw [ft]; kernel_rfl) (by kernel_rfl)
 obtain ⟨y3,h3,m3⟩:=g 3 45 3 (by rw [ft]; kernel_rfl) (by kernel_rfl)
 obtain ⟨y4,h4,m4⟩:=g 4 64 4 (by rw [ft]; kernel_rfl) (by kernel_rfl)
 obtain ⟨n0,e0,_⟩:=mX kV h0
 obtain ⟨l1,⟨a1,n1,c1,e1,hls1⟩,g1,_⟩:=nK meas He (T:=qC .i64) (by kernel_rfl) (by decide) (AP kV) _ _ h1
 obtain ⟨l2,⟨a2,n2,c2,e2,hls2⟩,g2,g2'⟩:=nK meas (e:=23) (by kernel_rfl) (T:=(qC .i64).sl) (by kernel_rfl) (by decide) (nK meas (e:=2) (by kernel_rfl) (T:=qC .i64) (by kernel_rfl) (by decide) (AP (by kernel_rfl))) _ _ h2
 obtain ⟨l3,⟨a3,n3,c3,e3,hls3⟩,g3,_⟩:=nK meas He (T:=qC .i64) (by kernel_rfl) (by decide) (AP kV) _ _ h3
 obtain ⟨l4,⟨a4,n4,c4,e4,hls4⟩,g4,g4',g4s⟩:=X6 meas measS (e:=69) (by kernel_rfl) (T:=tL) (by kernel_rfl) (by decide) XI _ _ h4
 have b1:Rows.uptoBulk y1.1≤Rows.uptoBulk y.1:=by rw [hparts]; exact meas.part _ _ m1
 have b2:Rows.uptoBulk y2.1≤Rows.uptoBulk y.1:=by rw [hparts]; exact meas.part _ _ m2
 have b3:Rows.uptoBulk y3.1≤Rows.uptoBulk y.1:=by rw [hparts]; exact meas.part _ _ m3
 have b4:Rows.uptoBulk y4.1≤Rows.uptoBulk y.1:=by rw [hparts]; exact meas.part _ _ m4
 have up:∀ {l:List dU} {b b':Nat},GC l b→b≤b'→GC l b':=fun h hb=>⟨Nat.le_trans h.1 hb,fun x hx=>Nat.le_trans (h.2 x hx) hb⟩
 refine ⟨⟨n0,l1,l2,l3,l4⟩,⟨⟨a1,n1,c1⟩,⟨a2,n2,c2⟩,⟨a3,n3,c3⟩,⟨a4,n4,c4⟩,?_,hls1,hls2,hls3,hls4⟩,⟨Nat.le_trans g1 b1,Nat.le_trans g2 b2,fun v hv=>?_,Nat.le_trans g3 b3,Nat.le_trans g4 b4,fun l hl'=>?_,?_,?_⟩⟩
 ·rcases cs with _ | ⟨q0,_ | ⟨q1,_ | ⟨q2,_ | ⟨q3,_ | ⟨q4,_ | ⟨q5,r⟩⟩⟩⟩⟩⟩ <;> simp at hl
  simp at e0 e1 e2 e3 e4
  rw [e0,e1,e2,e3,e4]
 ·obtain ⟨b',k1,k2,_⟩:=g2' v hv
  omega
 ·obtain ⟨b',k1,k2,k3,k4⟩:=g4' l hl'
  exact ⟨up k2 (by omega),up k3 (by omega),up k4 (by omega)⟩
 ·exact Nat.le_trans (g4s (fun l=>l.numbers.length) fun x b h=>h.1.1) b4
 ·exact Nat.le_trans (g4s (fun l=>l.aI.length) fun x b h=>h.2.1.1) b4
theorem XH {α:Type} (f g:α→Nat) (l:List α):(l.map fun x=>f x+g x).sum=(l.map f).sum+(l.map g).sum:=by
 induction l with
 | nil=>rfl
 | cons x l ih=>simp only [List.map_cons,List.sum_cons]; omega
theorem XD {v:Value} {d:DataW H} {ps:List MemPlace} (h:DataW.Trod enc Go.Proofs.Try.prog w 0 (fun _=>true) true 37 v d ps) (hN:Rows.uptoBulk d≤1048576) :
  ∃ f s t,v=mg f.features f.outputs s.a s.n s.c t.a t.n t.c∧mf (fun b=>b<w.heap.size) w f s t∧SmF f:=by
 obtain ⟨cs,hcs⟩:∃ cs,v.cells.toList=cs:=⟨_,rfl⟩
 have hy0:∃ y:DataW H×List MemPlace,TR enc Go.Proofs.Try.prog w 37 cs y∧y.1=d:=by
  subst hcs
  exact ⟨(d,ps),h,rfl⟩
 obtain ⟨y,hy,rfl⟩:=hy0
 obtain ⟨fs,hS,hfs⟩:∃ fs,Go.Proofs.Try.prog.underlying 37=some (.struct fs)∧fs=((Go.Proofs.Try.prog).fieldsOf 37):=⟨_,by kernel_rfl,rfl⟩
 obtain ⟨hl,parts,hparts,hp⟩:=qp hS hy
 rw [show (Go.Proofs.Try.prog).cellsOf 37=4 from by kernel_rfl] at hl
 have g:∀ (i e off:Nat),(fs[i]?).map (fun f:Field=>(f.type,f.offset))=some (e,off)→(Go.Proofs.Try.prog).cellsOf e=1→∃ y',TR enc Go.Proofs.Try.prog w e ((cs.drop off).take 1) y'∧y'.1∈parts:=fun i e off h hc=>by
  obtain ⟨f,h1,h2,h3⟩:=fld h
  obtain ⟨y',hy',hm,_⟩:=hp i f h1
  rw [h2,h3,hc] at hy'
  exact ⟨y',hy',hm⟩
 have ft:∀ i:Nat,(fs[i]?).map (fun f:Field=>(f.type,f.offset))=(((Go.Proofs.Try.prog).fieldsOf 37)[i]?).map (fun f:Field=>(f.type,f.offset)):=fun i=>by rw [hfs]
 obtain ⟨y0,h0,_⟩:=g 0 3 0 (by rw [ft]; kernel_rfl) (by kernel_rfl)
 obtain ⟨y1,h1,_⟩:=g 1 3 1 (by rw [ft]; kernel_rfl) (by kernel_rfl)
 obtain ⟨y2,h2,m2⟩:=g 2 23 2 (by rw [ft]; kernel_rfl) (by kernel_rfl)
 obtain ⟨y3,h3,m3⟩:=g 3 35 3 (by rw [ft]; kernel_rfl) (by kernel_rfl)
 obtain ⟨n0,e0,_⟩:=mX kV h0
 obtain ⟨n1,e1,_⟩:=mX kV h1
 obtain ⟨l2,⟨a2,k2,c2,e2,hls2⟩,g2,_⟩:=nK meas (e:=2) (by kernel_rfl) (T:=qC .i64) (by kernel_rfl) (by decide) (AP (by kernel_rfl)) _ _ h2
 obtain ⟨l3,⟨a3,k3,c3,e3,hls3⟩,g3,g3',g3s⟩:=X6 meas measS (e:=66) (by kernel_rfl) (T:=tB) (by kernel_rfl) (by decide) XF _ _ h3
 have b2:Rows.uptoBulk y2.1≤Rows.uptoBulk y.1:=by rw [hparts]; exact meas.part _ _ m2
 have b3:Rows.uptoBulk y3.1≤Rows.uptoBulk y.1:=by rw [hparts]; exact meas.part _ _ m3
 have gl2:l2.length≤Rows.uptoBulk y2.1:=g2
 have gc:∀ {l:List dU} {b:Nat},GC l b→b≤1048576→BF l:=fun h hb=>⟨by have:=h.1; omega,fun x hx=>by have:=h.2 x hx; show _≤_; omega⟩
 have hsm:fZ.sm ⟨n0,n1,l2,l3⟩:=by
  refine ⟨by show l2.length≤_; omega,by show l3.length≤_; omega,fun b hb=>?_⟩
  obtain ⟨b',k1,q1,q2,q3,q4,q5,q6,q7,q8⟩:=g3' b hb
  exact ⟨by omega,by omega,fun v hv=>by have:=q3 v hv; omega,by omega,by omega,fun l hl'=>⟨gc (q6 l hl').1 (by omega),gc (q6 l hl').2.1 (by omega),gc (q6 l hl').2.2 (by omega)⟩⟩
 refine ⟨⟨n0,n1,l2,l3⟩,⟨a2,k2,c2⟩,⟨a3,k3,c3⟩,?_,⟨hls2,hls3,hsm⟩,hsm,fun b hb=>?_,?_⟩
 ·rcases cs with _ | ⟨q0,_ | ⟨q1,_ | ⟨q2,_ | ⟨q3,_ | ⟨q4,r⟩⟩⟩⟩⟩ <;> simp at hl
  simp at e0 e1 e2 e3
  have:=RJ hcs (by simp)
  rw [this,e0,e1,e2,e3]
 ·obtain ⟨b',k1,q1,q2,q3,q4,q5,q6,q7,q8⟩:=g3' b hb
  unfold Ce
  rw [XH]
  omega
 ·have:=g3s (fun b=>b.leaves.length) fun x b h=>h.leaves
  unfold trT
  show (l3.map _).sum≤_
  omega
end
end Go.Mir
