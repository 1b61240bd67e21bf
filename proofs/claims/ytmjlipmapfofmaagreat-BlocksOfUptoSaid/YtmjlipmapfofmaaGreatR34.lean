/- Part of a proof of laws of the seat YtmjlipmapfofmaaGreat: functions' weakest preconditions, each checked by the kernel, contracts out of them, plain lemmas; no conditions. -/
import Derived.Test.YtmjlipmapfofmaaGreatR12
import Derived.Test.YtmjlipmapfofmaaGreatEC
import Derived.Test.YtmjlipmapfofmaaGreatTA
import Derived.Test.YtmjlipmapfofmaaGreatTC
set_option linter.unusedVariables false
set_option linter.unusedSimpArgs false
set_option linter.unusedSectionVars false
set_option maxRecDepth 100000
namespace Go.Mir
open Go Go.E Go.RowKit Go.ChangeShapes Go.WideShapes Go.ChangeAt Go.Tr
open Go.Proofs.YtmjlipmapfofmaaGreat (Rows.uptoBulk Rows.uptoBulkAll Rows.uptoSmall)
section
variable {H:Type} {enc:TypeId×Value→H} {w:World}
theorem fld {fs:Array Field} {e:TypeId} {off i:Nat} (h:(fs[i]?).map (fun f:Field=>(f.type,f.offset))=some (e,off)):∃ f,fs[i]?=some f∧f.type=e∧f.offset=off:=by
 obtain ⟨f,h1,h2⟩:=Option.map_eq_some_iff.1 h
 simp only [Prod.mk.injEq] at h2
 exact ⟨f,h1,h2.1,h2.2⟩
theorem lF:Go.Proofs.Tryz.prog.underlying 3=some (.int .i64):=by kernel_rfl
theorem GY:Go.Proofs.Tryz.prog.underlying 53=some (.slice 3):=by kernel_rfl
def wfI (x:Int):Prop := -9223372036854775808≤x∧x≤9223372036854775807
def UO (x:Int):Prop:=0≤x∧x≤255
structure WfN (x:ND):Prop where
 kind:UO x.kind
 value:wfI x.value
 feature:wfI x.feature
 thr:x.thr<18446744073709551616
 bH:∀ c∈x.bH,wfI c
 missing:UO x.missing
 left:wfI x.left
 right:wfI x.right
theorem SS {n:Int} (h:(Lit.int .u8 n).wf=true):UO n:=by
 unfold UO
 simpa [Lit.wf,IntKind.min,IntKind.max,IntKind.signed,IntKind.bits] using h
theorem TA {n:Nat} (h:(Lit.float .f64 n).wf=true):n<18446744073709551616:=by
 simpa [Lit.wf] using h
theorem Jv {e:TypeId} (ht:Go.Proofs.Tryz.prog.underlying e=some .string):AL enc Go.Proofs.Tryz.prog w Rows.uptoBulk SB e (fun x b=>x.size≤b):=fun cs y hy=>by
 obtain ⟨s,rfl,_,hy1⟩:=Bg ht hy
 refine ⟨s,rfl,?_⟩
 rw [hy1]
 have:s.size=s.data.toList.length:=by rw [Array.length_toList]; rfl
 rw [Rows.uptoBulk]
 omega
theorem Q9:AL enc Go.Proofs.Tryz.prog w Rows.uptoBulk tN 56 (fun x b=>x.bH.length≤b∧WfN x):=fun cs y hy=>by
 obtain ⟨fs,hS,hfs⟩:∃ fs,Go.Proofs.Tryz.prog.underlying 56=some (.struct fs)∧fs=((Go.Proofs.Tryz.prog).fieldsOf 56):=⟨_,by kernel_rfl,rfl⟩
 obtain ⟨hl,parts,hparts,hp⟩:=qW hS hy
 rw [show (Go.Proofs.Tryz.prog).cellsOf 56=8 from by kernel_rfl] at hl
 have g:∀ (i e off:Nat),(fs[i]?).map (fun f:Field=>(f.type,f.offset))=some (e,off)→(Go.Proofs.Tryz.prog).cellsOf e=1→∃ y',TR enc Go.Proofs.Tryz.prog w e ((cs.drop off).take 1) y'∧y'.1∈parts:=fun i e off h hc=>by
  obtain ⟨f,h1,h2,h3⟩:=fld h
  obtain ⟨y',hy',hm,_⟩:=hp i f h1
  rw [h2,h3,hc] at hy'
  exact ⟨y',hy',hm⟩
 have ft:∀ i:Nat,(fs[i]?).map (fun f:Field=>(f.type,f.offset))=(((Go.Proofs.Tryz.prog).fieldsOf 56)[i]?).map (fun f:Field=>(f.type,f.offset)):=fun i=>by rw [hfs]
 obtain ⟨y0,h0,_⟩:=g 0 51 0 (by rw [ft]; kernel_rfl) (by kernel_rfl)
 obtain ⟨y1,h1,_⟩:=g 1 2 1 (by rw [ft]; kernel_rfl) (by kernel_rfl)
 obtain ⟨y2,h2,_⟩:=g 2 3 2 (by rw [ft]; kernel_rfl) (by kernel_rfl)
 obtain ⟨y3,h3,_⟩:=g 3 52 3 (by rw [ft]; kernel_rfl) (by kernel_rfl)
 obtain ⟨y4,h4,m4⟩:=g 4 53 4 (by rw [ft]; kernel_rfl) (by kernel_rfl)
 obtain ⟨y5,h5,_⟩:=g 5 54 5 (by rw [ft]; kernel_rfl) (by kernel_rfl)
 obtain ⟨y6,h6,_⟩:=g 6 3 6 (by rw [ft]; kernel_rfl) (by kernel_rfl)
 obtain ⟨y7,h7,_⟩:=g 7 3 7 (by rw [ft]; kernel_rfl) (by kernel_rfl)
 obtain ⟨n0,e0,w0⟩:=nS (k := .u8) (by kernel_rfl) h0
 obtain ⟨n1,e1,w1⟩:=nS (k := .i64) (by kernel_rfl) h1
 obtain ⟨n2,e2,w2⟩:=nS lF h2
 obtain ⟨n3,e3,w3⟩:=LZ (k := .f64) (by kernel_rfl) h3
 obtain ⟨l,⟨a,n,c,e4,hls⟩,hl1,w4⟩:=oU meas GY (T:=vP .i64) (by kernel_rfl) (by decide) (AB lF) _ _ h4
 obtain ⟨n5,e5,w5⟩:=nS (k := .u8) (by kernel_rfl) h5
 obtain ⟨n6,e6,w6⟩:=nS lF h6
 obtain ⟨n7,e7,w7⟩:=nS lF h7
 refine ⟨⟨n0,n1,n2,n3,l,n5,n6,n7⟩,⟨a,n,c,?_,hls⟩,?_,SS w0,tX w1,tX w2,TA w3,fun c hc=>tX (w4 c hc).choose_spec.2,SS w5,tX w6,tX w7⟩
 ·rcases cs with _ | ⟨q0,_ | ⟨q1,_ | ⟨q2,_ | ⟨q3,_ | ⟨q4,_ | ⟨q5,_ | ⟨q6,_ | ⟨q7,_ | ⟨q8,r⟩⟩⟩⟩⟩⟩⟩⟩⟩ <;> simp at hl
  simp at e0 e1 e2 e3 e4 e5 e6 e7
  rw [e0,e1,e2,e3,e4,e5,e6,e7]
  rfl
 ·have hb:Rows.uptoBulk y4.1≤Rows.uptoBulk y.1:=by rw [hparts]; exact meas.part _ _ m4
  show l.length≤_
  omega
theorem Tc {v:Value} {l:List Value} (h:v.cells.toList=l) (hl:l.length≠1):v = .agg l.toArray:=by
 cases v with
 | agg cs=>subst h; simp [Value.cells]
 | _=>subst h; simp [Value.cells] at hl
theorem PE:AL enc Go.Proofs.Tryz.prog w Rows.uptoBulk tT 50 (fun x b=>wfI x.output∧x.nodes.length≤b∧∀ y∈x.nodes,y.bH.length≤b∧WfN y):=fun cs y hy=>by
 obtain ⟨fs,hS,hfs⟩:∃ fs,Go.Proofs.Tryz.prog.underlying 50=some (.struct fs)∧fs=((Go.Proofs.Tryz.prog).fieldsOf 50):=⟨_,by kernel_rfl,rfl⟩
 obtain ⟨hl,parts,hparts,hp⟩:=qW hS hy
 rw [show (Go.Proofs.Tryz.prog).cellsOf 50=2 from by kernel_rfl] at hl
 have g:∀ (i e off:Nat),(fs[i]?).map (fun f:Field=>(f.type,f.offset))=some (e,off)→(Go.Proofs.Tryz.prog).cellsOf e=1→∃ y',TR enc Go.Proofs.Tryz.prog w e ((cs.drop off).take 1) y'∧y'.1∈parts:=fun i e off h hc=>by
  obtain ⟨f,h1,h2,h3⟩:=fld h
  obtain ⟨y',hy',hm,_⟩:=hp i f h1
  rw [h2,h3,hc] at hy'
  exact ⟨y',hy',hm⟩
 have ft:∀ i:Nat,(fs[i]?).map (fun f:Field=>(f.type,f.offset))=(((Go.Proofs.Tryz.prog).fieldsOf 50)[i]?).map (fun f:Field=>(f.type,f.offset)):=fun i=>by rw [hfs]
 obtain ⟨y0,h0,_⟩:=g 0 3 0 (by rw [ft]; kernel_rfl) (by kernel_rfl)
 obtain ⟨y1,h1,m1⟩:=g 1 48 1 (by rw [ft]; kernel_rfl) (by kernel_rfl)
 obtain ⟨n0,e0,w0⟩:=nS lF h0
 obtain ⟨l,⟨a,n,c,e1,hls⟩,hl1,w1⟩:=oU meas (e:=56) (by kernel_rfl) (T:=tN) (by kernel_rfl) (by decide) Q9 _ _ h1
 have hb:Rows.uptoBulk y1.1≤Rows.uptoBulk y.1:=by rw [hparts]; exact meas.part _ _ m1
 refine ⟨⟨n0,l⟩,⟨a,n,c,?_,hls⟩,tX w0,?_,fun x hx=>?_⟩
 ·rcases cs with _ | ⟨q0,_ | ⟨q1,_ | ⟨q2,r⟩⟩⟩ <;> simp at hl
  simp at e0 e1
  rw [e0,e1]
 ·show l.length≤_
  omega
 ·obtain ⟨b',hb',hc',hw'⟩:=w1 x hx
  exact ⟨by omega,hw'⟩
end
end Go.Mir
set_option maxRecDepth 100000
namespace Go.Mir
open Go Go.E Go.RowKit Go.Tr
end Go.Mir
set_option maxRecDepth 100000
namespace Go.Mir
open Go Go.E Go.RowKit Go.ChangeShapes Go.WideShapes Go.ChangeAt Go.Tr
open Go.Proofs.YtmjlipmapfofmaaGreat (Rows.uptoBulk Rows.uptoBulkAll Rows.uptoSmall)
section
variable {H:Type} {enc:TypeId×Value→H} {w:World}
structure WfE (N:Nat) (e:ED):Prop where
 outputs:wfI e.outputs
 fl:e.features.length≤N
 bl:e.base.length≤N
 tl:e.trees.length≤N
 base:∀ x∈e.base,wfI x
 trees:∀ x∈e.trees,wfI x.output∧x.nodes.length≤N∧∀ y∈x.nodes,y.bH.length≤N∧WfN y
theorem U7 {v:Value} {d:DataW H} {ps:List MemPlace} (h:DataW.Trod enc Go.Proofs.Tryz.prog w 0 (fun _=>true) true 26 v d ps) :
  ∃ e f b t,v=vE e f b t∧Ls SB (fun b=>b<w.heap.size) w f.a f.n f.c e.features∧Ls (vP .i64) (fun b=>b<w.heap.size) w b.a b.n b.c e.base∧Ls tT (fun b=>b<w.heap.size) w t.a t.n t.c e.trees∧WfE (Rows.uptoBulk d) e:=by
 obtain ⟨cs,hcs⟩:∃ cs,v.cells.toList=cs:=⟨_,rfl⟩
 have hy0:∃ y:DataW H×List MemPlace,TR enc Go.Proofs.Tryz.prog w 26 cs y∧y.1=d:=by
  subst hcs
  exact ⟨(d,ps),h,rfl⟩
 obtain ⟨y,hy,rfl⟩:=hy0
 obtain ⟨fs,hS,hfs⟩:∃ fs,Go.Proofs.Tryz.prog.underlying 26=some (.struct fs)∧fs=((Go.Proofs.Tryz.prog).fieldsOf 26):=⟨_,by kernel_rfl,rfl⟩
 obtain ⟨hl,parts,hparts,hp⟩:=qW hS hy
 rw [show (Go.Proofs.Tryz.prog).cellsOf 26=5 from by kernel_rfl] at hl
 have g:∀ (i e off:Nat),(fs[i]?).map (fun f:Field=>(f.type,f.offset))=some (e,off)→(Go.Proofs.Tryz.prog).cellsOf e=1→∃ y',TR enc Go.Proofs.Tryz.prog w e ((cs.drop off).take 1) y'∧y'.1∈parts:=fun i e off h hc=>by
  obtain ⟨f,h1,h2,h3⟩:=fld h
  obtain ⟨y',hy',hm,_⟩:=hp i f h1
  rw [h2,h3,hc] at hy'
  exact ⟨y',hy',hm⟩
 have ft:∀ i:Nat,(fs[i]?).map (fun f:Field=>(f.type,f.offset))=(((Go.Proofs.Tryz.prog).fieldsOf 26)[i]?).map (fun f:Field=>(f.type,f.offset)):=fun i=>by rw [hfs]
 obtain ⟨y0,h0,_⟩:=g 0 9 0 (by rw [ft]; kernel_rfl) (by kernel_rfl)
 obtain ⟨y1,h1,m1⟩:=g 1 22 1 (by rw [ft]; kernel_rfl) (by kernel_rfl)
 obtain ⟨y2,h2,_⟩:=g 2 3 2 (by rw [ft]; kernel_rfl) (by kernel_rfl)
 obtain ⟨y3,h3,m3⟩:=g 3 23 3 (by rw [ft]; kernel_rfl) (by kernel_rfl)
 obtain ⟨y4,h4,m4⟩:=g 4 24 4 (by rw [ft]; kernel_rfl) (by kernel_rfl)
 obtain ⟨n0,e0,_⟩:=Bg (by kernel_rfl) h0
 obtain ⟨fl,⟨a1,n1,c1,e1,hls1⟩,hl1,_⟩:=oU meas (e:=9) (by kernel_rfl) (T:=SB) (by kernel_rfl) (by decide) (Jv (by kernel_rfl)) _ _ h1
 obtain ⟨n2,e2,w2⟩:=nS lF h2
 obtain ⟨bl,⟨a3,n3,c3,e3,hls3⟩,hl3,w3⟩:=oU meas (e:=2) (by kernel_rfl) (T:=vP .i64) (by kernel_rfl) (by decide) (AB (by kernel_rfl)) _ _ h3
 obtain ⟨tl,⟨a4,n4,c4,e4,hls4⟩,hl4,w4⟩:=oU meas (e:=50) (by kernel_rfl) (T:=tT) (by kernel_rfl) (by decide) PE _ _ h4
 have b1:Rows.uptoBulk y1.1≤Rows.uptoBulk y.1:=by rw [hparts]; exact meas.part _ _ m1
 have b3:Rows.uptoBulk y3.1≤Rows.uptoBulk y.1:=by rw [hparts]; exact meas.part _ _ m3
 have b4:Rows.uptoBulk y4.1≤Rows.uptoBulk y.1:=by rw [hparts]; exact meas.part _ _ m4
 refine ⟨⟨n0,fl,n2,bl,tl⟩,⟨a1,n1,c1⟩,⟨a3,n3,c3⟩,⟨a4,n4,c4⟩,?_,hls1,hls3,hls4,tX w2,?_,?_,?_,fun x hx=>tX (w3 x hx).choose_spec.2,fun x hx=>?_⟩
 ·rcases cs with _ | ⟨q0,_ | ⟨q1,_ | ⟨q2,_ | ⟨q3,_ | ⟨q4,_ | ⟨q5,r⟩⟩⟩⟩⟩⟩ <;> simp at hl
  simp at e0 e1 e2 e3 e4
  have:=Tc hcs (by simp)
  rw [this,e0,e1,e2,e3,e4]
 ·show fl.length≤_
  omega
 ·show bl.length≤_
  omega
 ·show tl.length≤_
  omega
 ·obtain ⟨b',hb',h5,h6,h7⟩:=w4 x hx
  exact ⟨h5,by omega,fun z hz=>⟨by have:=(h7 z hz).1; omega,(h7 z hz).2⟩⟩
end
end Go.Mir
namespace Go.Mir
open Go Go.E Go.RowKit Go.Tr
theorem Ou {w:World} {e:ED} {f b t:SH} {N:Nat} (hf:Ls SB (fun b=>b<w.heap.size) w f.a f.n f.c e.features) (hb:Ls (vP .i64) (fun b=>b<w.heap.size) w b.a b.n b.c e.base) (ht:Ls tT (fun b=>b<w.heap.size) w t.a t.n t.c e.trees) (hw:WfE N e) (hN:N≤1048576):iH (fun b=>b<w.heap.size) w e f b t :=
 ⟨hf,hb,ht,fun b h=>h,by have:=hf.len; have:=hw.fl; omega,by have:=hb.len; have:=hw.bl; omega,by have:=ht.len; have:=hw.tl; omega,fun x hx=>⟨by have:=(hw.trees x hx).2.1; omega,fun y hy=>by have:=((hw.trees x hx).2.2 y hy).1; omega⟩⟩
end Go.Mir
