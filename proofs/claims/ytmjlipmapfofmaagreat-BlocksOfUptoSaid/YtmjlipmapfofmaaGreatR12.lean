/- Part of a proof of laws of the seat YtmjlipmapfofmaaGreat: functions' weakest preconditions, each checked by the kernel, contracts out of them, plain lemmas; no conditions. -/
import Derived.ChangeShapes
import Derived.Laws.Cover2
import Derived.OpenShut
import Derived.ProofKit
import Derived.Test.YtmjlipmapfofmaaGreatEB
import Derived.Test.YtmjlipmapfofmaaGreatRows
set_option linter.unusedVariables false
set_option linter.unusedSimpArgs false
set_option linter.unusedSectionVars false
set_option maxRecDepth 100000
namespace Go.Mir
open Go Go.E Go.RowKit Go.ChangeShapes Go.WideShapes Go.ChangeAt
open Go.Proofs.YtmjlipmapfofmaaGreat (Rows.uptoBulk Rows.uptoBulkAll Rows.uptoSmall)
section
variable {H:Type} {enc:TypeId×Value→H} {w:World}
theorem O7 (d:DataW H):1≤Rows.uptoBulk d:=by
 cases d with
 | lit l=>cases l <;> simp [Rows.uptoBulk]
 | nil=>simp [Rows.uptoBulk]
 | ptr d=>simp [Rows.uptoBulk]
 | slice elems spare=>simp [Rows.uptoBulk]
 | agg parts=>simp [Rows.uptoBulk]
 | iface t d=>simp [Rows.uptoBulk]
 | map entries=>simp [Rows.uptoBulk]
 | held h=>simp [Rows.uptoBulk]
theorem vJ {d:DataW H} {l:List (DataW H)} (h:d∈l):Rows.uptoBulk d≤Rows.uptoBulkAll l:=by
 induction l with
 | nil=>cases h
 | cons x r ih =>
  simp only [Rows.uptoBulkAll]
  cases List.mem_cons.1 h with
  | inl e=>subst e; omega
  | inr e=>have:=ih e; omega
theorem Mc (l:List (DataW H)):l.length≤Rows.uptoBulkAll l:=by
 induction l with
 | nil=>simp [Rows.uptoBulkAll]
 | cons x r ih=>have:=O7 x; simp only [Rows.uptoBulkAll,List.length_cons]; omega
theorem meas:VJ (H:=H) Rows.uptoBulk where
 len es sp:=by have:=Mc es; simp only [Rows.uptoBulk]; omega
 elem es sp d h:=by have:=vJ h; simp only [Rows.uptoBulk]; omega
 part ps d h:=by have:=vJ h; simp only [Rows.uptoBulk]; omega
theorem yL {d:DataW H} {l:List (DataW H)} (hk:Rows.uptoSmall H l=true) (h:d∈l):Rows.uptoBulk d≤1048576:=by
 have h1:Rows.uptoBulkAll l≤1048576:=of_decide_eq_true hk
 have:=vJ h
 omega
theorem tX {n:Int} (h:(Lit.int .i64 n).wf=true) : -9223372036854775808≤n∧n≤9223372036854775807:=by
 simpa [Lit.wf,IntKind.min,IntKind.max,IntKind.signed,IntKind.bits] using h
theorem QP {α:Type} {T:Ty α} {t e:TypeId} {G:α→Nat→Prop} {r:Reach} {b0:Nat} {v:Value} {d:DataW H} {ps:List MemPlace} (ht:Go.Proofs.Tryz.prog.underlying t=some (.slice e)) (hc:Go.Proofs.Tryz.prog.cellsOf e=T.k) (hk0:T.k≠0) (ho:AL enc Go.Proofs.Tryz.prog w Rows.uptoBulk T e G)
  (hv:Value.okWide Go.Proofs.Tryz.prog w r b0 t v) (h:DataW.Trod enc Go.Proofs.Tryz.prog w 0 (fun _=>true) true t v d ps) :
  ∃ a n c xs,v = .slice a n c∧Ls T (fun b=>b<w.heap.size) w a n c xs∧n≤Rows.uptoBulk d∧∀ x∈xs,∃ b',b'≤Rows.uptoBulk d∧G x b':=by
 obtain ⟨a,n,c,rfl⟩:=okWide_slice ht hv
 obtain ⟨xs,⟨a',n',c',hcs,hl⟩,h1,h2⟩:=oU meas ht hc hk0 ho _ _ h
 simp only [Value.cells,List.cons.injEq,Value.slice.injEq] at hcs
 obtain ⟨⟨rfl,rfl,rfl⟩,_⟩:=hcs
 have h1':xs.length≤Rows.uptoBulk d:=h1
 exact ⟨_,_,_,xs,rfl,hl,by have:=hl.len; omega,h2⟩
end
end Go.Mir
set_option maxRecDepth 100000
namespace Go.Mir
open Go Go.E Go.RowKit Go.ChangeShapes Go.WideShapes Go.ChangeAt
open Go.Proofs.YtmjlipmapfofmaaGreat (Rows.uptoBulk Rows.uptoBulkAll Rows.uptoSmall)
section
variable {H:Type} {enc:TypeId×Value→H} {w:World}
theorem Qk:AL enc Go.Proofs.Tryz.prog w Rows.uptoBulk tR 61 (fun _ _=>True):=fun cs y hy=>by
 have hS:∃ fs,Go.Proofs.Tryz.prog.underlying 61=some (.struct fs)∧fs=((Go.Proofs.Tryz.prog).fieldsOf 61):=⟨_,by kernel_rfl,rfl⟩
 obtain ⟨fs,hS,hfs⟩:=hS
 have hf0:(fs[0]?).map (fun f=>(f.type,f.offset))=some (3,0):=by rw [hfs]; kernel_rfl
 have hf1:(fs[1]?).map (fun f=>(f.type,f.offset))=some (3,1):=by rw [hfs]; kernel_rfl
 obtain ⟨f0,h0,e0⟩:=Option.map_eq_some_iff.1 hf0
 obtain ⟨f1,h1,e1⟩:=Option.map_eq_some_iff.1 hf1
 obtain ⟨hl,parts,_,hp⟩:=qW hS hy
 rw [show (Go.Proofs.Tryz.prog).cellsOf 61=2 from by kernel_rfl] at hl
 have c1:(Go.Proofs.Tryz.prog).cellsOf 3=1:=by kernel_rfl
 obtain ⟨y0,hy0,_,_⟩:=hp 0 f0 h0
 obtain ⟨y1,hy1,_,_⟩:=hp 1 f1 h1
 simp only [Prod.mk.injEq] at e0 e1
 rw [e0.1,e0.2,c1] at hy0
 rw [e1.1,e1.2,c1] at hy1
 have u:Go.Proofs.Tryz.prog.underlying 3=some (.int .i64):=by kernel_rfl
 obtain ⟨n0,hn0,_⟩:=nS u hy0
 obtain ⟨n1,hn1,_⟩:=nS u hy1
 refine ⟨(n0,n1),?_,trivial⟩
 show cs=[_,_]
 match cs,hl with
 | [p,q],_ =>
  simp at hn0 hn1
  rw [hn0,hn1]
end
end Go.Mir
