/- Part of a proof of laws of the seat YtmjlipmapfofmaaGreat: functions' weakest preconditions, each checked by the kernel, contracts out of them, plain lemmas; no conditions. -/
import Derived.Test.YtmjlipmapfofmaaGreatFE
set_option linter.unusedVariables false
set_option linter.unusedSimpArgs false
set_option linter.unusedSectionVars false
set_option maxRecDepth 100000
namespace Go.Mir
open Go Go.E Go.RowKit Go.Tr Go.Ss Go.ChangeShapes
section
variable {w w0 u w1 wB x:World} {a a0 a1 a4:OA} {n c n0 c0 n1 c1 n4 c4 g:Nat} {F F' S:Nat→Prop} {p q:Addr} {B mb:Nat} {R:VP} {e:ED} {f b t:SH}
theorem pI.nil (h:Kept w u):pI w u none 0 0 []:=⟨0,aO.nil _ _ _ _,.inl rfl,h⟩
theorem Gw {g1:Nat} (h:Kept w u) (hg:g=0∨w.heap.size<g) (ho:Only g u x):Kept w x :=
 ((Kept.mod (S:=fun k=>w.heap.size≤k) h).trans ho (U:=fun k=>w.heap.size≤k) (fun _ _ h=>h) (fun k _ h=>by have h':k+1=g:=h; show w.heap.size≤k; omega)).kept fun k h1 h2=>by have h2':w.heap.size≤k:=h2; omega
end
end Go.Mir
set_option maxRecDepth 100000
namespace Go.Mir
open Go Go.E Go.RowKit Go.Tr Go.Ss Go.ChangeShapes
section
variable {w w0 u w1 wB x:World} {a a0 a1 a4:OA} {n c n0 c0 n1 c1 n4 c4 g:Nat} {F F' S:Nat→Prop} {p q:Addr} {B mb:Nat} {R:VP} {e:ED} {f b t:SH}
end
end Go.Mir
set_option maxRecDepth 100000
namespace Go.Mir
open Go Go.E Go.RowKit Go.Tr Go.Ss Go.ChangeShapes
end Go.Mir
set_option maxRecDepth 100000
namespace Go.Mir
open Go Go.E Go.RowKit Go.Tr Go.Ss Go.ChangeShapes
section
variable {w w0 u w1 wB x:World} {a a0 a1 a4:OA} {n c n0 c0 n1 c1 n4 c4 g m:Nat} {F F' S:Nat→Prop} {p q:Addr} {B:Nat} {R:VP} {f:fV} {s t:SH}
theorem atF {α:Type} {k e:Nat} {en:α→List Value} {xs:List α} (hl:∀ x,(en x).length=k) (hk0:0<k) (h:aO k en e w a n c xs g) {i:Int} {x:α} {K:Addr→Prop} (h0:0≤i) (hi:i<n) (hx:xs[i.toNat]?=some x)
  (hk:∀ p,a=some p→AtL w (p.add (i.toNat*k)) (en x)→K p):ix a n i K:=by
 obtain ⟨p,hp,hc⟩:=(h.slk hl hk0).get i.toNat x hx
 rw [hp]
 exact dJ ⟨h0,hi⟩ (hk p hp fun j v hj=>by rw [add_add]; exact hc j v hj)
theorem Ez {α:Type} {l:List α} {i:Nat} {x:α} (h:l[i]?=some x):l.set i x=l:=by
 obtain ⟨hlt,rfl⟩:=List.getElem?_eq_some_iff.1 h
 exact List.set_getElem_self hlt
theorem S53:fE Go.Proofs.Tryz.prog 72 tC' 5 56:=sliceT (by kernel_rfl)
theorem lsC {l:List CD} (h:aO 5 lX tC' w a n c l g) (hF:∀ b,b+1=g→F b) (hc:∀ x∈l,LsI F w x.2.a x.2.n x.2.c x.1.bH):Ls tC F w a n c (l.map (·.1)) :=
 aO.lsK (T:=tC) (k:=5) (en:=lX) (f:=fun x=>x.1) (fun _=>rfl) (by omega) rfl h hF fun x hx=>⟨_,rfl,hc x hx⟩
end
end Go.Mir
set_option maxRecDepth 100000
namespace Go.Mir
open Go Go.E Go.RowKit Go.Tr Go.Ss Go.ChangeShapes
section
variable {w w0 u w1 wB x:World} {a a0 a1 a4:OA} {n c n0 c0 n1 c1 n4 c4 g m:Nat} {F F' S:Nat→Prop} {p q:Addr} {B:Nat} {R:VP} {f:fV} {s t:SH}
abbrev LD:=ed×(SH×SH×SH)
abbrev Rl (x:LD):List Value:=enL x.1 x.2.1 x.2.2.1 x.2.2.2
theorem Nv (x:LD):∀ v∈Rl x,v.oneCell'=true:=by
 intro v hv
 simp only [Rl,enL,List.mem_cons,List.not_mem_nil,or_false] at hv
 rcases hv with h | h | h | h <;> subst h <;> rfl
theorem S54:fE Go.Proofs.Tryz.prog 64 tL' 4 80:=sliceT (by kernel_rfl)
structure uC (F:Nat→Prop) (w:World) (x:LD):Prop where
 a:Ls tC F w x.2.1.a x.2.1.n x.2.1.c x.1.numbers
 b:Ls tC F w x.2.2.1.a x.2.2.1.n x.2.2.1.c x.1.bH
 c:Ls tC F w x.2.2.2.a x.2.2.2.n x.2.2.2.c x.1.lost
theorem uC.mod {x:LD} (h:uC F w x) (hm:Mod S w u) (hn:∀ b,F b→¬ S b):uC F u x:=⟨h.a.mod hm hn,h.b.mod hm hn,h.c.mod hm hn⟩
theorem uC.kept {x:LD} (h:uC F w x) (hk:Kept w u):uC F u x:=⟨h.a.kept hk,h.b.kept hk,h.c.kept hk⟩
theorem uC.mono {x:LD} (h:uC F w x) (hF:∀ b,F b→F' b):uC F' w x:=⟨h.a.mono hF,h.b.mono hF,h.c.mono hF⟩
theorem lsL {l:List LD} (h:aO 4 Rl tL' w a n c l g) (hF:∀ b,b+1=g→F b) (hc:∀ x∈l,uC F w x):Ls tL F w a n c (l.map (·.1)) :=
 aO.lsK (T:=tL) (k:=4) (en:=Rl) (f:=fun x=>x.1) (fun _=>rfl) (by omega) rfl h hF fun x hx=>⟨_,_,_,rfl,(hc x hx).a,(hc x hx).b,(hc x hx).c⟩
end
end Go.Mir
set_option maxRecDepth 100000
namespace Go.Mir
open Go Go.E Go.RowKit Go.Tr Go.Ss Go.ChangeShapes
section
variable {w w0 u w1 wB x:World} {a a0 a1 a4:OA} {n c n0 c0 n1 c1 n4 c4 g m:Nat} {F F' S:Nat→Prop} {p q:Addr} {B:Nat} {R:VP} {f:fV} {s t:SH}
end
end Go.Mir
set_option maxRecDepth 100000
namespace Go.Mir
open Go Go.E Go.RowKit Go.Tr Go.Ss Go.ChangeShapes
section
variable {w w0 u w1 wB x:World} {a a0 a1 a4:OA} {n c n0 c0 n1 c1 n4 c4 g m:Nat} {F F' S:Nat→Prop} {p q:Addr} {B:Nat} {R:VP} {f:fV} {s t:SH}
end
end Go.Mir
set_option maxRecDepth 100000
namespace Go.Mir
open Go Go.E Go.RowKit Go.Tr Go.Ss Go.ChangeShapes
section
variable {w w0 u w1 wB x:World} {a a0 a1 a4:OA} {n c n0 c0 n1 c1 n4 c4 g m:Nat} {F F' S:Nat→Prop} {p q:Addr} {B:Nat} {R:VP} {f:fV} {s t:SH}
end
end Go.Mir
set_option maxRecDepth 100000
namespace Go.Mir
open Go Go.E Go.RowKit Go.Tr Go.Ss Go.ChangeShapes
section
variable {w w0 u w1 wB x:World} {a a0 a1 a4:OA} {n c n0 c0 n1 c1 n4 c4 g m:Nat} {F F' S:Nat→Prop} {p q:Addr} {B:Nat} {R:VP} {f:fV} {s t:SH}
end
end Go.Mir
set_option maxRecDepth 100000
namespace Go.Mir
open Go Go.E Go.RowKit Go.Tr Go.Ss Go.ChangeShapes
section
variable {w w0 u w1 wB x:World} {a a0 a1 a4:OA} {n c n0 c0 n1 c1 n4 c4 g m:Nat} {F F' S:Nat→Prop} {p q:Addr} {B:Nat} {R:VP} {f:fV} {s t:SH}
theorem S59:fE Go.Proofs.Tryz.prog 53 tI' 1 8:=sliceT (by kernel_rfl)
end
end Go.Mir
