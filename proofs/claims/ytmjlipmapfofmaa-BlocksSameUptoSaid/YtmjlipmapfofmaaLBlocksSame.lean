/- Part of a proof of laws of the seat Ytmjlipmapfofmaa: functions' weakest preconditions, each checked by the kernel, contracts out of them, plain lemmas; no conditions. -/
import Derived.Test.YtmjlipmapfofmaaFE
import Derived.Test.YtmjlipmapfofmaaFF
import Derived.Test.YtmjlipmapfofmaaF62
import Derived.Test.YtmjlipmapfofmaaR6
import Derived.Test.YtmjlipmapfofmaaXLSame
set_option linter.unusedVariables false
set_option linter.unusedSimpArgs false
set_option linter.unusedSectionVars false
set_option maxRecDepth 100000
namespace Go.Mir
open Go Go.E Go.RowKit Go.Tr Go.Ss Go.ChangeShapes
section
variable {w u wB:World} {F F':Nat→Prop} {x y:fZ} {s t s' t':SH}
def FSm (x y:fZ):Nat→Value→World→Prop:=fun i v u=>match i with
 | 4=>v = .bool (kH (x=y))
 | 7=>v = .bool (kH (x=y))
 | 13=>∃ (F:Nat→Prop) (s k:SH),v=vF x s k∧mf F u x s k
 | 18=>∃ (F:Nat→Prop) (s k:SH),v=vF x s k∧mf F u x s k
 | _=>v = .bool true
theorem FSm.keep {x y:fZ} (i:Nat) (v:Value) (u u':World) (h:FSm x y i v u) (hk:Below u.heap.size u u'):FSm x y i v u':=by
 unfold FSm at h ⊢
 split at h
 ·exact h
 ·exact h
 ·obtain ⟨F,s,k,h1,h2⟩:=h
  exact ⟨F,s,k,h1,h2.kept hk⟩
 ·obtain ⟨F,s,k,h1,h2⟩:=h
  exact ⟨F,s,k,h1,h2.kept hk⟩
 ·exact h
theorem XA {f o f' o':Int} {a1 a2 a1' a2':OA} {n1 c1 n2 c2 n1' c1' n2' c2':Nat} (h:mg f o a1 n1 c1 a2 n2 c2=mg f' o' a1' n1' c1' a2' n2' c2') :
  f=f'∧o=o'∧a1=a1'∧n1=n1'∧c1=c1'∧a2=a2'∧n2=n2'∧c2=c2':=by
 simp at h
 obtain ⟨h1,h2,⟨h3,h4,h5⟩,h6,h7,h8⟩:=h
 exact ⟨h1,h2,h3,h4,h5,h6,h7,h8⟩
set_option maxHeartbeats 2000000 in
theorem WW (hx:mf F w x s t) (hy:mf F' w y s' t') (hF:∀ b,F b→b<w.heap.size):Pure Go.Proofs.Try.prog 5 #[vF x s t,vF y s' t'] w (.bool true):=by
 refine WH.calls (R:=fun v u=>v = .bool true∧Below w.heap.size w u) ?_
 unfold WH WH.g0
 refine xm (cs:=(o7 x s t).toArray) fun w1 hA1 hk1=>xm (cs:=(o7 y s' t').toArray) fun w2 hA2 hk2=>?_
 have hA1:=hA1.kept hk2
 have k2:=Kept.trans hk1 hk2
 have hx2:=hx.kept k2
 have hy2:=hy.kept k2
 have ok:∀ u,Below w2.heap.size w2 u→(Value.bool true = .bool true∧Below w.heap.size w u):=fun u hu=>⟨rfl,Kept.trans k2 hu⟩
 have hF2:∀ {o:World},Below w2.heap.size w2 o→∀ b,F b→b<o.heap.size:=fun ho b hb=>by have:=hF b hb; have:=ho.size; have:=k2.size; omega
 refine ⟨FSm x y,FSm.keep,fun d hd=>E.CallsD.mono OU fun v u ⟨hv,hk⟩=>⟨_,hv,rfl,hk⟩,fun d hd=>?_⟩
 obtain ⟨_,_,hd'⟩:=hd
 obtain rfl:d=true:=Value.bool.inj hd'
 refine KN ?_
 refine ⟨_,hA1 0 _ rfl,_,hA1 1 _ rfl,s.a,s.n,s.c,hA1 2 _ rfl,t.a,t.n,t.c,hA1 3 _ rfl,_,hA2 0 _ rfl,_,hA2 1 _ rfl,s'.a,s'.n,s'.c,hA2 2 _ rfl,t'.a,t'.n,t'.c,hA2 3 _ rfl,?_⟩
 refine ⟨fun o ho _=>E.CallsD.mono (Qn (hx2.kept ho) (hy2.kept ho)) fun v u ⟨hv,hk⟩=>⟨_,hv,rfl,hk⟩,fun e he=>?_⟩
 obtain ⟨_,_,he'⟩:=he
 obtain rfl:e=kH (x=y):=Value.bool.inj he'
 refine ⟨_,hA1 0 _ rfl,_,hA1 1 _ rfl,s.a,s.n,s.c,hA1 2 _ rfl,t.a,t.n,t.c,hA1 3 _ rfl,_,hA2 0 _ rfl,_,hA2 1 _ rfl,s'.a,s'.n,s'.c,hA2 2 _ rfl,t'.a,t'.n,t'.c,hA2 3 _ rfl,?_⟩
 refine ⟨fun o ho _ _=>E.CallsD.mono (WY (hx2.kept ho) (hy2.kept ho)) fun v u ⟨hv,hk⟩=>⟨_,hv,rfl,hk⟩,fun a ha=>?_⟩
 obtain ⟨_,_,ha'⟩:=ha
 obtain rfl:a=kH (x=y):=Value.bool.inj ha'
 refine (aH _ _ _).2 ⟨fun _=>?_,fun h=>by simp at h⟩
 refine ⟨_,hA1 0 _ rfl,_,hA1 1 _ rfl,s.a,s.n,s.c,hA1 2 _ rfl,t.a,t.n,t.c,hA1 3 _ rfl,_,hA1 0 _ rfl,_,hA1 1 _ rfl,s.a,s.n,s.c,hA1 2 _ rfl,t.a,t.n,t.c,hA1 3 _ rfl,?_⟩
 refine ⟨fun o ho _ _ _=>E.CallsD.mono (Xo (hx2.kept ho) (hF2 ho)) fun v u ⟨s1,k1,hv,hin,hk⟩=>⟨_,_,_,_,_,_,_,_,hv,⟨_,s1,k1,rfl,hin.b,hin.k,hx.sm⟩,hk⟩,fun z1 z2 z3 z4 z5 z6 z7 z8 hz=>?_⟩
 obtain ⟨u0,_,Fz,sz,kz,hvz,hGz⟩:=hz
 obtain ⟨rfl,rfl,rfl,rfl,rfl,rfl,rfl,rfl⟩:=XA hvz
 refine ⟨fun o ho _ _ _ h13=>?_,fun f hf=>?_⟩
 ·obtain ⟨Fo,so,ko,hvo,hGo⟩:=h13
  rw [hvo]
  refine E.CallsD.mono (Qn (hx2.kept ho) hGo) fun v u ⟨hv,hk⟩=>⟨_,hv,?_,hk⟩
  show Value.bool _ = .bool true
  rw [gY rfl]
 obtain ⟨_,_,hf'⟩:=hf
 obtain rfl:f=true:=Value.bool.inj hf'
 refine KN ?_
 refine ⟨_,hA1 0 _ rfl,_,hA1 1 _ rfl,s.a,s.n,s.c,hA1 2 _ rfl,t.a,t.n,t.c,hA1 3 _ rfl,?_⟩
 refine ⟨fun o ho _ _ _ _ _=>E.CallsD.mono (XG (hx2.kept ho) (hF2 ho)) fun v u ⟨s1,k1,hv,hin,hk⟩=>⟨_,_,_,_,_,_,_,_,hv,⟨_,s1,k1,rfl,hin.b,hin.k,hx.sm⟩,hk⟩,fun y1 y2 y3 y4 y5 y6 y7 y8 hz=>?_⟩
 obtain ⟨u1,_,Fy,sy,ky,hvy,hGy⟩:=hz
 obtain ⟨rfl,rfl,rfl,rfl,rfl,rfl,rfl,rfl⟩:=XA hvy
 refine ⟨_,hA1 0 _ rfl,_,hA1 1 _ rfl,s.a,s.n,s.c,hA1 2 _ rfl,t.a,t.n,t.c,hA1 3 _ rfl,?_⟩
 refine ⟨fun o ho _ _ _ _ _ h18=>?_,fun q hq o ho _ _ _ _ _ _ _=>?_⟩
 ·obtain ⟨Fo,so,ko,hvo,hGo⟩:=h18
  rw [hvo]
  refine E.CallsD.mono (WY hGo (hx2.kept ho)) fun v u ⟨hv,hk⟩=>⟨_,hv,?_,hk⟩
  show Value.bool _ = .bool true
  rw [gY rfl]
 ·obtain ⟨_,_,hq'⟩:=hq
  obtain rfl:q=true:=Value.bool.inj hq'
  exact ok o ho
end
end Go.Mir
