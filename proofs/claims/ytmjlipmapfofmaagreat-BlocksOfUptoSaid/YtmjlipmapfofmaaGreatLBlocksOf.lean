/- Part of a proof of laws of the seat YtmjlipmapfofmaaGreat: functions' weakest preconditions, each checked by the kernel, contracts out of them, plain lemmas; no conditions. -/
import Derived.Test.YtmjlipmapfofmaaGreatF76
import Derived.Test.YtmjlipmapfofmaaGreatFE
import Derived.Test.YtmjlipmapfofmaaGreatXLOf
set_option linter.unusedVariables false
set_option linter.unusedSimpArgs false
set_option linter.unusedSectionVars false
set_option maxRecDepth 100000
namespace Go.Mir
open Go Go.E Go.RowKit Go.Tr Go.Ss Go.ChangeShapes
section
variable {w w0 u w1 wB x:World} {a a0 a1 a4:OA} {n c n0 c0 n1 c1 n4 c4 g:Nat} {F F' S:Nat→Prop} {p q:Addr} {R:VP} {e:ED} {f b t:SH} {rs:List (Int×Int)} {k:Int}
theorem QM (h:AtL w p (enE e f b t)) {K:ByteArray→OA→Nat→Nat→Int→OA→Nat→Nat→OA→Nat→Nat→Prop} (hk:K e.name f.a f.n f.c e.outputs b.a b.n b.c t.a t.n t.c):xY w p K :=
 ⟨_,h 0 _ rfl,_,_,_,h 1 _ rfl,_,h 2 _ rfl,_,_,_,h 3 _ rfl,_,_,_,h 4 _ rfl,hk⟩
theorem UQ {x:fV} {s t:SH} (h:AtL w p (nG x s t)) {K:Int→Int→OA→Nat→Nat→OA→Nat→Nat→Prop} (hk:K x.features x.outputs s.a s.n s.c t.a t.n t.c):lV w p K :=
 ⟨_,h 0 _ rfl,_,h 1 _ rfl,_,_,_,h 2 _ rfl,_,_,_,h 3 _ rfl,hk⟩
theorem Rk (h:jY e k=0):ofE e (gz e.trees.length k)=0∧iY e k=ofP e (gz e.trees.length k):=by
 have h0:pF e=0:=Classical.byContradiction fun hn=>by unfold jY at h; rw [if_pos hn] at h; exact hn h
 have h1:fB e.trees.length k=0:=Classical.byContradiction fun hn=>by unfold jY at h; rw [if_neg (by omega),if_pos hn] at h; exact hn h
 refine ⟨Kz h0 h1,?_⟩
 unfold iY
 rw [if_neg (by omega),if_neg (by omega)]
theorem Kv (hg:∀ t∈e.trees,t.nodes.length≤1048576∧Short 1048576 t.nodes):(ofP e rs).sm:=by
 by_cases h:ofE e rs=0
 ·exact (Tt h hg).sm
 ·have:ofP e rs=⟨0,0,[],[]⟩:=by unfold ofP; rw [if_neg h]
  rw [this]
  exact ⟨Nat.zero_le _,Nat.zero_le _,fun b hb=>by cases hb⟩
theorem Fe (hg:∀ t∈e.trees,t.nodes.length≤1048576∧Short 1048576 t.nodes):(iY e k).sm:=by
 by_cases h:jY e k=0
 ·rw [(Rk h).2]
  exact Kv hg
 ·have:iY e k=⟨0,0,[],[]⟩:=by
   unfold iY
   split
   ·rfl
   ·rename_i h0
    split
    ·rfl
    ·rename_i h1
     exact absurd (by unfold jY; rw [if_neg h0,if_neg h1]; exact Kz (by omega) (by omega)) h
  rw [this]
  exact ⟨Nat.zero_le _,Nat.zero_le _,fun b hb=>by cases hb⟩
theorem jf.good {y:fV} {s t:SH} (h:jf F w y s t) (hs:y.sm):lH F w y s t:=⟨h.b,h.k,hs⟩
set_option maxHeartbeats 2000000 in
theorem C9 (hE:iH F w e f b t) (hT0:Qg e.trees) (hrs:Ls tR F' w a1 n1 c1 rs) (hF':∀ b,F' b→b<w.heap.size) (hn:n1≤16777216):Pure Go.Proofs.Tryz.prog 3 #[vE e f b t,.slice a1 n1 c1,.int .i64 k] w (.bool true):=by
 refine bV.calls (R:=fun v u=>v = .bool true∧Below w.heap.size w u) ?_
 unfold bV bV.g0
 refine vG (cs:=(enE e f b t).toArray) fun w1 hA' hk1=>?_
 have hA:AtL w1 (na w) (enE e f b t):=hA'
 refine QM hA ?_
 refine E.CallsD.mono (Jj (hE.kept hk1)) fun v w2 ⟨f',b',t',hv,hO,hk2⟩=>?_
 refine ⟨_,_,_,_,_,_,_,_,_,_,_,hv,?_⟩
 have hC:=hO.good hE.sized
 have k12:=Kept.trans hk1 hk2
 refine boxS (zs:=(mD ⟨#[]⟩ none 0 0 0 none 0 0 none 0 0).toList) (vs:=enE e f' b' t') rfl fun w3 hB _ hk3=>QM hB ?_
 have k13:=Kept.trans k12 hk3
 have hC3:=hC.kept hk3
 have hz:=k13.size
 refine E.CallsD.mono (Va hC3 (hrs.kept k13) (fun b hb=>by have:=hF' b hb; omega) hn) fun v w4 ⟨s1,z1,hv,hin1,hk4⟩=>?_
 refine ⟨_,_,_,_,_,_,_,_,_,hv,?_⟩
 refine boxS (zs:=(lq 0 0 none 0 0 none 0 0).toList) (vs:=nG (ofP e rs) s1 z1) rfl fun w5 hX1 _ hk5=>?_
 have k35:=Kept.trans hk4 hk5
 have k15:=Kept.trans k13 k35
 have hz5:=k15.size
 refine QM (hA.kept (Kept.trans (Kept.trans hk2 hk3) k35)) ?_
 refine E.CallsD.mono (Ia hT0 (hE.kept k15) (hrs.kept k15) (fun b hb=>by have:=hF' b hb; omega) hn) fun v w6 ⟨s2,z2,hv,hin2,hk6⟩=>?_
 refine ⟨_,_,_,_,_,_,_,_,_,hv,?_⟩
 refine boxS (zs:=(lq 0 0 none 0 0 none 0 0).toList) (vs:=nG (ofP e rs) s2 z2) rfl fun w7 hX2 _ hk7=>?_
 have k57:=Kept.trans hk6 hk7
 have k17:=Kept.trans k15 k57
 have k37:=Kept.trans k35 k57
 refine QM (hB.kept k37) ?_
 refine E.CallsD.mono (BB (k:=k) (hC3.kept k37)) fun v w8 ⟨s3,z3,hv,hin3,hk8⟩=>?_
 refine ⟨_,_,_,_,_,_,_,_,_,hv,?_⟩
 refine boxS (zs:=(lq 0 0 none 0 0 none 0 0).toList) (vs:=nG (iY e k) s3 z3) rfl fun w9 hX3 _ hk9=>?_
 have k79:=Kept.trans hk8 hk9
 have k19:=Kept.trans k17 k79
 refine QM (hA.kept (Kept.trans (Kept.trans hk2 hk3) (Kept.trans k37 k79))) ?_
 refine E.CallsD.mono (Bf (k:=k) hT0 (hE.kept k19)) fun v wa ⟨s4,z4,hv,hin4,hka⟩=>?_
 refine ⟨_,_,_,_,_,_,_,_,_,hv,?_⟩
 refine boxS (zs:=(lq 0 0 none 0 0 none 0 0).toList) (vs:=nG (iY e k) s4 z4) rfl fun wb hX4 _ hkb=>?_
 have k9b:=Kept.trans hka hkb
 refine E.CallsD.mono QL fun v wc ⟨hv,hkc⟩=>⟨_,hv,F7 ?_⟩
 have kbc:=Kept.trans k9b hkc
 have k5c:=Kept.trans k57 (Kept.trans k79 kbc)
 have k7c:=Kept.trans k79 kbc
 refine UQ (hX1.kept k5c) (UQ (hX2.kept k7c) ?_)
 refine E.CallsD.mono (xX ((hin1.kept (Kept.trans hk5 k5c)).good (Kv hE.good)) ((hin2.kept (Kept.trans hk7 k7c)).good (Kv hE.good))) fun v wd ⟨hv,hkd⟩=>⟨_,hv,?_⟩
 rw [gm rfl]
 refine F7 (kV rfl ?_)
 have kbd:=Kept.trans hkc hkd
 refine UQ (hX3.kept (Kept.trans k9b kbd)) (UQ (hX4.kept kbd) ?_)
 refine E.CallsD.mono (xX ((hin3.kept (Kept.trans hk9 (Kept.trans k9b kbd))).good (Fe hE.good)) ((hin4.kept (Kept.trans hkb kbd)).good (Fe hE.good))) fun v we ⟨hv,hke⟩=>⟨_,hv,?_⟩
 rw [gm rfl]
 refine F7 (kV rfl ?_)
 have k3e:=Kept.trans k35 (Kept.trans k5c (Kept.trans hkd hke))
 have k1e:=Kept.trans k13 k3e
 refine QM (hB.kept k3e) (QM (hA.kept (Kept.trans (Kept.trans hk2 hk3) k3e)) ?_)
 refine E.CallsD.mono (JZ (hC3.kept k3e) (hE.kept k1e)) fun v wf ⟨hv,hkf⟩=>⟨_,hv,?_⟩
 rw [gm rfl]
 exact ⟨rfl,Kept.trans k1e hkf⟩
end
end Go.Mir
