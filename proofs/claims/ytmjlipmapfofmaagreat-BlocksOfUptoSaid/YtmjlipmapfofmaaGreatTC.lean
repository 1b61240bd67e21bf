/- Part of a proof of laws of the seat YtmjlipmapfofmaaGreat: functions' weakest preconditions, each checked by the kernel, contracts out of them, plain lemmas; no conditions. -/
import Derived.Test.YtmjlipmapfofmaaGreatTB
import Derived.Test.YtmjlipmapfofmaaGreatEC
set_option linter.unusedVariables false
set_option linter.unusedSimpArgs false
set_option linter.unusedSectionVars false
set_option maxRecDepth 100000
namespace Go.Mir
open Go Go.E Go.RowKit Go.Tr
theorem TJ:fE Go.Proofs.Tryz.prog 23 2 1 8:=sliceT (by kernel_rfl)
theorem V6:fE Go.Proofs.Tryz.prog 22 9 1 16:=sliceT (by kernel_rfl)
abbrev enS (s:ByteArray):Value := .string s
structure iH (F:Nat→Prop) (w:World) (e:ED) (f b t:SH):Prop where
 fs:Ls SB F w f.a f.n f.c e.features
 bs:Ls (vP .i64) F w b.a b.n b.c e.base
 ts:Ls tT F w t.a t.n t.c e.trees
 old:∀ b,F b→b<w.heap.size
 fm:f.n≤1048576
 bm:b.n≤1048576
 tm:t.n≤1048576
 good:∀ x∈e.trees,x.nodes.length≤1048576∧Short 1048576 x.nodes
section
variable {w u w1:World} {p:Addr} {o:Int} {a a1:Option Addr} {n c n1 c1:Nat} {F:Nat→Prop} {nodes:List ND} {xs:List Nat} {ys:List Int} {e:ED} {f b t:SH}
theorem iH.kept (h:iH F w e f b t) (hk:Kept w u):iH F u e f b t:=⟨h.fs.kept hk,h.bs.kept hk,h.ts.kept hk,fun b hb=>Nat.lt_of_lt_of_le (h.old b hb) hk.size,h.fm,h.bm,h.tm,h.good⟩
theorem iH.from (h:iH F w e f b t) (hk:From w.heap.size w u):iH F u e f b t:=h.kept (From.kept hk)
theorem Gj (hs:Sl enI w a n ys) (hm:n≤1048576):E.CallsD Go.Proofs.Tryz.prog 24 #[.slice a n c] w fun v u=>∃ a' n' c',v = .slice a' n' c'∧Ac enI 2 w u a' n' c' ys∧(a=none→a'=none):=by
 refine dN.calls ?_
 unfold dN dN.g0
 by_cases ha:a=none
 ·subst ha
  refine F7 ⟨_,_,_,rfl,⟨0,?_,.inl rfl,Below.refl _ _⟩,fun _=>rfl⟩
  have:ys=[]:=by
   cases ys with
   | nil=>rfl
   | cons x xs=>obtain ⟨p,hp,_⟩:=hs.get 0 x rfl; cases hp
  rw [this]; exact Arr.nil _ _ _
 ·exact Pm (R:=fun v u=>∃ a' n' c',v = .slice a' n' c'∧Ac enI 2 w u a' n' c' ys∧(a=none→a'=none)) TJ (fun _=>rfl) hs (by simp only [maxLen]; omega) (by omega) (fun h=>absurd h ha) fun a' c' u h=>⟨_,_,_,rfl,_,_,_,rfl,h,fun h=>absurd h ha⟩
end
end Go.Mir
set_option maxRecDepth 100000
namespace Go.Mir
open Go Go.E Go.RowKit Go.Tr
section
variable {w:World} {a b:Option Addr} {n c m d:Nat} {xs ys:List Int}
theorem PR {i:Nat} {x y:Int} (hx:xs[i]?=some x) (hy:ys[i]?=some y) (h:x≠y):xs≠ys:=fun e=>by subst e; rw [hx] at hy; exact h (by simpa using hy)
theorem BJ {R:Value→World→Prop} (hn:n=xs.length) (hm:n≤16777216) (he:xs.length=ys.length) (hs:Sl enI w a n xs) (ht:Sl enI w b m ys) (hR:R (.bool (decide (xs=ys))) w):∀ (k i:Nat),i+k=n→xs.take i=ys.take i→bF.l14 R (k+1) a n c b m d n i w
 | 0,i,hi,hp=>by
  rw [bF.u14]; unfold bF.g14
  refine az (by omega) ?_
  rw [List.take_of_length_le (by omega),List.take_of_length_le (by omega)] at hp
  rw [decide_eq_true hp] at hR
  exact hR
 | k+1,i,hi,hp=>by
  rw [bF.u14]; unfold bF.g14
  refine aI (by omega) ?_
  have hml:=ht.len
  refine hs.rdI (k := .i64) (by omega) (by omega) fun x hx=>?_
  refine ht.rdI (k := .i64) (by omega) (by omega) fun y hy=>?_
  rw [Int.toNat_natCast] at hx hy
  refine iJ (fun h=>?_) fun h=>?_
  ·rw [decide_eq_false (PR hx hy h)] at hR
   exact hR
  ·subst h
   refine aA (by omega) ?_
   exact BJ hn hm he hs ht hR k (i+1) (by omega) (by rw [take_snoc hx,take_snoc hy,hp])
theorem P8 (hs:Sl enI w a n xs) (ht:Sl enI w b m ys) (hm:n≤16777216):Pure Go.Proofs.Tryz.prog 34 #[.slice a n c,.slice b m d] w (.bool (decide (xs=ys))):=by
 refine bF.calls (R:=fun v' u=>v'=_∧Below w.heap.size w u) ?_
 unfold bF bF.g0
 have hl:=hs.len
 have hl2:=ht.len
 refine iJ (fun h=>⟨by rw [decide_eq_false]; intro e; subst e; omega,Below.refl _ _⟩) fun h=>?_
 exact ⟨n+1,BJ hl hm (by omega) hs ht ⟨rfl,Below.refl _ _⟩ n 0 (by omega) rfl⟩
end
end Go.Mir
set_option maxRecDepth 100000
namespace Go.Mir
open Go Go.E Go.RowKit Go.Tr
section
variable {w u w1:World} {p:Addr} {o:Int} {a a1:Option Addr} {n c n1 c1:Nat} {F:Nat→Prop} {nodes:List ND} {xs:List Nat} {ys:List Int} {e:ED} {f b t:SH}
end
end Go.Mir
set_option maxRecDepth 100000
namespace Go.Mir
open Go Go.E Go.RowKit Go.Tr
def nd1:ND:=⟨1,30,0,0,[],0,0,0⟩
def nd2:ND:=⟨3,0,0,0,[1,3],1,3,4⟩
def nd3:ND:=⟨1,10,0,0,[],0,0,0⟩
def nd4:ND:=⟨1,20,0,0,[],0,0,0⟩
theorem Is.uniq {nodes:List ND}:∀ {T U:BT},Is nodes T→Is nodes U→T.root=U.root→T=U
 | .leaf i,.leaf j,_,_,h=>by simp [BT.root] at h; subst h; rfl
 | .leaf i,.node j l r,⟨x,hx,hn⟩,⟨y,hy,hi,_⟩,h=>by simp [BT.root] at h; subst h; rw [hx] at hy; cases hy; rw [hn] at hi; cases hi
 | .node j l r,.leaf i,⟨y,hy,hi,_⟩,⟨x,hx,hn⟩,h=>by simp [BT.root] at h; subst h; rw [hx] at hy; cases hy; rw [hn] at hi; cases hi
 | .node i l r,.node j l' r',⟨x,hx,hi,hl,hr,h1,h2⟩,⟨y,hy,hi',hl',hr',h1',h2'⟩,h=>by
  simp [BT.root] at h; subst h
  rw [hx] at hy; cases hy
  rw [Is.uniq h1 h1' (by omega),Is.uniq h2 h2' (by omega)]
end Go.Mir
set_option maxRecDepth 100000
namespace Go.Mir
open Go Go.E Go.RowKit Go.Tr
section
variable {w u:World}
end
end Go.Mir
set_option maxRecDepth 100000
namespace Go.Mir
open Go Go.E Go.RowKit Go.Tr
section
variable {w u:World} {a:Option Addr} {n c:Nat}
theorem pq {P:Program} {fn:FuncId} {args:Array Value} {w u:World} {v:Value} (h:Pure P fn args u v) (hu:Kept w u):E.CallsD P fn args u fun v' u'=>v'=v∧Below w.heap.size w u' :=
 E.CallsD.mono h fun _ _ ⟨hv,hk⟩=>⟨hv,Kept.trans hu hk⟩
end
end Go.Mir
