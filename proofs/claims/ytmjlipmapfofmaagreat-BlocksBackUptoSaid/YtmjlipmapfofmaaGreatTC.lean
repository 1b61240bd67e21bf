/- Part of a proof; no conditions. -/
import Derived.Test.YtmjlipmapfofmaaGreatTB
import Derived.Test.YtmjlipmapfofmaaGreatEC
set_option linter.unusedVariables false
set_option linter.unusedSimpArgs false
set_option linter.unusedSectionVars false
set_option maxRecDepth 100000
open Go.Proofs.Tryz (prog)
namespace Go.Mir
open Go Go.E Go.RowKit Go.Tr
theorem Zq:fV prog 23 2 1 8:=sliceT (by kernel_rfl)
abbrev enS(s:ByteArray):Value := .string s
structure rZ(F:Nat->Prop)(w:World)(e:ED)(f b t:SH):Prop where
 fs:Ls a0Y F w f.a f.n f.c e.features
 bs:Ls (vJ .i64) F w b.a b.n b.c e.base
 ts:Ls tT F w t.a t.n t.c e.trees
 old:∀b,F b->b<w.heap.size
 fm:f.n<=1048576
 bm:b.n<=1048576
 tm:t.n<=1048576
 good:∀x∈e.trees,x.nodes.length<=1048576/\Short 1048576 x.nodes
section
variable{w u:World}{p:Addr}{a:Option Addr}{n c:Nat}{F:Nat->Prop}{xs:List Nat}{ys:List Int}{e:ED}{f b t:SH}
theorem rZ.kept(h:rZ F w e f b t)(hk:Kept w u):rZ F u e f b t:=⟨h.fs.kept hk,h.bs.kept hk,h.ts.kept hk,λb hb=>zf5 (h.old b hb) hk.size,h.fm,h.bm,h.tm,h.good⟩
theorem Ll(hs:Sl enI w a n ys)(hm:n<=1048576):E.CallsD prog 24 #[.slice a n c] w λv u=>∃a' n' c',v = .slice a' n' c'/\CO enI 2 w u a' n' c' ys/\(a=none->a'=none):=by
 refine eG.calls ?_;unfold eG eG.g0
 by_cases ha:a=none
 .subst ha;refine LW ⟨_,_,_,rfl,⟨0,?_,.inl rfl,Below.refl _ _⟩,λ_=>rfl⟩;have:ys=[]:=by
   cases ys with
   |nil=>rfl
   |cons x xs=>obtain⟨p,hp,_⟩:=hs.get 0 x rfl;cases hp
  rw[this];exact Arr.nil _ _ _
 .exact Uj (R:=λv u=>∃a' n' c',v = .slice a' n' c'/\CO enI 2 w u a' n' c' ys/\(a=none->a'=none)) Zq (λ_=>rfl) hs (by simp only[maxLen];omega) (by omega) (λh=>absurd h ha) λa' c' u h=>⟨_,_,_,rfl,_,_,_,rfl,h,λh=>absurd h ha⟩
end
section
variable{w:World}{a b:Option Addr}{n c m d:Nat}{xs ys:List Int}
theorem V3{i:Nat}{x y:Int}(hx:xs[i]?=some x)(hy:ys[i]?=some y)(h:x≠y):xs≠ys:=λe=>by subst e;rw[hx]at hy;exact h (by simpa using hy)
theorem EE{R:Value->zg6}(hn:n=xs.length)(hm:n<=16777216)(he:xs.length=ys.length)(hs:Sl enI w a n xs)(ht:Sl enI w b m ys)(hR:R (.bool (decide (xs=ys))) w):∀(k i:Nat),i+k=n->xs.take i=ys.take i->bV.l14 R (k+1) a n c b m d n i w
 |0,i,hi,hp=>by
  rw[bV.u14];unfold bV.g14;refine aA (by omega) ?_;rw[zb1 (by omega),zb1 (by omega)]at hp;rw[decide_eq_true hp]at hR;exact hR
 |k+1,i,hi,hp=>by
  rw[bV.u14];unfold bV.g14;refine aH (by omega) ?_;have hml:=ht.len;refine hs.rdI (k := .i64) (by omega) (by omega) λx hx=>?_;refine ht.rdI (k := .i64) (by omega) (by omega) λy hy=>?_;rw[za3]at hx hy;refine ja (λh=>?_) λh=>?_
  .rw[decide_eq_false (V3 hx hy h)]at hR;exact hR
  .subst h;refine aC (by omega) ?_;exact EE hn hm he hs ht hR k (i+1) (by omega) (by rw[take_snoc hx,take_snoc hy,hp])
theorem Uc(hs:Sl enI w a n xs)(ht:Sl enI w b m ys)(hm:n<=16777216):Pure prog 34 #[.slice a n c,.slice b m d] w (.bool (decide (xs=ys))):=by
 refine bV.calls (R:=λv' u=>v'=_/\Below w.heap.size w u) ?_;unfold bV bV.g0;have hl:=hs.len;have hl2:=ht.len;refine ja (λh=>⟨by rw[decide_eq_false];intro e;subst e;omega,Below.refl _ _⟩) λh=>?_;exact⟨n+1,EE hl hm (by omega) hs ht ⟨rfl,Below.refl _ _⟩ n 0 (by omega) rfl⟩
end
section
end
def nd1:ND:=⟨1,30,0,0,[],0,0,0⟩
def nd2:ND:=⟨3,0,0,0,[1,3],1,3,4⟩
def nd3:ND:=⟨1,10,0,0,[],0,0,0⟩
def nd4:ND:=⟨1,20,0,0,[],0,0,0⟩
theorem Is.uniq{nodes:List ND}:∀ {T U:BT},Is nodes T->Is nodes U->T.root=U.root->T=U
 | .leaf i,.leaf j,_,_,h=>by simp[BT.root]at h;subst h;rfl
 | .leaf i,.node j l r,⟨x,hx,hn⟩,⟨y,hy,hi,_⟩,h=>by simp[BT.root]at h;subst h;rw[hx]at hy;cases hy;rw[hn]at hi;cases hi
 | .node j l r,.leaf i,⟨y,hy,hi,_⟩,⟨x,hx,hn⟩,h=>by simp[BT.root]at h;subst h;rw[hx]at hy;cases hy;rw[hn]at hi;cases hi
 | .node i l r,.node j l' r',⟨x,hx,hi,hl,hr,h1,h2⟩,⟨y,hy,hi',hl',hr',h1',h2'⟩,h=>by
  simp[BT.root]at h;subst h;rw[hx]at hy;cases hy;rw[Is.uniq h1 h1' (by omega),Is.uniq h2 h2' (by omega)]
section
end
section
variable{w u:World}
theorem pq{P:Program}{fn:FuncId}{args:Array Value}{w u:World}{v:Value}(h:Pure P fn args u v)(hu:Kept w u):E.CallsD P fn args u λv' u'=>v'=v/\Below w.heap.size w u' :=
 zg0 h λ_ _ ⟨hv,hk⟩=>⟨hv,zg1 hu hk⟩
end
end Go.Mir
