/- Part of a proof of laws of the seat Ytmjlipmapfofmaa: functions' weakest preconditions, each checked by the kernel, contracts out of them, plain lemmas; no conditions. -/
import Derived.Test.YtmjlipmapfofmaaMMA
set_option linter.unusedVariables false
set_option linter.unusedSimpArgs false
set_option linter.unusedSectionVars false
set_option linter.unusedVariables false
set_option maxRecDepth 100000
namespace Go.Mir
open Go Go.E Go.RowKit
open Go.Proofs.Try (prog)
open Go.Proofs.Try (f88 func88)
namespace eF
def an:An:=An.nil
def g0 (R:VP) (a:Nat) (b:OA) (c d:Nat) (e f g:Int) (h:Nat) (i:OA) (j k:Nat) (l m n:Int) (o:Addr) (p:World):Prop :=
 nw (p.alloc (.cells (yH a b c d e f g) 72)) fun a =>
 nw (a.alloc (.cells (yH h i j k l m n) 72)) fun b =>
 cV b o fun c =>
 oW b (na p) fun d e f g h i j =>
 qfN prog c #[pX d e f g h i j] 106 b fun c =>
 cV b o fun d =>
 oW b (na a) fun a e f g h i j =>
 qfN prog d #[pX a e f g h i j] 106 b fun a =>
 ∃ d,(∀ e:World,Below b.heap.size b e→CA 89 #[c,a] e fun a c=>a = .int .i64 d∧Below b.heap.size b c) ∧
 (∀ a:World,Below b.heap.size b a →
 R (.int .i64 d) a)
end eF
def eF (R:VP):=eF.g0 R
theorem eF.calls {R a b c d e f g h i j l m n o p w} (k:eF R a b c d e f g h i j l m n o p w):CA 88 #[pX a b c d e f g,pX h i j l m n o,.pointer (some p)] w R:=cal (n:=eF.an) func88 rfl k (by kernel_rfl)
open Go.Proofs.Try (f89 func89)
namespace dh
def an:An:=An.nil
def g0 (R:VP) (a b:Int) (c:World):Prop :=
 CA 97 #[.int .u64 a] c fun c d =>
 ∃ e,c = .bool e ∧
 (CA 97 #[.int .u64 b] d fun c d =>
 ∃ f,c = .bool f ∧
 (ae e
 (ae f
 (R (.int .i64 0) d)
 (R (.int .i64 (-1)) d))
 (ae f
 (R (.int .i64 1) d)
 (ae (decide (a<b))
 (R (.int .i64 (-1)) d)
 (ae (decide (a>b))
 (R (.int .i64 1) d)
 (R (.int .i64 0) d))))))
end dh
def dh (R:VP):=dh.g0 R
theorem dh.calls {R a b w} (k:dh R a b w):CA 89 #[.int .u64 a,.int .u64 b] w R:=cal (n:=dh.an) func89 rfl k (by kernel_rfl)
open Go.Proofs.Try (f90 func90)
namespace jJ
def an:An:=An.nil
def g0 (R:VP) (a:OA) (b c:Nat) (d:Addr) (e:World):Prop :=
 CA 98 #[.slice a b c,.int .i64 (b:Int),.func (.func 91) #[] #[.pointer (some d)]] e fun a b =>
 a = .tuple #[] ∧
 (R (.tuple #[]) b)
end jJ
def jJ (R:VP):=jJ.g0 R
theorem jJ.calls {R a b c d w} (k:jJ R a b c d w):CA 90 #[.slice a b c,.func (.func 91) #[] #[.pointer (some d)]] w R:=cal (n:=jJ.an) func90 rfl k (by kernel_rfl)
open Go.Proofs.Try (f91 func91)
namespace dJ
def an:An:=An.nil
def g0 (R:VP) (a:Int) (b:OA) (c d:Nat) (e:OA) (f g:Nat) (h:OA) (i j:Nat) (k:Int) (l:OA) (m n:Nat) (o:OA) (p q:Nat) (r:OA) (s t:Nat) (u:Addr) (v:World):Prop :=
 nw (v.alloc (.cells (zK a b c d e f g h i j) 69)) fun a =>
 nw (a.alloc (.cells (zK k l m n o p q r s t) 69)) fun b =>
 cV b u fun c =>
 sV b (na v) fun d e f g h i j k l m =>
 qfN prog c #[yB d e f g h i j k l m] 3 b fun c =>
 cV b u fun d =>
 sV b (na a) fun a e f g h i j k l m =>
 qfN prog d #[yB a e f g h i j k l m] 3 b fun a =>
 ∃ d,(∀ e:World,Below b.heap.size b e→CA 92 #[c,a] e fun a c=>a = .int .i64 d∧Below b.heap.size b c) ∧
 (∀ a:World,Below b.heap.size b a →
 R (.int .i64 d) a)
end dJ
def dJ (R:VP):=dJ.g0 R
theorem dJ.calls {R a b c d e f g h i j l m n o p q r s t u v w} (k:dJ R a b c d e f g h i j l m n o p q r s t u v w):CA 91 #[yB a b c d e f g h i j,yB l m n o p q r s t u,.pointer (some v)] w R:=cal (n:=dJ.an) func91 rfl k (by kernel_rfl)
open Go.Proofs.Try (f92 func92)
namespace cmp_Compare_int
def an:An:=An.nil
def g0 (R:VP) (a b:Int) (c:World):Prop :=
 CA 99 #[.int .i64 a] c fun c d =>
 ∃ e,c = .bool e ∧
 (CA 99 #[.int .i64 b] d fun c d =>
 ∃ f,c = .bool f ∧
 (ae e
 (ae f
 (R (.int .i64 0) d)
 (R (.int .i64 (-1)) d))
 (ae f
 (R (.int .i64 1) d)
 (ae (decide (a<b))
 (R (.int .i64 (-1)) d)
 (ae (decide (a>b))
 (R (.int .i64 1) d)
 (R (.int .i64 0) d))))))
end cmp_Compare_int
def cmp_Compare_int (R:VP):=cmp_Compare_int.g0 R
theorem cmp_Compare_int.calls {R a b w} (k:cmp_Compare_int R a b w):CA 92 #[.int .i64 a,.int .i64 b] w R:=cal (n:=cmp_Compare_int.an) func92 rfl k (by kernel_rfl)
open Go.Proofs.Try (f93 func93)
namespace bI
def an:An:=(aR (aR (.mk none (aL (.mk (some [0,1,2,6,7,8]) .nil .nil)) (aR (aL (.mk (some [0,1,2,6]) (aR (aL (aR (aL (aL (.mk (some [0,1,2,6,7,8]) .nil .nil)))))) .nil))))))
def qf (R:VP):QT:=fin prog f93 R
def C:=cdN prog f93 an
abbrev T6:=OA→Nat→Nat→Int→Int→Int→Int→World→Prop
abbrev T22:=OA→Nat→Nat→Int→Int→World→Prop
abbrev T34:=OA→Nat→Nat→Int→Int→Int→Int→World→Prop
def g0 (R:VP) (e6:T6) (a:OA) (b c:Nat) (d:Int) (e:World):Prop :=
 e6 a b c d 20 0 20 e
def g6 (R:VP) (b6:T6) (e22:T22) (a:OA) (b c:Nat) (d e f g:Int) (h:World):Prop :=
 ae (decide (g≤d))
 (CA 100 #[.slice a b c,.int .i64 f,.int .i64 g,.func (.func 82) #[] #[]] h fun i j =>
 i = .tuple #[] ∧
 (nv (IntKind.i64.wrap (g+e)) fun i =>
 b6 a b c d e g i j))
 (CA 100 #[.slice a b c,.int .i64 f,.int .i64 d,.func (.func 82) #[] #[]] h fun f g =>
 f = .tuple #[] ∧
 (e22 a b c d e g))
def g22 (R:VP) (e34:T34) (a:OA) (b c:Nat) (d e:Int) (f:World):Prop :=
 ae (decide (e<d))
 (nv (IntKind.i64.wrap (2*e)) fun g =>
 e34 a b c d e 0 g f)
 (R (.tuple #[]) f)
def g34 (R:VP) (b22:T22) (b34:T34) (a:OA) (b c:Nat) (d e f g:Int) (h:World):Prop :=
 ae (decide (g≤d))
 (nv (IntKind.i64.wrap (f+e)) fun i =>
 CA 101 #[.slice a b c,.int .i64 f,.int .i64 i,.int .i64 g,.func (.func 82) #[] #[]] h fun i j =>
 i = .tuple #[] ∧
 (nv (IntKind.i64.wrap (2*e)) fun i =>
 nv (IntKind.i64.wrap (g+i)) fun i =>
 b34 a b c d e g i j))
 (nv (IntKind.i64.wrap (f+e)) fun g =>
 ae (decide (g<d))
 (CA 101 #[.slice a b c,.int .i64 f,.int .i64 g,.int .i64 d,.func (.func 82) #[] #[]] h fun f g =>
 f = .tuple #[] ∧
 (nv (IntKind.i64.wrap (e*2)) fun f =>
 b22 a b c d f g))
 (nv (IntKind.i64.wrap (e*2)) fun e =>
 b22 a b c d e h))
def q6 (R:VP):QT:=(Exit.inBlock 0 (qS none (C [1,1,1]) (qf R)))
@[irreducible] def l6 (R:VP) (k:Nat):T6:=fun a b c d e f g w=>aS [0,1,2,6,7,8] (C [1,1,0,0,0]) (q6 R) k (fr ((.slice a b c::(.int .i64 d::(.func (.func 82) #[] #[]::U 3 (.int .i64 e::(.int .i64 f::(.int .i64 g::U 54 [])))))))) w
def e6 (R:VP):T6:=fun a b c d e f g w=>∃ k,l6 R k a b c d e f g w
def q22 (R:VP):QT:=(Exit.inBlock 2 (qf R))
@[irreducible] def l22 (R:VP) (k:Nat):T22:=fun a b c d e w=>aS [0,1,2,6] (C [1,1,1,1,0,0]) (q22 R) k (fr ((.slice a b c::(.int .i64 d::(.func (.func 82) #[] #[]::U 3 (.int .i64 e::U 56 [])))))) w
def e22 (R:VP):T22:=fun a b c d e w=>∃ k,l22 R k a b c d e w
def q34 (R:VP) (k22:Nat):QT:=(Exit.inBlock 4 (qS none (C [1,1,1,1,0,0,1,0,1,1]) (Exit.inBlock 3 (qL [0,1,2,6] (C [1,1,1,1,0,0]) (q22 R) k22))))
def wM (R:VP) (k22:Nat) (k:Nat):T34:=fun a b c d e f g w=>aS [0,1,2,6,7,8] (C [1,1,1,1,0,0,1,0,1,0,0,0]) (q34 R k22) k (fr ((.slice a b c::(.int .i64 d::(.func (.func 82) #[] #[]::U 3 (.int .i64 e::(.int .i64 f::(.int .i64 g::U 54 [])))))))) w
def IV (R:VP) (k22:Nat):T34:=fun a b c d e f g w=>∃ k,wM R k22 k a b c d e f g w
def l34 (R:VP) (b22:T22):Nat→T34
 | 0=>fun _ _ _ _ _ _ _ _=>False
 | k+1=>g34 R b22 (l34 R b22 k)
def e34 (R:VP) (b22:T22):T34:=fun a b c d e f g w=>∃ k,l34 R b22 k a b c d e f g w
theorem s34 (R:VP) (k22:Nat) (k:Nat):wM R k22 (k+1)=fun a b c d e f g w=>∀ _:Nat→Value,g34 R (l22 R k22) (wM R k22 k) a b c d e f g w:=by kernel_rfl
theorem HY (R:VP) (k22:Nat) (b22:T22) (hb22:b22=l22 R k22):∀ k,l34 R b22 k=wM R k22 k
 | 0=>by kernel_rfl
 | k+1=>by
  rw [s34]
  simp only [forall_const]
  unfold l34
  have ih:=HY R k22 b22 hb22 k
  subst hb22
  rw [ih]
  all_goals rfl
theorem Py (R:VP) (k22:Nat) (b22:T22) (hb22:b22=l22 R k22):e34 R b22=IV R k22:=by
 unfold e34 IV
 simp only [HY R k22 b22 hb22]
theorem u22 (R k a b c d e w):l22 R (k+1) a b c d e w=g22 R (e34 R (l22 R k)) a b c d e w:=by rw [Py R k _ rfl]; exact ju (by kernel_rfl)
theorem u6 (R k a b c d e f g w):l6 R (k+1) a b c d e f g w=g6 R (l6 R k) (e22 R) a b c d e f g w:=ju (by kernel_rfl)
end bI
def bI (R:VP):=bI.g0 R (bI.e6 R)
theorem bI.calls {R a b c d w} (k:bI R a b c d w):CA 93 #[.slice a b c,.int .i64 d,.func (.func 82) #[] #[]] w R:=cal (n:=bI.an) func93 rfl k (by kernel_rfl)
open Go.Proofs.Try (f96 func96)
namespace dG
def an:An:=(aR (aR (.mk none (aL (.mk (some [0,1,2,6,7,8]) .nil .nil)) (aR (aL (.mk (some [0,1,2,6]) (aR (aL (aR (aL (aL (.mk (some [0,1,2,6,7,8]) .nil .nil)))))) .nil))))))
def qf (R:VP):QT:=fin prog f96 R
def C:=cdN prog f96 an
abbrev T6:=OA→Nat→Nat→Int→Addr→Int→Int→Int→World→Prop
abbrev T22:=OA→Nat→Nat→Int→Addr→Int→World→Prop
abbrev T34:=OA→Nat→Nat→Int→Addr→Int→Int→Int→World→Prop
def g0 (R:VP) (e6:T6) (a:OA) (b c:Nat) (d:Int) (e:Addr) (f:World):Prop :=
 e6 a b c d e 20 0 20 f
def g6 (R:VP) (b6:T6) (e22:T22) (a:OA) (b c:Nat) (d:Int) (e:Addr) (f g h:Int) (i:World):Prop :=
 ae (decide (h≤d))
 (CA 103 #[.slice a b c,.int .i64 g,.int .i64 h,.func (.func 88) #[] #[.pointer (some e)]] i fun j k =>
 j = .tuple #[] ∧
 (nv (IntKind.i64.wrap (h+f)) fun j =>
 b6 a b c d e f h j k))
 (CA 103 #[.slice a b c,.int .i64 g,.int .i64 d,.func (.func 88) #[] #[.pointer (some e)]] i fun g h =>
 g = .tuple #[] ∧
 (e22 a b c d e f h))
def g22 (R:VP) (e34:T34) (a:OA) (b c:Nat) (d:Int) (e:Addr) (f:Int) (g:World):Prop :=
 ae (decide (f<d))
 (nv (IntKind.i64.wrap (2*f)) fun h =>
 e34 a b c d e f 0 h g)
 (R (.tuple #[]) g)
def g34 (R:VP) (b22:T22) (b34:T34) (a:OA) (b c:Nat) (d:Int) (e:Addr) (f g h:Int) (i:World):Prop :=
 ae (decide (h≤d))
 (nv (IntKind.i64.wrap (g+f)) fun j =>
 CA 104 #[.slice a b c,.int .i64 g,.int .i64 j,.int .i64 h,.func (.func 88) #[] #[.pointer (some e)]] i fun j k =>
 j = .tuple #[] ∧
 (nv (IntKind.i64.wrap (2*f)) fun j =>
 nv (IntKind.i64.wrap (h+j)) fun j =>
 b34 a b c d e f h j k))
 (nv (IntKind.i64.wrap (g+f)) fun h =>
 ae (decide (h<d))
 (CA 104 #[.slice a b c,.int .i64 g,.int .i64 h,.int .i64 d,.func (.func 88) #[] #[.pointer (some e)]] i fun g h =>
 g = .tuple #[] ∧
 (nv (IntKind.i64.wrap (f*2)) fun g =>
 b22 a b c d e g h))
 (nv (IntKind.i64.wrap (f*2)) fun f =>
 b22 a b c d e f i))
def q6 (R:VP):QT:=(Exit.inBlock 0 (qS none (C [1,1,1]) (qf R)))
@[irreducible] def l6 (R:VP) (k:Nat):T6:=fun a b c d e f g h w=>aS [0,1,2,6,7,8] (C [1,1,0,0,0]) (q6 R) k (fr ((.slice a b c::(.int .i64 d::(.func (.func 88) #[] #[.pointer (some e)]::U 3 (.int .i64 f::(.int .i64 g::(.int .i64 h::U 54 [])))))))) w
def e6 (R:VP):T6:=fun a b c d e f g h w=>∃ k,l6 R k a b c d e f g h w
def q22 (R:VP):QT:=(Exit.inBlock 2 (qf R))
@[irreducible] def l22 (R:VP) (k:Nat):T22:=fun a b c d e f w=>aS [0,1,2,6] (C [1,1,1,1,0,0]) (q22 R) k (fr ((.slice a b c::(.int .i64 d::(.func (.func 88) #[] #[.pointer (some e)]::U 3 (.int .i64 f::U 56 [])))))) w
def e22 (R:VP):T22:=fun a b c d e f w=>∃ k,l22 R k a b c d e f w
def q34 (R:VP) (k22:Nat):QT:=(Exit.inBlock 4 (qS none (C [1,1,1,1,0,0,1,0,1,1]) (Exit.inBlock 3 (qL [0,1,2,6] (C [1,1,1,1,0,0]) (q22 R) k22))))
def wM (R:VP) (k22:Nat) (k:Nat):T34:=fun a b c d e f g h w=>aS [0,1,2,6,7,8] (C [1,1,1,1,0,0,1,0,1,0,0,0]) (q34 R k22) k (fr ((.slice a b c::(.int .i64 d::(.func (.func 88) #[] #[.pointer (some e)]::U 3 (.int .i64 f::(.int .i64 g::(.int .i64 h::U 54 [])))))))) w
def IV (R:VP) (k22:Nat):T34:=fun a b c d e f g h w=>∃ k,wM R k22 k a b c d e f g h w
def l34 (R:VP) (b22:T22):Nat→T34
 | 0=>fun _ _ _ _ _ _ _ _ _=>False
 | k+1=>g34 R b22 (l34 R b22 k)
def e34 (R:VP) (b22:T22):T34:=fun a b c d e f g h w=>∃ k,l34 R b22 k a b c d e f g h w
theorem s34 (R:VP) (k22:Nat) (k:Nat):wM R k22 (k+1)=fun a b c d e f g h w=>∀ _:Nat→Value,g34 R (l22 R k22) (wM R k22 k) a b c d e f g h w:=by kernel_rfl
theorem HY (R:VP) (k22:Nat) (b22:T22) (hb22:b22=l22 R k22):∀ k,l34 R b22 k=wM R k22 k
 | 0=>by kernel_rfl
 | k+1=>by
  rw [s34]
  simp only [forall_const]
  unfold l34
  have ih:=HY R k22 b22 hb22 k
  subst hb22
  rw [ih]
  all_goals rfl
theorem Py (R:VP) (k22:Nat) (b22:T22) (hb22:b22=l22 R k22):e34 R b22=IV R k22:=by
 unfold e34 IV
 simp only [HY R k22 b22 hb22]
theorem u22 (R k a b c d e f w):l22 R (k+1) a b c d e f w=g22 R (e34 R (l22 R k)) a b c d e f w:=by rw [Py R k _ rfl]; exact ju (by kernel_rfl)
theorem u6 (R k a b c d e f g h w):l6 R (k+1) a b c d e f g h w=g6 R (l6 R k) (e22 R) a b c d e f g h w:=ju (by kernel_rfl)
end dG
def dG (R:VP):=dG.g0 R (dG.e6 R)
theorem dG.calls {R a b c d e w} (k:dG R a b c d e w):CA 96 #[.slice a b c,.int .i64 d,.func (.func 88) #[] #[.pointer (some e)]] w R:=cal (n:=dG.an) func96 rfl k (by kernel_rfl)
end Go.Mir
set_option linter.unusedVariables false
set_option maxRecDepth 100000
namespace Go.Mir
open Go Go.E Go.RowKit
open Go.Proofs.Try (prog)
open Go.Proofs.Try (f97 func97)
namespace dN
def an:An:=An.nil
def g0 (R:VP) (a:Int) (b:World):Prop :=
 R (.bool (a != a)) b
end dN
def dN (R:VP):=dN.g0 R
theorem dN.calls {R a w} (k:dN R a w):CA 97 #[.int .u64 a] w R:=cal (n:=dN.an) func97 rfl k (by kernel_rfl)
open Go.Proofs.Try (f98 func98)
namespace di
def an:An:=(aR (aR (.mk none (aL (.mk (some [0,1,2,6,7,8]) .nil .nil)) (aR (aL (.mk (some [0,1,2,6]) (aR (aL (aR (aL (aL (.mk (some [0,1,2,6,7,8]) .nil .nil)))))) .nil))))))
def qf (R:VP):QT:=fin prog f98 R
def C:=cdN prog f98 an
abbrev T6:=OA→Nat→Nat→Int→Addr→Int→Int→Int→World→Prop
abbrev T22:=OA→Nat→Nat→Int→Addr→Int→World→Prop
abbrev T34:=OA→Nat→Nat→Int→Addr→Int→Int→Int→World→Prop
def g0 (R:VP) (e6:T6) (a:OA) (b c:Nat) (d:Int) (e:Addr) (f:World):Prop :=
 e6 a b c d e 20 0 20 f
def g6 (R:VP) (b6:T6) (e22:T22) (a:OA) (b c:Nat) (d:Int) (e:Addr) (f g h:Int) (i:World):Prop :=
 ae (decide (h≤d))
 (CA 105 #[.slice a b c,.int .i64 g,.int .i64 h,.func (.func 91) #[] #[.pointer (some e)]] i fun j k =>
 j = .tuple #[] ∧
 (nv (IntKind.i64.wrap (h+f)) fun j =>
 b6 a b c d e f h j k))
 (CA 105 #[.slice a b c,.int .i64 g,.int .i64 d,.func (.func 91) #[] #[.pointer (some e)]] i fun g h =>
 g = .tuple #[] ∧
 (e22 a b c d e f h))
def g22 (R:VP) (e34:T34) (a:OA) (b c:Nat) (d:Int) (e:Addr) (f:Int) (g:World):Prop :=
 ae (decide (f<d))
 (nv (IntKind.i64.wrap (2*f)) fun h =>
 e34 a b c d e f 0 h g)
 (R (.tuple #[]) g)
def g34 (R:VP) (b22:T22) (b34:T34) (a:OA) (b c:Nat) (d:Int) (e:Addr) (f g h:Int) (i:World):Prop :=
 ae (decide (h≤d))
 (nv (IntKind.i64.wrap (g+f)) fun j =>
 CA 106 #[.slice a b c,.int .i64 g,.int .i64 j,.int .i64 h,.func (.func 91) #[] #[.pointer (some e)]] i fun j k =>
 j = .tuple #[] ∧
 (nv (IntKind.i64.wrap (2*f)) fun j =>
 nv (IntKind.i64.wrap (h+j)) fun j =>
 b34 a b c d e f h j k))
 (nv (IntKind.i64.wrap (g+f)) fun h =>
 ae (decide (h<d))
 (CA 106 #[.slice a b c,.int .i64 g,.int .i64 h,.int .i64 d,.func (.func 91) #[] #[.pointer (some e)]] i fun g h =>
 g = .tuple #[] ∧
 (nv (IntKind.i64.wrap (f*2)) fun g =>
 b22 a b c d e g h))
 (nv (IntKind.i64.wrap (f*2)) fun f =>
 b22 a b c d e f i))
def q6 (R:VP):QT:=(Exit.inBlock 0 (qS none (C [1,1,1]) (qf R)))
@[irreducible] def l6 (R:VP) (k:Nat):T6:=fun a b c d e f g h w=>aS [0,1,2,6,7,8] (C [1,1,0,0,0]) (q6 R) k (fr ((.slice a b c::(.int .i64 d::(.func (.func 91) #[] #[.pointer (some e)]::U 3 (.int .i64 f::(.int .i64 g::(.int .i64 h::U 54 [])))))))) w
def e6 (R:VP):T6:=fun a b c d e f g h w=>∃ k,l6 R k a b c d e f g h w
def q22 (R:VP):QT:=(Exit.inBlock 2 (qf R))
@[irreducible] def l22 (R:VP) (k:Nat):T22:=fun a b c d e f w=>aS [0,1,2,6] (C [1,1,1,1,0,0]) (q22 R) k (fr ((.slice a b c::(.int .i64 d::(.func (.func 91) #[] #[.pointer (some e)]::U 3 (.int .i64 f::U 56 [])))))) w
def e22 (R:VP):T22:=fun a b c d e f w=>∃ k,l22 R k a b c d e f w
def q34 (R:VP) (k22:Nat):QT:=(Exit.inBlock 4 (qS none (C [1,1,1,1,0,0,1,0,1,1]) (Exit.inBlock 3 (qL [0,1,2,6] (C [1,1,1,1,0,0]) (q22 R) k22))))
def wM (R:VP) (k22:Nat) (k:Nat):T34:=fun a b c d e f g h w=>aS [0,1,2,6,7,8] (C [1,1,1,1,0,0,1,0,1,0,0,0]) (q34 R k22) k (fr ((.slice a b c::(.int .i64 d::(.func (.func 91) #[] #[.pointer (some e)]::U 3 (.int .i64 f::(.int .i64 g::(.int .i64 h::U 54 [])))))))) w
def IV (R:VP) (k22:Nat):T34:=fun a b c d e f g h w=>∃ k,wM R k22 k a b c d e f g h w
def l34 (R:VP) (b22:T22):Nat→T34
 | 0=>fun _ _ _ _ _ _ _ _ _=>False
 | k+1=>g34 R b22 (l34 R b22 k)
def e34 (R:VP) (b22:T22):T34:=fun a b c d e f g h w=>∃ k,l34 R b22 k a b c d e f g h w
theorem s34 (R:VP) (k22:Nat) (k:Nat):wM R k22 (k+1)=fun a b c d e f g h w=>∀ _:Nat→Value,g34 R (l22 R k22) (wM R k22 k) a b c d e f g h w:=by kernel_rfl
theorem HY (R:VP) (k22:Nat) (b22:T22) (hb22:b22=l22 R k22):∀ k,l34 R b22 k=wM R k22 k
 | 0=>by kernel_rfl
 | k+1=>by
  rw [s34]
  simp only [forall_const]
  unfold l34
  have ih:=HY R k22 b22 hb22 k
  subst hb22
  rw [ih]
  all_goals rfl
theorem Py (R:VP) (k22:Nat) (b22:T22) (hb22:b22=l22 R k22):e34 R b22=IV R k22:=by
 unfold e34 IV
 simp only [HY R k22 b22 hb22]
theorem u22 (R k a b c d e f w):l22 R (k+1) a b c d e f w=g22 R (e34 R (l22 R k)) a b c d e f w:=by rw [Py R k _ rfl]; exact ju (by kernel_rfl)
theorem u6 (R k a b c d e f g h w):l6 R (k+1) a b c d e f g h w=g6 R (l6 R k) (e22 R) a b c d e f g h w:=ju (by kernel_rfl)
end di
def di (R:VP):=di.g0 R (di.e6 R)
theorem di.calls {R a b c d e w} (k:di R a b c d e w):CA 98 #[.slice a b c,.int .i64 d,.func (.func 91) #[] #[.pointer (some e)]] w R:=cal (n:=di.an) func98 rfl k (by kernel_rfl)
open Go.Proofs.Try (f99 func99)
namespace cmp_isNaN_int
def an:An:=An.nil
def g0 (R:VP) (a:Int) (b:World):Prop :=
 R (.bool (a != a)) b
end cmp_isNaN_int
def cmp_isNaN_int (R:VP):=cmp_isNaN_int.g0 R
theorem cmp_isNaN_int.calls {R a w} (k:cmp_isNaN_int R a w):CA 99 #[.int .i64 a] w R:=cal (n:=cmp_isNaN_int.an) func99 rfl k (by kernel_rfl)
open Go.Proofs.Try (f100 func100)
namespace fM
def an:An:=(aR (aL (.mk (some [0,1,2,3,8]) (aR (aL (aL (aR (aL (.mk (some [0,1,2,3,8,9]) .nil .nil)))))) .nil)))
def qf (R:VP):QT:=fin prog f100 R
def C:=cdN prog f100 an
abbrev T3:=OA→Nat→Nat→Int→Int→Int→World→Prop
abbrev T15:=OA→Nat→Nat→Int→Int→Int→Int→World→Prop
def g0 (R:VP) (e3:T3) (a:OA) (b c:Nat) (d e:Int) (f:World):Prop :=
 inc d fun g =>
 e3 a b c d e g f
def g3 (R:VP) (e15:T15) (a:OA) (b c:Nat) (d e f:Int) (g:World):Prop :=
 ae (decide (f<e))
 (e15 a b c d e f f g)
 (R (.tuple #[]) g)
def g15 (R:VP) (b3:T3) (b15:T15) (a:OA) (b c:Nat) (d e f g:Int) (h:World):Prop :=
 ae (decide (g>d))
 (ix a b g fun i =>
 l9 h (i.add (g.toNat*10)) fun i j k l m n o p q r s t =>
 nv (IntKind.i64.wrap (g - 1)) fun u =>
 ix a b u fun v =>
 l9 h (v.add (u.toNat*10)) fun u v w x y z A B C D E F =>
 CA 82 #[vW i j k l m n o p q r s t,vW u v w x y z A B C D E F] h fun i j =>
 ∃ k,i = .int .i64 k ∧
 (ae (decide (k<0))
 (∃ i:World,CK i j ∧
 (nv (IntKind.i64.wrap (g - 1)) fun k =>
 nv (IntKind.i64.wrap (g - 1)) fun l =>
 ix a b l fun m =>
 l9 j (m.add (l.toNat*10)) fun l m n o p q r s t u v w =>
 ix a b g fun x =>
 l9 j (x.add (g.toNat*10)) fun x y z A B C D E F G H I =>
 ix a b g fun J =>
 wH j (J.add (g.toNat*10)) l m n o p q r s t u v w fun l =>
 CK i l ∧
 (ix a b k fun i =>
 wH l (i.add (k.toNat*10)) x y z A B C D E F G H I fun i =>
 nv (IntKind.i64.wrap (g - 1)) fun g =>
 b15 a b c d e f g i)))
 (inc f fun g =>
 b3 a b c d e g j)))
 (inc f fun f =>
 b3 a b c d e f h)
def q3 (R:VP):QT:=(Exit.inBlock 0 (qf R))
@[irreducible] def l3 (R:VP) (k:Nat):T3:=fun a b c d e f w=>aS [0,1,2,3,8] (C [1,0,0]) (q3 R) k (fr ((.slice a b c::(.int .i64 d::(.int .i64 e::(.func (.func 82) #[] #[]::U 4 (.int .i64 f::U 44 []))))))) w
def e3 (R:VP):T3:=fun a b c d e f w=>∃ k,l3 R k a b c d e f w
def q15 (R:VP) (k3:Nat):QT:=(Exit.inBlock 2 (Exit.inBlock 1 (qS none (C [1,0,0,1,1]) (qL [0,1,2,3,8] (C [1,0,0]) (q3 R) k3))))
def DZ (R:VP) (k3:Nat) (k:Nat):T15:=fun a b c d e f g w=>aS [0,1,2,3,8,9] (C [1,0,0,1,0,0,1,0,0]) (q15 R k3) k (fr ((.slice a b c::(.int .i64 d::(.int .i64 e::(.func (.func 82) #[] #[]::U 4 (.int .i64 f::(.int .i64 g::U 43 [])))))))) w
def OJ (R:VP) (k3:Nat):T15:=fun a b c d e f g w=>∃ k,DZ R k3 k a b c d e f g w
def l15 (R:VP) (b3:T3):Nat→T15
 | 0=>fun _ _ _ _ _ _ _ _=>False
 | k+1=>g15 R b3 (l15 R b3 k)
def e15 (R:VP) (b3:T3):T15:=fun a b c d e f g w=>∃ k,l15 R b3 k a b c d e f g w
theorem s15 (R:VP) (k3:Nat) (k:Nat):DZ R k3 (k+1)=fun a b c d e f g w=>∀ _:Nat→Value,g15 R (l3 R k3) (DZ R k3 k) a b c d e f g w:=by kernel_rfl
theorem Og (R:VP) (k3:Nat) (b3:T3) (hb3:b3=l3 R k3):∀ k,l15 R b3 k=DZ R k3 k
 | 0=>by kernel_rfl
 | k+1=>by
  rw [s15]
  simp only [forall_const]
  unfold l15
  have ih:=Og R k3 b3 hb3 k
  subst hb3
  rw [ih]
  all_goals rfl
theorem RU (R:VP) (k3:Nat) (b3:T3) (hb3:b3=l3 R k3):e15 R b3=OJ R k3:=by
 unfold e15 OJ
 simp only [Og R k3 b3 hb3]
theorem u3 (R k a b c d e f w):l3 R (k+1) a b c d e f w=g3 R (e15 R (l3 R k)) a b c d e f w:=by rw [RU R k _ rfl]; exact ju (by kernel_rfl)
end fM
def fM (R:VP):=fM.g0 R (fM.e3 R)
theorem fM.calls {R a b c d e w} (k:fM R a b c d e w):CA 100 #[.slice a b c,.int .i64 d,.int .i64 e,.func (.func 82) #[] #[]] w R:=cal (n:=fM.an) func100 rfl k (by kernel_rfl)
open Go.Proofs.Try (f101 func101)
namespace bF
def an:An:=(.mk none (aR (aL (aR (aR (.mk none (aL (.mk (some [0,1,4,10,11]) .nil .nil)) (aL (aR (aL (.mk (some [0,10,13]) .nil .nil))))))))) (.mk none (aR (aL (aR (aR (.mk none (aL (.mk (some [0,2,4,14,15]) .nil .nil)) (aL (aR (aL (.mk (some [0,14,17]) .nil .nil))))))))) (aR (aR (aR (.mk (some [0,1,2,3,4,18,19,20,21]) .nil (aR (.mk none (aL (.mk (some [0,1,2,3,4,18,19,20,21,22]) .nil .nil)) (aR (.mk (some [0,1,3,4,18,20,24]) .nil (.mk (some [0,3,4,18,24]) .nil .nil)))))))))))
def qf (R:VP):QT:=fin prog f101 R
def C:=cdN prog f101 an
abbrev T10:=OA→Nat→Nat→Int→Int→Int→World→Prop
abbrev T29:=OA→Nat→Nat→Int→Int→World→Prop
abbrev T52:=OA→Nat→Nat→Int→Int→Int→World→Prop
abbrev T71:=OA→Nat→Nat→Int→Int→World→Prop
abbrev Ig:=OA→Nat→Nat→Int→Int→Int→Int→Int→Int→Int→World→Prop
abbrev EE:=OA→Nat→Nat→Int→Int→Int→Int→Int→Int→Int→Int→World→Prop
abbrev IG:=OA→Nat→Nat→Int→Int→Int→Int→Int→World→Prop
abbrev JE:=OA→Nat→Nat→Int→Int→Int→World→Prop
def g0 (R:VP) (e10:T10) (e52:T52) (j100:Ig) (a:OA) (b c:Nat) (d e f:Int) (g:World):Prop :=
 nv (IntKind.i64.wrap (e - d)) fun h =>
 ae (h==1)
 (e10 a b c d e f g)
 (nv (IntKind.i64.wrap (f - e)) fun h =>
 ae (h==1)
 (e52 a b c e d e g)
 (nv (IntKind.i64.wrap (d+f)) fun h =>
 nv (IntKind.u64.wrap h) fun h =>
 nv (Int.fdiv h (2 ^ 1)) fun h =>
 nv (IntKind.i64.wrap h) fun h =>
 nv (IntKind.i64.wrap (h+e)) fun i =>
 ae (decide (e>h))
 (nv (IntKind.i64.wrap (i - f)) fun j =>
 j100 a b c d e f h i j h g)
 (j100 a b c d e f h i d e g)))
def g10 (R:VP) (b10:T10) (e29:T29) (a:OA) (b c:Nat) (d e f:Int) (g:World):Prop :=
 ae (decide (e<f))
 (nv (IntKind.i64.wrap (e+f)) fun h =>
 nv (IntKind.u64.wrap h) fun h =>
 nv (Int.fdiv h (2 ^ 1)) fun h =>
 nv (IntKind.i64.wrap h) fun h =>
 ix a b h fun i =>
 l9 g (i.add (h.toNat*10)) fun i j k l m n o p q r s t =>
 ix a b d fun u =>
 l9 g (u.add (d.toNat*10)) fun u v w x y z A B C D E F =>
 CA 82 #[vW i j k l m n o p q r s t,vW u v w x y z A B C D E F] g fun i j =>
 ∃ k,i = .int .i64 k ∧
 (ae (decide (k<0))
 (inc h fun i =>
 b10 a b c d i f j)
 (b10 a b c d e h j)))
 (e29 a b c e d g)
def g29 (R:VP) (b29:T29) (a:OA) (b c:Nat) (d e:Int) (f:World):Prop :=
 nv (IntKind.i64.wrap (d - 1)) fun g =>
 ae (decide (e<g))
 (∃ g:World,CK g f ∧
 (inc e fun h =>
 inc e fun i =>
 ix a b i fun j =>
 l9 f (j.add (i.toNat*10)) fun i j k l m n o p q r s t =>
 ix a b e fun u =>
 l9 f (u.add (e.toNat*10)) fun u v w x y z A B C D E F =>
 ix a b e fun G =>
 wH f (G.add (e.toNat*10)) i j k l m n o p q r s t fun i =>
 CK g i ∧
 (ix a b h fun g =>
 wH i (g.add (h.toNat*10)) u v w x y z A B C D E F fun g =>
 inc e fun e =>
 b29 a b c d e g)))
 (R (.tuple #[]) f)
def g52 (R:VP) (b52:T52) (e71:T71) (a:OA) (b c:Nat) (d e f:Int) (g:World):Prop :=
 ae (decide (e<f))
 (nv (IntKind.i64.wrap (e+f)) fun h =>
 nv (IntKind.u64.wrap h) fun h =>
 nv (Int.fdiv h (2 ^ 1)) fun h =>
 nv (IntKind.i64.wrap h) fun h =>
 ix a b d fun i =>
 l9 g (i.add (d.toNat*10)) fun i j k l m n o p q r s t =>
 ix a b h fun u =>
 l9 g (u.add (h.toNat*10)) fun u v w x y z A B C D E F =>
 CA 82 #[vW i j k l m n o p q r s t,vW u v w x y z A B C D E F] g fun i j =>
 ∃ k,i = .int .i64 k ∧
 (ae (!(decide (k<0)))
 (inc h fun i =>
 b52 a b c d i f j)
 (b52 a b c d e h j)))
 (e71 a b c e d g)
def g71 (R:VP) (b71:T71) (a:OA) (b c:Nat) (d e:Int) (f:World):Prop :=
 ae (decide (e>d))
 (∃ g:World,CK g f ∧
 (nv (IntKind.i64.wrap (e - 1)) fun h =>
 nv (IntKind.i64.wrap (e - 1)) fun i =>
 ix a b i fun j =>
 l9 f (j.add (i.toNat*10)) fun i j k l m n o p q r s t =>
 ix a b e fun u =>
 l9 f (u.add (e.toNat*10)) fun u v w x y z A B C D E F =>
 ix a b e fun G =>
 wH f (G.add (e.toNat*10)) i j k l m n o p q r s t fun i =>
 CK g i ∧
 (ix a b h fun g =>
 wH i (g.add (h.toNat*10)) u v w x y z A B C D E F fun g =>
 nv (IntKind.i64.wrap (e - 1)) fun e =>
 b71 a b c d e g)))
 (R (.tuple #[]) f)
def OL (R:VP) (DY:EE) (a:OA) (b c:Nat) (d e f g h i j:Int) (k:World):Prop :=
 nv (IntKind.i64.wrap (h - 1)) fun l =>
 DY a b c d e f g h i j l k
def RN (R:VP) (b104:EE) (j127:IG) (a:OA) (b c:Nat) (d e f g h i j k:Int) (l:World):Prop :=
 ae (decide (i<j))
 (nv (IntKind.i64.wrap (i+j)) fun m =>
 nv (IntKind.u64.wrap m) fun m =>
 nv (Int.fdiv m (2 ^ 1)) fun m =>
 nv (IntKind.i64.wrap m) fun m =>
 nv (IntKind.i64.wrap (k - m)) fun n =>
 ix a b n fun o =>
 l9 l (o.add (n.toNat*10)) fun n o p q r s t u v w x y =>
 ix a b m fun z =>
 l9 l (z.add (m.toNat*10)) fun z A B C D E F G H I J K =>
 CA 82 #[vW n o p q r s t u v w x y,vW z A B C D E F G H I J K] l fun n o =>
 ∃ p,n = .int .i64 p ∧
 (ae (!(decide (p<0)))
 (inc m fun n =>
 b104 a b c d e f g h n j k o)
 (b104 a b c d e f g h i m k o)))
 (nv (IntKind.i64.wrap (h - i)) fun h =>
 ae (decide (i<e))
 (ae (decide (e<h))
 (CA 107 #[.slice a b c,.int .i64 i,.int .i64 e,.int .i64 h,.func (.func 82) #[] #[]] l fun e j =>
 e = .tuple #[] ∧
 (j127 a b c d f g i h j))
 (j127 a b c d f g i h l))
 (j127 a b c d f g i h l))
def OG (R:VP) (j133:JE) (a:OA) (b c:Nat) (d e f g h:Int) (i:World):Prop :=
 ae (decide (d<g))
 (ae (decide (g<f))
 (CA 101 #[.slice a b c,.int .i64 d,.int .i64 g,.int .i64 f,.func (.func 82) #[] #[]] i fun d g =>
 d = .tuple #[] ∧
 (j133 a b c e f h g))
 (j133 a b c e f h i))
 (j133 a b c e f h i)
def Oa (R:VP) (a:OA) (b c:Nat) (d e f:Int) (g:World):Prop :=
 ae (decide (e<f))
 (ae (decide (f<d))
 (CA 101 #[.slice a b c,.int .i64 e,.int .i64 f,.int .i64 d,.func (.func 82) #[] #[]] g fun a b =>
 a = .tuple #[] ∧
 (R (.tuple #[]) b))
 (R (.tuple #[]) g))
 (R (.tuple #[]) g)
def q10 (R:VP):QT:=(Exit.inBlock 0 (qS none (C [0,1,0,1,1,1]) (qS none (C [1]) (qf R))))
@[irreducible] def l10 (R:VP) (k:Nat):T10:=fun a b c d e f w=>aS [0,1,4,10,11] (C [0,1,0,1,1,0,0,0]) (q10 R) k (fr ((.slice a b c::(.int .i64 d::U 2 (.func (.func 82) #[] #[]::U 5 (.int .i64 e::(.int .i64 f::U 208 []))))))) w
def e10 (R:VP):T10:=fun a b c d e f w=>∃ k,l10 R k a b c d e f w
def q29 (R:VP):QT:=(Exit.inBlock 2 (qS none (C [0,1,0,1,1,1,1]) (qS none (C [1]) (qf R))))
@[irreducible] def l29 (R:VP) (k:Nat):T29:=fun a b c d e w=>aS [0,10,13] (C [0,1,0,1,1,1,0,1,0,0]) (q29 R) k (fr ((.slice a b c::U 9 (.int .i64 d::U 2 (.int .i64 e::U 206 []))))) w
def e29 (R:VP):T29:=fun a b c d e w=>∃ k,l29 R k a b c d e w
def q52 (R:VP):QT:=(Exit.inBlock 4 (qS none (C [1,0,1,0,1,1,1]) (qS none (C [1,1]) (qf R))))
@[irreducible] def l52 (R:VP) (k:Nat):T52:=fun a b c d e f w=>aS [0,2,4,14,15] (C [1,0,1,0,1,1,0,0,0]) (q52 R) k (fr ((.slice a b c::U 1 (.int .i64 d::U 1 (.func (.func 82) #[] #[]::U 9 (.int .i64 e::(.int .i64 f::U 204 []))))))) w
def e52 (R:VP):T52:=fun a b c d e f w=>∃ k,l52 R k a b c d e f w
def q71 (R:VP):QT:=(Exit.inBlock 6 (qS none (C [1,0,1,0,1,1,1,1]) (qS none (C [1,1]) (qf R))))
@[irreducible] def l71 (R:VP) (k:Nat):T71:=fun a b c d e w=>aS [0,14,17] (C [1,0,1,0,1,1,1,0,1,0,0]) (q71 R) k (fr ((.slice a b c::U 13 (.int .i64 d::U 2 (.int .i64 e::U 202 []))))) w
def e71 (R:VP):T71:=fun a b c d e w=>∃ k,l71 R k a b c d e w
def Bc (R:VP):Ig:=fun a b c d e f g h i j w=>ji (some [0,1,2,3,4,18,19,20,21]) (C [1,1,1,1,1,1] (qf R)) (fr ((.slice a b c::(.int .i64 d::(.int .i64 e::(.int .i64 f::(.func (.func 82) #[] #[]::U 13 (.int .i64 g::(.int .i64 h::(.int .i64 i::(.int .i64 j::U 198 []))))))))))) w
def Oi (R:VP):QT:=(Exit.inBlock 8 (qS none (C [1,1,1,1,1,1,1,1]) (qf R)))
@[irreducible] def wF (R:VP) (k:Nat):EE:=fun a b c d e f g h i j l w=>aS [0,1,2,3,4,18,19,20,21,22] (C [1,1,1,1,1,1,1,0,0,0]) (Oi R) k (fr ((.slice a b c::(.int .i64 d::(.int .i64 e::(.int .i64 f::(.func (.func 82) #[] #[]::U 13 (.int .i64 g::(.int .i64 h::(.int .i64 i::(.int .i64 j::(.int .i64 l::U 197 [])))))))))))) w
def DY (R:VP):EE:=fun a b c d e f g h i j l w=>∃ k,wF R k a b c d e f g h i j l w
def Bi (R:VP):IG:=fun a b c d e f g h w=>ji (some [0,1,3,4,18,20,24]) (C [1,1,1,1,1,1,1,1,1,1] (qf R)) (fr ((.slice a b c::(.int .i64 d::U 1 (.int .i64 e::(.func (.func 82) #[] #[]::U 13 (.int .i64 f::U 1 (.int .i64 g::U 3 (.int .i64 h::U 195 []))))))))) w
def uI (R:VP):JE:=fun a b c d e f w=>ji (some [0,3,4,18,24]) (C [1,1,1,1,1,1,1,1,1,1,1] (qf R)) (fr ((.slice a b c::U 2 (.int .i64 d::(.func (.func 82) #[] #[]::U 13 (.int .i64 e::U 5 (.int .i64 f::U 195 []))))))) w
theorem u29 (R k a b c d e w):l29 R (k+1) a b c d e w=g29 R (l29 R k) a b c d e w:=ju (by kernel_rfl)
theorem u10 (R k a b c d e f w):l10 R (k+1) a b c d e f w=g10 R (l10 R k) (e29 R) a b c d e f w:=ju (by kernel_rfl)
theorem u71 (R k a b c d e w):l71 R (k+1) a b c d e w=g71 R (l71 R k) a b c d e w:=ju (by kernel_rfl)
theorem u52 (R k a b c d e f w):l52 R (k+1) a b c d e f w=g52 R (l52 R k) (e71 R) a b c d e f w:=ju (by kernel_rfl)
def j133 (R:VP):JE:=Oa R
theorem QY (R:VP):uI R=fun a b c d e f w=>∀ _:Nat→Value,Oa R a b c d e f w:=by kernel_rfl
theorem Jj (R:VP):j133 R=uI R:=by
  rw [QY]
  simp only [forall_const]
  unfold j133
  all_goals rfl
def j127 (R:VP):IG:=OG R (j133 R)
theorem SC (R:VP):Bi R=fun a b c d e f g h w=>∀ _:Nat→Value,OG R (uI R) a b c d e f g h w:=by kernel_rfl
theorem Ku (R:VP):j127 R=Bi R:=by
  rw [SC]
  simp only [forall_const]
  unfold j127
  rw [Jj R]
  all_goals rfl
theorem SI (R k a b c d e f g h i j l w):wF R (k+1) a b c d e f g h i j l w=RN R (wF R k) (j127 R) a b c d e f g h i j l w:=by rw [Ku R]; exact ju (by kernel_rfl)
def j100 (R:VP):Ig:=OL R (DY R)
theorem Tu (R:VP):Bc R=fun a b c d e f g h i j w=>∀ _:Nat→Value,OL R (DY R) a b c d e f g h i j w:=by kernel_rfl
theorem KE (R:VP):j100 R=Bc R:=by
  rw [Tu]
  simp only [forall_const]
  unfold j100
  all_goals rfl
end bF
def bF (R:VP):=bF.g0 R (bF.e10 R) (bF.e52 R) (bF.j100 R)
theorem bF.calls {R a b c d e f w} (k:bF R a b c d e f w):CA 101 #[.slice a b c,.int .i64 d,.int .i64 e,.int .i64 f,.func (.func 82) #[] #[]] w R:=cal (n:=bF.an) func101 rfl k (by unfold bF; rw [bF.KE R]; kernel_rfl)
open Go.Proofs.Try (f103 func103)
namespace jg
def an:An:=(aR (aL (.mk (some [0,1,2,3,8]) (aR (aL (aL (aR (aL (.mk (some [0,1,2,3,8,9]) .nil .nil)))))) .nil)))
def qf (R:VP):QT:=fin prog f103 R
def C:=cdN prog f103 an
abbrev T3:=OA→Nat→Nat→Int→Int→Addr→Int→World→Prop
abbrev T15:=OA→Nat→Nat→Int→Int→Addr→Int→Int→World→Prop
def g0 (R:VP) (e3:T3) (a:OA) (b c:Nat) (d e:Int) (f:Addr) (g:World):Prop :=
 inc d fun h =>
 e3 a b c d e f h g
def g3 (R:VP) (e15:T15) (a:OA) (b c:Nat) (d e:Int) (f:Addr) (g:Int) (h:World):Prop :=
 ae (decide (g<e))
 (e15 a b c d e f g g h)
 (R (.tuple #[]) h)
def g15 (R:VP) (b3:T3) (b15:T15) (a:OA) (b c:Nat) (d e:Int) (f:Addr) (g h:Int) (i:World):Prop :=
 ae (decide (h>d))
 (ix a b h fun j =>
 oW i (j.add (h.toNat*5)) fun j k l m n o p =>
 nv (IntKind.i64.wrap (h - 1)) fun q =>
 ix a b q fun r =>
 oW i (r.add (q.toNat*5)) fun q r s t u v w =>
 CA 88 #[pX j k l m n o p,pX q r s t u v w,.pointer (some f)] i fun j k =>
 ∃ l,j = .int .i64 l ∧
 (ae (decide (l<0))
 (∃ j:World,CK j k ∧
 (nv (IntKind.i64.wrap (h - 1)) fun l =>
 nv (IntKind.i64.wrap (h - 1)) fun m =>
 ix a b m fun n =>
 oW k (n.add (m.toNat*5)) fun m n o p q r s =>
 ix a b h fun t =>
 oW k (t.add (h.toNat*5)) fun t u v w x y z =>
 ix a b h fun A =>
 D9 k (A.add (h.toNat*5)) m n o p q r s fun m =>
 CK j m ∧
 (ix a b l fun j =>
 D9 m (j.add (l.toNat*5)) t u v w x y z fun j =>
 nv (IntKind.i64.wrap (h - 1)) fun h =>
 b15 a b c d e f g h j)))
 (inc g fun h =>
 b3 a b c d e f h k)))
 (inc g fun g =>
 b3 a b c d e f g i)
def q3 (R:VP):QT:=(Exit.inBlock 0 (qf R))
@[irreducible] def l3 (R:VP) (k:Nat):T3:=fun a b c d e f g w=>aS [0,1,2,3,8] (C [1,0,0]) (q3 R) k (fr ((.slice a b c::(.int .i64 d::(.int .i64 e::(.func (.func 88) #[] #[.pointer (some f)]::U 4 (.int .i64 g::U 44 []))))))) w
def e3 (R:VP):T3:=fun a b c d e f g w=>∃ k,l3 R k a b c d e f g w
def q15 (R:VP) (k3:Nat):QT:=(Exit.inBlock 2 (Exit.inBlock 1 (qS none (C [1,0,0,1,1]) (qL [0,1,2,3,8] (C [1,0,0]) (q3 R) k3))))
def DZ (R:VP) (k3:Nat) (k:Nat):T15:=fun a b c d e f g h w=>aS [0,1,2,3,8,9] (C [1,0,0,1,0,0,1,0,0]) (q15 R k3) k (fr ((.slice a b c::(.int .i64 d::(.int .i64 e::(.func (.func 88) #[] #[.pointer (some f)]::U 4 (.int .i64 g::(.int .i64 h::U 43 [])))))))) w
def OJ (R:VP) (k3:Nat):T15:=fun a b c d e f g h w=>∃ k,DZ R k3 k a b c d e f g h w
def l15 (R:VP) (b3:T3):Nat→T15
 | 0=>fun _ _ _ _ _ _ _ _ _=>False
 | k+1=>g15 R b3 (l15 R b3 k)
def e15 (R:VP) (b3:T3):T15:=fun a b c d e f g h w=>∃ k,l15 R b3 k a b c d e f g h w
theorem s15 (R:VP) (k3:Nat) (k:Nat):DZ R k3 (k+1)=fun a b c d e f g h w=>∀ _:Nat→Value,g15 R (l3 R k3) (DZ R k3 k) a b c d e f g h w:=by kernel_rfl
theorem Og (R:VP) (k3:Nat) (b3:T3) (hb3:b3=l3 R k3):∀ k,l15 R b3 k=DZ R k3 k
 | 0=>by kernel_rfl
 | k+1=>by
  rw [s15]
  simp only [forall_const]
  unfold l15
  have ih:=Og R k3 b3 hb3 k
  subst hb3
  rw [ih]
  all_goals rfl
theorem RU (R:VP) (k3:Nat) (b3:T3) (hb3:b3=l3 R k3):e15 R b3=OJ R k3:=by
 unfold e15 OJ
 simp only [Og R k3 b3 hb3]
theorem u3 (R k a b c d e f g w):l3 R (k+1) a b c d e f g w=g3 R (e15 R (l3 R k)) a b c d e f g w:=by rw [RU R k _ rfl]; exact ju (by kernel_rfl)
end jg
def jg (R:VP):=jg.g0 R (jg.e3 R)
theorem jg.calls {R a b c d e f w} (k:jg R a b c d e f w):CA 103 #[.slice a b c,.int .i64 d,.int .i64 e,.func (.func 88) #[] #[.pointer (some f)]] w R:=cal (n:=jg.an) func103 rfl k (by kernel_rfl)
open Go.Proofs.Try (f104 func104)
namespace dX
def an:An:=(.mk none (aR (aL (aR (aR (.mk none (aL (.mk (some [0,1,4,10,11]) .nil .nil)) (aL (aR (aL (.mk (some [0,10,13]) .nil .nil))))))))) (.mk none (aR (aL (aR (aR (.mk none (aL (.mk (some [0,2,4,14,15]) .nil .nil)) (aL (aR (aL (.mk (some [0,14,17]) .nil .nil))))))))) (aR (aR (aR (.mk (some [0,1,2,3,4,18,19,20,21]) .nil (aR (.mk none (aL (.mk (some [0,1,2,3,4,18,19,20,21,22]) .nil .nil)) (aR (.mk (some [0,1,3,4,18,20,24]) .nil (.mk (some [0,3,4,18,24]) .nil .nil)))))))))))
def qf (R:VP):QT:=fin prog f104 R
def C:=cdN prog f104 an
abbrev T10:=OA→Nat→Nat→Int→Addr→Int→Int→World→Prop
abbrev T29:=OA→Nat→Nat→Int→Int→World→Prop
abbrev T52:=OA→Nat→Nat→Int→Addr→Int→Int→World→Prop
abbrev T71:=OA→Nat→Nat→Int→Int→World→Prop
abbrev Ig:=OA→Nat→Nat→Int→Int→Int→Addr→Int→Int→Int→Int→World→Prop
abbrev EE:=OA→Nat→Nat→Int→Int→Int→Addr→Int→Int→Int→Int→Int→World→Prop
abbrev IG:=OA→Nat→Nat→Int→Int→Addr→Int→Int→Int→World→Prop
abbrev JE:=OA→Nat→Nat→Int→Addr→Int→Int→World→Prop
def g0 (R:VP) (e10:T10) (e52:T52) (j100:Ig) (a:OA) (b c:Nat) (d e f:Int) (g:Addr) (h:World):Prop :=
 nv (IntKind.i64.wrap (e - d)) fun i =>
 ae (i==1)
 (e10 a b c d g e f h)
 (nv (IntKind.i64.wrap (f - e)) fun i =>
 ae (i==1)
 (e52 a b c e g d e h)
 (nv (IntKind.i64.wrap (d+f)) fun i =>
 nv (IntKind.u64.wrap i) fun i =>
 nv (Int.fdiv i (2 ^ 1)) fun i =>
 nv (IntKind.i64.wrap i) fun i =>
 nv (IntKind.i64.wrap (i+e)) fun j =>
 ae (decide (e>i))
 (nv (IntKind.i64.wrap (j - f)) fun k =>
 j100 a b c d e f g i j k i h)
 (j100 a b c d e f g i j d e h)))
def g10 (R:VP) (b10:T10) (e29:T29) (a:OA) (b c:Nat) (d:Int) (e:Addr) (f g:Int) (h:World):Prop :=
 ae (decide (f<g))
 (nv (IntKind.i64.wrap (f+g)) fun i =>
 nv (IntKind.u64.wrap i) fun i =>
 nv (Int.fdiv i (2 ^ 1)) fun i =>
 nv (IntKind.i64.wrap i) fun i =>
 ix a b i fun j =>
 oW h (j.add (i.toNat*5)) fun j k l m n o p =>
 ix a b d fun q =>
 oW h (q.add (d.toNat*5)) fun q r s t u v w =>
 CA 88 #[pX j k l m n o p,pX q r s t u v w,.pointer (some e)] h fun j k =>
 ∃ l,j = .int .i64 l ∧
 (ae (decide (l<0))
 (inc i fun j =>
 b10 a b c d e j g k)
 (b10 a b c d e f i k)))
 (e29 a b c f d h)
def g29 (R:VP) (b29:T29) (a:OA) (b c:Nat) (d e:Int) (f:World):Prop :=
 nv (IntKind.i64.wrap (d - 1)) fun g =>
 ae (decide (e<g))
 (∃ g:World,CK g f ∧
 (inc e fun h =>
 inc e fun i =>
 ix a b i fun j =>
 oW f (j.add (i.toNat*5)) fun i j k l m n o =>
 ix a b e fun p =>
 oW f (p.add (e.toNat*5)) fun p q r s t u v =>
 ix a b e fun w =>
 D9 f (w.add (e.toNat*5)) i j k l m n o fun i =>
 CK g i ∧
 (ix a b h fun g =>
 D9 i (g.add (h.toNat*5)) p q r s t u v fun g =>
 inc e fun e =>
 b29 a b c d e g)))
 (R (.tuple #[]) f)
def g52 (R:VP) (b52:T52) (e71:T71) (a:OA) (b c:Nat) (d:Int) (e:Addr) (f g:Int) (h:World):Prop :=
 ae (decide (f<g))
 (nv (IntKind.i64.wrap (f+g)) fun i =>
 nv (IntKind.u64.wrap i) fun i =>
 nv (Int.fdiv i (2 ^ 1)) fun i =>
 nv (IntKind.i64.wrap i) fun i =>
 ix a b d fun j =>
 oW h (j.add (d.toNat*5)) fun j k l m n o p =>
 ix a b i fun q =>
 oW h (q.add (i.toNat*5)) fun q r s t u v w =>
 CA 88 #[pX j k l m n o p,pX q r s t u v w,.pointer (some e)] h fun j k =>
 ∃ l,j = .int .i64 l ∧
 (ae (!(decide (l<0)))
 (inc i fun j =>
 b52 a b c d e j g k)
 (b52 a b c d e f i k)))
 (e71 a b c f d h)
def g71 (R:VP) (b71:T71) (a:OA) (b c:Nat) (d e:Int) (f:World):Prop :=
 ae (decide (e>d))
 (∃ g:World,CK g f ∧
 (nv (IntKind.i64.wrap (e - 1)) fun h =>
 nv (IntKind.i64.wrap (e - 1)) fun i =>
 ix a b i fun j =>
 oW f (j.add (i.toNat*5)) fun i j k l m n o =>
 ix a b e fun p =>
 oW f (p.add (e.toNat*5)) fun p q r s t u v =>
 ix a b e fun w =>
 D9 f (w.add (e.toNat*5)) i j k l m n o fun i =>
 CK g i ∧
 (ix a b h fun g =>
 D9 i (g.add (h.toNat*5)) p q r s t u v fun g =>
 nv (IntKind.i64.wrap (e - 1)) fun e =>
 b71 a b c d e g)))
 (R (.tuple #[]) f)
def OL (R:VP) (DY:EE) (a:OA) (b c:Nat) (d e f:Int) (g:Addr) (h i j k:Int) (l:World):Prop :=
 nv (IntKind.i64.wrap (i - 1)) fun m =>
 DY a b c d e f g h i j k m l
def RN (R:VP) (b104:EE) (j127:IG) (a:OA) (b c:Nat) (d e f:Int) (g:Addr) (h i j k l:Int) (m:World):Prop :=
 ae (decide (j<k))
 (nv (IntKind.i64.wrap (j+k)) fun n =>
 nv (IntKind.u64.wrap n) fun n =>
 nv (Int.fdiv n (2 ^ 1)) fun n =>
 nv (IntKind.i64.wrap n) fun n =>
 nv (IntKind.i64.wrap (l - n)) fun o =>
 ix a b o fun p =>
 oW m (p.add (o.toNat*5)) fun o p q r s t u =>
 ix a b n fun v =>
 oW m (v.add (n.toNat*5)) fun v w x y z A B =>
 CA 88 #[pX o p q r s t u,pX v w x y z A B,.pointer (some g)] m fun o p =>
 ∃ q,o = .int .i64 q ∧
 (ae (!(decide (q<0)))
 (inc n fun o =>
 b104 a b c d e f g h i o k l p)
 (b104 a b c d e f g h i j n l p)))
 (nv (IntKind.i64.wrap (i - j)) fun i =>
 ae (decide (j<e))
 (ae (decide (e<i))
 (CA 110 #[.slice a b c,.int .i64 j,.int .i64 e,.int .i64 i,.func (.func 88) #[] #[.pointer (some g)]] m fun e k =>
 e = .tuple #[] ∧
 (j127 a b c d f g h j i k))
 (j127 a b c d f g h j i m))
 (j127 a b c d f g h j i m))
def OG (R:VP) (j133:JE) (a:OA) (b c:Nat) (d e:Int) (f:Addr) (g h i:Int) (j:World):Prop :=
 ae (decide (d<h))
 (ae (decide (h<g))
 (CA 104 #[.slice a b c,.int .i64 d,.int .i64 h,.int .i64 g,.func (.func 88) #[] #[.pointer (some f)]] j fun d h =>
 d = .tuple #[] ∧
 (j133 a b c e f g i h))
 (j133 a b c e f g i j))
 (j133 a b c e f g i j)
def Oa (R:VP) (a:OA) (b c:Nat) (d:Int) (e:Addr) (f g:Int) (h:World):Prop :=
 ae (decide (f<g))
 (ae (decide (g<d))
 (CA 104 #[.slice a b c,.int .i64 f,.int .i64 g,.int .i64 d,.func (.func 88) #[] #[.pointer (some e)]] h fun a b =>
 a = .tuple #[] ∧
 (R (.tuple #[]) b))
 (R (.tuple #[]) h))
 (R (.tuple #[]) h)
def q10 (R:VP):QT:=(Exit.inBlock 0 (qS none (C [0,1,0,1,1,1]) (qS none (C [1]) (qf R))))
@[irreducible] def l10 (R:VP) (k:Nat):T10:=fun a b c d e f g w=>aS [0,1,4,10,11] (C [0,1,0,1,1,0,0,0]) (q10 R) k (fr ((.slice a b c::(.int .i64 d::U 2 (.func (.func 88) #[] #[.pointer (some e)]::U 5 (.int .i64 f::(.int .i64 g::U 208 []))))))) w
def e10 (R:VP):T10:=fun a b c d e f g w=>∃ k,l10 R k a b c d e f g w
def q29 (R:VP):QT:=(Exit.inBlock 2 (qS none (C [0,1,0,1,1,1,1]) (qS none (C [1]) (qf R))))
@[irreducible] def l29 (R:VP) (k:Nat):T29:=fun a b c d e w=>aS [0,10,13] (C [0,1,0,1,1,1,0,1,0,0]) (q29 R) k (fr ((.slice a b c::U 9 (.int .i64 d::U 2 (.int .i64 e::U 206 []))))) w
def e29 (R:VP):T29:=fun a b c d e w=>∃ k,l29 R k a b c d e w
def q52 (R:VP):QT:=(Exit.inBlock 4 (qS none (C [1,0,1,0,1,1,1]) (qS none (C [1,1]) (qf R))))
@[irreducible] def l52 (R:VP) (k:Nat):T52:=fun a b c d e f g w=>aS [0,2,4,14,15] (C [1,0,1,0,1,1,0,0,0]) (q52 R) k (fr ((.slice a b c::U 1 (.int .i64 d::U 1 (.func (.func 88) #[] #[.pointer (some e)]::U 9 (.int .i64 f::(.int .i64 g::U 204 []))))))) w
def e52 (R:VP):T52:=fun a b c d e f g w=>∃ k,l52 R k a b c d e f g w
def q71 (R:VP):QT:=(Exit.inBlock 6 (qS none (C [1,0,1,0,1,1,1,1]) (qS none (C [1,1]) (qf R))))
@[irreducible] def l71 (R:VP) (k:Nat):T71:=fun a b c d e w=>aS [0,14,17] (C [1,0,1,0,1,1,1,0,1,0,0]) (q71 R) k (fr ((.slice a b c::U 13 (.int .i64 d::U 2 (.int .i64 e::U 202 []))))) w
def e71 (R:VP):T71:=fun a b c d e w=>∃ k,l71 R k a b c d e w
def Bc (R:VP):Ig:=fun a b c d e f g h i j l w=>ji (some [0,1,2,3,4,18,19,20,21]) (C [1,1,1,1,1,1] (qf R)) (fr ((.slice a b c::(.int .i64 d::(.int .i64 e::(.int .i64 f::(.func (.func 88) #[] #[.pointer (some g)]::U 13 (.int .i64 h::(.int .i64 i::(.int .i64 j::(.int .i64 l::U 198 []))))))))))) w
def Oi (R:VP):QT:=(Exit.inBlock 8 (qS none (C [1,1,1,1,1,1,1,1]) (qf R)))
@[irreducible] def wF (R:VP) (k:Nat):EE:=fun a b c d e f g h i j l m w=>aS [0,1,2,3,4,18,19,20,21,22] (C [1,1,1,1,1,1,1,0,0,0]) (Oi R) k (fr ((.slice a b c::(.int .i64 d::(.int .i64 e::(.int .i64 f::(.func (.func 88) #[] #[.pointer (some g)]::U 13 (.int .i64 h::(.int .i64 i::(.int .i64 j::(.int .i64 l::(.int .i64 m::U 197 [])))))))))))) w
def DY (R:VP):EE:=fun a b c d e f g h i j l m w=>∃ k,wF R k a b c d e f g h i j l m w
def Bi (R:VP):IG:=fun a b c d e f g h i w=>ji (some [0,1,3,4,18,20,24]) (C [1,1,1,1,1,1,1,1,1,1] (qf R)) (fr ((.slice a b c::(.int .i64 d::U 1 (.int .i64 e::(.func (.func 88) #[] #[.pointer (some f)]::U 13 (.int .i64 g::U 1 (.int .i64 h::U 3 (.int .i64 i::U 195 []))))))))) w
def uI (R:VP):JE:=fun a b c d e f g w=>ji (some [0,3,4,18,24]) (C [1,1,1,1,1,1,1,1,1,1,1] (qf R)) (fr ((.slice a b c::U 2 (.int .i64 d::(.func (.func 88) #[] #[.pointer (some e)]::U 13 (.int .i64 f::U 5 (.int .i64 g::U 195 []))))))) w
theorem u29 (R k a b c d e w):l29 R (k+1) a b c d e w=g29 R (l29 R k) a b c d e w:=ju (by kernel_rfl)
theorem u10 (R k a b c d e f g w):l10 R (k+1) a b c d e f g w=g10 R (l10 R k) (e29 R) a b c d e f g w:=ju (by kernel_rfl)
theorem u71 (R k a b c d e w):l71 R (k+1) a b c d e w=g71 R (l71 R k) a b c d e w:=ju (by kernel_rfl)
theorem u52 (R k a b c d e f g w):l52 R (k+1) a b c d e f g w=g52 R (l52 R k) (e71 R) a b c d e f g w:=ju (by kernel_rfl)
def j133 (R:VP):JE:=Oa R
theorem QY (R:VP):uI R=fun a b c d e f g w=>∀ _:Nat→Value,Oa R a b c d e f g w:=by kernel_rfl
theorem Jj (R:VP):j133 R=uI R:=by
  rw [QY]
  simp only [forall_const]
  unfold j133
  all_goals rfl
def j127 (R:VP):IG:=OG R (j133 R)
theorem SC (R:VP):Bi R=fun a b c d e f g h i w=>∀ _:Nat→Value,OG R (uI R) a b c d e f g h i w:=by kernel_rfl
theorem Ku (R:VP):j127 R=Bi R:=by
  rw [SC]
  simp only [forall_const]
  unfold j127
  rw [Jj R]
  all_goals rfl
theorem SI (R k a b c d e f g h i j l m w):wF R (k+1) a b c d e f g h i j l m w=RN R (wF R k) (j127 R) a b c d e f g h i j l m w:=by rw [Ku R]; exact ju (by kernel_rfl)
def j100 (R:VP):Ig:=OL R (DY R)
theorem Tu (R:VP):Bc R=fun a b c d e f g h i j l w=>∀ _:Nat→Value,OL R (DY R) a b c d e f g h i j l w:=by kernel_rfl
theorem KE (R:VP):j100 R=Bc R:=by
  rw [Tu]
  simp only [forall_const]
  unfold j100
  all_goals rfl
end dX
def dX (R:VP):=dX.g0 R (dX.e10 R) (dX.e52 R) (dX.j100 R)
theorem dX.calls {R a b c d e f g w} (k:dX R a b c d e f g w):CA 104 #[.slice a b c,.int .i64 d,.int .i64 e,.int .i64 f,.func (.func 88) #[] #[.pointer (some g)]] w R:=cal (n:=dX.an) func104 rfl k (by unfold dX; rw [dX.KE R]; kernel_rfl)
open Go.Proofs.Try (f105 func105)
namespace ig
def an:An:=(aR (aL (.mk (some [0,1,2,3,8]) (aR (aL (aL (aR (aL (.mk (some [0,1,2,3,8,9]) .nil .nil)))))) .nil)))
def qf (R:VP):QT:=fin prog f105 R
def C:=cdN prog f105 an
abbrev T3:=OA→Nat→Nat→Int→Int→Addr→Int→World→Prop
abbrev T15:=OA→Nat→Nat→Int→Int→Addr→Int→Int→World→Prop
def g0 (R:VP) (e3:T3) (a:OA) (b c:Nat) (d e:Int) (f:Addr) (g:World):Prop :=
 inc d fun h =>
 e3 a b c d e f h g
def g3 (R:VP) (e15:T15) (a:OA) (b c:Nat) (d e:Int) (f:Addr) (g:Int) (h:World):Prop :=
 ae (decide (g<e))
 (e15 a b c d e f g g h)
 (R (.tuple #[]) h)
def g15 (R:VP) (b3:T3) (b15:T15) (a:OA) (b c:Nat) (d e:Int) (f:Addr) (g h:Int) (i:World):Prop :=
 ae (decide (h>d))
 (ix a b h fun j =>
 sV i (j.add (h.toNat*4)) fun j k l m n o p q r s =>
 nv (IntKind.i64.wrap (h - 1)) fun t =>
 ix a b t fun u =>
 sV i (u.add (t.toNat*4)) fun t u v w x y z A B C =>
 CA 91 #[yB j k l m n o p q r s,yB t u v w x y z A B C,.pointer (some f)] i fun j k =>
 ∃ l,j = .int .i64 l ∧
 (ae (decide (l<0))
 (∃ j:World,CK j k ∧
 (nv (IntKind.i64.wrap (h - 1)) fun l =>
 nv (IntKind.i64.wrap (h - 1)) fun m =>
 ix a b m fun n =>
 sV k (n.add (m.toNat*4)) fun m n o p q r s t u v =>
 ix a b h fun w =>
 sV k (w.add (h.toNat*4)) fun w x y z A B C D E F =>
 ix a b h fun G =>
 GY k (G.add (h.toNat*4)) m n o p q r s t u v fun m =>
 CK j m ∧
 (ix a b l fun j =>
 GY m (j.add (l.toNat*4)) w x y z A B C D E F fun j =>
 nv (IntKind.i64.wrap (h - 1)) fun h =>
 b15 a b c d e f g h j)))
 (inc g fun h =>
 b3 a b c d e f h k)))
 (inc g fun g =>
 b3 a b c d e f g i)
def q3 (R:VP):QT:=(Exit.inBlock 0 (qf R))
@[irreducible] def l3 (R:VP) (k:Nat):T3:=fun a b c d e f g w=>aS [0,1,2,3,8] (C [1,0,0]) (q3 R) k (fr ((.slice a b c::(.int .i64 d::(.int .i64 e::(.func (.func 91) #[] #[.pointer (some f)]::U 4 (.int .i64 g::U 44 []))))))) w
def e3 (R:VP):T3:=fun a b c d e f g w=>∃ k,l3 R k a b c d e f g w
def q15 (R:VP) (k3:Nat):QT:=(Exit.inBlock 2 (Exit.inBlock 1 (qS none (C [1,0,0,1,1]) (qL [0,1,2,3,8] (C [1,0,0]) (q3 R) k3))))
def DZ (R:VP) (k3:Nat) (k:Nat):T15:=fun a b c d e f g h w=>aS [0,1,2,3,8,9] (C [1,0,0,1,0,0,1,0,0]) (q15 R k3) k (fr ((.slice a b c::(.int .i64 d::(.int .i64 e::(.func (.func 91) #[] #[.pointer (some f)]::U 4 (.int .i64 g::(.int .i64 h::U 43 [])))))))) w
def OJ (R:VP) (k3:Nat):T15:=fun a b c d e f g h w=>∃ k,DZ R k3 k a b c d e f g h w
def l15 (R:VP) (b3:T3):Nat→T15
 | 0=>fun _ _ _ _ _ _ _ _ _=>False
 | k+1=>g15 R b3 (l15 R b3 k)
def e15 (R:VP) (b3:T3):T15:=fun a b c d e f g h w=>∃ k,l15 R b3 k a b c d e f g h w
theorem s15 (R:VP) (k3:Nat) (k:Nat):DZ R k3 (k+1)=fun a b c d e f g h w=>∀ _:Nat→Value,g15 R (l3 R k3) (DZ R k3 k) a b c d e f g h w:=by kernel_rfl
theorem Og (R:VP) (k3:Nat) (b3:T3) (hb3:b3=l3 R k3):∀ k,l15 R b3 k=DZ R k3 k
 | 0=>by kernel_rfl
 | k+1=>by
  rw [s15]
  simp only [forall_const]
  unfold l15
  have ih:=Og R k3 b3 hb3 k
  subst hb3
  rw [ih]
  all_goals rfl
theorem RU (R:VP) (k3:Nat) (b3:T3) (hb3:b3=l3 R k3):e15 R b3=OJ R k3:=by
 unfold e15 OJ
 simp only [Og R k3 b3 hb3]
theorem u3 (R k a b c d e f g w):l3 R (k+1) a b c d e f g w=g3 R (e15 R (l3 R k)) a b c d e f g w:=by rw [RU R k _ rfl]; exact ju (by kernel_rfl)
end ig
def ig (R:VP):=ig.g0 R (ig.e3 R)
theorem ig.calls {R a b c d e f w} (k:ig R a b c d e f w):CA 105 #[.slice a b c,.int .i64 d,.int .i64 e,.func (.func 91) #[] #[.pointer (some f)]] w R:=cal (n:=ig.an) func105 rfl k (by kernel_rfl)
end Go.Mir
set_option linter.unusedVariables false
set_option maxRecDepth 100000
namespace Go.Mir
open Go Go.E Go.RowKit
open Go.Proofs.Try (prog)
open Go.Proofs.Try (f106 func106)
namespace dm
def an:An:=(.mk none (aR (aL (aR (aR (.mk none (aL (.mk (some [0,1,4,10,11]) .nil .nil)) (aL (aR (aL (.mk (some [0,10,13]) .nil .nil))))))))) (.mk none (aR (aL (aR (aR (.mk none (aL (.mk (some [0,2,4,14,15]) .nil .nil)) (aL (aR (aL (.mk (some [0,14,17]) .nil .nil))))))))) (aR (aR (aR (.mk (some [0,1,2,3,4,18,19,20,21]) .nil (aR (.mk none (aL (.mk (some [0,1,2,3,4,18,19,20,21,22]) .nil .nil)) (aR (.mk (some [0,1,3,4,18,20,24]) .nil (.mk (some [0,3,4,18,24]) .nil .nil)))))))))))
def qf (R:VP):QT:=fin prog f106 R
def C:=cdN prog f106 an
abbrev T10:=OA→Nat→Nat→Int→Addr→Int→Int→World→Prop
abbrev T29:=OA→Nat→Nat→Int→Int→World→Prop
abbrev T52:=OA→Nat→Nat→Int→Addr→Int→Int→World→Prop
abbrev T71:=OA→Nat→Nat→Int→Int→World→Prop
abbrev Ig:=OA→Nat→Nat→Int→Int→Int→Addr→Int→Int→Int→Int→World→Prop
abbrev EE:=OA→Nat→Nat→Int→Int→Int→Addr→Int→Int→Int→Int→Int→World→Prop
abbrev IG:=OA→Nat→Nat→Int→Int→Addr→Int→Int→Int→World→Prop
abbrev JE:=OA→Nat→Nat→Int→Addr→Int→Int→World→Prop
def g0 (R:VP) (e10:T10) (e52:T52) (j100:Ig) (a:OA) (b c:Nat) (d e f:Int) (g:Addr) (h:World):Prop :=
 nv (IntKind.i64.wrap (e - d)) fun i =>
 ae (i==1)
 (e10 a b c d g e f h)
 (nv (IntKind.i64.wrap (f - e)) fun i =>
 ae (i==1)
 (e52 a b c e g d e h)
 (nv (IntKind.i64.wrap (d+f)) fun i =>
 nv (IntKind.u64.wrap i) fun i =>
 nv (Int.fdiv i (2 ^ 1)) fun i =>
 nv (IntKind.i64.wrap i) fun i =>
 nv (IntKind.i64.wrap (i+e)) fun j =>
 ae (decide (e>i))
 (nv (IntKind.i64.wrap (j - f)) fun k =>
 j100 a b c d e f g i j k i h)
 (j100 a b c d e f g i j d e h)))
def g10 (R:VP) (b10:T10) (e29:T29) (a:OA) (b c:Nat) (d:Int) (e:Addr) (f g:Int) (h:World):Prop :=
 ae (decide (f<g))
 (nv (IntKind.i64.wrap (f+g)) fun i =>
 nv (IntKind.u64.wrap i) fun i =>
 nv (Int.fdiv i (2 ^ 1)) fun i =>
 nv (IntKind.i64.wrap i) fun i =>
 ix a b i fun j =>
 sV h (j.add (i.toNat*4)) fun j k l m n o p q r s =>
 ix a b d fun t =>
 sV h (t.add (d.toNat*4)) fun t u v w x y z A B C =>
 CA 91 #[yB j k l m n o p q r s,yB t u v w x y z A B C,.pointer (some e)] h fun j k =>
 ∃ l,j = .int .i64 l ∧
 (ae (decide (l<0))
 (inc i fun j =>
 b10 a b c d e j g k)
 (b10 a b c d e f i k)))
 (e29 a b c f d h)
def g29 (R:VP) (b29:T29) (a:OA) (b c:Nat) (d e:Int) (f:World):Prop :=
 nv (IntKind.i64.wrap (d - 1)) fun g =>
 ae (decide (e<g))
 (∃ g:World,CK g f ∧
 (inc e fun h =>
 inc e fun i =>
 ix a b i fun j =>
 sV f (j.add (i.toNat*4)) fun i j k l m n o p q r =>
 ix a b e fun s =>
 sV f (s.add (e.toNat*4)) fun s t u v w x y z A B =>
 ix a b e fun C =>
 GY f (C.add (e.toNat*4)) i j k l m n o p q r fun i =>
 CK g i ∧
 (ix a b h fun g =>
 GY i (g.add (h.toNat*4)) s t u v w x y z A B fun g =>
 inc e fun e =>
 b29 a b c d e g)))
 (R (.tuple #[]) f)
def g52 (R:VP) (b52:T52) (e71:T71) (a:OA) (b c:Nat) (d:Int) (e:Addr) (f g:Int) (h:World):Prop :=
 ae (decide (f<g))
 (nv (IntKind.i64.wrap (f+g)) fun i =>
 nv (IntKind.u64.wrap i) fun i =>
 nv (Int.fdiv i (2 ^ 1)) fun i =>
 nv (IntKind.i64.wrap i) fun i =>
 ix a b d fun j =>
 sV h (j.add (d.toNat*4)) fun j k l m n o p q r s =>
 ix a b i fun t =>
 sV h (t.add (i.toNat*4)) fun t u v w x y z A B C =>
 CA 91 #[yB j k l m n o p q r s,yB t u v w x y z A B C,.pointer (some e)] h fun j k =>
 ∃ l,j = .int .i64 l ∧
 (ae (!(decide (l<0)))
 (inc i fun j =>
 b52 a b c d e j g k)
 (b52 a b c d e f i k)))
 (e71 a b c f d h)
def g71 (R:VP) (b71:T71) (a:OA) (b c:Nat) (d e:Int) (f:World):Prop :=
 ae (decide (e>d))
 (∃ g:World,CK g f ∧
 (nv (IntKind.i64.wrap (e - 1)) fun h =>
 nv (IntKind.i64.wrap (e - 1)) fun i =>
 ix a b i fun j =>
 sV f (j.add (i.toNat*4)) fun i j k l m n o p q r =>
 ix a b e fun s =>
 sV f (s.add (e.toNat*4)) fun s t u v w x y z A B =>
 ix a b e fun C =>
 GY f (C.add (e.toNat*4)) i j k l m n o p q r fun i =>
 CK g i ∧
 (ix a b h fun g =>
 GY i (g.add (h.toNat*4)) s t u v w x y z A B fun g =>
 nv (IntKind.i64.wrap (e - 1)) fun e =>
 b71 a b c d e g)))
 (R (.tuple #[]) f)
def OL (R:VP) (DY:EE) (a:OA) (b c:Nat) (d e f:Int) (g:Addr) (h i j k:Int) (l:World):Prop :=
 nv (IntKind.i64.wrap (i - 1)) fun m =>
 DY a b c d e f g h i j k m l
def RN (R:VP) (b104:EE) (j127:IG) (a:OA) (b c:Nat) (d e f:Int) (g:Addr) (h i j k l:Int) (m:World):Prop :=
 ae (decide (j<k))
 (nv (IntKind.i64.wrap (j+k)) fun n =>
 nv (IntKind.u64.wrap n) fun n =>
 nv (Int.fdiv n (2 ^ 1)) fun n =>
 nv (IntKind.i64.wrap n) fun n =>
 nv (IntKind.i64.wrap (l - n)) fun o =>
 ix a b o fun p =>
 sV m (p.add (o.toNat*4)) fun o p q r s t u v w x =>
 ix a b n fun y =>
 sV m (y.add (n.toNat*4)) fun y z A B C D E F G H =>
 CA 91 #[yB o p q r s t u v w x,yB y z A B C D E F G H,.pointer (some g)] m fun o p =>
 ∃ q,o = .int .i64 q ∧
 (ae (!(decide (q<0)))
 (inc n fun o =>
 b104 a b c d e f g h i o k l p)
 (b104 a b c d e f g h i j n l p)))
 (nv (IntKind.i64.wrap (i - j)) fun i =>
 ae (decide (j<e))
 (ae (decide (e<i))
 (CA 111 #[.slice a b c,.int .i64 j,.int .i64 e,.int .i64 i,.func (.func 91) #[] #[.pointer (some g)]] m fun e k =>
 e = .tuple #[] ∧
 (j127 a b c d f g h j i k))
 (j127 a b c d f g h j i m))
 (j127 a b c d f g h j i m))
def OG (R:VP) (j133:JE) (a:OA) (b c:Nat) (d e:Int) (f:Addr) (g h i:Int) (j:World):Prop :=
 ae (decide (d<h))
 (ae (decide (h<g))
 (CA 106 #[.slice a b c,.int .i64 d,.int .i64 h,.int .i64 g,.func (.func 91) #[] #[.pointer (some f)]] j fun d h =>
 d = .tuple #[] ∧
 (j133 a b c e f g i h))
 (j133 a b c e f g i j))
 (j133 a b c e f g i j)
def Oa (R:VP) (a:OA) (b c:Nat) (d:Int) (e:Addr) (f g:Int) (h:World):Prop :=
 ae (decide (f<g))
 (ae (decide (g<d))
 (CA 106 #[.slice a b c,.int .i64 f,.int .i64 g,.int .i64 d,.func (.func 91) #[] #[.pointer (some e)]] h fun a b =>
 a = .tuple #[] ∧
 (R (.tuple #[]) b))
 (R (.tuple #[]) h))
 (R (.tuple #[]) h)
def q10 (R:VP):QT:=(Exit.inBlock 0 (qS none (C [0,1,0,1,1,1]) (qS none (C [1]) (qf R))))
@[irreducible] def l10 (R:VP) (k:Nat):T10:=fun a b c d e f g w=>aS [0,1,4,10,11] (C [0,1,0,1,1,0,0,0]) (q10 R) k (fr ((.slice a b c::(.int .i64 d::U 2 (.func (.func 91) #[] #[.pointer (some e)]::U 5 (.int .i64 f::(.int .i64 g::U 208 []))))))) w
def e10 (R:VP):T10:=fun a b c d e f g w=>∃ k,l10 R k a b c d e f g w
def q29 (R:VP):QT:=(Exit.inBlock 2 (qS none (C [0,1,0,1,1,1,1]) (qS none (C [1]) (qf R))))
@[irreducible] def l29 (R:VP) (k:Nat):T29:=fun a b c d e w=>aS [0,10,13] (C [0,1,0,1,1,1,0,1,0,0]) (q29 R) k (fr ((.slice a b c::U 9 (.int .i64 d::U 2 (.int .i64 e::U 206 []))))) w
def e29 (R:VP):T29:=fun a b c d e w=>∃ k,l29 R k a b c d e w
def q52 (R:VP):QT:=(Exit.inBlock 4 (qS none (C [1,0,1,0,1,1,1]) (qS none (C [1,1]) (qf R))))
@[irreducible] def l52 (R:VP) (k:Nat):T52:=fun a b c d e f g w=>aS [0,2,4,14,15] (C [1,0,1,0,1,1,0,0,0]) (q52 R) k (fr ((.slice a b c::U 1 (.int .i64 d::U 1 (.func (.func 91) #[] #[.pointer (some e)]::U 9 (.int .i64 f::(.int .i64 g::U 204 []))))))) w
def e52 (R:VP):T52:=fun a b c d e f g w=>∃ k,l52 R k a b c d e f g w
def q71 (R:VP):QT:=(Exit.inBlock 6 (qS none (C [1,0,1,0,1,1,1,1]) (qS none (C [1,1]) (qf R))))
@[irreducible] def l71 (R:VP) (k:Nat):T71:=fun a b c d e w=>aS [0,14,17] (C [1,0,1,0,1,1,1,0,1,0,0]) (q71 R) k (fr ((.slice a b c::U 13 (.int .i64 d::U 2 (.int .i64 e::U 202 []))))) w
def e71 (R:VP):T71:=fun a b c d e w=>∃ k,l71 R k a b c d e w
def Bc (R:VP):Ig:=fun a b c d e f g h i j l w=>ji (some [0,1,2,3,4,18,19,20,21]) (C [1,1,1,1,1,1] (qf R)) (fr ((.slice a b c::(.int .i64 d::(.int .i64 e::(.int .i64 f::(.func (.func 91) #[] #[.pointer (some g)]::U 13 (.int .i64 h::(.int .i64 i::(.int .i64 j::(.int .i64 l::U 198 []))))))))))) w
def Oi (R:VP):QT:=(Exit.inBlock 8 (qS none (C [1,1,1,1,1,1,1,1]) (qf R)))
@[irreducible] def wF (R:VP) (k:Nat):EE:=fun a b c d e f g h i j l m w=>aS [0,1,2,3,4,18,19,20,21,22] (C [1,1,1,1,1,1,1,0,0,0]) (Oi R) k (fr ((.slice a b c::(.int .i64 d::(.int .i64 e::(.int .i64 f::(.func (.func 91) #[] #[.pointer (some g)]::U 13 (.int .i64 h::(.int .i64 i::(.int .i64 j::(.int .i64 l::(.int .i64 m::U 197 [])))))))))))) w
def DY (R:VP):EE:=fun a b c d e f g h i j l m w=>∃ k,wF R k a b c d e f g h i j l m w
def Bi (R:VP):IG:=fun a b c d e f g h i w=>ji (some [0,1,3,4,18,20,24]) (C [1,1,1,1,1,1,1,1,1,1] (qf R)) (fr ((.slice a b c::(.int .i64 d::U 1 (.int .i64 e::(.func (.func 91) #[] #[.pointer (some f)]::U 13 (.int .i64 g::U 1 (.int .i64 h::U 3 (.int .i64 i::U 195 []))))))))) w
def uI (R:VP):JE:=fun a b c d e f g w=>ji (some [0,3,4,18,24]) (C [1,1,1,1,1,1,1,1,1,1,1] (qf R)) (fr ((.slice a b c::U 2 (.int .i64 d::(.func (.func 91) #[] #[.pointer (some e)]::U 13 (.int .i64 f::U 5 (.int .i64 g::U 195 []))))))) w
theorem u29 (R k a b c d e w):l29 R (k+1) a b c d e w=g29 R (l29 R k) a b c d e w:=ju (by kernel_rfl)
theorem u10 (R k a b c d e f g w):l10 R (k+1) a b c d e f g w=g10 R (l10 R k) (e29 R) a b c d e f g w:=ju (by kernel_rfl)
theorem u71 (R k a b c d e w):l71 R (k+1) a b c d e w=g71 R (l71 R k) a b c d e w:=ju (by kernel_rfl)
theorem u52 (R k a b c d e f g w):l52 R (k+1) a b c d e f g w=g52 R (l52 R k) (e71 R) a b c d e f g w:=ju (by kernel_rfl)
def j133 (R:VP):JE:=Oa R
theorem QY (R:VP):uI R=fun a b c d e f g w=>∀ _:Nat→Value,Oa R a b c d e f g w:=by kernel_rfl
theorem Jj (R:VP):j133 R=uI R:=by
  rw [QY]
  simp only [forall_const]
  unfold j133
  all_goals rfl
def j127 (R:VP):IG:=OG R (j133 R)
theorem SC (R:VP):Bi R=fun a b c d e f g h i w=>∀ _:Nat→Value,OG R (uI R) a b c d e f g h i w:=by kernel_rfl
theorem Ku (R:VP):j127 R=Bi R:=by
  rw [SC]
  simp only [forall_const]
  unfold j127
  rw [Jj R]
  all_goals rfl
theorem SI (R k a b c d e f g h i j l m w):wF R (k+1) a b c d e f g h i j l m w=RN R (wF R k) (j127 R) a b c d e f g h i j l m w:=by rw [Ku R]; exact ju (by kernel_rfl)
def j100 (R:VP):Ig:=OL R (DY R)
theorem Tu (R:VP):Bc R=fun a b c d e f g h i j l w=>∀ _:Nat→Value,OL R (DY R) a b c d e f g h i j l w:=by kernel_rfl
theorem KE (R:VP):j100 R=Bc R:=by
  rw [Tu]
  simp only [forall_const]
  unfold j100
  all_goals rfl
end dm
def dm (R:VP):=dm.g0 R (dm.e10 R) (dm.e52 R) (dm.j100 R)
theorem dm.calls {R a b c d e f g w} (k:dm R a b c d e f g w):CA 106 #[.slice a b c,.int .i64 d,.int .i64 e,.int .i64 f,.func (.func 91) #[] #[.pointer (some g)]] w R:=cal (n:=dm.an) func106 rfl k (by unfold dm; rw [dm.KE R]; kernel_rfl)
open Go.Proofs.Try (f107 func107)
namespace fO
def an:An:=(aR (aR (aL (aL (.mk (some [0,2,4,10,11]) .nil .nil)))))
def qf (R:VP):QT:=fin prog f107 R
def C:=cdN prog f107 an
abbrev T6:=OA→Nat→Nat→Int→Int→Int→World→Prop
def g0 (R:VP) (e6:T6) (a:OA) (b c:Nat) (d e f:Int) (g:World):Prop :=
 nv (IntKind.i64.wrap (e - d)) fun d =>
 nv (IntKind.i64.wrap (f - e)) fun f =>
 e6 a b c e d f g
def g6 (R:VP) (b6:T6) (a:OA) (b c:Nat) (d e f:Int) (g:World):Prop :=
 ae (e != f)
 (ae (decide (e>f))
 (nv (IntKind.i64.wrap (d - e)) fun h =>
 CA 112 #[.slice a b c,.int .i64 h,.int .i64 d,.int .i64 f,.func (.func 82) #[] #[]] g fun h i =>
 h = .tuple #[] ∧
 (nv (IntKind.i64.wrap (e - f)) fun h =>
 b6 a b c d h f i))
 (nv (IntKind.i64.wrap (d - e)) fun h =>
 nv (IntKind.i64.wrap (d+f)) fun i =>
 nv (IntKind.i64.wrap (i - e)) fun i =>
 CA 112 #[.slice a b c,.int .i64 h,.int .i64 i,.int .i64 e,.func (.func 82) #[] #[]] g fun h i =>
 h = .tuple #[] ∧
 (nv (IntKind.i64.wrap (f - e)) fun f =>
 b6 a b c d e f i)))
 (nv (IntKind.i64.wrap (d - e)) fun f =>
 CA 112 #[.slice a b c,.int .i64 f,.int .i64 d,.int .i64 e,.func (.func 82) #[] #[]] g fun a b =>
 a = .tuple #[] ∧
 (R (.tuple #[]) b))
def q6 (R:VP):QT:=(Exit.inBlock 0 (qS none (C [1,1,1]) (qf R)))
@[irreducible] def l6 (R:VP) (k:Nat):T6:=fun a b c d e f w=>aS [0,2,4,10,11] (C [1,1,0,0,0]) (q6 R) k (fr ((.slice a b c::U 1 (.int .i64 d::U 1 (.func (.func 82) #[] #[]::U 5 (.int .i64 e::(.int .i64 f::U 46 []))))))) w
def e6 (R:VP):T6:=fun a b c d e f w=>∃ k,l6 R k a b c d e f w
theorem u6 (R k a b c d e f w):l6 R (k+1) a b c d e f w=g6 R (l6 R k) a b c d e f w:=ju (by kernel_rfl)
end fO
def fO (R:VP):=fO.g0 R (fO.e6 R)
theorem fO.calls {R a b c d e f w} (k:fO R a b c d e f w):CA 107 #[.slice a b c,.int .i64 d,.int .i64 e,.int .i64 f,.func (.func 82) #[] #[]] w R:=cal (n:=fO.an) func107 rfl k (by kernel_rfl)
open Go.Proofs.Try (f110 func110)
namespace je
def an:An:=(aR (aR (aL (aL (.mk (some [0,2,4,10,11]) .nil .nil)))))
def qf (R:VP):QT:=fin prog f110 R
def C:=cdN prog f110 an
abbrev T6:=OA→Nat→Nat→Int→Addr→Int→Int→World→Prop
def g0 (R:VP) (e6:T6) (a:OA) (b c:Nat) (d e f:Int) (g:Addr) (h:World):Prop :=
 nv (IntKind.i64.wrap (e - d)) fun d =>
 nv (IntKind.i64.wrap (f - e)) fun f =>
 e6 a b c e g d f h
def g6 (R:VP) (b6:T6) (a:OA) (b c:Nat) (d:Int) (e:Addr) (f g:Int) (h:World):Prop :=
 ae (f != g)
 (ae (decide (f>g))
 (nv (IntKind.i64.wrap (d - f)) fun i =>
 CA 113 #[.slice a b c,.int .i64 i,.int .i64 d,.int .i64 g,.func (.func 88) #[] #[.pointer (some e)]] h fun i j =>
 i = .tuple #[] ∧
 (nv (IntKind.i64.wrap (f - g)) fun i =>
 b6 a b c d e i g j))
 (nv (IntKind.i64.wrap (d - f)) fun i =>
 nv (IntKind.i64.wrap (d+g)) fun j =>
 nv (IntKind.i64.wrap (j - f)) fun j =>
 CA 113 #[.slice a b c,.int .i64 i,.int .i64 j,.int .i64 f,.func (.func 88) #[] #[.pointer (some e)]] h fun i j =>
 i = .tuple #[] ∧
 (nv (IntKind.i64.wrap (g - f)) fun g =>
 b6 a b c d e f g j)))
 (nv (IntKind.i64.wrap (d - f)) fun g =>
 CA 113 #[.slice a b c,.int .i64 g,.int .i64 d,.int .i64 f,.func (.func 88) #[] #[.pointer (some e)]] h fun a b =>
 a = .tuple #[] ∧
 (R (.tuple #[]) b))
def q6 (R:VP):QT:=(Exit.inBlock 0 (qS none (C [1,1,1]) (qf R)))
@[irreducible] def l6 (R:VP) (k:Nat):T6:=fun a b c d e f g w=>aS [0,2,4,10,11] (C [1,1,0,0,0]) (q6 R) k (fr ((.slice a b c::U 1 (.int .i64 d::U 1 (.func (.func 88) #[] #[.pointer (some e)]::U 5 (.int .i64 f::(.int .i64 g::U 46 []))))))) w
def e6 (R:VP):T6:=fun a b c d e f g w=>∃ k,l6 R k a b c d e f g w
theorem u6 (R k a b c d e f g w):l6 R (k+1) a b c d e f g w=g6 R (l6 R k) a b c d e f g w:=ju (by kernel_rfl)
end je
def je (R:VP):=je.g0 R (je.e6 R)
theorem je.calls {R a b c d e f g w} (k:je R a b c d e f g w):CA 110 #[.slice a b c,.int .i64 d,.int .i64 e,.int .i64 f,.func (.func 88) #[] #[.pointer (some g)]] w R:=cal (n:=je.an) func110 rfl k (by kernel_rfl)
open Go.Proofs.Try (f111 func111)
namespace ik
def an:An:=(aR (aR (aL (aL (.mk (some [0,2,4,10,11]) .nil .nil)))))
def qf (R:VP):QT:=fin prog f111 R
def C:=cdN prog f111 an
abbrev T6:=OA→Nat→Nat→Int→Addr→Int→Int→World→Prop
def g0 (R:VP) (e6:T6) (a:OA) (b c:Nat) (d e f:Int) (g:Addr) (h:World):Prop :=
 nv (IntKind.i64.wrap (e - d)) fun d =>
 nv (IntKind.i64.wrap (f - e)) fun f =>
 e6 a b c e g d f h
def g6 (R:VP) (b6:T6) (a:OA) (b c:Nat) (d:Int) (e:Addr) (f g:Int) (h:World):Prop :=
 ae (f != g)
 (ae (decide (f>g))
 (nv (IntKind.i64.wrap (d - f)) fun i =>
 CA 114 #[.slice a b c,.int .i64 i,.int .i64 d,.int .i64 g,.func (.func 91) #[] #[.pointer (some e)]] h fun i j =>
 i = .tuple #[] ∧
 (nv (IntKind.i64.wrap (f - g)) fun i =>
 b6 a b c d e i g j))
 (nv (IntKind.i64.wrap (d - f)) fun i =>
 nv (IntKind.i64.wrap (d+g)) fun j =>
 nv (IntKind.i64.wrap (j - f)) fun j =>
 CA 114 #[.slice a b c,.int .i64 i,.int .i64 j,.int .i64 f,.func (.func 91) #[] #[.pointer (some e)]] h fun i j =>
 i = .tuple #[] ∧
 (nv (IntKind.i64.wrap (g - f)) fun g =>
 b6 a b c d e f g j)))
 (nv (IntKind.i64.wrap (d - f)) fun g =>
 CA 114 #[.slice a b c,.int .i64 g,.int .i64 d,.int .i64 f,.func (.func 91) #[] #[.pointer (some e)]] h fun a b =>
 a = .tuple #[] ∧
 (R (.tuple #[]) b))
def q6 (R:VP):QT:=(Exit.inBlock 0 (qS none (C [1,1,1]) (qf R)))
@[irreducible] def l6 (R:VP) (k:Nat):T6:=fun a b c d e f g w=>aS [0,2,4,10,11] (C [1,1,0,0,0]) (q6 R) k (fr ((.slice a b c::U 1 (.int .i64 d::U 1 (.func (.func 91) #[] #[.pointer (some e)]::U 5 (.int .i64 f::(.int .i64 g::U 46 []))))))) w
def e6 (R:VP):T6:=fun a b c d e f g w=>∃ k,l6 R k a b c d e f g w
theorem u6 (R k a b c d e f g w):l6 R (k+1) a b c d e f g w=g6 R (l6 R k) a b c d e f g w:=ju (by kernel_rfl)
end ik
def ik (R:VP):=ik.g0 R (ik.e6 R)
theorem ik.calls {R a b c d e f g w} (k:ik R a b c d e f g w):CA 111 #[.slice a b c,.int .i64 d,.int .i64 e,.int .i64 f,.func (.func 91) #[] #[.pointer (some g)]] w R:=cal (n:=ik.an) func111 rfl k (by kernel_rfl)
open Go.Proofs.Try (f112 func112)
namespace fU
def an:An:=(aR (aL (.mk (some [0,1,2,3,10]) .nil .nil)))
def qf (R:VP):QT:=fin prog f112 R
def C:=cdN prog f112 an
abbrev T3:=OA→Nat→Nat→Int→Int→Int→Int→World→Prop
def g0 (R:VP) (e3:T3) (a:OA) (b c:Nat) (d e f:Int) (g:World):Prop :=
 e3 a b c d e f 0 g
def g3 (R:VP) (b3:T3) (a:OA) (b c:Nat) (d e f g:Int) (h:World):Prop :=
 ae (decide (g<f))
 (∃ i:World,CK i h ∧
 (nv (IntKind.i64.wrap (d+g)) fun j =>
 nv (IntKind.i64.wrap (e+g)) fun k =>
 nv (IntKind.i64.wrap (e+g)) fun l =>
 ix a b l fun m =>
 l9 h (m.add (l.toNat*10)) fun l m n o p q r s t u v w =>
 nv (IntKind.i64.wrap (d+g)) fun x =>
 ix a b x fun y =>
 l9 h (y.add (x.toNat*10)) fun x y z A B C D E F G H I =>
 ix a b j fun J =>
 wH h (J.add (j.toNat*10)) l m n o p q r s t u v w fun j =>
 CK i j ∧
 (ix a b k fun i =>
 wH j (i.add (k.toNat*10)) x y z A B C D E F G H I fun i =>
 inc g fun g =>
 b3 a b c d e f g i)))
 (R (.tuple #[]) h)
def q3 (R:VP):QT:=(Exit.inBlock 0 (qf R))
@[irreducible] def l3 (R:VP) (k:Nat):T3:=fun a b c d e f g w=>aS [0,1,2,3,10] (C [1,0,0]) (q3 R) k (fr ((.slice a b c::(.int .i64 d::(.int .i64 e::(.int .i64 f::U 6 (.int .i64 g::U 27 []))))))) w
def e3 (R:VP):T3:=fun a b c d e f g w=>∃ k,l3 R k a b c d e f g w
theorem u3 (R k a b c d e f g w):l3 R (k+1) a b c d e f g w=g3 R (l3 R k) a b c d e f g w:=ju (by kernel_rfl)
end fU
def fU (R:VP):=fU.g0 R (fU.e3 R)
theorem fU.calls {R a b c d e f w} (k:fU R a b c d e f w):CA 112 #[.slice a b c,.int .i64 d,.int .i64 e,.int .i64 f,.func (.func 82) #[] #[]] w R:=cal (n:=fU.an) func112 rfl k (by kernel_rfl)
open Go.Proofs.Try (f113 func113)
namespace jM
def an:An:=(aR (aL (.mk (some [0,1,2,3,10]) .nil .nil)))
def qf (R:VP):QT:=fin prog f113 R
def C:=cdN prog f113 an
abbrev T3:=OA→Nat→Nat→Int→Int→Int→Int→World→Prop
def g0 (R:VP) (e3:T3) (a:OA) (b c:Nat) (d e f:Int) (g:Addr) (h:World):Prop :=
 e3 a b c d e f 0 h
def g3 (R:VP) (b3:T3) (a:OA) (b c:Nat) (d e f g:Int) (h:World):Prop :=
 ae (decide (g<f))
 (∃ i:World,CK i h ∧
 (nv (IntKind.i64.wrap (d+g)) fun j =>
 nv (IntKind.i64.wrap (e+g)) fun k =>
 nv (IntKind.i64.wrap (e+g)) fun l =>
 ix a b l fun m =>
 oW h (m.add (l.toNat*5)) fun l m n o p q r =>
 nv (IntKind.i64.wrap (d+g)) fun s =>
 ix a b s fun t =>
 oW h (t.add (s.toNat*5)) fun s t u v w x y =>
 ix a b j fun z =>
 D9 h (z.add (j.toNat*5)) l m n o p q r fun j =>
 CK i j ∧
 (ix a b k fun i =>
 D9 j (i.add (k.toNat*5)) s t u v w x y fun i =>
 inc g fun g =>
 b3 a b c d e f g i)))
 (R (.tuple #[]) h)
def q3 (R:VP):QT:=(Exit.inBlock 0 (qf R))
@[irreducible] def l3 (R:VP) (k:Nat):T3:=fun a b c d e f g w=>aS [0,1,2,3,10] (C [1,0,0]) (q3 R) k (fr ((.slice a b c::(.int .i64 d::(.int .i64 e::(.int .i64 f::U 6 (.int .i64 g::U 27 []))))))) w
def e3 (R:VP):T3:=fun a b c d e f g w=>∃ k,l3 R k a b c d e f g w
theorem u3 (R k a b c d e f g w):l3 R (k+1) a b c d e f g w=g3 R (l3 R k) a b c d e f g w:=ju (by kernel_rfl)
end jM
def jM (R:VP):=jM.g0 R (jM.e3 R)
theorem jM.calls {R a b c d e f g w} (k:jM R a b c d e f g w):CA 113 #[.slice a b c,.int .i64 d,.int .i64 e,.int .i64 f,.func (.func 88) #[] #[.pointer (some g)]] w R:=cal (n:=jM.an) func113 rfl k (by kernel_rfl)
open Go.Proofs.Try (f114 func114)
namespace iH
def an:An:=(aR (aL (.mk (some [0,1,2,3,10]) .nil .nil)))
def qf (R:VP):QT:=fin prog f114 R
def C:=cdN prog f114 an
abbrev T3:=OA→Nat→Nat→Int→Int→Int→Int→World→Prop
def g0 (R:VP) (e3:T3) (a:OA) (b c:Nat) (d e f:Int) (g:Addr) (h:World):Prop :=
 e3 a b c d e f 0 h
def g3 (R:VP) (b3:T3) (a:OA) (b c:Nat) (d e f g:Int) (h:World):Prop :=
 ae (decide (g<f))
 (∃ i:World,CK i h ∧
 (nv (IntKind.i64.wrap (d+g)) fun j =>
 nv (IntKind.i64.wrap (e+g)) fun k =>
 nv (IntKind.i64.wrap (e+g)) fun l =>
 ix a b l fun m =>
 sV h (m.add (l.toNat*4)) fun l m n o p q r s t u =>
 nv (IntKind.i64.wrap (d+g)) fun v =>
 ix a b v fun w =>
 sV h (w.add (v.toNat*4)) fun v w x y z A B C D E =>
 ix a b j fun F =>
 GY h (F.add (j.toNat*4)) l m n o p q r s t u fun j =>
 CK i j ∧
 (ix a b k fun i =>
 GY j (i.add (k.toNat*4)) v w x y z A B C D E fun i =>
 inc g fun g =>
 b3 a b c d e f g i)))
 (R (.tuple #[]) h)
def q3 (R:VP):QT:=(Exit.inBlock 0 (qf R))
@[irreducible] def l3 (R:VP) (k:Nat):T3:=fun a b c d e f g w=>aS [0,1,2,3,10] (C [1,0,0]) (q3 R) k (fr ((.slice a b c::(.int .i64 d::(.int .i64 e::(.int .i64 f::U 6 (.int .i64 g::U 27 []))))))) w
def e3 (R:VP):T3:=fun a b c d e f g w=>∃ k,l3 R k a b c d e f g w
theorem u3 (R k a b c d e f g w):l3 R (k+1) a b c d e f g w=g3 R (l3 R k) a b c d e f g w:=ju (by kernel_rfl)
end iH
def iH (R:VP):=iH.g0 R (iH.e3 R)
theorem iH.calls {R a b c d e f g w} (k:iH R a b c d e f g w):CA 114 #[.slice a b c,.int .i64 d,.int .i64 e,.int .i64 f,.func (.func 91) #[] #[.pointer (some g)]] w R:=cal (n:=iH.an) func114 rfl k (by kernel_rfl)
end Go.Mir
