/- Part of a proof of laws of the seat Ytmjlipmapfofmaa: functions' weakest preconditions, each checked by the kernel, contracts out of them, plain lemmas; no conditions. -/
import Derived.Test.YtmjlipmapfofmaaMMA
set_option linter.unusedVariables false
set_option linter.unusedSimpArgs false
set_option linter.unusedSectionVars false
set_option linter.unusedVariables false
set_option maxRecDepth 100000
namespace Go.Mir
open Go Go.E Go.RowKit
open Go.Proofs.Try (prog)
open Go.Proofs.Try (f61 func61)
namespace iI
def an:An:=An.nil
def g0 (R:VP) (a:Int) (b:OA) (c d:Nat) (e:World):Prop :=
 nw (e.alloc (.cells (mi a b c d) 44)) fun a =>
 R (.func (.func 80) #[] #[.pointer (some (na e))]) a
end iI
def iI (R:VP):=iI.g0 R
theorem iI.calls {R a b c d w} (k:iI R a b c d w):CA 61 #[WS a b c d] w R:=cal (n:=iI.an) func61 rfl k (by kernel_rfl)
open Go.Proofs.Try (f62 func62)
namespace fE
def an:An:=An.nil
def g0 (R:VP) (a b c:Int) (d:Nat) (e:OA) (f g:Nat) (h i j:Int) (k:World):Prop :=
 nw (k.alloc (.cells (jQ a b c d e f g h i j) 101)) fun a =>
 cI a ((na k).add 0) .u8 fun b =>
 ae (b==2)
 (R (.bool true) a)
 (cI a ((na k).add 0) .u8 fun b =>
 R (.bool (b==3)) a)
end fE
def fE (R:VP):=fE.g0 R
theorem fE.calls {R a b c d e f g h i j w} (k:fE R a b c d e f g h i j w):CA 62 #[qG a b c d e f g h i j] w R:=cal (n:=fE.an) func62 rfl k (by kernel_rfl)
open Go.Proofs.Try (f63 func63)
namespace jG
def an:An:=(aR (aR (aL (aR (aL (.mk (some [1,2,15,16,17]) .nil .nil))))))
def qf (R:VP):QT:=fin prog f63 R
def C:=cdN prog f63 an
abbrev T14:=OA→Nat→Nat→OA→Nat→Nat→Int→Int→World→Prop
def g0 (R:VP) (e14:T14) (a:OA) (b c:Nat) (d:OA) (e f:Nat) (g:World):Prop :=
 ae ((b:Int) != (e:Int))
 (R (.bool false) g)
 (e14 d e f a b c (b:Int) 0 g)
def g14 (R:VP) (b14:T14) (a:OA) (b c:Nat) (d:OA) (e f:Nat) (g h:Int) (i:World):Prop :=
 ae (decide (h<g))
 (ix d e h fun j =>
 oW i (j.add (h.toNat*5)) fun j k l m n o p =>
 nw (i.alloc (.cells (yH 0 none 0 0 0 0 0) 72)) fun q =>
 D9 q (na i) j k l m n o p fun j =>
 ix a b h fun k =>
 oW j (k.add (h.toNat*5)) fun k l m n o p q =>
 nw (j.alloc (.cells (yH 0 none 0 0 0 0 0) 72)) fun r =>
 D9 r (na j) k l m n o p q fun k =>
 oW k (na i) fun l m n o p q r =>
 oW k (na j) fun j s t u v w x =>
 CA 64 #[pX l m n o p q r,pX j s t u v w x] k fun j k =>
 ∃ l,j = .bool l ∧
 (ae (!l)
 (R (.bool false) k)
 (inc h fun h =>
 b14 a b c d e f g h k)))
 (R (.bool true) i)
def q14 (R:VP):QT:=(Exit.inBlock 0 (qS none (C [1,1,1]) (qf R)))
@[irreducible] def l14 (R:VP) (k:Nat):T14:=fun a b c d e f g h w=>aS [1,2,15,16,17] (C [1,1,0,1,0,0]) (q14 R) k (fr (U 1 (.slice a b c::(.func (.func 64) #[] #[]::U 12 (.slice d e f::(.int .i64 g::(.int .i64 h::U 14 []))))))) w
def e14 (R:VP):T14:=fun a b c d e f g h w=>∃ k,l14 R k a b c d e f g h w
theorem u14 (R k a b c d e f g h w):l14 R (k+1) a b c d e f g h w=g14 R (l14 R k) a b c d e f g h w:=ju (by kernel_rfl)
end jG
def jG (R:VP):=jG.g0 R (jG.e14 R)
theorem jG.calls {R a b c d e f w} (k:jG R a b c d e f w):CA 63 #[.slice a b c,.slice d e f,.func (.func 64) #[] #[]] w R:=cal (n:=jG.an) func63 rfl k (by kernel_rfl)
open Go.Proofs.Try (f64 func64)
namespace dM
def an:An:=An.nil
def g0 (R:VP) (a:Nat) (b:OA) (c d:Nat) (e f g:Int) (h:Nat) (i:OA) (j k:Nat) (l m n:Int) (o:World):Prop :=
 nw (o.alloc (.cells (yH a b c d e f g) 72)) fun a =>
 nw (a.alloc (.cells (yH h i j k l m n) 72)) fun b =>
 cF b ((na o).add 0) .f64 fun c =>
 ∃ d,qE prog (callFunc 58 #[.float .f64 c]) b (.int .u64 d) ∧
 (cF b ((na a).add 0) .f64 fun c =>
 ∃ e,qE prog (callFunc 58 #[.float .f64 c]) b (.int .u64 e) ∧
 (ae (d==e)
 (cL b ((na o).add 1) fun c d e =>
 cL b ((na a).add 1) fun f g h =>
 ∃ i,(∀ j:World,Below b.heap.size b j→CA 35 #[.slice c d e,.slice f g h] j fun c d=>c = .bool i∧Below b.heap.size b d) ∧
 (ae i
 (cI b ((na o).add 2) .i64 fun c =>
 cI b ((na a).add 2) .i64 fun d =>
 ae (c==d)
 (cI b ((na o).add 3) .i64 fun c =>
 cI b ((na a).add 3) .i64 fun d =>
 ae (c==d)
 (cI b ((na o).add 4) .i64 fun c =>
 cI b ((na a).add 4) .i64 fun a =>
 ∀ d:World,Below b.heap.size b d →
 R (.bool (c==a)) d)
 (∀ a:World,Below b.heap.size b a →
 R (.bool false) a))
 (∀ a:World,Below b.heap.size b a →
 R (.bool false) a))
 (∀ a:World,Below b.heap.size b a →
 R (.bool false) a)))
 (∀ a:World,Below b.heap.size b a →
 R (.bool false) a)))
end dM
def dM (R:VP):=dM.g0 R
theorem dM.calls {R a b c d e f g h i j l m n o w} (k:dM R a b c d e f g h i j l m n o w):CA 64 #[pX a b c d e f g,pX h i j l m n o] w R:=cal (n:=dM.an) func64 rfl k (by kernel_rfl)
open Go.Proofs.Try (f65 func65)
namespace Bo
def an:An:=(aR (aR (aL (aR (aL (.mk (some [1,13,14,15]) .nil .nil))))))
def qf (R:VP):QT:=fin prog f65 R
def C:=cdN prog f65 an
abbrev T14:=OA→Nat→Nat→OA→Nat→Nat→Int→Int→World→Prop
def g0 (R:VP) (e14:T14) (a:OA) (b c:Nat) (d:OA) (e f:Nat) (g:World):Prop :=
 ae ((b:Int) != (e:Int))
 (R (.bool false) g)
 (e14 d e f a b c (b:Int) 0 g)
def g14 (R:VP) (b14:T14) (a:OA) (b c:Nat) (d:OA) (e f:Nat) (g h:Int) (i:World):Prop :=
 ae (decide (h<g))
 (ix d e h fun j =>
 oW i (j.add (h.toNat*5)) fun j k l m n o p =>
 nw (i.alloc (.cells (yH 0 none 0 0 0 0 0) 72)) fun q =>
 D9 q (na i) j k l m n o p fun j =>
 ix a b h fun k =>
 oW j (k.add (h.toNat*5)) fun k l m n o p q =>
 nw (j.alloc (.cells (yH 0 none 0 0 0 0 0) 72)) fun r =>
 D9 r (na j) k l m n o p q fun k =>
 cF k ((na i).add 0) .f64 fun l =>
 ∃ m,qE prog (callFunc 58 #[.float .f64 l]) k (.int .u64 m) ∧
 (cF k ((na j).add 0) .f64 fun l =>
 ∃ n,qE prog (callFunc 58 #[.float .f64 l]) k (.int .u64 n) ∧
 (ae (m != n)
 (∀ l:World,Below k.heap.size k l →
 R (.bool false) l)
 (cL k ((na i).add 1) fun l m n =>
 cL k ((na j).add 1) fun o p q =>
 ∃ r,(∀ s:World,Below k.heap.size k s→CA 41 #[.slice l m n,.slice o p q] s fun l m=>l = .bool r∧Below k.heap.size k m) ∧
 (ae (!r)
 (∀ l:World,Below k.heap.size k l →
 R (.bool false) l)
 (cI k ((na i).add 2) .i64 fun l =>
 cI k ((na j).add 2) .i64 fun m =>
 ae (l != m)
 (∀ l:World,Below k.heap.size k l →
 R (.bool false) l)
 (cI k ((na i).add 3) .i64 fun l =>
 cI k ((na j).add 3) .i64 fun m =>
 ae (l != m)
 (∀ l:World,Below k.heap.size k l →
 R (.bool false) l)
 (cI k ((na i).add 4) .i64 fun l =>
 cI k ((na j).add 4) .i64 fun j =>
 ∀ m:World,Below k.heap.size k m →
 ae (l != j)
 (R (.bool false) m)
 (inc h fun h =>
 b14 a b c d e f g h m)))))))))
 (R (.bool true) i)
def q14 (R:VP):QT:=(Exit.inBlock 0 (qS none (C [1,1,1]) (qf R)))
@[irreducible] def l14 (R:VP) (k:Nat):T14:=fun a b c d e f g h w=>aS [1,13,14,15] (C [1,1,0,1,0,0]) (q14 R) k (fr (U 1 (.slice a b c::U 11 (.slice d e f::(.int .i64 g::(.int .i64 h::U 45 [])))))) w
def e14 (R:VP):T14:=fun a b c d e f g h w=>∃ k,l14 R k a b c d e f g h w
theorem u14 (R k a b c d e f g h w):l14 R (k+1) a b c d e f g h w=g14 R (l14 R k) a b c d e f g h w:=ju (by kernel_rfl)
end Bo
def Bo (R:VP):=Bo.g0 R (Bo.e14 R)
theorem Bo.calls {R a b c d e f w} (k:Bo R a b c d e f w):CA 65 #[.slice a b c,.slice d e f] w R:=cal (n:=Bo.an) func65 rfl k (by kernel_rfl)
open Go.Proofs.Try (f66 func66)
namespace WO
def an:An:=An.nil
def g0 (R:VP) (a:OA) (b c:Nat) (d:World):Prop :=
 ae a.isNone
 (R (.slice none 0 0) d)
 (nw (d.alloc (.cells #[] 72)) fun e =>
 cO prog (Builtin.append_ #[67,67] 67 #[.slice (some (na d)) 0 0,.slice a b c]) e fun a b =>
 ∃ c d e,a = .slice c d e ∧
 (R (.slice c d e) b))
end WO
def WO (R:VP):=WO.g0 R
theorem WO.calls {R a b c w} (k:WO R a b c w):CA 66 #[.slice a b c] w R:=cal (n:=WO.an) func66 rfl k (by kernel_rfl)
open Go.Proofs.Try (f69 func69)
namespace ag
def an:An:=(aR (aR (.mk none (aR (aL (.mk (some [3,4,6,15,16,17]) .nil .nil))) (aL (aR (aL (.mk (some [3,4,6,51]) .nil .nil)))))))
def qf (R:VP):QT:=fin prog f69 R
def C:=cdN prog f69 an
abbrev T8:=OA→OA→OA→OA→Nat→Nat→Int→Int→World→Prop
abbrev T33:=OA→OA→OA→OA→World→Prop
def g0 (R:VP) (e8:T8) (a:OA) (b c:Nat) (d:OA) (e f:Nat) (g:World):Prop :=
 nw (g.alloc (.cells #[.slice d e f] 23)) fun d =>
 nw (d.alloc (.cells (mi 0 none 0 0) 44)) fun e =>
 nw (e.alloc (.map #[] 0)) fun f =>
 nw (f.alloc (.cells #[.map none] 147)) fun h =>
 st h ((na f).add 0) (.map (some e.heap.size)) fun e =>
 e8 (some (na g)) (some (na d)) (some (na f)) a b c (b:Int) 0 e
def g8 (R:VP) (b8:T8) (e33:T33) (a b c d:OA) (e f:Nat) (g h:Int) (i:World):Prop :=
 ae (decide (h<g))
 (ix d e h fun j =>
 l9 i (j.add (h.toNat*10)) fun j k l m n o p q r s t u =>
 nw (i.alloc (.cells (pK 0 0 0 0 none 0 0 0 0 0 0 0) 126)) fun v =>
 wH v (na i) j k l m n o p q r s t u fun j =>
 cI j ((na i).add 8) .i64 fun k =>
 ae (decide (k<0))
 (aY b fun k =>
 zZ j k 0 none 0 0 fun k =>
 aY b fun l =>
 lY k l fun l m n o =>
 R (.tuple #[WS l m n o,.bool false]) k)
 (cI j ((na i).add 9) .i64 fun k =>
 cI j ((na i).add 8) .i64 fun l =>
 ae (decide (k≤l))
 (aY b fun k =>
 zZ j k 0 none 0 0 fun k =>
 aY b fun l =>
 lY k l fun l m n o =>
 R (.tuple #[WS l m n o,.bool false]) k)
 (cI j ((na i).add 9) .i64 fun k =>
 aY a fun l =>
 cL j l fun l l m =>
 ae (decide (k≥(l:Int)))
 (aY b fun k =>
 zZ j k 0 none 0 0 fun k =>
 aY b fun l =>
 lY k l fun l m n o =>
 R (.tuple #[WS l m n o,.bool false]) k)
 (∃ (k:World) (l:World→Prop) (m:World→World→Prop) (n:Nat→Value→World→Prop),Dv k j l m n ∧
 (aY c fun j =>
 cM k j fun j =>
 cI k ((na i).add 8) .i64 fun o =>
 aY c fun p =>
 cM k p fun p =>
 cI k ((na i).add 8) .i64 fun q =>
 (∀ r:World,l r→cO prog (Instr.lookup 147 (.map p) (.int .i64 q) false) r fun p q=>∃ s t u,p = .slice s t u∧n 6 (.slice s t u) q∧m r q) ∧
 (∀ p:Option Addr,∀ q:Nat,∀ r:Nat,(∃ s,l s∧n 6 (.slice p q r) s) →
 l9 k (na i) fun k s t u v w x y z A B C =>
 (∀ D:World,l D→n 8 (.slice (some (na D)) 1 1) (D.alloc (.cells (pK k s t u v w x y z A B C) 126))∧m D (D.alloc (.cells (pK k s t u v w x y z A B C) 126))) ∧
 (∀ k:Addr,(∃ s,l s∧n 8 (.slice (some k) 1 1) s) →
 (∀ s:World,l s→n 6 (.slice p q r) s→n 8 (.slice (some k) 1 1) s→cO prog (Builtin.append_ #[124,124] 124 #[.slice p q r,.slice (some k) 1 1]) s fun t u=>∃ v w x,t = .slice v w x∧n 9 (.slice v w x) u∧m s u) ∧
 (∀ m:Option Addr,∀ s:Nat,∀ t:Nat,(∃ u,l u∧n 9 (.slice m s t) u) →
 ∀ u:World,l u→n 6 (.slice p q r) u→n 8 (.slice (some k) 1 1) u→n 9 (.slice m s t) u →
 cO prog (do Instr.mapUpdate 147 (.map j) (.int .i64 o) (.slice m s t); pure undef) u fun _ j =>
 inc h fun h =>
 b8 a b c d e f g h j))))))))
 (aY c fun d =>
 cM i d fun d =>
 cO prog (Instr.range 147 (.map d)) i fun d e =>
 ∃ f:Addr,d = .pointer (some f) ∧
 (e33 a b c (some f) e))
def g33 (R:VP) (b33:T33) (a b c d:OA) (e:World):Prop :=
 cO prog (Instr.next (.pointer d) false 0) e fun e f =>
 (e = .tuple #[.bool false] ∧
 (nw (f.alloc (.cells (mi 0 none 0 0) 44)) fun g =>
 nw (g.alloc (.cells #[.bool false] 4)) fun h =>
 st h ((na g).add 0) (.bool true) fun h =>
 nw (h.alloc (.cells #[.nilFunc] 150)) fun i =>
 st i ((na h).add 0) (.func (.func 83) #[] #[.pointer (some (na g)),.pointer (some (na f)),.pointer a,.pointer c,.pointer (some (na h))]) fun i =>
 cV i (na h) fun h =>
 aY a fun j =>
 cL i j fun j j k =>
 uG prog h #[.int .i64 0,.int .i64 (j:Int)] i fun h i =>
 h = .tuple #[] ∧
 (∃ h:World,CK h i ∧
 (lY i (na f) fun j k l m =>
 cB h (na g) fun g =>
 aY b fun n =>
 zZ i n j k l m fun i =>
 CK h i ∧
 (aY b fun h =>
 lY i h fun h j k l =>
 R (.tuple #[WS h j k l,.bool g]) i))))) ∨
 (∃ g h:Value,e = .tuple #[.bool true,g,h] ∧
 (cO prog (Instr.entry (.pointer d)) f fun e f =>
 ∃ g h:Value,e = .tuple #[g,h] ∧
 (CA 81 #[h,.func (.func 82) #[] #[]] f fun e f =>
 e = .tuple #[] ∧
 (b33 a b c d f))))
def q8 (R:VP):QT:=(Exit.inBlock 0 (qS none (C [1,1,1]) (qf R)))
@[irreducible] def l8 (R:VP) (k:Nat):T8:=fun a b c d e f g h w=>aS [3,4,6,15,16,17] (C [1,1,0,1,0,0]) (q8 R) k (fr (U 3 (.pointer a::(.pointer b::U 1 (.pointer c::U 8 (.slice d e f::(.int .i64 g::(.int .i64 h::U 47 [])))))))) w
def e8 (R:VP):T8:=fun a b c d e f g h w=>∃ k,l8 R k a b c d e f g h w
def q33 (R:VP):QT:=(Exit.inBlock 2 (qS none (C [1,1,1,1]) (qf R)))
@[irreducible] def l33 (R:VP) (k:Nat):T33:=fun a b c d w=>aS [3,4,6,51] (C [1,1,1,0,1,0,0]) (q33 R) k (fr (U 3 (.pointer a::(.pointer b::U 1 (.pointer c::U 44 (.pointer d::U 13 [])))))) w
def e33 (R:VP):T33:=fun a b c d w=>∃ k,l33 R k a b c d w
theorem u33 (R k a b c d w):l33 R (k+1) a b c d w=g33 R (l33 R k) a b c d w:=ju (by kernel_rfl)
theorem u8 (R k a b c d e f g h w):l8 R (k+1) a b c d e f g h w=g8 R (l8 R k) (e33 R) a b c d e f g h w:=ju (by kernel_rfl)
end ag
def ag (R:VP):=ag.g0 R (ag.e8 R)
theorem ag.calls {R a b c d e f w} (k:ag R a b c d e f w):CA 69 #[.slice a b c,.slice d e f] w R:=cal (n:=ag.an) func69 rfl k (by kernel_rfl)
end Go.Mir
set_option linter.unusedVariables false
set_option maxRecDepth 100000
namespace Go.Mir
open Go Go.E Go.RowKit
open Go.Proofs.Try (prog)
open Go.Proofs.Try (f71 func71)
namespace aO
def an:An:=(aR (aR (aR (aL (aR (aL (.mk (some [1,20,21,22]) (aR (aR (aL (aL (aR (aR (aR (aR (aR (aL (.mk (some [1,20,21,22,38,39,40]) .nil .nil))))))))))) .nil)))))))
def qf (R:VP):QT:=fin prog f71 R
def C:=cdN prog f71 an
abbrev T22:=Int→OA→Nat→Nat→Int→Int→World→Prop
abbrev T54:=Int→OA→Nat→Nat→Int→Int→OA→Nat→Nat→Int→Int→World→Prop
def g0 (R:VP) (e22:T22) (a:OA) (b c:Nat) (d:Int) (e:World):Prop :=
 ae (decide (d<0))
 (R (.int .i64 2) e)
 (ae (decide (d>65536))
 (R (.int .i64 2) e)
 (ae (decide ((b:Int)>65536))
 (R (.int .i64 3) e)
 (e22 d a b c (b:Int) 0 e)))
def g22 (R:VP) (e54:T54) (a:Int) (b:OA) (c d:Nat) (e f:Int) (g:World):Prop :=
 ae (decide (f<e))
 (ix b c f fun h =>
 lY g (h.add (f.toNat*2)) fun h i j k =>
 nw (g.alloc (.cells (mi 0 none 0 0) 44)) fun l =>
 zZ l (na g) h i j k fun h =>
 lY h (na g) fun i j k l =>
 CA 53 #[WS i j k l] h fun h i =>
 ∃ j k l m,h = .tuple #[.slice j k l,.int .i64 m] ∧
 (ae (m != 0)
 (R (.int .i64 m) i)
 (ae (decide ((k:Int)>4096))
 (R (.int .i64 3) i)
 (cL i ((na g).add 1) fun h j k =>
 e54 a b c d e f h j k (j:Int) 0 i))))
 (R (.int .i64 0) g)
def g54 (R:VP) (b22:T22) (b54:T54) (a:Int) (b:OA) (c d:Nat) (e f:Int) (g:OA) (h i:Nat) (j k:Int) (l:World):Prop :=
 ae (decide (k<j))
 (ix g h k fun m =>
 iF l (m.add (k.toNat*8)) fun m n o p q r s t u v =>
 nw (l.alloc (.cells (jQ 0 0 0 0 none 0 0 0 0 0) 101)) fun w =>
 oJ w (na l) m n o p q r s t u v fun m =>
 cI m ((na l).add 0) .u8 fun n =>
 ae (n != 1)
 (cI m ((na l).add 2) .i64 fun n =>
 ae (decide (n≥a))
 (R (.int .i64 72) m)
 (inc k fun n =>
 b54 a b c d e f g h i j n m))
 (inc k fun k =>
 b54 a b c d e f g h i j k m))
 (inc f fun f =>
 b22 a b c d e f l)
def q22 (R:VP):QT:=(Exit.inBlock 0 (qS none (C [1,1,1,1]) (qf R)))
@[irreducible] def l22 (R:VP) (k:Nat):T22:=fun a b c d e f w=>aS [1,20,21,22] (C [1,1,1,0,1,0,0]) (q22 R) k (fr (U 1 (.int .i64 a::U 18 (.slice b c d::(.int .i64 e::(.int .i64 f::U 32 [])))))) w
def e22 (R:VP):T22:=fun a b c d e f w=>∃ k,l22 R k a b c d e f w
def q54 (R:VP) (k22:Nat):QT:=(Exit.inBlock 2 (Exit.inBlock 1 (qS none (C [1,1,1,0,1,0,0,1,1,1]) (qL [1,20,21,22] (C [1,1,1,0,1,0,0]) (q22 R) k22))))
def Ua (R:VP) (k22:Nat) (k:Nat):T54:=fun a b c d e f g h i j l w=>aS [1,20,21,22,38,39,40] (C [1,1,1,0,1,0,0,1,1,0,0,1,1,1,1,1,0,0]) (q54 R k22) k (fr (U 1 (.int .i64 a::U 18 (.slice b c d::(.int .i64 e::(.int .i64 f::U 15 (.slice g h i::(.int .i64 j::(.int .i64 l::U 14 []))))))))) w
def Vp (R:VP) (k22:Nat):T54:=fun a b c d e f g h i j l w=>∃ k,Ua R k22 k a b c d e f g h i j l w
def l54 (R:VP) (b22:T22):Nat→T54
 | 0=>fun _ _ _ _ _ _ _ _ _ _ _ _=>False
 | k+1=>g54 R b22 (l54 R b22 k)
def e54 (R:VP) (b22:T22):T54:=fun a b c d e f g h i j l w=>∃ k,l54 R b22 k a b c d e f g h i j l w
theorem s54 (R:VP) (k22:Nat) (k:Nat):Ua R k22 (k+1)=fun a b c d e f g h i j l w=>∀ _:Nat→Value,g54 R (l22 R k22) (Ua R k22 k) a b c d e f g h i j l w:=by kernel_rfl
theorem VE (R:VP) (k22:Nat) (b22:T22) (hb22:b22=l22 R k22):∀ k,l54 R b22 k=Ua R k22 k
 | 0=>by kernel_rfl
 | k+1=>by
  rw [s54]
  simp only [forall_const]
  unfold l54
  have ih:=VE R k22 b22 hb22 k
  subst hb22
  rw [ih]
  all_goals rfl
theorem Wj (R:VP) (k22:Nat) (b22:T22) (hb22:b22=l22 R k22):e54 R b22=Vp R k22:=by
 unfold e54 Vp
 simp only [VE R k22 b22 hb22]
theorem u22 (R k a b c d e f w):l22 R (k+1) a b c d e f w=g22 R (e54 R (l22 R k)) a b c d e f w:=by rw [Wj R k _ rfl]; exact ju (by kernel_rfl)
end aO
def aO (R:VP):=aO.g0 R (aO.e22 R)
theorem aO.calls {R a b c d w} (k:aO R a b c d w):CA 71 #[.slice a b c,.int .i64 d] w R:=cal (n:=aO.an) func71 rfl k (by kernel_rfl)
open Go.Proofs.Try (f72 func72)
namespace fJ
def an:An:=An.nil
def g0 (R:VP) (a:Int) (b:OA) (c d:Nat) (e:World):Prop :=
 nw (e.alloc (.cells (mi a b c d) 44)) fun a =>
 lY a (na e) fun b c d f =>
 CA 85 #[WS b c d f] a fun a b =>
 ∃ c d,a = .tuple #[.int .i64 c,.int .i64 d] ∧
 (ae (d != 0)
 (R (.tuple #[.slice none 0 0,.int .i64 d]) b)
 (nw (b.alloc (.cells #[.slice none 0 0] 131)) fun a =>
 nw (a.alloc (.cells #[.nilFunc] 151)) fun c =>
 st c ((na a).add 0) (.func (.func 86) #[] #[.pointer (some (na e)),.pointer (some (na b)),.pointer (some (na a))]) fun c =>
 cV c (na a) fun a =>
 uG prog a #[.int .i64 0,.int .i64 0] c fun a c =>
 ∃ d,a = .int .i64 d ∧
 (cL c (na b) fun a b d =>
 R (.tuple #[.slice a b d,.int .i64 0]) c)))
end fJ
def fJ (R:VP):=fJ.g0 R
theorem fJ.calls {R a b c d w} (k:fJ R a b c d w):CA 72 #[WS a b c d] w R:=cal (n:=fJ.an) func72 rfl k (by kernel_rfl)
open Go.Proofs.Try (f73 func73)
namespace ed
def an:An:=An.nil
def g0 (R:VP) (a:Nat) (b:OA) (c d:Nat) (e f g:Int) (h:World):Prop :=
 nw (h.alloc (.cells (yH a b c d e f g) 72)) fun a =>
 nw (a.alloc (.cells (yH 0 none 0 0 0 0 0) 72)) fun b =>
 cL b ((na h).add 1) fun c d e =>
 cO prog (Builtin.append_ #[45,45] 45 #[.slice none 0 0,.slice c d e]) b fun b c =>
 ∃ d e f,b = .slice d e f ∧
 (st c (((na h).add 1).add 0) (.slice d e f) fun b =>
 oW b (na h) fun c d e f g h i =>
 D9 b (na a) c d e f g h i fun b =>
 oW b (na a) fun a c d e f g h =>
 R (pX a c d e f g h) b)
end ed
def ed (R:VP):=ed.g0 R
theorem ed.calls {R a b c d e f g w} (k:ed R a b c d e f g w):CA 73 #[pX a b c d e f g] w R:=cal (n:=ed.an) func73 rfl k (by kernel_rfl)
open Go.Proofs.Try (f74 func74)
namespace gz
def an:An:=An.nil
def g0 (R:VP) (a:OA) (b c:Nat) (d:World):Prop :=
 nw (d.alloc (.cells #[.func (.func 75) #[] #[]] 138)) fun e =>
 CA 87 #[.slice a b c,.func (.func 88) #[] #[.pointer (some (na d))]] e fun a b =>
 a = .tuple #[] ∧
 (R (.tuple #[]) b)
end gz
def gz (R:VP):=gz.g0 R
theorem gz.calls {R a b c w} (k:gz R a b c w):CA 74 #[.slice a b c,.func (.func 75) #[] #[]] w R:=cal (n:=gz.an) func74 rfl k (by kernel_rfl)
open Go.Proofs.Try (f75 func75)
namespace gI
def an:An:=An.nil
def g0 (R:VP) (a:Nat) (b:OA) (c d:Nat) (e f g:Int) (h:World):Prop :=
 nw (h.alloc (.cells (yH a b c d e f g) 72)) fun a =>
 cF a ((na h).add 0) .f64 fun b =>
 CA 76 #[.float .f64 b] a fun a b =>
 ∃ c,a = .int .u64 c ∧
 (R (.int .u64 c) b)
end gI
def gI (R:VP):=gI.g0 R
theorem gI.calls {R a b c d e f g w} (k:gI R a b c d e f g w):CA 75 #[pX a b c d e f g] w R:=cal (n:=gI.an) func75 rfl k (by kernel_rfl)
open Go.Proofs.Try (f76 func76)
namespace iJ
def an:An:=An.nil
def g0 (R:VP) (a:Nat) (b:World):Prop :=
 ∃ c,qE prog (callFunc 58 #[.float .f64 a]) b (.int .u64 c) ∧
 (ae (FloatKind.f64.format.order a a != some .eq)
 (R (.int .u64 18437736874454810625) b)
 (nv (Int.fdiv c (2 ^ (min (63:Int).toNat 64))) fun a =>
 ae (a==0)
 (nv (IntKind.u64.wrap (9218868437227405312+c)) fun a =>
 R (.int .u64 a) b)
 (nv (MN .andNot .u64 c 9223372036854775808) fun a =>
 nv (IntKind.u64.wrap (9218868437227405312 - a)) fun a =>
 R (.int .u64 a) b)))
end iJ
def iJ (R:VP):=iJ.g0 R
theorem iJ.calls {R a w} (k:iJ R a w):CA 76 #[.float .f64 a] w R:=cal (n:=iJ.an) func76 rfl k (by kernel_rfl)
open Go.Proofs.Try (f77 func77)
namespace fC
def an:An:=An.nil
def g0 (R:VP) (a:OA) (b c:Nat) (d:World):Prop :=
 nw (d.alloc (.cells #[.func (.func 78) #[] #[]] 140)) fun e =>
 CA 90 #[.slice a b c,.func (.func 91) #[] #[.pointer (some (na d))]] e fun a b =>
 a = .tuple #[] ∧
 (R (.tuple #[]) b)
end fC
def fC (R:VP):=fC.g0 R
theorem fC.calls {R a b c w} (k:fC R a b c w):CA 77 #[.slice a b c,.func (.func 78) #[] #[]] w R:=cal (n:=fC.an) func77 rfl k (by kernel_rfl)
open Go.Proofs.Try (f78 func78)
namespace gU
def an:An:=An.nil
def g0 (R:VP) (a:Int) (b:OA) (c d:Nat) (e:OA) (f g:Nat) (h:OA) (i j:Nat) (k:World):Prop :=
 nw (k.alloc (.cells (zK a b c d e f g h i j) 69)) fun a =>
 cI a ((na k).add 0) .i64 fun b =>
 R (.int .i64 b) a
end gU
def gU (R:VP):=gU.g0 R
theorem gU.calls {R a b c d e f g h i j w} (k:gU R a b c d e f g h i j w):CA 78 #[yB a b c d e f g h i j] w R:=cal (n:=gU.an) func78 rfl k (by kernel_rfl)
end Go.Mir
set_option linter.unusedVariables false
set_option maxRecDepth 100000
namespace Go.Mir
open Go Go.E Go.RowKit
open Go.Proofs.Try (prog)
open Go.Proofs.Try (f79 func79)
namespace bH
def an:An:=(aR (aR (aR (aR (aR (aR (aL (aR (aL (.mk (some [5,6,108,109,110]) .nil .nil))))))))))
def qf (R:VP):QT:=fin prog f79 R
def C:=cdN prog f79 an
abbrev T34:=Bool→Int→OA→Nat→Nat→Int→Int→World→Prop
def g0 (R:VP) (e34:T34) (a b c:Int) (d:Nat) (e:OA) (f g:Nat) (h i j k:Int) (l:World):Prop :=
 nw (l.alloc (.cells (jQ a b c d e f g h i j) 101)) fun a =>
 cF a ((na l).add 3) .f64 fun b =>
 ∃ c,qE prog (callFunc 58 #[.float .f64 b]) a (.int .u64 c) ∧
 (cI a ((na l).add 0) .u8 fun b =>
 ae (b==1)
 (cI a ((na l).add 2) .i64 fun b =>
 ae (b==0)
 (ae (c==0)
 (cL a ((na l).add 4) fun b b d =>
 ae ((b:Int)==0)
 (cI a ((na l).add 5) .u8 fun b =>
 ae (b==0)
 (cI a ((na l).add 6) .i64 fun b =>
 ae (b==0)
 (cI a ((na l).add 7) .i64 fun b =>
 R (.bool (b==0)) a)
 (R (.bool false) a))
 (R (.bool false) a))
 (R (.bool false) a))
 (R (.bool false) a))
 (R (.bool false) a))
 (iF a (na l) fun b d e f g h i j m n =>
 CA 62 #[qG b d e f g h i j m n] a fun a b =>
 ∃ d,a = .bool d ∧
 (ae (!d)
 (R (.bool false) b)
 (cI b ((na l).add 1) .i64 fun a =>
 ae (a != 0)
 (R (.bool false) b)
 (cI b ((na l).add 2) .i64 fun a =>
 ae (decide (a<0))
 (R (.bool false) b)
 (cI b ((na l).add 2) .i64 fun a =>
 ae (decide (a≥65536))
 (R (.bool false) b)
 (cI b ((na l).add 5) .u8 fun a =>
 ae (a != 1)
 (cI b ((na l).add 5) .u8 fun a =>
 ae (a != 2)
 (R (.bool false) b)
 (cI b ((na l).add 6) .i64 fun a =>
 ae (decide (a<1))
 (R (.bool false) b)
 (cI b ((na l).add 6) .i64 fun a =>
 ae (decide (a≥k))
 (R (.bool false) b)
 (cI b ((na l).add 7) .i64 fun a =>
 ae (decide (a<1))
 (R (.bool false) b)
 (cI b ((na l).add 7) .i64 fun a =>
 ae (decide (a≥k))
 (R (.bool false) b)
 (cI b ((na l).add 0) .u8 fun a =>
 ae (a==2)
 (cF b ((na l).add 3) .f64 fun a =>
 cF b ((na l).add 3) .f64 fun d =>
 ae (FloatKind.f64.format.order a d==some .eq)
 (cL b ((na l).add 4) fun a a d =>
 R (.bool ((a:Int)==0)) b)
 (R (.bool false) b))
 (cL b ((na l).add 4) fun a d e =>
 e34 (c==0) (-1) a d e (d:Int) 0 b)))))))
 (cI b ((na l).add 6) .i64 fun a =>
 ae (decide (a<1))
 (R (.bool false) b)
 (cI b ((na l).add 6) .i64 fun a =>
 ae (decide (a≥k))
 (R (.bool false) b)
 (cI b ((na l).add 7) .i64 fun a =>
 ae (decide (a<1))
 (R (.bool false) b)
 (cI b ((na l).add 7) .i64 fun a =>
 ae (decide (a≥k))
 (R (.bool false) b)
 (cI b ((na l).add 0) .u8 fun a =>
 ae (a==2)
 (cF b ((na l).add 3) .f64 fun a =>
 cF b ((na l).add 3) .f64 fun d =>
 ae (FloatKind.f64.format.order a d==some .eq)
 (cL b ((na l).add 4) fun a a d =>
 R (.bool ((a:Int)==0)) b)
 (R (.bool false) b))
 (cL b ((na l).add 4) fun a d e =>
 e34 (c==0) (-1) a d e (d:Int) 0 b)))))))))))))
def g34 (R:VP) (b34:T34) (a:Bool) (b:Int) (c:OA) (d e:Nat) (f g:Int) (h:World):Prop :=
 ae (decide (g<f))
 (ix c d g fun i =>
 cI h (i.add (g.toNat*1)) .i64 fun i =>
 ae (decide (i≤b))
 (R (.bool false) h)
 (ae (decide (i≥1024))
 (R (.bool false) h)
 (inc g fun g =>
 b34 a i c d e f g h)))
 (ae a
 (R (.bool (decide (b≥0))) h)
 (R (.bool false) h))
def q34 (R:VP):QT:=(Exit.inBlock 0 (qS none (C [1,1,1,1,1,1,1]) (qf R)))
@[irreducible] def l34 (R:VP) (k:Nat):T34:=fun a b c d e f g w=>aS [5,6,108,109,110] (C [1,1,1,1,1,1,0,1,0,0]) (q34 R) k (fr (U 5 (.bool a::(.int .i64 b::U 101 (.slice c d e::(.int .i64 f::(.int .i64 g::U 17 []))))))) w
def e34 (R:VP):T34:=fun a b c d e f g w=>∃ k,l34 R k a b c d e f g w
theorem u34 (R k a b c d e f g w):l34 R (k+1) a b c d e f g w=g34 R (l34 R k) a b c d e f g w:=ju (by kernel_rfl)
end bH
def bH (R:VP):=bH.g0 R (bH.e34 R)
theorem bH.calls {R a b c d e f g h i j l w} (k:bH R a b c d e f g h i j l w):CA 79 #[qG a b c d e f g h i j,.int .i64 l] w R:=cal (n:=bH.an) func79 rfl k (by kernel_rfl)
open Go.Proofs.Try (f80 func80)
namespace bT
def an:An:=(aR (aL (.mk (some [0,1,3]) .nil .nil)))
def qf (R:VP):QT:=fin prog f80 R
def C:=cdN prog f80 an
abbrev T3:=Nat→Addr→OA→Nat→Nat→World→Prop
def g0 (R:VP) (e3:T3) (a:Nat) (b:Addr) (c:World):Prop :=
 nw (c.alloc (.cells (Qv 0 0) 145)) fun d =>
 e3 a b (some (na c)) 1 1 d
def g3 (R:VP) (b3:T3) (a:Nat) (b:Addr) (c:OA) (d e:Nat) (f:World):Prop :=
 ae (decide ((d:Int)>0))
 (nv (IntKind.i64.wrap ((d:Int) - 1)) fun g =>
 ix c d g fun h =>
 Ve f (h.add (g.toNat*2)) fun g h =>
 nw (f.alloc (.cells (Qv 0 0) 145)) fun i =>
 UI i (na f) g h fun g =>
 nv (IntKind.i64.wrap ((d:Int) - 1)) fun d =>
 chk ((0:Int)≤d∧d≤(e:Int))
 (cI g ((na f).add 0) .i64 fun h =>
 cI g ((na f).add 1) .i64 fun i =>
 sK prog a #[.int .i64 h,.int .i64 i] g fun g h =>
 ∃ i,g = .bool i ∧
 (ae (!i)
 (R (.tuple #[]) h)
 (cL h (b.add 1) fun g i j =>
 cI h ((na f).add 0) .i64 fun j =>
 ix g i j fun g =>
 iF h (g.add (j.toNat*8)) fun g i j k l m n o p q =>
 nw (h.alloc (.cells (jQ 0 0 0 0 none 0 0 0 0 0) 101)) fun r =>
 oJ r (na h) g i j k l m n o p q fun g =>
 iF g (na h) fun i j k l m n o p q r =>
 CA 62 #[qG i j k l m n o p q r] g fun g i =>
 ∃ j,g = .bool j ∧
 (ae j
 (cI i ((na h).add 7) .i64 fun g =>
 cI i ((na f).add 1) .i64 fun j =>
 inc j fun j =>
 cI i ((na h).add 6) .i64 fun h =>
 cI i ((na f).add 1) .i64 fun k =>
 inc k fun k =>
 nw (i.alloc (.cells (RF g j h k) 145)) fun g =>
 cO prog (Builtin.append_ #[146,146] 146 #[.slice (slA c e 0 2) d.toNat e,.slice (some (na i)) 2 2]) g fun g h =>
 ∃ j k l,g = .slice j k l ∧
 (b3 a b j k l h))
 (b3 a b (slA c e 0 2) d.toNat e i))))))
 (R (.tuple #[]) f)
def q3 (R:VP):QT:=(Exit.inBlock 0 (qf R))
@[irreducible] def l3 (R:VP) (k:Nat):T3:=fun a b c d e w=>aS [0,1,3] (C [1,0,0]) (q3 R) k (fr ((.func (.yield a) #[] #[]::(.pointer (some b)::U 1 (.slice c d e::U 48 []))))) w
def e3 (R:VP):T3:=fun a b c d e w=>∃ k,l3 R k a b c d e w
theorem u3 (R k a b c d e w):l3 R (k+1) a b c d e w=g3 R (l3 R k) a b c d e w:=ju (by kernel_rfl)
end bT
def bT (R:VP):=bT.g0 R (bT.e3 R)
theorem bT.calls {R a b w} (k:bT R a b w):CA 80 #[.func (.yield a) #[] #[],.pointer (some b)] w R:=cal (n:=bT.an) func80 rfl k (by kernel_rfl)
open Go.Proofs.Try (f81 func81)
namespace iP
def an:An:=An.nil
def g0 (R:VP) (a:OA) (b c:Nat) (d:World):Prop :=
 CA 93 #[.slice a b c,.int .i64 (b:Int),.func (.func 82) #[] #[]] d fun a b =>
 a = .tuple #[] ∧
 (R (.tuple #[]) b)
end iP
def iP (R:VP):=iP.g0 R
theorem iP.calls {R a b c w} (k:iP R a b c w):CA 81 #[.slice a b c,.func (.func 82) #[] #[]] w R:=cal (n:=iP.an) func81 rfl k (by kernel_rfl)
open Go.Proofs.Try (f82 func82)
namespace bK
def an:An:=An.nil
def g0 (R:VP) (a b c:Int) (d:Nat) (e:OA) (f g:Nat) (h i j k l m n o:Int) (p:Nat) (q:OA) (r s:Nat) (t u v w x:Int) (y:World):Prop :=
 nw (y.alloc (.cells (pK a b c d e f g h i j k l) 126)) fun a =>
 nw (a.alloc (.cells (pK m n o p q r s t u v w x) 126)) fun b =>
 cI b ((na a).add 9) .i64 fun a =>
 cI b ((na y).add 9) .i64 fun c =>
 nv (IntKind.i64.wrap (a - c)) fun a =>
 R (.int .i64 a) b
end bK
def bK (R:VP):=bK.g0 R
theorem bK.calls {R a b c d e f g h i j l m n o p q r s t u v x y z w} (k:bK R a b c d e f g h i j l m n o p q r s t u v x y z w):CA 82 #[vW a b c d e f g h i j l m,vW n o p q r s t u v x y z] w R:=cal (n:=bK.an) func82 rfl k (by kernel_rfl)
open Go.Proofs.Try (f83 func83)
namespace aP
def an:An:=An.nil
def g0 (R:VP) (a b:Int) (c d e f g:Addr) (h:World):Prop :=
 cB h c fun i =>
 ae (!i)
 (R (.tuple #[]) h)
 (nv (IntKind.i64.wrap (b - a)) fun i =>
 ae (i==1)
 (∃ i:Nat→Value→World→Prop,KpF i ∧
 (cL h (d.add 1) fun j k l =>
 cL h e fun e m n =>
 ix e m a fun e =>
 cI h (e.add (a.toNat*1)) .i64 fun e =>
 (∀ m:World,Below h.heap.size h m→i 7 (.slice (some (na m)) 1 1) (m.alloc (.cells (jQ 1 e 0 0 none 0 0 0 0 0) 101))) ∧
 (∀ e:Addr,(∃ m,Below h.heap.size h m∧i 7 (.slice (some e) 1 1) m) →
 ∀ m:World,Below h.heap.size h m→i 7 (.slice (some e) 1 1) m →
 cO prog (Builtin.append_ #[42,42] 42 #[.slice j k l,.slice (some e) 1 1]) m fun e i =>
 ∃ j k l,e = .slice j k l ∧
 (st i ((d.add 1).add 0) (.slice j k l) fun e =>
 R (.tuple #[]) e))))
 (cM h f fun e =>
 cO prog (Instr.lookup 147 (.map e) (.int .i64 a) false) h fun e h =>
 ∃ i j k,e = .slice i j k ∧
 (ae ((j:Int)==0)
 (st h (c.add 0) (.bool false) fun e =>
 R (.tuple #[]) e)
 (ix i j 0 fun e =>
 cI h ((e.add 0).add 9) .i64 fun e =>
 ae (decide (e≥b))
 (st h (c.add 0) (.bool false) fun c =>
 R (.tuple #[]) c)
 (cM h f fun c =>
 chk ((0:Int)≤1∧1≤(j:Int))
 (cO prog (do Instr.mapUpdate 147 (.map c) (.int .i64 a) (.slice (slA i k 1 10) (j - 1) (k - 1)); pure undef) h fun _ c =>
 cL c (d.add 1) fun e e f =>
 ix i j 0 fun f =>
 iF c ((f.add 0).add 0) fun f h k l m n o p q r =>
 nw (c.alloc (.cells (jQ 0 0 0 0 none 0 0 0 0 0) 101)) fun s =>
 oJ s (na c) f h k l m n o p q r fun f =>
 nv (IntKind.i64.wrap ((e:Int)+1)) fun h =>
 st f (((na c).add 6).add 0) (.int .i64 h) fun f =>
 cL f (d.add 1) fun h k l =>
 iF f (na c) fun c m n o p q r s t u =>
 nw (f.alloc (.cells (jQ c m n o p q r s t u) 101)) fun c =>
 cO prog (Builtin.append_ #[42,42] 42 #[.slice h k l,.slice (some (na f)) 1 1]) c fun c f =>
 ∃ h k l,c = .slice h k l ∧
 (st f ((d.add 1).add 0) (.slice h k l) fun c =>
 cV c g fun f =>
 ix i j 0 fun h =>
 cI c ((h.add 0).add 9) .i64 fun h =>
 MK prog f #[.int .i64 a,.int .i64 h] c fun a c =>
 a = .tuple #[] ∧
 (cL c (d.add 1) fun a f h =>
 cL c (d.add 1) fun d d h =>
 ix a f (e:Int) fun a =>
 st c (((a.add ((e:Int).toNat*8)).add 7).add 0) (.int .i64 (d:Int)) fun a =>
 cV a g fun c =>
 ix i j 0 fun d =>
 cI a ((d.add 0).add 9) .i64 fun d =>
 MK prog c #[.int .i64 d,.int .i64 b] a fun a b =>
 a = .tuple #[] ∧
 (R (.tuple #[]) b)))))))))
end aP
def aP (R:VP):=aP.g0 R
theorem aP.calls {R a b c d e f g w} (k:aP R a b c d e f g w):CA 83 #[.int .i64 a,.int .i64 b,.pointer (some c),.pointer (some d),.pointer (some e),.pointer (some f),.pointer (some g)] w R:=cal (n:=aP.an) func83 rfl k (by kernel_rfl)
open Go.Proofs.Try (f85 func85)
namespace dY
def an:An:=An.nil
def g0 (R:VP) (a:Int) (b:OA) (c d:Nat) (e:World):Prop :=
 nw (e.alloc (.cells (mi a b c d) 44)) fun a =>
 lY a (na e) fun b c d e =>
 CA 53 #[WS b c d e] a fun a b =>
 ∃ c d e f,a = .tuple #[.slice c d e,.int .i64 f] ∧
 (ae (f==0)
 (ae (decide ((d:Int)>4096))
 (R (.tuple #[.int .i64 0,.int .i64 3]) b)
 (R (.tuple #[.int .i64 (d:Int),.int .i64 f]) b))
 (R (.tuple #[.int .i64 (d:Int),.int .i64 f]) b))
end dY
def dY (R:VP):=dY.g0 R
theorem dY.calls {R a b c d w} (k:dY R a b c d w):CA 85 #[WS a b c d] w R:=cal (n:=dY.an) func85 rfl k (by kernel_rfl)
open Go.Proofs.Try (f86 func86)
namespace bM
def an:An:=An.nil
def g0 (R:VP) (a b:Int) (c d e:Addr) (f:World):Prop :=
 cL f (c.add 1) fun c g h =>
 ix c g a fun c =>
 iF f (c.add (a.toNat*8)) fun c g h i j k l m n o =>
 nw (f.alloc (.cells (jQ 0 0 0 0 none 0 0 0 0 0) 101)) fun p =>
 oJ p (na f) c g h i j k l m n o fun c =>
 cI c ((na f).add 0) .u8 fun g =>
 ae (g==1)
 (inc b fun g =>
 R (.int .i64 g) c)
 (cL c d fun g g h =>
 cL c d fun h i j =>
 nw (c.alloc (.cells (TJ a b 0) 135)) fun a =>
 cO prog (Builtin.append_ #[131,131] 131 #[.slice h i j,.slice (some (na c)) 1 1]) a fun a c =>
 ∃ h i j,a = .slice h i j ∧
 (st c (d.add 0) (.slice h i j) fun a =>
 cV a e fun c =>
 cI a ((na f).add 6) .i64 fun h =>
 uG prog c #[.int .i64 h,.int .i64 b] a fun a b =>
 ∃ c,a = .int .i64 c ∧
 (cL b d fun a d h =>
 ix a d (g:Int) fun a =>
 st b (((a.add ((g:Int).toNat*3)).add 2).add 0) (.int .i64 c) fun a =>
 cV a e fun b =>
 cI a ((na f).add 7) .i64 fun d =>
 uG prog b #[.int .i64 d,.int .i64 c] a fun a b =>
 ∃ c,a = .int .i64 c ∧
 (R (.int .i64 c) b))))
end bM
def bM (R:VP):=bM.g0 R
theorem bM.calls {R a b c d e w} (k:bM R a b c d e w):CA 86 #[.int .i64 a,.int .i64 b,.pointer (some c),.pointer (some d),.pointer (some e)] w R:=cal (n:=bM.an) func86 rfl k (by kernel_rfl)
open Go.Proofs.Try (f87 func87)
namespace lK
def an:An:=An.nil
def g0 (R:VP) (a:OA) (b c:Nat) (d:Addr) (e:World):Prop :=
 CA 96 #[.slice a b c,.int .i64 (b:Int),.func (.func 88) #[] #[.pointer (some d)]] e fun a b =>
 a = .tuple #[] ∧
 (R (.tuple #[]) b)
end lK
def lK (R:VP):=lK.g0 R
theorem lK.calls {R a b c d w} (k:lK R a b c d w):CA 87 #[.slice a b c,.func (.func 88) #[] #[.pointer (some d)]] w R:=cal (n:=lK.an) func87 rfl k (by kernel_rfl)
end Go.Mir
