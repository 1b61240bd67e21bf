/- Part of a proof of laws of the seat YtmjlipmapfofmaaGreat: functions' weakest preconditions, each checked by the kernel, contracts out of them, plain lemmas; no conditions. -/
import Derived.Test.YtmjlipmapfofmaaGreatMMA
set_option linter.unusedVariables false
set_option linter.unusedSimpArgs false
set_option linter.unusedSectionVars false
set_option linter.unusedVariables false
set_option maxRecDepth 100000
namespace Go.Mir
open Go Go.E Go.RowKit
open Go.Proofs.Tryz (prog)
open Go.Proofs.Tryz (f34 func34)
namespace bF
def an:An:=(aR (aR (aL (aR (aL (.mk (some [0,1,12,13]) .nil .nil))))))
def qf (R:VP):QT:=fin prog f34 R
def C:=cdN prog f34 an
abbrev T14:=OA→Nat→Nat→OA→Nat→Nat→Int→Int→World→Prop
def g0 (R:VP) (e14:T14) (a:OA) (b c:Nat) (d:OA) (e f:Nat) (g:World):Prop :=
 af ((b:Int) != (e:Int))
 (R (.bool false) g)
 (e14 a b c d e f (b:Int) 0 g)
def g14 (R:VP) (b14:T14) (a:OA) (b c:Nat) (d:OA) (e f:Nat) (g h:Int) (i:World):Prop :=
 af (decide (h<g))
 (ix a b h fun j =>
 cI i (j.add (h.toNat*1)) .i64 fun j =>
 ix d e h fun k =>
 cI i (k.add (h.toNat*1)) .i64 fun k =>
 af (j != k)
 (R (.bool false) i)
 (inc h fun h =>
 b14 a b c d e f g h i))
 (R (.bool true) i)
def q14 (R:VP):QT:=(Exit.inBlock 0 (qS none (C [1,1,1]) (qf R)))
@[irreducible] def l14 (R:VP) (k:Nat):T14:=fun a b c d e f g h w=>aZ [0,1,12,13] (C [1,1,0,1,0,0]) (q14 R) k (fr ((.slice a b c::(.slice d e f::U 10 (.int .i64 g::(.int .i64 h::U 12 [])))))) w
def e14 (R:VP):T14:=fun a b c d e f g h w=>∃ k,l14 R k a b c d e f g h w
theorem u14 (R k a b c d e f g h w):l14 R (k+1) a b c d e f g h w=g14 R (l14 R k) a b c d e f g h w:=ju (by kernel_rfl)
end bF
def bF (R:VP):=bF.g0 R (bF.e14 R)
theorem bF.calls {R a b c d e f w} (k:bF R a b c d e f w):CA 34 #[.slice a b c,.slice d e f] w R:=cal (n:=bF.an) func34 rfl k (by kernel_rfl)
open Go.Proofs.Tryz (f35 func35)
namespace aK
def an:An:=(aR (aR (aL (aR (aL (.mk (some [1,13,14,15]) .nil .nil))))))
def qf (R:VP):QT:=fin prog f35 R
def C:=cdN prog f35 an
abbrev T14:=OA→Nat→Nat→OA→Nat→Nat→Int→Int→World→Prop
def g0 (R:VP) (e14:T14) (a:OA) (b c:Nat) (d:OA) (e f:Nat) (g:World):Prop :=
 af ((b:Int) != (e:Int))
 (R (.bool false) g)
 (e14 d e f a b c (b:Int) 0 g)
def g14 (R:VP) (b14:T14) (a:OA) (b c:Nat) (d:OA) (e f:Nat) (g h:Int) (i:World):Prop :=
 af (decide (h<g))
 (ix d e h fun j =>
 qg i (j.add (h.toNat*4)) fun j k l m n o p q r s =>
 nw (i.alloc (.cells (uk 0 none 0 0 none 0 0 none 0 0) 74)) fun t =>
 Cm t (na i) j k l m n o p q r s fun j =>
 ix a b h fun k =>
 qg j (k.add (h.toNat*4)) fun k l m n o p q r s t =>
 nw (j.alloc (.cells (uk 0 none 0 0 none 0 0 none 0 0) 74)) fun u =>
 Cm u (na j) k l m n o p q r s t fun k =>
 cI k ((na i).add 0) .i64 fun l =>
 cI k ((na j).add 0) .i64 fun m =>
 af (l != m)
 (R (.bool false) k)
 (cL k ((na i).add 1) fun l m n =>
 cL k ((na j).add 1) fun o p q =>
 CA 58 #[.slice l m n,.slice o p q] k fun k l =>
 ∃ m,k = .bool m ∧
 (af (!m)
 (R (.bool false) l)
 (cL l ((na i).add 2) fun k m n =>
 cL l ((na j).add 2) fun o p q =>
 CA 58 #[.slice k m n,.slice o p q] l fun k l =>
 ∃ m,k = .bool m ∧
 (af (!m)
 (R (.bool false) l)
 (cL l ((na i).add 3) fun k m n =>
 cL l ((na j).add 3) fun j o p =>
 CA 58 #[.slice k m n,.slice j o p] l fun j k =>
 ∃ l,j = .bool l ∧
 (af (!l)
 (R (.bool false) k)
 (inc h fun h =>
 b14 a b c d e f g h k))))))))
 (R (.bool true) i)
def q14 (R:VP):QT:=(Exit.inBlock 0 (qS none (C [1,1,1]) (qf R)))
@[irreducible] def l14 (R:VP) (k:Nat):T14:=fun a b c d e f g h w=>aZ [1,13,14,15] (C [1,1,0,1,0,0]) (q14 R) k (fr (U 1 (.slice a b c::U 11 (.slice d e f::(.int .i64 g::(.int .i64 h::U 38 [])))))) w
def e14 (R:VP):T14:=fun a b c d e f g h w=>∃ k,l14 R k a b c d e f g h w
theorem u14 (R k a b c d e f g h w):l14 R (k+1) a b c d e f g h w=g14 R (l14 R k) a b c d e f g h w:=ju (by kernel_rfl)
end aK
def aK (R:VP):=aK.g0 R (aK.e14 R)
theorem aK.calls {R a b c d e f w} (k:aK R a b c d e f w):CA 35 #[.slice a b c,.slice d e f] w R:=cal (n:=aK.an) func35 rfl k (by kernel_rfl)
open Go.Proofs.Tryz (f36 func36)
namespace aS
def an:An:=(aR (aR (aL (aR (aL (.mk (some [3,23,24,25]) .nil .nil))))))
def qf (R:VP):QT:=fin prog f36 R
def C:=cdN prog f36 an
abbrev T14:=OA→OA→Nat→Nat→Int→Int→World→Prop
def g0 (R:VP) (e14:T14) (a:Int) (b:OA) (c d:Nat) (e:Int) (f:OA) (g h:Nat) (i:World):Prop :=
 nw (i.alloc (.cells (lg a b c d) 50)) fun a =>
 nw (a.alloc (.cells (lg e f g h) 50)) fun b =>
 cI b ((na i).add 0) .i64 fun c =>
 cI b ((na a).add 0) .i64 fun d =>
 af (c != d)
 (R (.bool false) b)
 (cL b ((na i).add 1) fun c c d =>
 cL b ((na a).add 1) fun d d e =>
 af ((c:Int) != (d:Int))
 (R (.bool false) b)
 (cL b ((na i).add 1) fun c d e =>
 e14 (some (na a)) c d e (d:Int) 0 b))
def g14 (R:VP) (b14:T14) (a b:OA) (c d:Nat) (e f:Int) (g:World):Prop :=
 af (decide (f<e))
 (ix b c f fun h =>
 lU g (h.add (f.toNat*8)) fun h i j k l m n o p q =>
 nw (g.alloc (.cells (pO 0 0 0 0 none 0 0 0 0 0) 56)) fun r =>
 vS r (na g) h i j k l m n o p q fun h =>
 bK a fun i =>
 cL h (i.add 1) fun i j k =>
 ix i j f fun i =>
 lU h (i.add (f.toNat*8)) fun i j k l m n o p q r =>
 nw (h.alloc (.cells (pO 0 0 0 0 none 0 0 0 0 0) 56)) fun s =>
 vS s (na h) i j k l m n o p q r fun i =>
 cI i ((na g).add 0) .u8 fun j =>
 cI i ((na h).add 0) .u8 fun k =>
 af (j != k)
 (∀ j:World,Below i.heap.size i j →
 R (.bool false) j)
 (cI i ((na g).add 1) .i64 fun j =>
 cI i ((na h).add 1) .i64 fun k =>
 af (j != k)
 (∀ j:World,Below i.heap.size i j →
 R (.bool false) j)
 (cI i ((na g).add 2) .i64 fun j =>
 cI i ((na h).add 2) .i64 fun k =>
 af (j != k)
 (∀ j:World,Below i.heap.size i j →
 R (.bool false) j)
 (cF i ((na g).add 3) .f64 fun j =>
 ∃ k,pV prog (callFunc 56 #[.float .f64 j]) i (.int .u64 k) ∧
 (cF i ((na h).add 3) .f64 fun j =>
 ∃ l,pV prog (callFunc 56 #[.float .f64 j]) i (.int .u64 l) ∧
 (af (k != l)
 (∀ j:World,Below i.heap.size i j →
 R (.bool false) j)
 (cL i ((na g).add 4) fun j k l =>
 cL i ((na h).add 4) fun m n o =>
 ∃ p,(∀ q:World,Below i.heap.size i q→CA 34 #[.slice j k l,.slice m n o] q fun j k=>j = .bool p∧Below i.heap.size i k) ∧
 (af (!p)
 (∀ j:World,Below i.heap.size i j →
 R (.bool false) j)
 (cI i ((na g).add 5) .u8 fun j =>
 cI i ((na h).add 5) .u8 fun k =>
 af (j != k)
 (∀ j:World,Below i.heap.size i j →
 R (.bool false) j)
 (cI i ((na g).add 6) .i64 fun j =>
 cI i ((na h).add 6) .i64 fun k =>
 af (j != k)
 (∀ j:World,Below i.heap.size i j →
 R (.bool false) j)
 (cI i ((na g).add 7) .i64 fun j =>
 cI i ((na h).add 7) .i64 fun h =>
 ∀ k:World,Below i.heap.size i k →
 af (j != h)
 (R (.bool false) k)
 (inc f fun f =>
 b14 a b c d e f k))))))))))))
 (R (.bool true) g)
def q14 (R:VP):QT:=(Exit.inBlock 0 (qS none (C [1,1,1]) (qf R)))
@[irreducible] def l14 (R:VP) (k:Nat):T14:=fun a b c d e f w=>aZ [3,23,24,25] (C [1,1,0,1,0,0]) (q14 R) k (fr (U 3 (.pointer a::U 19 (.slice b c d::(.int .i64 e::(.int .i64 f::U 67 [])))))) w
def e14 (R:VP):T14:=fun a b c d e f w=>∃ k,l14 R k a b c d e f w
theorem u14 (R k a b c d e f w):l14 R (k+1) a b c d e f w=g14 R (l14 R k) a b c d e f w:=ju (by kernel_rfl)
end aS
def aS (R:VP):=aS.g0 R (aS.e14 R)
theorem aS.calls {R a b c d e f g h w} (k:aS R a b c d e f g h w):CA 36 #[jv a b c d,jv e f g h] w R:=cal (n:=aS.an) func36 rfl k (by kernel_rfl)
open Go.Proofs.Tryz (f37 func37)
namespace bz
def an:An:=(aR (aR (aL (aR (aL (.mk (some [3,7,8,9]) .nil .nil))))))
def qf (R:VP):QT:=fin prog f37 R
def C:=cdN prog f37 an
abbrev T8:=OA→Nat→Nat→OA→Nat→Nat→Int→Int→World→Prop
def g0 (R:VP) (e8:T8) (a:OA) (b c:Nat) (d:World):Prop :=
 e8 none 0 0 a b c (b:Int) 0 d
def g8 (R:VP) (b8:T8) (a:OA) (b c:Nat) (d:OA) (e f:Nat) (g h:Int) (i:World):Prop :=
 af (decide (h<g))
 (ix d e h fun j =>
 mi i (j.add (h.toNat*5)) fun j k l m n o p =>
 nw (i.alloc (.cells (oG 0 none 0 0 0 0 0) 76)) fun q =>
 vw q (na i) j k l m n o p fun j =>
 cL j ((na i).add 1) fun k l m =>
 dm prog (Builtin.append_ #[53,53] 53 #[.slice none 0 0,.slice k l m]) j fun j k =>
 ∃ l m n,j = .slice l m n ∧
 (st k (((na i).add 1).add 0) (.slice l m n) fun j =>
 mi j (na i) fun k l m n o p q =>
 nw (j.alloc (.cells (oG k l m n o p q) 76)) fun k =>
 dm prog (Builtin.append_ #[72,72] 72 #[.slice a b c,.slice (some (na j)) 1 1]) k fun j k =>
 ∃ l m n,j = .slice l m n ∧
 (inc h fun h =>
 b8 l m n d e f g h k)))
 (R (.slice a b c) i)
def q8 (R:VP):QT:=(Exit.inBlock 0 (qS none (C [1,1,1]) (qf R)))
@[irreducible] def l8 (R:VP) (k:Nat):T8:=fun a b c d e f g h w=>aZ [3,7,8,9] (C [1,1,0,1,0,0]) (q8 R) k (fr (U 3 (.slice a b c::U 3 (.slice d e f::(.int .i64 g::(.int .i64 h::U 14 [])))))) w
def e8 (R:VP):T8:=fun a b c d e f g h w=>∃ k,l8 R k a b c d e f g h w
theorem u8 (R k a b c d e f g h w):l8 R (k+1) a b c d e f g h w=g8 R (l8 R k) a b c d e f g h w:=ju (by kernel_rfl)
end bz
def bz (R:VP):=bz.g0 R (bz.e8 R)
theorem bz.calls {R a b c w} (k:bz R a b c w):CA 37 #[.slice a b c] w R:=cal (n:=bz.an) func37 rfl k (by kernel_rfl)
open Go.Proofs.Tryz (f38 func38)
namespace ay
def an:An:=(aR (aR (aR (.mk none (aR (aL (.mk (some [1,4,41,42,43]) (aR (aR (aL (aL (aR (aR (.mk none (aR (aL (.mk (some [1,4,6,7,41,42,43,49,50,51]) .nil .nil))) (aR (aL (.mk (some [1,4,6,7,41,42,43,74,75,76]) (aR (aR (aL (aL (aR (aR (aL (.mk (some [1,4,6,7,10,41,42,43,74,75,76,81,82,83]) .nil .nil)))))))) .nil)))))))))) .nil))) (aR (aL (aR (aL (.mk (some [1,15,141,142,143]) .nil .nil)))))))))
def qf (R:VP):QT:=fin prog f38 R
def C:=cdN prog f38 an
abbrev T16:=OA→OA→Nat→Nat→OA→Nat→Nat→Int→Int→World→Prop
abbrev T33:=OA→OA→Nat→Nat→OA→(Option Nat)→OA→Nat→Nat→Int→Int→OA→Nat→Nat→Int→Int→World→Prop
abbrev T49:=OA→OA→Nat→Nat→OA→(Option Nat)→OA→Nat→Nat→Int→Int→OA→Nat→Nat→Int→Int→World→Prop
abbrev T63:=OA→OA→Nat→Nat→OA→(Option Nat)→Int→OA→Nat→Nat→Int→Int→OA→Nat→Nat→Int→Int→OA→Nat→Nat→Int→Int→World→Prop
abbrev UN:=OA→OA→Nat→Nat→OA→Nat→Nat→Int→Int→World→Prop
def g0 (R:VP) (e16:T16) (a:Int) (b:OA) (c d:Nat) (e:OA) (f g:Nat) (h:OA) (i j:Nat) (k:OA) (l m:Nat) (n:World):Prop :=
 nw (n.alloc (.cells (oZ a b c d e f g h i j k l m) 66)) fun a =>
 cL a ((na n).add 1) fun b b c =>
 cL a ((na n).add 2) fun c c d =>
 af ((b:Int) != (c:Int))
 (R (.tuple #[.slice none 0 0,.bool false]) a)
 (cL a ((na n).add 1) fun b b c =>
 cL a ((na n).add 3) fun c c d =>
 af ((b:Int) != (c:Int))
 (R (.tuple #[.slice none 0 0,.bool false]) a)
 (cL a ((na n).add 1) fun b b c =>
 chk ((0:Int)≤(b:Int)∧(b:Int)≤(b:Int)∧((24:Nat):Int)*(b:Int)≤281474976710656∧(b:Int)≤9223372036854775807)
 (nw (a.alloc (.cells (madeCells #[.slice none 0 0] (((b:Int)).toNat*1)) 113)) fun c =>
 cL c ((na n).add 4) fun d e f =>
 e16 (some (na n)) (some (na a)) (((b:Int)).toNat) (((b:Int)).toNat) d e f (e:Int) 0 c)))
def g16 (R:VP) (e33:T33) (Vk:UN) (a b:OA) (c d:Nat) (e:OA) (f g:Nat) (h i:Int) (j:World):Prop :=
 af (decide (i<h))
 (ix e f i fun k =>
 qg j (k.add (i.toNat*4)) fun k l m n o p q r s t =>
 nw (j.alloc (.cells (uk 0 none 0 0 none 0 0 none 0 0) 74)) fun u =>
 Cm u (na j) k l m n o p q r s t fun k =>
 nw (k.alloc (.map #[] 0)) fun l =>
 cL l ((na j).add 3) fun m n o =>
 e33 a b c d (some (na j)) (some k.heap.size) e f g h i m n o (n:Int) 0 l)
 (Vk a none 0 0 b c d (c:Int) 0 j)
def g33 (R:VP) (b33:T33) (e49:T49) (a b:OA) (c d:Nat) (e:OA) (f:Option Nat) (g:OA) (h i:Nat) (j k:Int) (l:OA) (m n:Nat) (o p:Int) (q:World):Prop :=
 af (decide (p<o))
 (ix l m p fun r =>
 mi q (r.add (p.toNat*5)) fun r s t u v w x =>
 nw (q.alloc (.cells (oG 0 none 0 0 0 0 0) 76)) fun y =>
 vw y (na q) r s t u v w x fun r =>
 ∃ (s:World) (t:World→Prop) (u:World→World→Prop) (v:Nat→Value→World→Prop),D9 s r t u v ∧
 (cI s ((na q).add 2) .i64 fun r =>
 cI s ((na q).add 3) .i64 fun w =>
 cI s ((na q).add 4) .i64 fun x =>
 bK e fun y =>
 cI s (y.add 0) .i64 fun s =>
 (∀ y:World,t y→dm prog (Instr.lookup 109 (.map f) (Gg r w x s) false) y fun z A=>∃ B,z = .int .i64 B∧v 10 (.int .i64 B) A∧u y A) ∧
 (∀ y:Int,(∃ z,t z∧v 10 (.int .i64 y) z) →
 inc y fun z =>
 (∀ A:World,t A→dm prog (Instr.mapEntry 109 (.map f) (Gg r w x s)) A fun r s=>∃ (w:Value) (x:Int),r = .tuple #[w,.int .i64 x]∧v 12 (.tuple #[w,.int .i64 x]) s∧u A s) ∧
 (∀ (r:Value) (s:Int),(∃ u,t u∧v 12 (.tuple #[r,.int .i64 s]) u) →
 ∀ u:World,t u→v 10 (.int .i64 y) u→v 12 (.tuple #[r,.int .i64 s]) u →
 dm prog (do Instr.entryStore 109 (.map f) (.int .i64 s) (.int .i64 z); pure undef) u fun _ r =>
 inc p fun p =>
 b33 a b c d e f g h i j k l m n o p r))))
 (bK e fun l =>
 cL q (l.add 1) fun l m n =>
 bK e fun o =>
 cL q (o.add 2) fun o p r =>
 nw (q.alloc (.cells #[.slice l m n,.slice o p r] 72)) fun l =>
 e49 a b c d e f g h i j k (some (na q)) 2 2 2 0 l)
def g49 (R:VP) (b16:T16) (e63:T63) (a b:OA) (c d:Nat) (e:OA) (f:Option Nat) (g:OA) (h i:Nat) (j k:Int) (l:OA) (m n:Nat) (o p:Int) (q:World):Prop :=
 af (decide (p<o))
 (ix l m p fun r =>
 cL q (r.add (p.toNat*1)) fun r s t =>
 e63 a b c d e f p g h i j k l m n o p r s t (s:Int) 0 q)
 (inc k fun e =>
 b16 a b c d g h i j e q)
def g63 (R:VP) (b49:T49) (b63:T63) (a b:OA) (c d:Nat) (e:OA) (f:Option Nat) (g:Int) (h:OA) (i j:Nat) (k l:Int) (m:OA) (n o:Nat) (p q:Int) (r:OA) (s t:Nat) (u v:Int) (w:World):Prop :=
 af (decide (v<u))
 (ix r s v fun x =>
 mi w (x.add (v.toNat*5)) fun x y z A B C D =>
 nw (w.alloc (.cells (oG 0 none 0 0 0 0 0) 76)) fun E =>
 vw E (na w) x y z A B C D fun x =>
 cI x ((na w).add 2) .i64 fun y =>
 af (decide (y<0))
 (R (.tuple #[.slice none 0 0,.bool false]) x)
 (cI x ((na w).add 2) .i64 fun y =>
 af (decide (y≥(c:Int)))
 (R (.tuple #[.slice none 0 0,.bool false]) x)
 (∃ y:Nat→Value→World→Prop,KpF y ∧
 (bK e fun z =>
 cI x (z.add 0) .i64 fun z =>
 cF x ((na w).add 0) .f64 fun A =>
 cL x ((na w).add 1) fun B C D =>
 (∀ E:World,Below x.heap.size x E→CA 43 #[.slice B C D] E fun B C=>∃ D F G,B = .slice D F G∧y 6 (.slice D F G) C∧Below E.heap.size E C) ∧
 (∀ B:Option Addr,∀ C:Nat,∀ D:Nat,(∃ E,Below x.heap.size x E∧y 6 (.slice B C D) E) →
 (∀ E:World,Below x.heap.size x E→y 8 (.pointer (some (na E))) (E.alloc (.cells (pO 0 0 0 0 none 0 0 0 0 0) 56))) ∧
 (∀ E:Addr,(∃ F,Below x.heap.size x F∧y 8 (.pointer (some E)) F) →
 ∀ F:World,Below x.heap.size x F→y 6 (.slice B C D) F→y 8 (.pointer (some E)) F →
 vS F E 2 0 z A B C D 1 0 0 fun x =>
 af (g==1)
 (st x ((E.add 0).add 0) (.int .u8 3) fun y =>
 cI y ((na w).add 2) .i64 fun z =>
 cI y ((na w).add 3) .i64 fun A =>
 cI y ((na w).add 4) .i64 fun B =>
 bK e fun C =>
 cI y (C.add 0) .i64 fun C =>
 dm prog (Instr.lookup 109 (.map f) (Gg z A B C) false) y fun y z =>
 ∃ A,y = .int .i64 A ∧
 (af (decide (A>0))
 (st z ((E.add 5).add 0) (.int .u8 2) fun y =>
 ∃ A:World,CK A y ∧
 (cI A ((na w).add 2) .i64 fun B =>
 cI A ((na w).add 2) .i64 fun C =>
 ix b c C fun D =>
 cL A (D.add (C.toNat*1)) fun C D F =>
 lU A E fun G H I J K L M N O P =>
 cI A ((na w).add 3) .i64 fun Q =>
 cI A ((na w).add 4) .i64 fun S =>
 nw (y.alloc (.cells (qY G H I J K L M N O P Q S) 115)) fun G =>
 CK A G ∧
 (dm prog (Builtin.append_ #[113,113] 113 #[.slice C D F,.slice (some (na y)) 1 1]) G fun y C =>
 ∃ D F G,y = .slice D F G ∧
 (CK A C ∧
 (ix b c B fun y =>
 st C ((y.add (B.toNat*1)).add 0) (.slice D F G) fun y =>
 inc v fun A =>
 b63 a b c d e f g h i j k l m n o p q r s t u A y)))))
 (∃ y:World,CK y z ∧
 (cI y ((na w).add 2) .i64 fun A =>
 cI y ((na w).add 2) .i64 fun B =>
 ix b c B fun C =>
 cL y (C.add (B.toNat*1)) fun B C D =>
 lU y E fun F G H I J K L M N O =>
 cI y ((na w).add 3) .i64 fun P =>
 cI y ((na w).add 4) .i64 fun Q =>
 nw (z.alloc (.cells (qY F G H I J K L M N O P Q) 115)) fun F =>
 CK y F ∧
 (dm prog (Builtin.append_ #[113,113] 113 #[.slice B C D,.slice (some (na z)) 1 1]) F fun z B =>
 ∃ C D F,z = .slice C D F ∧
 (CK y B ∧
 (ix b c A fun y =>
 st B ((y.add (A.toNat*1)).add 0) (.slice C D F) fun y =>
 inc v fun z =>
 b63 a b c d e f g h i j k l m n o p q r s t u z y)))))))
 (cI x ((na w).add 2) .i64 fun y =>
 cI x ((na w).add 3) .i64 fun z =>
 cI x ((na w).add 4) .i64 fun A =>
 bK e fun B =>
 cI x (B.add 0) .i64 fun B =>
 dm prog (Instr.lookup 109 (.map f) (Gg y z A B) false) x fun x y =>
 ∃ z,x = .int .i64 z ∧
 (af (decide (z>0))
 (st y ((E.add 5).add 0) (.int .u8 2) fun x =>
 ∃ z:World,CK z x ∧
 (cI z ((na w).add 2) .i64 fun A =>
 cI z ((na w).add 2) .i64 fun B =>
 ix b c B fun C =>
 cL z (C.add (B.toNat*1)) fun B C D =>
 lU z E fun F G H I J K L M N O =>
 cI z ((na w).add 3) .i64 fun P =>
 cI z ((na w).add 4) .i64 fun Q =>
 nw (x.alloc (.cells (qY F G H I J K L M N O P Q) 115)) fun F =>
 CK z F ∧
 (dm prog (Builtin.append_ #[113,113] 113 #[.slice B C D,.slice (some (na x)) 1 1]) F fun x B =>
 ∃ C D F,x = .slice C D F ∧
 (CK z B ∧
 (ix b c A fun x =>
 st B ((x.add (A.toNat*1)).add 0) (.slice C D F) fun x =>
 inc v fun z =>
 b63 a b c d e f g h i j k l m n o p q r s t u z x)))))
 (∃ x:World,CK x y ∧
 (cI x ((na w).add 2) .i64 fun z =>
 cI x ((na w).add 2) .i64 fun A =>
 ix b c A fun B =>
 cL x (B.add (A.toNat*1)) fun A B C =>
 lU x E fun D E F G H I J K L M =>
 cI x ((na w).add 3) .i64 fun N =>
 cI x ((na w).add 4) .i64 fun O =>
 nw (y.alloc (.cells (qY D E F G H I J K L M N O) 115)) fun D =>
 CK x D ∧
 (dm prog (Builtin.append_ #[113,113] 113 #[.slice A B C,.slice (some (na y)) 1 1]) D fun y A =>
 ∃ B C D,y = .slice B C D ∧
 (CK x A ∧
 (ix b c z fun x =>
 st A ((x.add (z.toNat*1)).add 0) (.slice B C D) fun x =>
 inc v fun v =>
 b63 a b c d e f g h i j k l m n o p q r s t u v x)))))))))))))
 (inc q fun g =>
 b49 a b c d e f h i j k l m n o p g w)
def Vj (R:VP) (b106:UN) (a b:OA) (c d:Nat) (e:OA) (f g:Nat) (h i:Int) (j:World):Prop :=
 af (decide (i<h))
 (ix e f i fun k =>
 cL j (k.add (i.toNat*1)) fun k l m =>
 bK a fun n =>
 cL j (n.add 1) fun n o p =>
 ix n o i fun n =>
 cI j (n.add (i.toNat*1)) .i64 fun n =>
 af (decide (n<1))
 (R (.tuple #[.slice none 0 0,.bool false]) j)
 (bK a fun n =>
 cL j (n.add 1) fun n o p =>
 ix n o i fun n =>
 cI j (n.add (i.toNat*1)) .i64 fun n =>
 af (decide (n>4096))
 (R (.tuple #[.slice none 0 0,.bool false]) j)
 (bK a fun n =>
 cL j (n.add 2) fun n o p =>
 ix n o i fun n =>
 cL j (n.add (i.toNat*1)) fun n n o =>
 bK a fun o =>
 cL j (o.add 1) fun o p q =>
 ix o p i fun o =>
 cI j (o.add (i.toNat*1)) .i64 fun o =>
 af ((n:Int) != o)
 (R (.tuple #[.slice none 0 0,.bool false]) j)
 (bK a fun n =>
 cL j (n.add 1) fun n o p =>
 ix n o i fun n =>
 cI j (n.add (i.toNat*1)) .i64 fun n =>
 nv (IntKind.i64.wrap (n - 1)) fun n =>
 af ((l:Int) != n)
 (R (.tuple #[.slice none 0 0,.bool false]) j)
 (bK a fun n =>
 cL j (n.add 2) fun n o p =>
 ix n o i fun n =>
 cL j (n.add (i.toNat*1)) fun n o p =>
 CA 59 #[.slice k l m,.slice n o p] j fun k l =>
 ∃ m n o p q,k = .tuple #[jv m n o p,.bool q] ∧
 (nw (l.alloc (.cells (lg 0 none 0 0) 50)) fun k =>
 DN k (na l) m n o p fun k =>
 af (!q)
 (R (.tuple #[.slice none 0 0,.bool false]) k)
 (bK a fun m =>
 cL k (m.add 3) fun m n o =>
 ix m n i fun m =>
 cI k (m.add (i.toNat*1)) .i64 fun m =>
 st k (((na l).add 0).add 0) (.int .i64 m) fun k =>
 lK k (na l) fun l m n o =>
 nw (k.alloc (.cells (lg l m n o) 50)) fun l =>
 dm prog (Builtin.append_ #[24,24] 24 #[.slice b c d,.slice (some (na k)) 1 1]) l fun k l =>
 ∃ m n o,k = .slice m n o ∧
 (inc i fun i =>
 b106 a m n o e f g h i l))))))))
 (R (.tuple #[.slice b c d,.bool true]) j)
def q16 (R:VP):QT:=(Exit.inBlock 0 (qS none (C [1,1,1,1]) (qf R)))
@[irreducible] def l16 (R:VP) (k:Nat):T16:=fun a b c d e f g h i w=>aZ [1,4,41,42,43] (C [1,1,1,0,1,0,0]) (q16 R) k (fr (U 1 (.pointer a::U 2 (.slice b c d::U 36 (.slice e f g::(.int .i64 h::(.int .i64 i::U 167 []))))))) w
def e16 (R:VP):T16:=fun a b c d e f g h i w=>∃ k,l16 R k a b c d e f g h i w
def q33 (R:VP) (k16:Nat):QT:=(Exit.inBlock 2 (qS none (C [1,1,1,0,1,0,0,1,1,0,0,1,1,1]) (Exit.inBlock 1 (qS none (C [1,1,1,0,1,0,0,1,1,1]) (qL [1,4,41,42,43] (C [1,1,1,0,1,0,0]) (q16 R) k16)))))
def UG (R:VP) (k16:Nat) (k:Nat):T33:=fun a b c d e f g h i j l m n o p q w=>aZ [1,4,6,7,41,42,43,49,50,51] (C [1,1,1,0,1,0,0,1,1,0,0,1,1,0,1,0,0]) (q33 R k16) k (fr (U 1 (.pointer a::U 2 (.slice b c d::U 1 (.pointer e::(.map f::U 33 (.slice g h i::(.int .i64 j::(.int .i64 l::U 5 (.slice m n o::(.int .i64 p::(.int .i64 q::U 159 [])))))))))))) w
def Wv (R:VP) (k16:Nat):T33:=fun a b c d e f g h i j l m n o p q w=>∃ k,UG R k16 k a b c d e f g h i j l m n o p q w
def q49 (R:VP) (k16:Nat):QT:=(Exit.inBlock 4 (Exit.inBlock 1 (qS none (C [1,1,1,0,1,0,0,1,1,1]) (qL [1,4,41,42,43] (C [1,1,1,0,1,0,0]) (q16 R) k16))))
def RN (R:VP) (k16:Nat) (k:Nat):T49:=fun a b c d e f g h i j l m n o p q w=>aZ [1,4,6,7,41,42,43,74,75,76] (C [1,1,1,0,1,0,0,1,1,0,0,1,1,1,1,0,0]) (q49 R k16) k (fr (U 1 (.pointer a::U 2 (.slice b c d::U 1 (.pointer e::(.map f::U 33 (.slice g h i::(.int .i64 j::(.int .i64 l::U 30 (.slice m n o::(.int .i64 p::(.int .i64 q::U 134 [])))))))))))) w
def VC (R:VP) (k16:Nat):T49:=fun a b c d e f g h i j l m n o p q w=>∃ k,RN R k16 k a b c d e f g h i j l m n o p q w
def q63 (R:VP) (k16 k49:Nat):QT:=(Exit.inBlock 6 (Exit.inBlock 5 (qS none (C [1,1,1,0,1,0,0,1,1,0,0,1,1,1,1,0,0,1,1,1]) (qL [1,4,6,7,41,42,43,74,75,76] (C [1,1,1,0,1,0,0,1,1,0,0,1,1,1,1,0,0]) (q49 R k16) k49))))
def UF (R:VP) (k16 k49:Nat) (k:Nat):T63:=fun a b c d e f g h i j l m n o p q r s t u v x w=>aZ [1,4,6,7,10,41,42,43,74,75,76,81,82,83] (C [1,1,1,0,1,0,0,1,1,0,0,1,1,1,1,0,0,1,1,0,0,1,1,0,0]) (q63 R k16 k49) k (fr (U 1 (.pointer a::U 2 (.slice b c d::U 1 (.pointer e::(.map f::U 2 (.int .i64 g::U 30 (.slice h i j::(.int .i64 l::(.int .i64 m::U 30 (.slice n o p::(.int .i64 q::(.int .i64 r::U 4 (.slice s t u::(.int .i64 v::(.int .i64 x::U 127 [])))))))))))))))) w
def Vx (R:VP) (k16 k49:Nat):T63:=fun a b c d e f g h i j l m n o p q r s t u v x w=>∃ k,UF R k16 k49 k a b c d e f g h i j l m n o p q r s t u v x w
def Xm (R:VP):QT:=(Exit.inBlock 8 (qS none (C [1,1,1,1,1,1]) (qf R)))
@[irreducible] def UD (R:VP) (k:Nat):UN:=fun a b c d e f g h i w=>aZ [1,15,141,142,143] (C [1,1,1,1,1,0,1,0,0]) (Xm R) k (fr (U 1 (.pointer a::U 13 (.slice b c d::U 125 (.slice e f g::(.int .i64 h::(.int .i64 i::U 67 []))))))) w
def Vk (R:VP):UN:=fun a b c d e f g h i w=>∃ k,UD R k a b c d e f g h i w
def l63 (R:VP) (b16:T16) (b49:T49):Nat→T63
 | 0=>fun _ _ _ _ _ _ _ _ _ _ _ _ _ _ _ _ _ _ _ _ _ _ _=>False
 | k+1=>g63 R b49 (l63 R b16 b49 k)
def e63 (R:VP) (b16:T16) (b49:T49):T63:=fun a b c d e f g h i j l m n o p q r s t u v x w=>∃ k,l63 R b16 b49 k a b c d e f g h i j l m n o p q r s t u v x w
theorem s63 (R:VP) (k16 k49:Nat) (k:Nat):UF R k16 k49 (k+1)=fun a b c d e f g h i j l m n o p q r s t u v x w=>∀ _:Nat→Value,g63 R (RN R k16 k49) (UF R k16 k49 k) a b c d e f g h i j l m n o p q r s t u v x w:=by kernel_rfl
theorem Wx (R:VP) (k16 k49:Nat) (b16:T16) (b49:T49) (hb16:b16=l16 R k16) (hb49:b49=RN R k16 k49):∀ k,l63 R b16 b49 k=UF R k16 k49 k
 | 0=>by kernel_rfl
 | k+1=>by
  rw [s63]
  simp only [forall_const]
  unfold l63
  have ih:=Wx R k16 k49 b16 b49 hb16 hb49 k
  subst hb16
  subst hb49
  rw [ih]
  all_goals rfl
theorem Xt (R:VP) (k16 k49:Nat) (b16:T16) (b49:T49) (hb16:b16=l16 R k16) (hb49:b49=RN R k16 k49):e63 R b16 b49=Vx R k16 k49:=by
 unfold e63 Vx
 simp only [Wx R k16 k49 b16 b49 hb16 hb49]
def l49 (R:VP) (b16:T16):Nat→T49
 | 0=>fun _ _ _ _ _ _ _ _ _ _ _ _ _ _ _ _ _=>False
 | k+1=>g49 R b16 (e63 R b16 (l49 R b16 k))
def e49 (R:VP) (b16:T16):T49:=fun a b c d e f g h i j l m n o p q w=>∃ k,l49 R b16 k a b c d e f g h i j l m n o p q w
theorem s49 (R:VP) (k16:Nat) (k:Nat):RN R k16 (k+1)=fun a b c d e f g h i j l m n o p q w=>∀ _:Nat→Value,g49 R (l16 R k16) (Vx R k16 k) a b c d e f g h i j l m n o p q w:=by kernel_rfl
theorem WE (R:VP) (k16:Nat) (b16:T16) (hb16:b16=l16 R k16):∀ k,l49 R b16 k=RN R k16 k
 | 0=>by kernel_rfl
 | k+1=>by
  rw [s49]
  simp only [forall_const]
  unfold l49
  have ih:=WE R k16 b16 hb16 k
  subst hb16
  rw [Xt R k16 k _ _ rfl ih]
  all_goals rfl
theorem Xl (R:VP) (k16:Nat) (b16:T16) (hb16:b16=l16 R k16):e49 R b16=VC R k16:=by
 unfold e49 VC
 simp only [WE R k16 b16 hb16]
def l33 (R:VP) (b16:T16):Nat→T33
 | 0=>fun _ _ _ _ _ _ _ _ _ _ _ _ _ _ _ _ _=>False
 | k+1=>g33 R (l33 R b16 k) (e49 R b16)
def e33 (R:VP) (b16:T16):T33:=fun a b c d e f g h i j l m n o p q w=>∃ k,l33 R b16 k a b c d e f g h i j l m n o p q w
theorem s33 (R:VP) (k16:Nat) (k:Nat):UG R k16 (k+1)=fun a b c d e f g h i j l m n o p q w=>∀ _:Nat→Value,g33 R (UG R k16 k) (VC R k16) a b c d e f g h i j l m n o p q w:=by kernel_rfl
theorem Wl (R:VP) (k16:Nat) (b16:T16) (hb16:b16=l16 R k16):∀ k,l33 R b16 k=UG R k16 k
 | 0=>by kernel_rfl
 | k+1=>by
  rw [s33]
  simp only [forall_const]
  unfold l33
  have ih:=Wl R k16 b16 hb16 k
  subst hb16
  rw [Xl R k16 _ rfl]
  rw [ih]
  all_goals rfl
theorem Xi (R:VP) (k16:Nat) (b16:T16) (hb16:b16=l16 R k16):e33 R b16=Wv R k16:=by
 unfold e33 Wv
 simp only [Wl R k16 b16 hb16]
theorem Rz (R k a b c d e f g h i w):UD R (k+1) a b c d e f g h i w=Vj R (UD R k) a b c d e f g h i w:=ju (by kernel_rfl)
theorem u16 (R k a b c d e f g h i w):l16 R (k+1) a b c d e f g h i w=g16 R (e33 R (l16 R k)) (Vk R) a b c d e f g h i w:=by rw [Xi R k _ rfl]; exact ju (by kernel_rfl)
end ay
def ay (R:VP):=ay.g0 R (ay.e16 R)
theorem ay.calls {R a b c d e f g h i j l m n w} (k:ay R a b c d e f g h i j l m n w):CA 38 #[zK a b c d e f g h i j l m n] w R:=cal (n:=ay.an) func38 rfl k (by kernel_rfl)
open Go.Proofs.Tryz (f39 func39)
namespace iq
def an:An:=An.nil
def g0 (R:VP) (a b:Int) (c:OA) (d e:Nat) (f:OA) (g h:Nat) (i j:Int) (k:OA) (l m:Nat) (n:OA) (o p:Nat) (q:World):Prop :=
 nw (q.alloc (.cells (lq a b c d e f g h) 31)) fun a =>
 nw (a.alloc (.cells (lq i j k l m n o p) 31)) fun b =>
 cI b ((na q).add 0) .i64 fun c =>
 cI b ((na a).add 0) .i64 fun d =>
 af (c==d)
 (cI b ((na q).add 1) .i64 fun c =>
 cI b ((na a).add 1) .i64 fun d =>
 af (c==d)
 (cL b ((na q).add 2) fun c d e =>
 cL b ((na a).add 2) fun f g h =>
 CA 60 #[.slice c d e,.slice f g h] b fun c d =>
 ∃ e,c = .bool e ∧
 (af e
 (cL d ((na q).add 3) fun c e f =>
 cL d ((na a).add 3) fun a g h =>
 CA 61 #[.slice c e f,.slice a g h,.func (.func 62) #[] #[]] d fun a c =>
 ∃ e,a = .bool e ∧
 (R (.bool e) c))
 (R (.bool false) d)))
 (R (.bool false) b))
 (R (.bool false) b)
end iq
def iq (R:VP):=iq.g0 R
theorem iq.calls {R a b c d e f g h i j l m n o p q w} (k:iq R a b c d e f g h i j l m n o p q w):CA 39 #[jM a b c d e f g h,jM i j l m n o p q] w R:=cal (n:=iq.an) func39 rfl k (by kernel_rfl)
open Go.Proofs.Tryz (f43 func43)
namespace slices_Clone_int
def an:An:=An.nil
def g0 (R:VP) (a:OA) (b c:Nat) (d:World):Prop :=
 af a.isNone
 (R (.slice none 0 0) d)
 (nw (d.alloc (.cells #[] 3)) fun e =>
 dm prog (Builtin.append_ #[53,53] 53 #[.slice (some (na d)) 0 0,.slice a b c]) e fun a b =>
 ∃ c d e,a = .slice c d e ∧
 (R (.slice c d e) b))
end slices_Clone_int
def slices_Clone_int (R:VP):=slices_Clone_int.g0 R
theorem slices_Clone_int.calls {R a b c w} (k:slices_Clone_int R a b c w):CA 43 #[.slice a b c] w R:=cal (n:=slices_Clone_int.an) func43 rfl k (by kernel_rfl)
end Go.Mir
set_option linter.unusedVariables false
set_option maxRecDepth 100000
namespace Go.Mir
open Go Go.E Go.RowKit
open Go.Proofs.Tryz (prog)
open Go.Proofs.Tryz (f47 func47)
namespace eH
def an:An:=(aL (aR (aL (.mk (some [0,5,6]) (aR (aR (aL (aL (aR (aL (aR (aL (.mk (some [0,2,5,6,14,15]) .nil .nil))))))))) .nil))))
def qf (R:VP):QT:=fin prog f47 R
def C:=cdN prog f47 an
abbrev T4:=OA→Nat→Nat→Int→Int→World→Prop
abbrev T19:=OA→Nat→Nat→Int→Int→Int→Int→Int→World→Prop
def g0 (R:VP) (e4:T4) (a:OA) (b c:Nat) (d:World):Prop :=
 e4 a b c (b:Int) 0 d
def g4 (R:VP) (e19:T19) (a:OA) (b c:Nat) (d e:Int) (f:World):Prop :=
 af (decide (e<d))
 (ix a b e fun g =>
 cL f ((g.add (e.toNat*5)).add 1) fun g g h =>
 e19 a b c e d e (g:Int) 0 f)
 (nw (f.alloc (.cells #[.float .f64 0,.slice none 0 0,.int .i64 0,.int .i64 0,.int .i64 0,.float .f64 0,.slice none 0 0,.int .i64 0,.int .i64 0,.int .i64 0] 76)) fun d =>
 dm prog (Builtin.append_ #[72,72] 72 #[.slice a b c,.slice (some (na f)) 2 2]) d fun a b =>
 ∃ c d e,a = .slice c d e ∧
 (nv (IntKind.i64.wrap ((d:Int) - 1)) fun a =>
 ix c d a fun c =>
 st b (((c.add (a.toNat*5)).add 2).add 0) (.int .i64 1) fun a =>
 R (.tuple #[]) a))
def g19 (R:VP) (b4:T4) (b19:T19) (a:OA) (b c:Nat) (d e f g h:Int) (i:World):Prop :=
 af (decide (h<g))
 (ix a b d fun j =>
 cL i ((j.add (d.toNat*5)).add 1) fun j k l =>
 ix j k h fun j =>
 st i ((j.add (h.toNat*1)).add 0) (.int .i64 (-7)) fun j =>
 inc h fun h =>
 b19 a b c d e f g h j)
 (ix a b d fun g =>
 cL i ((g.add (d.toNat*5)).add 1) fun g h j =>
 nw (i.alloc (.cells (Ko 1 1 1) 3)) fun k =>
 dm prog (Builtin.append_ #[53,53] 53 #[.slice g h j,.slice (some (na i)) 3 3]) k fun g h =>
 ∃ i j k,g = .slice i j k ∧
 (ix a b d fun g =>
 st h (((g.add (d.toNat*5)).add 1).add 0) (.slice i j k) fun g =>
 ix a b d fun h =>
 st g (((h.add (d.toNat*5)).add 2).add 0) (.int .i64 (-1)) fun d =>
 inc f fun f =>
 b4 a b c e f d))
def q4 (R:VP):QT:=(Exit.inBlock 0 (qS none (C [1]) (qf R)))
@[irreducible] def l4 (R:VP) (k:Nat):T4:=fun a b c d e w=>aZ [0,5,6] (C [0,1,0,0]) (q4 R) k (fr ((.slice a b c::U 4 (.int .i64 d::(.int .i64 e::U 46 []))))) w
def e4 (R:VP):T4:=fun a b c d e w=>∃ k,l4 R k a b c d e w
def q19 (R:VP) (k4:Nat):QT:=(Exit.inBlock 2 (qS none (C [0,1,0,0,1,1,0,0,1,1]) (Exit.inBlock 1 (qS none (C [0,1,0,0,1,1,1]) (qL [0,5,6] (C [0,1,0,0]) (q4 R) k4)))))
def Ut (R:VP) (k4:Nat) (k:Nat):T19:=fun a b c d e f g h w=>aZ [0,2,5,6,14,15] (C [0,1,0,0,1,1,0,0,1,0,1,0,0]) (q19 R k4) k (fr ((.slice a b c::U 1 (.int .i64 d::U 2 (.int .i64 e::(.int .i64 f::U 7 (.int .i64 g::(.int .i64 h::U 37 [])))))))) w
def Wp (R:VP) (k4:Nat):T19:=fun a b c d e f g h w=>∃ k,Ut R k4 k a b c d e f g h w
def l19 (R:VP) (b4:T4):Nat→T19
 | 0=>fun _ _ _ _ _ _ _ _ _=>False
 | k+1=>g19 R b4 (l19 R b4 k)
def e19 (R:VP) (b4:T4):T19:=fun a b c d e f g h w=>∃ k,l19 R b4 k a b c d e f g h w
theorem s19 (R:VP) (k4:Nat) (k:Nat):Ut R k4 (k+1)=fun a b c d e f g h w=>∀ _:Nat→Value,g19 R (l4 R k4) (Ut R k4 k) a b c d e f g h w:=by kernel_rfl
theorem WS (R:VP) (k4:Nat) (b4:T4) (hb4:b4=l4 R k4):∀ k,l19 R b4 k=Ut R k4 k
 | 0=>by kernel_rfl
 | k+1=>by
  rw [s19]
  simp only [forall_const]
  unfold l19
  have ih:=WS R k4 b4 hb4 k
  subst hb4
  rw [ih]
  all_goals rfl
theorem Xj (R:VP) (k4:Nat) (b4:T4) (hb4:b4=l4 R k4):e19 R b4=Wp R k4:=by
 unfold e19 Wp
 simp only [WS R k4 b4 hb4]
theorem u4 (R k a b c d e w):l4 R (k+1) a b c d e w=g4 R (e19 R (l4 R k)) a b c d e w:=by rw [Xj R k _ rfl]; exact ju (by kernel_rfl)
end eH
def eH (R:VP):=eH.g0 R (eH.e4 R)
theorem eH.calls {R a b c w} (k:eH R a b c w):CA 47 #[.slice a b c] w R:=cal (n:=eH.an) func47 rfl k (by kernel_rfl)
open Go.Proofs.Tryz (f48 func48)
namespace gI
def an:An:=An.nil
def g0 (R:VP) (a:Int) (b:OA) (c d:Nat) (e:World):Prop :=
 nw (e.alloc (.cells (lg a b c d) 50)) fun a =>
 lK a (na e) fun b c d e =>
 CA 68 #[jv b c d e,.bool false] a fun a b =>
 ∃ c d e f,a = .tuple #[.slice c d e,.int .i64 f] ∧
 (R (.tuple #[.slice c d e,.int .i64 f]) b)
end gI
def gI (R:VP):=gI.g0 R
theorem gI.calls {R a b c d w} (k:gI R a b c d w):CA 48 #[jv a b c d] w R:=cal (n:=gI.an) func48 rfl k (by kernel_rfl)
open Go.Proofs.Tryz (f49 func49)
namespace bJ
def an:An:=(aR (aR (aR (.mk none (aR (aL (.mk (some [7,27,28,29]) (aR (aR (aL (aL (aR (aR (aR (aL (.mk (some [7,8,9,27,28,29,39,40,41]) (aR (aR (aL (aL (aR (aR (aR (.mk (some [7,8,9,13,14,15,27,28,29,39,40,41]) .nil (aR (.mk (some [7,8,9,14,15,16,27,28,29,39,40,41]) .nil .nil)))))))))) .nil))))))))) .nil))) (aR (aL (aR (aL (.mk (some [17,117]) (.mk (some [17,117,119]) .nil .nil) .nil)))))))))
def qf (R:VP):QT:=fin prog f49 R
def C:=cdN prog f49 an
abbrev T18:=(Option Nat)→OA→Nat→Nat→Int→Int→World→Prop
abbrev T34:=(Option Nat)→Int→OA→OA→Nat→Nat→Int→Int→OA→Nat→Nat→Int→Int→World→Prop
abbrev T57:=(Option Nat)→Int→OA→OA→OA→OA→OA→Nat→Nat→Int→Int→OA→Nat→Nat→Int→Int→World→Prop
abbrev T65:=(Option Nat)→Int→OA→OA→OA→OA→OA→Nat→Nat→Int→Int→OA→Nat→Nat→Int→Int→World→Prop
abbrev T78:=OA→Nat→Nat→OA→World→Prop
abbrev T81:=OA→Nat→Nat→OA→Bool→World→Prop
def g0 (R:VP) (e18:T18) (a:OA) (b c:Nat) (d:Int) (e:World):Prop :=
 CA 69 #[.slice a b c,.int .i64 d] e fun d e =>
 ∃ f,d = .int .i64 f ∧
 (af (f != 0)
 (R (.tuple #[.slice none 0 0,.int .i64 f]) e)
 (nw (e.alloc (.map #[] 0)) fun d =>
 e18 (some e.heap.size) a b c (b:Int) 0 d))
def g18 (R:VP) (e34:T34) (e78:T78) (a:Option Nat) (b:OA) (c d:Nat) (e f:Int) (g:World):Prop :=
 af (decide (f<e))
 (ix b c f fun h =>
 lK g (h.add (f.toNat*2)) fun h i j k =>
 nw (g.alloc (.cells (lg 0 none 0 0) 50)) fun l =>
 DN l (na g) h i j k fun h =>
 lK h (na g) fun i j k l =>
 CA 70 #[jv i j k l] h fun h i =>
 ∃ j k l m,h = .tuple #[.slice j k l,.int .i64 m] ∧
 (e34 a f (some (na g)) b c d e f j k l (k:Int) 0 i))
 (dm prog (Instr.range 130 (.map a)) g fun a b =>
 ∃ c:Addr,a = .pointer (some c) ∧
 (e78 none 0 0 (some c) b))
def g34 (R:VP) (b18:T18) (j57:T57) (a:Option Nat) (b:Int) (c d:OA) (e f:Nat) (g h:Int) (i:OA) (j k:Nat) (l m:Int) (n:World):Prop :=
 af (decide (m<l))
 (ix i j m fun o =>
 SG n (o.add (m.toNat*3)) fun o p q =>
 nw (n.alloc (.cells (Ko 0 0 0) 135)) fun r =>
 Uh r (na n) o p q fun o =>
 bK c fun p =>
 cL o (p.add 1) fun p q r =>
 cI o ((na n).add 0) .i64 fun r =>
 ix p q r fun p =>
 lU o (p.add (r.toNat*8)) fun p q r s t u v w x y =>
 nw (o.alloc (.cells (pO 0 0 0 0 none 0 0 0 0 0) 56)) fun z =>
 vS z (na o) p q r s t u v w x y fun p =>
 cI p ((na o).add 2) .i64 fun q =>
 dm prog (Instr.lookup 130 (.map a) (.int .i64 q) false) p fun p q =>
 ∃ r,p = .pointer r ∧
 (af r.isNone
 (cI q ((na o).add 2) .i64 fun p =>
 nw (q.alloc (.cells (uk p none 0 0 none 0 0 none 0 0) 74)) fun p =>
 cI p ((na o).add 2) .i64 fun s =>
 dm prog (do Instr.mapUpdate 130 (.map a) (.int .i64 s) (.pointer (some (na q))); pure undef) p fun _ p =>
 j57 a b c (some (na n)) (some (na o)) (some (na q)) d e f g h i j k l m p)
 (j57 a b c (some (na n)) (some (na o)) r d e f g h i j k l m q)))
 (inc h fun b =>
 b18 a d e f g b n)
def g57 (R:VP) (j65:T65) (a:Option Nat) (b:Int) (c d e f g:OA) (h i:Nat) (j k:Int) (l:OA) (m n:Nat) (o p:Int) (q:World):Prop :=
 bK e fun r =>
 cF q (r.add 3) .f64 fun r =>
 bK e fun s =>
 cL q (s.add 4) fun s t u =>
 bK d fun v =>
 cI q (v.add 1) .i64 fun v =>
 bK d fun d =>
 cI q (d.add 2) .i64 fun d =>
 nw (q.alloc (.cells (oG 0 none 0 0 0 0 0) 76)) fun w =>
 vw w (na q) r s t u b v d fun d =>
 bK e fun r =>
 cI d (r.add 0) .u8 fun r =>
 af (r==3)
 (∃ r:World,CK r d ∧
 (bK f fun s =>
 cL r (s.add 2) fun s t u =>
 mi r (na q) fun v w x y z A B =>
 CA 71 #[oI v w x y z A B] d fun v w =>
 ∃ x y z A B C D,v=oI x y z A B C D ∧
 (CK r w ∧
 (nw (w.alloc (.cells (oG x y z A B C D) 76)) fun v =>
 CK r v ∧
 (dm prog (Builtin.append_ #[72,72] 72 #[.slice s t u,.slice (some (na w)) 1 1]) v fun s t =>
 ∃ u v w,s = .slice u v w ∧
 (CK r t ∧
 (bK f fun r =>
 st t ((r.add 2).add 0) (.slice u v w) fun r =>
 j65 a b c e f (some (na q)) g h i j k l m n o p r)))))))
 (∃ r:World,CK r d ∧
 (bK f fun s =>
 cL r (s.add 1) fun s t u =>
 mi r (na q) fun v w x y z A B =>
 CA 71 #[oI v w x y z A B] d fun d v =>
 ∃ w x y z A B C,d=oI w x y z A B C ∧
 (CK r v ∧
 (nw (v.alloc (.cells (oG w x y z A B C) 76)) fun d =>
 CK r d ∧
 (dm prog (Builtin.append_ #[72,72] 72 #[.slice s t u,.slice (some (na v)) 1 1]) d fun d s =>
 ∃ t u v,d = .slice t u v ∧
 (CK r s ∧
 (bK f fun d =>
 st s ((d.add 1).add 0) (.slice t u v) fun d =>
 j65 a b c e f (some (na q)) g h i j k l m n o p d)))))))
def g65 (R:VP) (b34:T34) (a:Option Nat) (b:Int) (c d e f g:OA) (h i:Nat) (j k:Int) (l:OA) (m n:Nat) (o p:Int) (q:World):Prop :=
 bK d fun d =>
 cI q (d.add 5) .u8 fun d =>
 af (d==2)
 (∃ d:World,CK d q ∧
 (bK e fun r =>
 cL d (r.add 3) fun r s t =>
 bK f fun f =>
 mi d f fun f u v w x y z =>
 CA 71 #[oI f u v w x y z] q fun f u =>
 ∃ v w x y z A B,f=oI v w x y z A B ∧
 (CK d u ∧
 (nw (u.alloc (.cells (oG v w x y z A B) 76)) fun f =>
 CK d f ∧
 (dm prog (Builtin.append_ #[72,72] 72 #[.slice r s t,.slice (some (na u)) 1 1]) f fun f r =>
 ∃ s t u,f = .slice s t u ∧
 (CK d r ∧
 (bK e fun d =>
 st r ((d.add 3).add 0) (.slice s t u) fun d =>
 inc p fun e =>
 b34 a b c g h i j k l m n o e d)))))))
 (inc p fun d =>
 b34 a b c g h i j k l m n o d q)
def g78 (R:VP) (j81:T81) (a:OA) (b c:Nat) (d:OA) (e:World):Prop :=
 dm prog (Instr.next (.pointer d) false 0) e fun e f =>
 (e = .tuple #[.bool false] ∧
 (j81 a b c d false f)) ∨
 (∃ g h:Value,e = .tuple #[.bool true,g,h] ∧
 (j81 a b c d true f))
def g81 (R:VP) (b78:T78) (a:OA) (b c:Nat) (d:OA) (e:Bool) (f:World):Prop :=
 af e
 (dm prog (Instr.entry (.pointer d)) f fun e g =>
 ∃ h i:Value,e = .tuple #[h,i] ∧
 (ckN i fun e =>
 Ha e fun e =>
 cL g (e.add 1) fun e h j =>
 CA 72 #[.slice e h j,.func (.func 73) #[] #[]] g fun e g =>
 e = .tuple #[] ∧
 (ckN i fun e =>
 Ha e fun e =>
 qg g e fun e h i j k l m n o p =>
 nw (g.alloc (.cells (uk e h i j k l m n o p) 74)) fun e =>
 dm prog (Builtin.append_ #[64,64] 64 #[.slice a b c,.slice (some (na g)) 1 1]) e fun e g =>
 ∃ h i j,e = .slice h i j ∧
 (b78 h i j d g))))
 (CA 75 #[.slice a b c,.func (.func 76) #[] #[]] f fun d e =>
 d = .tuple #[] ∧
 (R (.tuple #[.slice a b c,.int .i64 0]) e))
def q18 (R:VP):QT:=(Exit.inBlock 0 (qS none (C [1,1,1,1]) (qf R)))
@[irreducible] def l18 (R:VP) (k:Nat):T18:=fun a b c d e f w=>aZ [7,27,28,29] (C [1,1,1,0,1,0,0]) (q18 R) k (fr (U 7 (.map a::U 19 (.slice b c d::(.int .i64 e::(.int .i64 f::U 106 [])))))) w
def e18 (R:VP):T18:=fun a b c d e f w=>∃ k,l18 R k a b c d e f w
def q34 (R:VP) (k18:Nat):QT:=(Exit.inBlock 2 (Exit.inBlock 1 (qS none (C [1,1,1,0,1,0,0,1,1,1]) (qL [7,27,28,29] (C [1,1,1,0,1,0,0]) (q18 R) k18))))
def xJ (R:VP) (k18:Nat) (k:Nat):T34:=fun a b c d e f g h i j l m n w=>aZ [7,8,9,27,28,29,39,40,41] (C [1,1,1,0,1,0,0,1,1,0,0,1,1,1,0,0]) (q34 R k18) k (fr (U 7 (.map a::(.int .i64 b::(.pointer c::U 17 (.slice d e f::(.int .i64 g::(.int .i64 h::U 9 (.slice i j l::(.int .i64 m::(.int .i64 n::U 94 []))))))))))) w
def IE (R:VP) (k18:Nat):T34:=fun a b c d e f g h i j l m n w=>∃ k,xJ R k18 k a b c d e f g h i j l m n w
def VH (R:VP) (k18 k34:Nat):T57:=fun a b c d e f g h i j l m n o p q w=>jS (some [7,8,9,13,14,15,27,28,29,39,40,41]) (C [1,1,1,0,1,0,0,1,1,0,0,1,1,1,0,0,1,1,0,0,1,1,1,1] (Exit.inBlock 3 (qS none (C [1,1,1,0,1,0,0,1,1,0,0,1,1,1,0,0,1,1,1]) (qL [7,8,9,27,28,29,39,40,41] (C [1,1,1,0,1,0,0,1,1,0,0,1,1,1,0,0]) (q34 R k18) k34)))) (fr (U 7 (.map a::(.int .i64 b::(.pointer c::U 3 (.pointer d::(.pointer e::(.pointer f::U 11 (.slice g h i::(.int .i64 j::(.int .i64 l::U 9 (.slice m n o::(.int .i64 p::(.int .i64 q::U 94 [])))))))))))))) w
def V9 (R:VP) (k18 k34:Nat):T65:=fun a b c d e f g h i j l m n o p q w=>jS (some [7,8,9,14,15,16,27,28,29,39,40,41]) (C [1,1,1,0,1,0,0,1,1,0,0,1,1,1,0,0,1,1,0,0,1,1,1,1,1,1] (Exit.inBlock 3 (qS none (C [1,1,1,0,1,0,0,1,1,0,0,1,1,1,0,0,1,1,1]) (qL [7,8,9,27,28,29,39,40,41] (C [1,1,1,0,1,0,0,1,1,0,0,1,1,1,0,0]) (q34 R k18) k34)))) (fr (U 7 (.map a::(.int .i64 b::(.pointer c::U 4 (.pointer d::(.pointer e::(.pointer f::U 10 (.slice g h i::(.int .i64 j::(.int .i64 l::U 9 (.slice m n o::(.int .i64 p::(.int .i64 q::U 94 [])))))))))))))) w
def q78 (R:VP):QT:=(Exit.inBlock 4 (qS none (C [1,1,1,1,1,1]) (qf R)))
@[irreducible] def l78 (R:VP) (k:Nat):T78:=fun a b c d w=>aZ [17,117] (C [1,1,1,1,1,0,1,0,0]) (q78 R) k (fr (U 17 (.slice a b c::U 99 (.pointer d::U 18 [])))) w
def e78 (R:VP):T78:=fun a b c d w=>∃ k,l78 R k a b c d w
def WA (R:VP) (k78:Nat):T81:=fun a b c d e w=>jS (some [17,117,119]) (C [1,1,1,1,1,0,1,0,0,1] (qL [17,117] (C [1,1,1,1,1,0,1,0,0]) (q78 R) k78)) (fr (U 17 (.slice a b c::U 99 (.pointer d::U 1 (.bool e::U 16 []))))) w
def j65 (R:VP) (b18:T18) (b34:T34):T65:=g65 R b34
theorem s65 (R:VP) (k18 k34:Nat):V9 R k18 k34=fun a b c d e f g h i j l m n o p q w=>∀ _:Nat→Value,g65 R (xJ R k18 k34) a b c d e f g h i j l m n o p q w:=by kernel_rfl
theorem Xa (R:VP) (k18 k34:Nat) (b18:T18) (b34:T34) (hb18:b18=l18 R k18) (hb34:b34=xJ R k18 k34):j65 R b18 b34=V9 R k18 k34:=by
  rw [s65]
  simp only [forall_const]
  unfold j65
  subst hb18
  subst hb34
  all_goals rfl
def j57 (R:VP) (b18:T18) (b34:T34):T57:=g57 R (j65 R b18 b34)
theorem s57 (R:VP) (k18 k34:Nat):VH R k18 k34=fun a b c d e f g h i j l m n o p q w=>∀ _:Nat→Value,g57 R (V9 R k18 k34) a b c d e f g h i j l m n o p q w:=by kernel_rfl
theorem Xk (R:VP) (k18 k34:Nat) (b18:T18) (b34:T34) (hb18:b18=l18 R k18) (hb34:b34=xJ R k18 k34):j57 R b18 b34=VH R k18 k34:=by
  rw [s57]
  simp only [forall_const]
  unfold j57
  subst hb18
  subst hb34
  rw [Xa R k18 k34 _ _ rfl rfl]
  all_goals rfl
def l34 (R:VP) (b18:T18):Nat→T34
 | 0=>fun _ _ _ _ _ _ _ _ _ _ _ _ _ _=>False
 | k+1=>g34 R b18 (j57 R b18 (l34 R b18 k))
def e34 (R:VP) (b18:T18):T34:=fun a b c d e f g h i j l m n w=>∃ k,l34 R b18 k a b c d e f g h i j l m n w
theorem s34 (R:VP) (k18:Nat) (k:Nat):xJ R k18 (k+1)=fun a b c d e f g h i j l m n w=>∀ _:Nat→Value,g34 R (l18 R k18) (VH R k18 k) a b c d e f g h i j l m n w:=by kernel_rfl
theorem IL (R:VP) (k18:Nat) (b18:T18) (hb18:b18=l18 R k18):∀ k,l34 R b18 k=xJ R k18 k
 | 0=>by kernel_rfl
 | k+1=>by
  rw [s34]
  simp only [forall_const]
  unfold l34
  have ih:=IL R k18 b18 hb18 k
  subst hb18
  rw [Xk R k18 k _ _ rfl ih]
  all_goals rfl
theorem QQ (R:VP) (k18:Nat) (b18:T18) (hb18:b18=l18 R k18):e34 R b18=IE R k18:=by
 unfold e34 IE
 simp only [IL R k18 b18 hb18]
def j81 (R:VP) (b78:T78):T81:=g81 R b78
theorem s81 (R:VP) (k78:Nat):WA R k78=fun a b c d e w=>∀ _:Nat→Value,g81 R (l78 R k78) a b c d e w:=by kernel_rfl
theorem Xr (R:VP) (k78:Nat) (b78:T78) (hb78:b78=l78 R k78):j81 R b78=WA R k78:=by
  rw [s81]
  simp only [forall_const]
  unfold j81
  subst hb78
  all_goals rfl
theorem u78 (R k a b c d w):l78 R (k+1) a b c d w=g78 R (j81 R (l78 R k)) a b c d w:=by rw [Xr R k _ rfl]; exact ju (by kernel_rfl)
theorem u18 (R k a b c d e f w):l18 R (k+1) a b c d e f w=g18 R (e34 R (l18 R k)) (e78 R) a b c d e f w:=by rw [QQ R k _ rfl]; exact ju (by kernel_rfl)
end bJ
def bJ (R:VP):=bJ.g0 R (bJ.e18 R)
theorem bJ.calls {R a b c d w} (k:bJ R a b c d w):CA 49 #[.slice a b c,.int .i64 d] w R:=cal (n:=bJ.an) func49 rfl k (by kernel_rfl)
open Go.Proofs.Tryz (f50 func50)
namespace dC
def an:An:=An.nil
def g0 (R:VP) (a:Int) (b:OA) (c d:Nat) (e:World):Prop :=
 nw (e.alloc (.cells (lg a b c d) 50)) fun a =>
 lK a (na e) fun b c d e =>
 CA 52 #[jv b c d e] a fun a b =>
 ∃ c d e f,a = .tuple #[.slice c d e,.int .i64 f] ∧
 (af (f != 0)
 (R (.tuple #[.int .i64 0,.int .i64 f]) b)
 (af (decide ((d:Int)>4096))
 (R (.tuple #[.int .i64 0,.int .i64 3]) b)
 (R (.tuple #[.int .i64 (d:Int),.int .i64 0]) b)))
end dC
def dC (R:VP):=dC.g0 R
theorem dC.calls {R a b c d w} (k:dC R a b c d w):CA 50 #[jv a b c d] w R:=cal (n:=dC.an) func50 rfl k (by kernel_rfl)
open Go.Proofs.Tryz (f51 func51)
namespace bG
def an:An:=(aR (aL (aR (aL (.mk (some [1,8,9,10]) .nil .nil)))))
def qf (R:VP):QT:=fin prog f51 R
def C:=cdN prog f51 an
abbrev T6:=Int→OA→Nat→Nat→Int→Int→World→Prop
def g0 (R:VP) (e6:T6) (a:Int) (b:OA) (c d:Nat) (e:Int) (f:World):Prop :=
 nw (f.alloc (.cells (lg a b c d) 50)) fun a =>
 cL a ((na f).add 1) fun b c d =>
 e6 e b c d (c:Int) 0 a
def g6 (R:VP) (b6:T6) (a:Int) (b:OA) (c d:Nat) (e f:Int) (g:World):Prop :=
 af (decide (f<e))
 (ix b c f fun h =>
 lU g (h.add (f.toNat*8)) fun h i j k l m n o p q =>
 nw (g.alloc (.cells (pO 0 0 0 0 none 0 0 0 0 0) 56)) fun r =>
 vS r (na g) h i j k l m n o p q fun h =>
 cI h ((na g).add 0) .u8 fun i =>
 af (i != 1)
 (cI h ((na g).add 2) .i64 fun i =>
 af (decide (i≥a))
 (R (.bool false) h)
 (inc f fun i =>
 b6 a b c d e i h))
 (inc f fun f =>
 b6 a b c d e f h))
 (R (.bool true) g)
def q6 (R:VP):QT:=(Exit.inBlock 0 (qS none (C [1,1]) (qf R)))
@[irreducible] def l6 (R:VP) (k:Nat):T6:=fun a b c d e f w=>aZ [1,8,9,10] (C [1,0,1,0,0]) (q6 R) k (fr (U 1 (.int .i64 a::U 6 (.slice b c d::(.int .i64 e::(.int .i64 f::U 13 [])))))) w
def e6 (R:VP):T6:=fun a b c d e f w=>∃ k,l6 R k a b c d e f w
theorem u6 (R k a b c d e f w):l6 R (k+1) a b c d e f w=g6 R (l6 R k) a b c d e f w:=ju (by kernel_rfl)
end bG
def bG (R:VP):=bG.g0 R (bG.e6 R)
theorem bG.calls {R a b c d e w} (k:bG R a b c d e w):CA 51 #[jv a b c d,.int .i64 e] w R:=cal (n:=bG.an) func51 rfl k (by kernel_rfl)
open Go.Proofs.Tryz (f52 func52)
namespace dh
def an:An:=An.nil
def g0 (R:VP) (a:Int) (b:OA) (c d:Nat) (e:World):Prop :=
 nw (e.alloc (.cells (lg a b c d) 50)) fun a =>
 lK a (na e) fun b c d e =>
 CA 77 #[jv b c d e,.bool true] a fun a b =>
 ∃ c d e f,a = .tuple #[.slice c d e,.int .i64 f] ∧
 (R (.tuple #[.slice c d e,.int .i64 f]) b)
end dh
def dh (R:VP):=dh.g0 R
theorem dh.calls {R a b c d w} (k:dh R a b c d w):CA 52 #[jv a b c d] w R:=cal (n:=dh.an) func52 rfl k (by kernel_rfl)
end Go.Mir
set_option linter.unusedVariables false
set_option maxRecDepth 100000
namespace Go.Mir
open Go Go.E Go.RowKit
open Go.Proofs.Tryz (prog)
open Go.Proofs.Tryz (f53 func53)
namespace ag
def an:An:=(aR (aR (aR (.mk none (aR (aL (.mk (some [1,5,6,7,25,26,27]) .nil .nil))) (aR (aL (aR (aL (.mk (some [1,5,6,7,10,11]) (aR (aL (aL (aR (aR (aL (aR (aL (.mk (some [1,5,6,7,10,11,12,48,49,50]) (aR (aR (aL (aL (aR (aR (aR (.mk (some [1,5,6,7,10,11,12,13,14,48,49,50]) (aR (aR (aR (.mk none (aL (.mk (some [1,5,6,7,10,11,12,13,14,15,16,48,49,50]) .nil .nil)) (aR (aL (aR (aL (.mk (some [1,5,6,7,10,11,12,13,14,15,16,17,48,49,50]) .nil .nil))))))))) .nil)))))))) .nil))))))))) .nil)))))))))
def qf (R:VP):QT:=fin prog f53 R
def C:=cdN prog f53 an
abbrev T10:=Int→OA→Nat→Nat→OA→Nat→Nat→OA→Nat→Nat→OA→Nat→Nat→Int→Int→World→Prop
abbrev T29:=Int→OA→Nat→Nat→OA→Nat→Nat→OA→Nat→Nat→OA→Nat→Nat→Int→World→Prop
abbrev T50:=Int→OA→Nat→Nat→OA→Nat→Nat→OA→Nat→Nat→OA→Nat→Nat→Int→OA→OA→Nat→Nat→Int→Int→World→Prop
abbrev T78:=Int→OA→Nat→Nat→OA→Nat→Nat→OA→Nat→Nat→OA→Nat→Nat→Int→OA→Int→OA→OA→Int→OA→Nat→Nat→Int→Int→World→Prop
abbrev T93:=Int→OA→Nat→Nat→OA→Nat→Nat→OA→Nat→Nat→OA→Nat→Nat→Int→OA→Int→OA→OA→Int→Int→OA→Nat→Nat→Int→Int→World→Prop
abbrev Uw:=Int→OA→Nat→Nat→OA→Nat→Nat→OA→Nat→Nat→OA→Nat→Nat→Int→OA→Int→OA→OA→Nat→Nat→Int→Int→World→Prop
def g0 (R:VP) (e10:T10) (a:OA) (b c:Nat) (d:Int) (e:World):Prop :=
 CA 78 #[.slice a b c] e fun a b =>
 ∃ c e f g h i,a = .tuple #[.slice c e f,.slice g h i] ∧
 (chk ((0:Int)≤d∧d≤d∧((1:Nat):Int)*d≤281474976710656∧d≤9223372036854775807)
 (nw (b.alloc (.cells (madeCells #[.bool false] ((d).toNat*1)) 4)) fun a =>
 e10 d c e f g h i (some (na b)) ((d).toNat) ((d).toNat) g h i (h:Int) 0 a))
def g10 (R:VP) (b10:T10) (e29:T29) (a:Int) (b:OA) (c d:Nat) (e:OA) (f g:Nat) (h:OA) (i j:Nat) (k:OA) (l m:Nat) (n o:Int) (p:World):Prop :=
 af (decide (o<n))
 (ix k l o fun q =>
 lU p (q.add (o.toNat*8)) fun q r s t u v w x y z =>
 nw (p.alloc (.cells (pO 0 0 0 0 none 0 0 0 0 0) 56)) fun A =>
 vS A (na p) q r s t u v w x y z fun q =>
 cI q ((na p).add 2) .i64 fun r =>
 ix h i r fun s =>
 st q ((s.add (r.toNat*1)).add 0) (.bool true) fun q =>
 inc o fun o =>
 b10 a b c d e f g h i j k l m n o q)
 (e29 a b c d e f g h i j none 0 0 0 p)
def g29 (R:VP) (b29:T29) (e50:T50) (a:Int) (b:OA) (c d:Nat) (e:OA) (f g:Nat) (h:OA) (i j:Nat) (k:OA) (l m:Nat) (n:Int) (o:World):Prop :=
 af (decide (n<a))
 (ix h i n fun p =>
 cB o (p.add (n.toNat*1)) fun p =>
 af (!p)
 (inc n fun p =>
 b29 a b c d e f g h i j k l m p o)
 (nw (o.alloc (.cells (uk 0 none 0 0 none 0 0 none 0 0) 74)) fun p =>
 Cm p (na o) n none 0 0 none 0 0 none 0 0 fun p =>
 e50 a b c d e f g h i j k l m n (some (na o)) e f g (f:Int) 0 p))
 (R (.slice k l m) o)
def g50 (R:VP) (b29:T29) (b50:T50) (e78:T78) (j105:Uw) (a:Int) (b:OA) (c d:Nat) (e:OA) (f g:Nat) (h:OA) (i j:Nat) (k:OA) (l m:Nat) (n:Int) (o p:OA) (q r:Nat) (s t:Int) (u:World):Prop :=
 af (decide (t<s))
 (ix p q t fun v =>
 lU u (v.add (t.toNat*8)) fun v w x y z A B C D E =>
 nw (u.alloc (.cells (pO 0 0 0 0 none 0 0 0 0 0) 56)) fun F =>
 vS F (na u) v w x y z A B C D E fun v =>
 cI v ((na u).add 2) .i64 fun w =>
 af (w != n)
 (inc t fun w =>
 b50 a b c d e f g h i j k l m n o p q r s w v)
 (inc t fun w =>
 chk ((0:Int)≤w∧w≤(d:Int))
 (chk ((0:Int)≤t∧t≤(w.toNat:Int))
 (CA 37 #[.slice (slA b d t.toNat 5) (w.toNat - t.toNat) (d - t.toNat)] v fun v w =>
 ∃ x y z,v = .slice x y z ∧
 (ix x y 0 fun v =>
 mi w (v.add 0) fun v x y z A B C =>
 nw (w.alloc (.cells (oG 0 none 0 0 0 0 0) 76)) fun D =>
 vw D (na w) v x y z A B C fun v =>
 cI v ((na u).add 0) .u8 fun x =>
 af (x==3)
 (bK o fun x =>
 cL v (x.add 2) fun x y z =>
 mi v (na w) fun A B C D E F G =>
 nw (v.alloc (.cells (oG A B C D E F G) 76)) fun A =>
 dm prog (Builtin.append_ #[72,72] 72 #[.slice x y z,.slice (some (na v)) 1 1]) A fun x y =>
 ∃ z A B,x = .slice z A B ∧
 (bK o fun x =>
 st y ((x.add 2).add 0) (.slice z A B) fun x =>
 j105 a b c d e f g h i j k l m n o t (some (na u)) p q r s t x))
 (bK o fun x =>
 cL v (x.add 1) fun x x y =>
 e78 a b c d e f g h i j k l m n o t (some (na u)) (some (na w)) (x:Int) p q r s t v))))))
 (bK o fun o =>
 qg u o fun o p q r s t v w x y =>
 nw (u.alloc (.cells (uk o p q r s t v w x y) 74)) fun o =>
 dm prog (Builtin.append_ #[64,64] 64 #[.slice k l m,.slice (some (na u)) 1 1]) o fun k l =>
 ∃ m o p,k = .slice m o p ∧
 (inc n fun k =>
 b29 a b c d e f g h i j m o p k l))
def g78 (R:VP) (b78:T78) (e93:T93) (a:Int) (b:OA) (c d:Nat) (e:OA) (f g:Nat) (h:OA) (i j:Nat) (k:OA) (l m:Nat) (n:Int) (o:OA) (p:Int) (q r:OA) (s:Int) (t:OA) (u v:Nat) (w x:Int) (y:World):Prop :=
 af (decide (s>0))
 (bK o fun z =>
 cL y (z.add 1) fun z A B =>
 nv (IntKind.i64.wrap (s - 1)) fun B =>
 ix z A B fun z =>
 cF y ((z.add (B.toNat*5)).add 0) .f64 fun z =>
 bK r fun A =>
 cF y (A.add 0) .f64 fun A =>
 af (FloatKind.f64.format.order z A==some .gt)
 (nv (IntKind.i64.wrap (s - 1)) fun z =>
 b78 a b c d e f g h i j k l m n o p q r z t u v w x y)
 (bK o fun z =>
 cL y (z.add 1) fun z A B =>
 nw (y.alloc (.cells (oG 0 none 0 0 0 0 0) 76)) fun C =>
 dm prog (Builtin.append_ #[72,72] 72 #[.slice z A B,.slice (some (na y)) 1 1]) C fun z A =>
 ∃ B C D,z = .slice B C D ∧
 (bK o fun z =>
 st A ((z.add 1).add 0) (.slice B C D) fun z =>
 bK o fun A =>
 cL z (A.add 1) fun A A B =>
 nv (IntKind.i64.wrap ((A:Int) - 1)) fun A =>
 e93 a b c d e f g h i j k l m n o p q r s A t u v w x z)))
 (bK o fun z =>
 cL y (z.add 1) fun z A B =>
 nw (y.alloc (.cells (oG 0 none 0 0 0 0 0) 76)) fun C =>
 dm prog (Builtin.append_ #[72,72] 72 #[.slice z A B,.slice (some (na y)) 1 1]) C fun y z =>
 ∃ A B C,y = .slice A B C ∧
 (bK o fun y =>
 st z ((y.add 1).add 0) (.slice A B C) fun y =>
 bK o fun z =>
 cL y (z.add 1) fun z z A =>
 nv (IntKind.i64.wrap ((z:Int) - 1)) fun z =>
 e93 a b c d e f g h i j k l m n o p q r s z t u v w x y))
def g93 (R:VP) (b93:T93) (j105:Uw) (a:Int) (b:OA) (c d:Nat) (e:OA) (f g:Nat) (h:OA) (i j:Nat) (k:OA) (l m:Nat) (n:Int) (o:OA) (p:Int) (q r:OA) (s t:Int) (u:OA) (v w:Nat) (x y:Int) (z:World):Prop :=
 af (decide (t>s))
 (bK o fun A =>
 cL z (A.add 1) fun A B C =>
 bK o fun C =>
 cL z (C.add 1) fun C D E =>
 nv (IntKind.i64.wrap (t - 1)) fun E =>
 ix C D E fun C =>
 mi z (C.add (E.toNat*5)) fun C D E F G H I =>
 ix A B t fun A =>
 vw z (A.add (t.toNat*5)) C D E F G H I fun A =>
 nv (IntKind.i64.wrap (t - 1)) fun t =>
 b93 a b c d e f g h i j k l m n o p q r s t u v w x y A)
 (bK o fun t =>
 cL z (t.add 1) fun t A B =>
 bK r fun r =>
 mi z r fun r B C D E F G =>
 ix t A s fun t =>
 vw z (t.add (s.toNat*5)) r B C D E F G fun r =>
 j105 a b c d e f g h i j k l m n o p q u v w x y r)
def Vy (R:VP) (b50:T50) (a:Int) (b:OA) (c d:Nat) (e:OA) (f g:Nat) (h:OA) (i j:Nat) (k:OA) (l m:Nat) (n:Int) (o:OA) (p:Int) (q r:OA) (s t:Nat) (u v:Int) (w:World):Prop :=
 bK q fun q =>
 cI w (q.add 5) .u8 fun q =>
 af (q==2)
 (∃ q:Nat→Value→World→Prop,KpF q ∧
 (bK o fun x =>
 cL w (x.add 3) fun x y z =>
 inc p fun A =>
 chk ((0:Int)≤A∧A≤(d:Int))
 (chk ((0:Int)≤p∧p≤(A.toNat:Int))
 ((∀ B:World,Below w.heap.size w B→CA 37 #[.slice (slA b d p.toNat 5) (A.toNat - p.toNat) (d - p.toNat)] B fun p A=>∃ C D E,p = .slice C D E∧q 7 (.slice C D E) A∧Below B.heap.size B A) ∧
 (∀ p:Option Addr,∀ A:Nat,∀ B:Nat,(∃ C,Below w.heap.size w C∧q 7 (.slice p A B) C) →
 ix p A 0 fun C =>
 (∀ D:World,Below w.heap.size w D→q 7 (.slice p A B) D→mi D (C.add 0) fun C E F G H I J =>
 q 9 (oI C E F G H I J) D) ∧
 (∀ C:Nat,∀ D:Option Addr,∀ E:Nat,∀ F:Nat,∀ G:Int,∀ H:Int,∀ I:Int,(∃ J,Below w.heap.size w J∧q 9 (oI C D E F G H I) J) →
 (∀ J:World,Below w.heap.size w J→q 7 (.slice p A B) J→q 9 (oI C D E F G H I) J→q 10 (.slice (some (na J)) 1 1) (J.alloc (.cells (oG C D E F G H I) 76))) ∧
 (∀ J:Addr,(∃ K,Below w.heap.size w K∧q 10 (.slice (some J) 1 1) K) →
 ∀ K:World,Below w.heap.size w K→q 7 (.slice p A B) K→q 9 (oI C D E F G H I) K→q 10 (.slice (some J) 1 1) K →
 dm prog (Builtin.append_ #[72,72] 72 #[.slice x y z,.slice (some J) 1 1]) K fun p q =>
 ∃ x y z,p = .slice x y z ∧
 (bK o fun p =>
 st q ((p.add 3).add 0) (.slice x y z) fun p =>
 inc v fun q =>
 b50 a b c d e f g h i j k l m n o r s t u q p))))))))
 (inc v fun p =>
 b50 a b c d e f g h i j k l m n o r s t u p w)
def q10 (R:VP):QT:=(Exit.inBlock 0 (qS none (C [1,1,1,1]) (qf R)))
@[irreducible] def l10 (R:VP) (k:Nat):T10:=fun a b c d e f g h i j l m n o p w=>aZ [1,5,6,7,25,26,27] (C [1,1,1,0,1,0,0]) (q10 R) k (fr (U 1 (.int .i64 a::U 3 (.slice b c d::(.slice e f g::(.slice h i j::U 17 (.slice l m n::(.int .i64 o::(.int .i64 p::U 119 []))))))))) w
def e10 (R:VP):T10:=fun a b c d e f g h i j l m n o p w=>∃ k,l10 R k a b c d e f g h i j l m n o p w
def q29 (R:VP):QT:=(Exit.inBlock 2 (qS none (C [1,1,1,1,1,1]) (qf R)))
@[irreducible] def l29 (R:VP) (k:Nat):T29:=fun a b c d e f g h i j l m n o w=>aZ [1,5,6,7,10,11] (C [1,1,1,1,1,0,1,0,0]) (q29 R) k (fr (U 1 (.int .i64 a::U 3 (.slice b c d::(.slice e f g::(.slice h i j::U 2 (.slice l m n::(.int .i64 o::U 135 [])))))))) w
def e29 (R:VP):T29:=fun a b c d e f g h i j l m n o w=>∃ k,l29 R k a b c d e f g h i j l m n o w
def q50 (R:VP) (k29:Nat):QT:=(Exit.inBlock 4 (qS none (C [1,1,1,1,1,0,1,0,0,1,0,0,1,1,1]) (Exit.inBlock 3 (qS none (C [1,1,1,1,1,0,1,0,0,1,1]) (qL [1,5,6,7,10,11] (C [1,1,1,1,1,0,1,0,0]) (q29 R) k29)))))
def Ll (R:VP) (k29:Nat) (k:Nat):T50:=fun a b c d e f g h i j l m n o p q r s t u w=>aZ [1,5,6,7,10,11,12,48,49,50] (C [1,1,1,1,1,0,1,0,0,1,0,0,1,1,0,1,0,0]) (q50 R k29) k (fr (U 1 (.int .i64 a::U 3 (.slice b c d::(.slice e f g::(.slice h i j::U 2 (.slice l m n::(.int .i64 o::(.pointer p::U 35 (.slice q r s::(.int .i64 t::(.int .i64 u::U 96 [])))))))))))) w
def VZ (R:VP) (k29:Nat):T50:=fun a b c d e f g h i j l m n o p q r s t u w=>∃ k,Ll R k29 k a b c d e f g h i j l m n o p q r s t u w
def q78 (R:VP) (k29 k50:Nat):QT:=(Exit.inBlock 6 (qS none (C [1,1,1,1,1,0,1,0,0,1,0,0,1,1,0,1,0,0,1,1,0,0,1,1,1,0,1,1,1,1]) (qS (some [1,5,6,7,10,11,12,13,14,48,49,50]) (C [1,1,1,1,1,0,1,0,0,1,0,0,1,1,0,1,0,0,1,1,0,0,1,1,1,1]) (Exit.inBlock 5 (qS none (C [1,1,1,1,1,0,1,0,0,1,0,0,1,1,0,1,0,0,1,1,1]) (qL [1,5,6,7,10,11,12,48,49,50] (C [1,1,1,1,1,0,1,0,0,1,0,0,1,1,0,1,0,0]) (q50 R k29) k50))))))
def UE (R:VP) (k29 k50:Nat) (k:Nat):T78:=fun a b c d e f g h i j l m n o p q r s t u v x y z w=>aZ [1,5,6,7,10,11,12,13,14,15,16,48,49,50] (C [1,1,1,1,1,0,1,0,0,1,0,0,1,1,0,1,0,0,1,1,0,0,1,1,1,0,1,1,1,0,0,0]) (q78 R k29 k50) k (fr (U 1 (.int .i64 a::U 3 (.slice b c d::(.slice e f g::(.slice h i j::U 2 (.slice l m n::(.int .i64 o::(.pointer p::(.int .i64 q::(.pointer r::(.pointer s::(.int .i64 t::U 31 (.slice u v x::(.int .i64 y::(.int .i64 z::U 96 [])))))))))))))))) w
def VM (R:VP) (k29 k50:Nat):T78:=fun a b c d e f g h i j l m n o p q r s t u v x y z w=>∃ k,UE R k29 k50 k a b c d e f g h i j l m n o p q r s t u v x y z w
def q93 (R:VP) (k29 k50:Nat):QT:=(Exit.inBlock 8 (qS none (C [1,1,1,1,1,0,1,0,0,1,0,0,1,1,0,1,0,0,1,1,0,0,1,1,1,0,1,1,1,1,1,1]) (qS (some [1,5,6,7,10,11,12,13,14,48,49,50]) (C [1,1,1,1,1,0,1,0,0,1,0,0,1,1,0,1,0,0,1,1,0,0,1,1,1,1]) (Exit.inBlock 5 (qS none (C [1,1,1,1,1,0,1,0,0,1,0,0,1,1,0,1,0,0,1,1,1]) (qL [1,5,6,7,10,11,12,48,49,50] (C [1,1,1,1,1,0,1,0,0,1,0,0,1,1,0,1,0,0]) (q50 R k29) k50))))))
def UI (R:VP) (k29 k50:Nat) (k:Nat):T93:=fun a b c d e f g h i j l m n o p q r s t u v x y z A w=>aZ [1,5,6,7,10,11,12,13,14,15,16,17,48,49,50] (C [1,1,1,1,1,0,1,0,0,1,0,0,1,1,0,1,0,0,1,1,0,0,1,1,1,0,1,1,1,1,1,0,1,0,0]) (q93 R k29 k50) k (fr (U 1 (.int .i64 a::U 3 (.slice b c d::(.slice e f g::(.slice h i j::U 2 (.slice l m n::(.int .i64 o::(.pointer p::(.int .i64 q::(.pointer r::(.pointer s::(.int .i64 t::(.int .i64 u::U 30 (.slice v x y::(.int .i64 z::(.int .i64 A::U 96 []))))))))))))))))) w
def Vr (R:VP) (k29 k50:Nat):T93:=fun a b c d e f g h i j l m n o p q r s t u v x y z A w=>∃ k,UI R k29 k50 k a b c d e f g h i j l m n o p q r s t u v x y z A w
def MW (R:VP) (k29 k50:Nat):Uw:=fun a b c d e f g h i j l m n o p q r s t u v x w=>jS (some [1,5,6,7,10,11,12,13,14,48,49,50]) (C [1,1,1,1,1,0,1,0,0,1,0,0,1,1,0,1,0,0,1,1,0,0,1,1,1,1] (Exit.inBlock 5 (qS none (C [1,1,1,1,1,0,1,0,0,1,0,0,1,1,0,1,0,0,1,1,1]) (qL [1,5,6,7,10,11,12,48,49,50] (C [1,1,1,1,1,0,1,0,0,1,0,0,1,1,0,1,0,0]) (q50 R k29) k50)))) (fr (U 1 (.int .i64 a::U 3 (.slice b c d::(.slice e f g::(.slice h i j::U 2 (.slice l m n::(.int .i64 o::(.pointer p::(.int .i64 q::(.pointer r::U 33 (.slice s t u::(.int .i64 v::(.int .i64 x::U 96 [])))))))))))))) w
def j105 (R:VP) (b29:T29) (b50:T50):Uw:=Vy R b50
theorem Xg (R:VP) (k29 k50:Nat):MW R k29 k50=fun a b c d e f g h i j l m n o p q r s t u v x w=>∀ _:Nat→Value,Vy R (Ll R k29 k50) a b c d e f g h i j l m n o p q r s t u v x w:=by kernel_rfl
theorem RY (R:VP) (k29 k50:Nat) (b29:T29) (b50:T50) (hb29:b29=l29 R k29) (hb50:b50=Ll R k29 k50):j105 R b29 b50=MW R k29 k50:=by
  rw [Xg]
  simp only [forall_const]
  unfold j105
  subst hb29
  subst hb50
  all_goals rfl
def l93 (R:VP) (b29:T29) (b50:T50):Nat→T93
 | 0=>fun _ _ _ _ _ _ _ _ _ _ _ _ _ _ _ _ _ _ _ _ _ _ _ _ _ _=>False
 | k+1=>g93 R (l93 R b29 b50 k) (j105 R b29 b50)
def e93 (R:VP) (b29:T29) (b50:T50):T93:=fun a b c d e f g h i j l m n o p q r s t u v x y z A w=>∃ k,l93 R b29 b50 k a b c d e f g h i j l m n o p q r s t u v x y z A w
theorem s93 (R:VP) (k29 k50:Nat) (k:Nat):UI R k29 k50 (k+1)=fun a b c d e f g h i j l m n o p q r s t u v x y z A w=>∀ _:Nat→Value,g93 R (UI R k29 k50 k) (MW R k29 k50) a b c d e f g h i j l m n o p q r s t u v x y z A w:=by kernel_rfl
theorem W9 (R:VP) (k29 k50:Nat) (b29:T29) (b50:T50) (hb29:b29=l29 R k29) (hb50:b50=Ll R k29 k50):∀ k,l93 R b29 b50 k=UI R k29 k50 k
 | 0=>by kernel_rfl
 | k+1=>by
  rw [s93]
  simp only [forall_const]
  unfold l93
  have ih:=W9 R k29 k50 b29 b50 hb29 hb50 k
  subst hb29
  subst hb50
  rw [RY R k29 k50 _ _ rfl rfl]
  rw [ih]
  all_goals rfl
theorem X8 (R:VP) (k29 k50:Nat) (b29:T29) (b50:T50) (hb29:b29=l29 R k29) (hb50:b50=Ll R k29 k50):e93 R b29 b50=Vr R k29 k50:=by
 unfold e93 Vr
 simp only [W9 R k29 k50 b29 b50 hb29 hb50]
def l78 (R:VP) (b29:T29) (b50:T50):Nat→T78
 | 0=>fun _ _ _ _ _ _ _ _ _ _ _ _ _ _ _ _ _ _ _ _ _ _ _ _ _=>False
 | k+1=>g78 R (l78 R b29 b50 k) (e93 R b29 b50)
def e78 (R:VP) (b29:T29) (b50:T50):T78:=fun a b c d e f g h i j l m n o p q r s t u v x y z w=>∃ k,l78 R b29 b50 k a b c d e f g h i j l m n o p q r s t u v x y z w
theorem s78 (R:VP) (k29 k50:Nat) (k:Nat):UE R k29 k50 (k+1)=fun a b c d e f g h i j l m n o p q r s t u v x y z w=>∀ _:Nat→Value,g78 R (UE R k29 k50 k) (Vr R k29 k50) a b c d e f g h i j l m n o p q r s t u v x y z w:=by kernel_rfl
theorem WN (R:VP) (k29 k50:Nat) (b29:T29) (b50:T50) (hb29:b29=l29 R k29) (hb50:b50=Ll R k29 k50):∀ k,l78 R b29 b50 k=UE R k29 k50 k
 | 0=>by kernel_rfl
 | k+1=>by
  rw [s78]
  simp only [forall_const]
  unfold l78
  have ih:=WN R k29 k50 b29 b50 hb29 hb50 k
  subst hb29
  subst hb50
  rw [X8 R k29 k50 _ _ rfl rfl]
  rw [ih]
  all_goals rfl
theorem Xu (R:VP) (k29 k50:Nat) (b29:T29) (b50:T50) (hb29:b29=l29 R k29) (hb50:b50=Ll R k29 k50):e78 R b29 b50=VM R k29 k50:=by
 unfold e78 VM
 simp only [WN R k29 k50 b29 b50 hb29 hb50]
def l50 (R:VP) (b29:T29):Nat→T50
 | 0=>fun _ _ _ _ _ _ _ _ _ _ _ _ _ _ _ _ _ _ _ _ _=>False
 | k+1=>g50 R b29 (l50 R b29 k) (e78 R b29 (l50 R b29 k)) (j105 R b29 (l50 R b29 k))
def e50 (R:VP) (b29:T29):T50:=fun a b c d e f g h i j l m n o p q r s t u w=>∃ k,l50 R b29 k a b c d e f g h i j l m n o p q r s t u w
theorem s50 (R:VP) (k29:Nat) (k:Nat):Ll R k29 (k+1)=fun a b c d e f g h i j l m n o p q r s t u w=>∀ _:Nat→Value,g50 R (l29 R k29) (Ll R k29 k) (VM R k29 k) (MW R k29 k) a b c d e f g h i j l m n o p q r s t u w:=by kernel_rfl
theorem WB (R:VP) (k29:Nat) (b29:T29) (hb29:b29=l29 R k29):∀ k,l50 R b29 k=Ll R k29 k
 | 0=>by kernel_rfl
 | k+1=>by
  rw [s50]
  simp only [forall_const]
  unfold l50
  have ih:=WB R k29 b29 hb29 k
  subst hb29
  rw [Xu R k29 k _ _ rfl ih]
  rw [RY R k29 k _ _ rfl ih]
  rw [ih]
  all_goals rfl
theorem X5 (R:VP) (k29:Nat) (b29:T29) (hb29:b29=l29 R k29):e50 R b29=VZ R k29:=by
 unfold e50 VZ
 simp only [WB R k29 b29 hb29]
theorem u29 (R k a b c d e f g h i j l m n o w):l29 R (k+1) a b c d e f g h i j l m n o w=g29 R (l29 R k) (e50 R (l29 R k)) a b c d e f g h i j l m n o w:=by rw [X5 R k _ rfl]; exact ju (by kernel_rfl)
theorem u10 (R k a b c d e f g h i j l m n o p w):l10 R (k+1) a b c d e f g h i j l m n o p w=g10 R (l10 R k) (e29 R) a b c d e f g h i j l m n o p w:=ju (by kernel_rfl)
end ag
def ag (R:VP):=ag.g0 R (ag.e10 R)
theorem ag.calls {R a b c d w} (k:ag R a b c d w):CA 53 #[.slice a b c,.int .i64 d] w R:=cal (n:=ag.an) func53 rfl k (by kernel_rfl)
open Go.Proofs.Tryz (f54 func54)
namespace eP
def an:An:=(aR (aR (aL (aR (aL (.mk (some [1,2,15,16,17]) .nil .nil))))))
def qf (R:VP):QT:=fin prog f54 R
def C:=cdN prog f54 an
abbrev T14:=OA→Nat→Nat→OA→Nat→Nat→Int→Int→World→Prop
def g0 (R:VP) (e14:T14) (a:OA) (b c:Nat) (d:OA) (e f:Nat) (g:World):Prop :=
 af ((b:Int) != (e:Int))
 (R (.bool false) g)
 (e14 d e f a b c (b:Int) 0 g)
def g14 (R:VP) (b14:T14) (a:OA) (b c:Nat) (d:OA) (e f:Nat) (g h:Int) (i:World):Prop :=
 af (decide (h<g))
 (ix d e h fun j =>
 lU i (j.add (h.toNat*8)) fun j k l m n o p q r s =>
 nw (i.alloc (.cells (pO 0 0 0 0 none 0 0 0 0 0) 56)) fun t =>
 vS t (na i) j k l m n o p q r s fun j =>
 ix a b h fun k =>
 lU j (k.add (h.toNat*8)) fun k l m n o p q r s t =>
 nw (j.alloc (.cells (pO 0 0 0 0 none 0 0 0 0 0) 56)) fun u =>
 vS u (na j) k l m n o p q r s t fun k =>
 lU k (na i) fun l m n o p q r s t u =>
 lU k (na j) fun j v w x y z A B C D =>
 CA 55 #[EX l m n o p q r s t u,EX j v w x y z A B C D] k fun j k =>
 ∃ l,j = .bool l ∧
 (af (!l)
 (R (.bool false) k)
 (inc h fun h =>
 b14 a b c d e f g h k)))
 (R (.bool true) i)
def q14 (R:VP):QT:=(Exit.inBlock 0 (qS none (C [1,1,1]) (qf R)))
@[irreducible] def l14 (R:VP) (k:Nat):T14:=fun a b c d e f g h w=>aZ [1,2,15,16,17] (C [1,1,0,1,0,0]) (q14 R) k (fr (U 1 (.slice a b c::(.func (.func 55) #[] #[]::U 12 (.slice d e f::(.int .i64 g::(.int .i64 h::U 14 []))))))) w
def e14 (R:VP):T14:=fun a b c d e f g h w=>∃ k,l14 R k a b c d e f g h w
theorem u14 (R k a b c d e f g h w):l14 R (k+1) a b c d e f g h w=g14 R (l14 R k) a b c d e f g h w:=ju (by kernel_rfl)
end eP
def eP (R:VP):=eP.g0 R (eP.e14 R)
theorem eP.calls {R a b c d e f w} (k:eP R a b c d e f w):CA 54 #[.slice a b c,.slice d e f,.func (.func 55) #[] #[]] w R:=cal (n:=eP.an) func54 rfl k (by kernel_rfl)
open Go.Proofs.Tryz (f55 func55)
namespace fF
def an:An:=An.nil
def g0 (R:VP) (a b c:Int) (d:Nat) (e:OA) (f g:Nat) (h i j k l m:Int) (n:Nat) (o:OA) (p q:Nat) (r s t:Int) (u:World):Prop :=
 nw (u.alloc (.cells (pO a b c d e f g h i j) 56)) fun a =>
 nw (a.alloc (.cells (pO k l m n o p q r s t) 56)) fun b =>
 cI b ((na u).add 0) .u8 fun c =>
 cI b ((na a).add 0) .u8 fun d =>
 af (c==d)
 (cI b ((na u).add 1) .i64 fun c =>
 cI b ((na a).add 1) .i64 fun d =>
 af (c==d)
 (cI b ((na u).add 2) .i64 fun c =>
 cI b ((na a).add 2) .i64 fun d =>
 af (c==d)
 (cF b ((na u).add 3) .f64 fun c =>
 ∃ d,pV prog (callFunc 56 #[.float .f64 c]) b (.int .u64 d) ∧
 (cF b ((na a).add 3) .f64 fun c =>
 ∃ e,pV prog (callFunc 56 #[.float .f64 c]) b (.int .u64 e) ∧
 (af (d==e)
 (cL b ((na u).add 4) fun c d e =>
 cL b ((na a).add 4) fun f g h =>
 ∃ i,(∀ j:World,Below b.heap.size b j→CA 57 #[.slice c d e,.slice f g h] j fun c d=>c = .bool i∧Below b.heap.size b d) ∧
 (af i
 (cI b ((na u).add 5) .u8 fun c =>
 cI b ((na a).add 5) .u8 fun d =>
 af (c==d)
 (cI b ((na u).add 6) .i64 fun c =>
 cI b ((na a).add 6) .i64 fun d =>
 af (c==d)
 (cI b ((na u).add 7) .i64 fun c =>
 cI b ((na a).add 7) .i64 fun a =>
 ∀ d:World,Below b.heap.size b d →
 R (.bool (c==a)) d)
 (∀ a:World,Below b.heap.size b a →
 R (.bool false) a))
 (∀ a:World,Below b.heap.size b a →
 R (.bool false) a))
 (∀ a:World,Below b.heap.size b a →
 R (.bool false) a)))
 (∀ a:World,Below b.heap.size b a →
 R (.bool false) a))))
 (∀ a:World,Below b.heap.size b a →
 R (.bool false) a))
 (∀ a:World,Below b.heap.size b a →
 R (.bool false) a))
 (∀ a:World,Below b.heap.size b a →
 R (.bool false) a)
end fF
def fF (R:VP):=fF.g0 R
theorem fF.calls {R a b c d e f g h i j l m n o p q r s t u w} (k:fF R a b c d e f g h i j l m n o p q r s t u w):CA 55 #[EX a b c d e f g h i j,EX l m n o p q r s t u] w R:=cal (n:=fF.an) func55 rfl k (by kernel_rfl)
open Go.Proofs.Tryz (f57 func57)
namespace slices_Equal_int
def an:An:=(aR (aR (aL (aR (aL (.mk (some [0,1,12,13]) .nil .nil))))))
def qf (R:VP):QT:=fin prog f57 R
def C:=cdN prog f57 an
abbrev T14:=OA→Nat→Nat→OA→Nat→Nat→Int→Int→World→Prop
def g0 (R:VP) (e14:T14) (a:OA) (b c:Nat) (d:OA) (e f:Nat) (g:World):Prop :=
 af ((b:Int) != (e:Int))
 (R (.bool false) g)
 (e14 a b c d e f (b:Int) 0 g)
def g14 (R:VP) (b14:T14) (a:OA) (b c:Nat) (d:OA) (e f:Nat) (g h:Int) (i:World):Prop :=
 af (decide (h<g))
 (ix a b h fun j =>
 cI i (j.add (h.toNat*1)) .i64 fun j =>
 ix d e h fun k =>
 cI i (k.add (h.toNat*1)) .i64 fun k =>
 af (j != k)
 (R (.bool false) i)
 (inc h fun h =>
 b14 a b c d e f g h i))
 (R (.bool true) i)
def q14 (R:VP):QT:=(Exit.inBlock 0 (qS none (C [1,1,1]) (qf R)))
@[irreducible] def l14 (R:VP) (k:Nat):T14:=fun a b c d e f g h w=>aZ [0,1,12,13] (C [1,1,0,1,0,0]) (q14 R) k (fr ((.slice a b c::(.slice d e f::U 10 (.int .i64 g::(.int .i64 h::U 12 [])))))) w
def e14 (R:VP):T14:=fun a b c d e f g h w=>∃ k,l14 R k a b c d e f g h w
theorem u14 (R k a b c d e f g h w):l14 R (k+1) a b c d e f g h w=g14 R (l14 R k) a b c d e f g h w:=ju (by kernel_rfl)
end slices_Equal_int
def slices_Equal_int (R:VP):=slices_Equal_int.g0 R (slices_Equal_int.e14 R)
theorem slices_Equal_int.calls {R a b c d e f w} (k:slices_Equal_int R a b c d e f w):CA 57 #[.slice a b c,.slice d e f] w R:=cal (n:=slices_Equal_int.an) func57 rfl k (by kernel_rfl)
open Go.Proofs.Tryz (f58 func58)
namespace aT
def an:An:=(aR (aR (aL (aR (aL (.mk (some [1,13,14,15]) .nil .nil))))))
def qf (R:VP):QT:=fin prog f58 R
def C:=cdN prog f58 an
abbrev T14:=OA→Nat→Nat→OA→Nat→Nat→Int→Int→World→Prop
def g0 (R:VP) (e14:T14) (a:OA) (b c:Nat) (d:OA) (e f:Nat) (g:World):Prop :=
 af ((b:Int) != (e:Int))
 (R (.bool false) g)
 (e14 d e f a b c (b:Int) 0 g)
def g14 (R:VP) (b14:T14) (a:OA) (b c:Nat) (d:OA) (e f:Nat) (g h:Int) (i:World):Prop :=
 af (decide (h<g))
 (ix d e h fun j =>
 mi i (j.add (h.toNat*5)) fun j k l m n o p =>
 nw (i.alloc (.cells (oG 0 none 0 0 0 0 0) 76)) fun q =>
 vw q (na i) j k l m n o p fun j =>
 ix a b h fun k =>
 mi j (k.add (h.toNat*5)) fun k l m n o p q =>
 nw (j.alloc (.cells (oG 0 none 0 0 0 0 0) 76)) fun r =>
 vw r (na j) k l m n o p q fun k =>
 cF k ((na i).add 0) .f64 fun l =>
 ∃ m,pV prog (callFunc 56 #[.float .f64 l]) k (.int .u64 m) ∧
 (cF k ((na j).add 0) .f64 fun l =>
 ∃ n,pV prog (callFunc 56 #[.float .f64 l]) k (.int .u64 n) ∧
 (af (m != n)
 (∀ l:World,Below k.heap.size k l →
 R (.bool false) l)
 (cL k ((na i).add 1) fun l m n =>
 cL k ((na j).add 1) fun o p q =>
 ∃ r,(∀ s:World,Below k.heap.size k s→CA 34 #[.slice l m n,.slice o p q] s fun l m=>l = .bool r∧Below k.heap.size k m) ∧
 (af (!r)
 (∀ l:World,Below k.heap.size k l →
 R (.bool false) l)
 (cI k ((na i).add 2) .i64 fun l =>
 cI k ((na j).add 2) .i64 fun m =>
 af (l != m)
 (∀ l:World,Below k.heap.size k l →
 R (.bool false) l)
 (cI k ((na i).add 3) .i64 fun l =>
 cI k ((na j).add 3) .i64 fun m =>
 af (l != m)
 (∀ l:World,Below k.heap.size k l →
 R (.bool false) l)
 (cI k ((na i).add 4) .i64 fun l =>
 cI k ((na j).add 4) .i64 fun j =>
 ∀ m:World,Below k.heap.size k m →
 af (l != j)
 (R (.bool false) m)
 (inc h fun h =>
 b14 a b c d e f g h m)))))))))
 (R (.bool true) i)
def q14 (R:VP):QT:=(Exit.inBlock 0 (qS none (C [1,1,1]) (qf R)))
@[irreducible] def l14 (R:VP) (k:Nat):T14:=fun a b c d e f g h w=>aZ [1,13,14,15] (C [1,1,0,1,0,0]) (q14 R) k (fr (U 1 (.slice a b c::U 11 (.slice d e f::(.int .i64 g::(.int .i64 h::U 45 [])))))) w
def e14 (R:VP):T14:=fun a b c d e f g h w=>∃ k,l14 R k a b c d e f g h w
theorem u14 (R k a b c d e f g h w):l14 R (k+1) a b c d e f g h w=g14 R (l14 R k) a b c d e f g h w:=ju (by kernel_rfl)
end aT
def aT (R:VP):=aT.g0 R (aT.e14 R)
theorem aT.calls {R a b c d e f w} (k:aT R a b c d e f w):CA 58 #[.slice a b c,.slice d e f] w R:=cal (n:=aT.an) func58 rfl k (by kernel_rfl)
open Go.Proofs.Tryz (f59 func59)
namespace aQ
def an:An:=(aR (aR (.mk none (aR (aL (.mk (some [3,4,6,15,16,17]) .nil .nil))) (aL (aR (aL (.mk (some [3,4,6,51]) .nil .nil)))))))
def qf (R:VP):QT:=fin prog f59 R
def C:=cdN prog f59 an
abbrev T8:=OA→OA→OA→OA→Nat→Nat→Int→Int→World→Prop
abbrev T33:=OA→OA→OA→OA→World→Prop
def g0 (R:VP) (e8:T8) (a:OA) (b c:Nat) (d:OA) (e f:Nat) (g:World):Prop :=
 nw (g.alloc (.cells #[.slice d e f] 23)) fun d =>
 nw (d.alloc (.cells (lg 0 none 0 0) 50)) fun e =>
 nw (e.alloc (.map #[] 0)) fun f =>
 nw (f.alloc (.cells #[.map none] 144)) fun h =>
 st h ((na f).add 0) (.map (some e.heap.size)) fun e =>
 e8 (some (na g)) (some (na d)) (some (na f)) a b c (b:Int) 0 e
def g8 (R:VP) (b8:T8) (e33:T33) (a b c d:OA) (e f:Nat) (g h:Int) (i:World):Prop :=
 af (decide (h<g))
 (ix d e h fun j =>
 lC i (j.add (h.toNat*10)) fun j k l m n o p q r s t u =>
 nw (i.alloc (.cells (qY 0 0 0 0 none 0 0 0 0 0 0 0) 115)) fun v =>
 xI v (na i) j k l m n o p q r s t u fun j =>
 cI j ((na i).add 8) .i64 fun k =>
 af (decide (k<0))
 (bK b fun k =>
 DN j k 0 none 0 0 fun k =>
 bK b fun l =>
 lK k l fun l m n o =>
 R (.tuple #[jv l m n o,.bool false]) k)
 (cI j ((na i).add 9) .i64 fun k =>
 cI j ((na i).add 8) .i64 fun l =>
 af (decide (k≤l))
 (bK b fun k =>
 DN j k 0 none 0 0 fun k =>
 bK b fun l =>
 lK k l fun l m n o =>
 R (.tuple #[jv l m n o,.bool false]) k)
 (cI j ((na i).add 9) .i64 fun k =>
 bK a fun l =>
 cL j l fun l l m =>
 af (decide (k≥(l:Int)))
 (bK b fun k =>
 DN j k 0 none 0 0 fun k =>
 bK b fun l =>
 lK k l fun l m n o =>
 R (.tuple #[jv l m n o,.bool false]) k)
 (∃ (k:World) (l:World→Prop) (m:World→World→Prop) (n:Nat→Value→World→Prop),D9 k j l m n ∧
 (bK c fun j =>
 cM k j fun j =>
 cI k ((na i).add 8) .i64 fun o =>
 bK c fun p =>
 cM k p fun p =>
 cI k ((na i).add 8) .i64 fun q =>
 (∀ r:World,l r→dm prog (Instr.lookup 144 (.map p) (.int .i64 q) false) r fun p q=>∃ s t u,p = .slice s t u∧n 6 (.slice s t u) q∧m r q) ∧
 (∀ p:Option Addr,∀ q:Nat,∀ r:Nat,(∃ s,l s∧n 6 (.slice p q r) s) →
 lC k (na i) fun k s t u v w x y z A B C =>
 (∀ D:World,l D→n 8 (.slice (some (na D)) 1 1) (D.alloc (.cells (qY k s t u v w x y z A B C) 115))∧m D (D.alloc (.cells (qY k s t u v w x y z A B C) 115))) ∧
 (∀ k:Addr,(∃ s,l s∧n 8 (.slice (some k) 1 1) s) →
 (∀ s:World,l s→n 6 (.slice p q r) s→n 8 (.slice (some k) 1 1) s→dm prog (Builtin.append_ #[113,113] 113 #[.slice p q r,.slice (some k) 1 1]) s fun t u=>∃ v w x,t = .slice v w x∧n 9 (.slice v w x) u∧m s u) ∧
 (∀ m:Option Addr,∀ s:Nat,∀ t:Nat,(∃ u,l u∧n 9 (.slice m s t) u) →
 ∀ u:World,l u→n 6 (.slice p q r) u→n 8 (.slice (some k) 1 1) u→n 9 (.slice m s t) u →
 dm prog (do Instr.mapUpdate 144 (.map j) (.int .i64 o) (.slice m s t); pure undef) u fun _ j =>
 inc h fun h =>
 b8 a b c d e f g h j))))))))
 (bK c fun d =>
 cM i d fun d =>
 dm prog (Instr.range 144 (.map d)) i fun d e =>
 ∃ f:Addr,d = .pointer (some f) ∧
 (e33 a b c (some f) e))
def g33 (R:VP) (b33:T33) (a b c d:OA) (e:World):Prop :=
 dm prog (Instr.next (.pointer d) false 0) e fun e f =>
 (e = .tuple #[.bool false] ∧
 (nw (f.alloc (.cells (lg 0 none 0 0) 50)) fun g =>
 nw (g.alloc (.cells #[.bool false] 4)) fun h =>
 st h ((na g).add 0) (.bool true) fun h =>
 nw (h.alloc (.cells #[.nilFunc] 147)) fun i =>
 st i ((na h).add 0) (.func (.func 81) #[] #[.pointer (some (na g)),.pointer (some (na f)),.pointer a,.pointer c,.pointer (some (na h))]) fun i =>
 cV i (na h) fun h =>
 bK a fun j =>
 cL i j fun j j k =>
 uV prog h #[.int .i64 0,.int .i64 (j:Int)] i fun h i =>
 h = .tuple #[] ∧
 (∃ h:World,CK h i ∧
 (lK i (na f) fun j k l m =>
 cB h (na g) fun g =>
 bK b fun n =>
 DN i n j k l m fun i =>
 CK h i ∧
 (bK b fun h =>
 lK i h fun h j k l =>
 R (.tuple #[jv h j k l,.bool g]) i))))) ∨
 (∃ g h:Value,e = .tuple #[.bool true,g,h] ∧
 (dm prog (Instr.entry (.pointer d)) f fun e f =>
 ∃ g h:Value,e = .tuple #[g,h] ∧
 (CA 79 #[h,.func (.func 80) #[] #[]] f fun e f =>
 e = .tuple #[] ∧
 (b33 a b c d f))))
def q8 (R:VP):QT:=(Exit.inBlock 0 (qS none (C [1,1,1]) (qf R)))
@[irreducible] def l8 (R:VP) (k:Nat):T8:=fun a b c d e f g h w=>aZ [3,4,6,15,16,17] (C [1,1,0,1,0,0]) (q8 R) k (fr (U 3 (.pointer a::(.pointer b::U 1 (.pointer c::U 8 (.slice d e f::(.int .i64 g::(.int .i64 h::U 47 [])))))))) w
def e8 (R:VP):T8:=fun a b c d e f g h w=>∃ k,l8 R k a b c d e f g h w
def q33 (R:VP):QT:=(Exit.inBlock 2 (qS none (C [1,1,1,1]) (qf R)))
@[irreducible] def l33 (R:VP) (k:Nat):T33:=fun a b c d w=>aZ [3,4,6,51] (C [1,1,1,0,1,0,0]) (q33 R) k (fr (U 3 (.pointer a::(.pointer b::U 1 (.pointer c::U 44 (.pointer d::U 13 [])))))) w
def e33 (R:VP):T33:=fun a b c d w=>∃ k,l33 R k a b c d w
theorem u33 (R k a b c d w):l33 R (k+1) a b c d w=g33 R (l33 R k) a b c d w:=ju (by kernel_rfl)
theorem u8 (R k a b c d e f g h w):l8 R (k+1) a b c d e f g h w=g8 R (l8 R k) (e33 R) a b c d e f g h w:=ju (by kernel_rfl)
end aQ
def aQ (R:VP):=aQ.g0 R (aQ.e8 R)
theorem aQ.calls {R a b c d e f w} (k:aQ R a b c d e f w):CA 59 #[.slice a b c,.slice d e f] w R:=cal (n:=aQ.an) func59 rfl k (by kernel_rfl)
open Go.Proofs.Tryz (f60 func60)
namespace bP
def an:An:=(aR (aR (aL (aR (aL (.mk (some [0,1,12,13]) .nil .nil))))))
def qf (R:VP):QT:=fin prog f60 R
def C:=cdN prog f60 an
abbrev T14:=OA→Nat→Nat→OA→Nat→Nat→Int→Int→World→Prop
def g0 (R:VP) (e14:T14) (a:OA) (b c:Nat) (d:OA) (e f:Nat) (g:World):Prop :=
 af ((b:Int) != (e:Int))
 (R (.bool false) g)
 (e14 a b c d e f (b:Int) 0 g)
def g14 (R:VP) (b14:T14) (a:OA) (b c:Nat) (d:OA) (e f:Nat) (g h:Int) (i:World):Prop :=
 af (decide (h<g))
 (ix a b h fun j =>
 cI i (j.add (h.toNat*1)) .i64 fun j =>
 ix d e h fun k =>
 cI i (k.add (h.toNat*1)) .i64 fun k =>
 af (j != k)
 (R (.bool false) i)
 (inc h fun h =>
 b14 a b c d e f g h i))
 (R (.bool true) i)
def q14 (R:VP):QT:=(Exit.inBlock 0 (qS none (C [1,1,1]) (qf R)))
@[irreducible] def l14 (R:VP) (k:Nat):T14:=fun a b c d e f g h w=>aZ [0,1,12,13] (C [1,1,0,1,0,0]) (q14 R) k (fr ((.slice a b c::(.slice d e f::U 10 (.int .i64 g::(.int .i64 h::U 12 [])))))) w
def e14 (R:VP):T14:=fun a b c d e f g h w=>∃ k,l14 R k a b c d e f g h w
theorem u14 (R k a b c d e f g h w):l14 R (k+1) a b c d e f g h w=g14 R (l14 R k) a b c d e f g h w:=ju (by kernel_rfl)
end bP
def bP (R:VP):=bP.g0 R (bP.e14 R)
theorem bP.calls {R a b c d e f w} (k:bP R a b c d e f w):CA 60 #[.slice a b c,.slice d e f] w R:=cal (n:=bP.an) func60 rfl k (by kernel_rfl)
open Go.Proofs.Tryz (f61 func61)
namespace gX
def an:An:=(aR (aR (aL (aR (aL (.mk (some [1,2,15,16,17]) .nil .nil))))))
def qf (R:VP):QT:=fin prog f61 R
def C:=cdN prog f61 an
abbrev T14:=OA→Nat→Nat→OA→Nat→Nat→Int→Int→World→Prop
def g0 (R:VP) (e14:T14) (a:OA) (b c:Nat) (d:OA) (e f:Nat) (g:World):Prop :=
 af ((b:Int) != (e:Int))
 (R (.bool false) g)
 (e14 d e f a b c (b:Int) 0 g)
def g14 (R:VP) (b14:T14) (a:OA) (b c:Nat) (d:OA) (e f:Nat) (g h:Int) (i:World):Prop :=
 af (decide (h<g))
 (ix d e h fun j =>
 Hz i (j.add (h.toNat*5)) fun j k l m n o p q r s t u v =>
 nw (i.alloc (.cells (oZ 0 none 0 0 none 0 0 none 0 0 none 0 0) 66)) fun w =>
 MO w (na i) j k l m n o p q r s t u v fun j =>
 ix a b h fun k =>
 Hz j (k.add (h.toNat*5)) fun k l m n o p q r s t u v w =>
 nw (j.alloc (.cells (oZ 0 none 0 0 none 0 0 none 0 0 none 0 0) 66)) fun x =>
 MO x (na j) k l m n o p q r s t u v w fun k =>
 Hz k (na i) fun l m n o p q r s t u v w x =>
 Hz k (na j) fun j y z A B C D E F G H I J =>
 CA 62 #[zK l m n o p q r s t u v w x,zK j y z A B C D E F G H I J] k fun j k =>
 ∃ l,j = .bool l ∧
 (af (!l)
 (R (.bool false) k)
 (inc h fun h =>
 b14 a b c d e f g h k)))
 (R (.bool true) i)
def q14 (R:VP):QT:=(Exit.inBlock 0 (qS none (C [1,1,1]) (qf R)))
@[irreducible] def l14 (R:VP) (k:Nat):T14:=fun a b c d e f g h w=>aZ [1,2,15,16,17] (C [1,1,0,1,0,0]) (q14 R) k (fr (U 1 (.slice a b c::(.func (.func 62) #[] #[]::U 12 (.slice d e f::(.int .i64 g::(.int .i64 h::U 14 []))))))) w
def e14 (R:VP):T14:=fun a b c d e f g h w=>∃ k,l14 R k a b c d e f g h w
theorem u14 (R k a b c d e f g h w):l14 R (k+1) a b c d e f g h w=g14 R (l14 R k) a b c d e f g h w:=ju (by kernel_rfl)
end gX
def gX (R:VP):=gX.g0 R (gX.e14 R)
theorem gX.calls {R a b c d e f w} (k:gX R a b c d e f w):CA 61 #[.slice a b c,.slice d e f,.func (.func 62) #[] #[]] w R:=cal (n:=gX.an) func61 rfl k (by kernel_rfl)
open Go.Proofs.Tryz (f62 func62)
namespace fJ
def an:An:=An.nil
def g0 (R:VP) (a:Int) (b:OA) (c d:Nat) (e:OA) (f g:Nat) (h:OA) (i j:Nat) (k:OA) (l m:Nat) (n:Int) (o:OA) (p q:Nat) (r:OA) (s t:Nat) (u:OA) (v w:Nat) (x:OA) (y z:Nat) (A:World):Prop :=
 nw (A.alloc (.cells (oZ a b c d e f g h i j k l m) 66)) fun a =>
 nw (a.alloc (.cells (oZ n o p q r s t u v w x y z) 66)) fun b =>
 cI b ((na A).add 0) .i64 fun c =>
 cI b ((na a).add 0) .i64 fun d =>
 af (c==d)
 (cL b ((na A).add 1) fun c d e =>
 cL b ((na a).add 1) fun f g h =>
 CA 57 #[.slice c d e,.slice f g h] b fun c d =>
 ∃ e,c = .bool e ∧
 (af e
 (cL d ((na A).add 2) fun c e f =>
 cL d ((na a).add 2) fun g h i =>
 CA 63 #[.slice c e f,.slice g h i,.func (.func 60) #[] #[]] d fun c e =>
 ∃ f,c = .bool f ∧
 (af f
 (cL e ((na A).add 3) fun c f g =>
 cL e ((na a).add 3) fun h i j =>
 CA 57 #[.slice c f g,.slice h i j] e fun c f =>
 ∃ g,c = .bool g ∧
 (af g
 (cL f ((na A).add 4) fun c g h =>
 cL f ((na a).add 4) fun a i j =>
 CA 64 #[.slice c g h,.slice a i j,.func (.func 65) #[] #[]] f fun a c =>
 ∃ g,a = .bool g ∧
 (R (.bool g) c))
 (R (.bool false) f)))
 (R (.bool false) e)))
 (R (.bool false) d)))
 (R (.bool false) b)
end fJ
def fJ (R:VP):=fJ.g0 R
theorem fJ.calls {R a b c d e f g h i j l m n o p q r s t u v x y z A B w} (k:fJ R a b c d e f g h i j l m n o p q r s t u v x y z A B w):CA 62 #[zK a b c d e f g h i j l m n,zK o p q r s t u v x y z A B] w R:=cal (n:=fJ.an) func62 rfl k (by kernel_rfl)
open Go.Proofs.Tryz (f63 func63)
namespace jd
def an:An:=(aR (aR (aL (aR (aL (.mk (some [1,2,15,16,17]) .nil .nil))))))
def qf (R:VP):QT:=fin prog f63 R
def C:=cdN prog f63 an
abbrev T14:=OA→Nat→Nat→OA→Nat→Nat→Int→Int→World→Prop
def g0 (R:VP) (e14:T14) (a:OA) (b c:Nat) (d:OA) (e f:Nat) (g:World):Prop :=
 af ((b:Int) != (e:Int))
 (R (.bool false) g)
 (e14 d e f a b c (b:Int) 0 g)
def g14 (R:VP) (b14:T14) (a:OA) (b c:Nat) (d:OA) (e f:Nat) (g h:Int) (i:World):Prop :=
 af (decide (h<g))
 (ix d e h fun j =>
 cL i (j.add (h.toNat*1)) fun j k l =>
 ix a b h fun m =>
 cL i (m.add (h.toNat*1)) fun m n o =>
 CA 60 #[.slice j k l,.slice m n o] i fun j k =>
 ∃ l,j = .bool l ∧
 (af (!l)
 (R (.bool false) k)
 (inc h fun h =>
 b14 a b c d e f g h k)))
 (R (.bool true) i)
def q14 (R:VP):QT:=(Exit.inBlock 0 (qS none (C [1,1,1]) (qf R)))
@[irreducible] def l14 (R:VP) (k:Nat):T14:=fun a b c d e f g h w=>aZ [1,2,15,16,17] (C [1,1,0,1,0,0]) (q14 R) k (fr (U 1 (.slice a b c::(.func (.func 60) #[] #[]::U 12 (.slice d e f::(.int .i64 g::(.int .i64 h::U 14 []))))))) w
def e14 (R:VP):T14:=fun a b c d e f g h w=>∃ k,l14 R k a b c d e f g h w
theorem u14 (R k a b c d e f g h w):l14 R (k+1) a b c d e f g h w=g14 R (l14 R k) a b c d e f g h w:=ju (by kernel_rfl)
end jd
def jd (R:VP):=jd.g0 R (jd.e14 R)
theorem jd.calls {R a b c d e f w} (k:jd R a b c d e f w):CA 63 #[.slice a b c,.slice d e f,.func (.func 60) #[] #[]] w R:=cal (n:=jd.an) func63 rfl k (by kernel_rfl)
end Go.Mir
