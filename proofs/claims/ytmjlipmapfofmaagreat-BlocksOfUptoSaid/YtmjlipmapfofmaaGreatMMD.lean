/- Part of a proof of laws of the seat YtmjlipmapfofmaaGreat: functions' weakest preconditions, each checked by the kernel, contracts out of them, plain lemmas; no conditions. -/
import Derived.Test.YtmjlipmapfofmaaGreatMMA
set_option linter.unusedVariables false
set_option linter.unusedSimpArgs false
set_option linter.unusedSectionVars false
set_option linter.unusedVariables false
set_option maxRecDepth 100000
namespace Go.Mir
open Go Go.E Go.RowKit
open Go.Proofs.Tryz (prog)
open Go.Proofs.Tryz (f92 func92)
namespace kN
def an:An:=An.nil
def g0 (R:VP) (a:OA) (b c:Nat) (d:Addr) (e:World):Prop :=
 CA 103 #[.slice a b c,.int .i64 (b:Int),.func (.func 93) #[] #[.pointer (some d)]] e fun a b =>
 a = .tuple #[] ∧
 (R (.tuple #[]) b)
end kN
def kN (R:VP):=kN.g0 R
theorem kN.calls {R a b c d w} (k:kN R a b c d w):CA 92 #[.slice a b c,.func (.func 93) #[] #[.pointer (some d)]] w R:=cal (n:=kN.an) func92 rfl k (by kernel_rfl)
open Go.Proofs.Tryz (f93 func93)
namespace fH
def an:An:=An.nil
def g0 (R:VP) (a:Int) (b:OA) (c d:Nat) (e:OA) (f g:Nat) (h:OA) (i j:Nat) (k:Int) (l:OA) (m n:Nat) (o:OA) (p q:Nat) (r:OA) (s t:Nat) (u:Addr) (v:World):Prop :=
 nw (v.alloc (.cells (uk a b c d e f g h i j) 74)) fun a =>
 nw (a.alloc (.cells (uk k l m n o p q r s t) 74)) fun b =>
 cV b u fun c =>
 qg b (na v) fun d e f g h i j k l m =>
 qfN prog c #[zQ d e f g h i j k l m] 3 b fun c =>
 cV b u fun d =>
 qg b (na a) fun a e f g h i j k l m =>
 qfN prog d #[zQ a e f g h i j k l m] 3 b fun a =>
 ∃ d,(∀ e:World,Below b.heap.size b e→CA 94 #[c,a] e fun a c=>a = .int .i64 d∧Below b.heap.size b c) ∧
 (∀ a:World,Below b.heap.size b a →
 R (.int .i64 d) a)
end fH
def fH (R:VP):=fH.g0 R
theorem fH.calls {R a b c d e f g h i j l m n o p q r s t u v w} (k:fH R a b c d e f g h i j l m n o p q r s t u v w):CA 93 #[zQ a b c d e f g h i j,zQ l m n o p q r s t u,.pointer (some v)] w R:=cal (n:=fH.an) func93 rfl k (by kernel_rfl)
open Go.Proofs.Tryz (f94 func94)
namespace cmp_Compare_int
def an:An:=An.nil
def g0 (R:VP) (a b:Int) (c:World):Prop :=
 CA 104 #[.int .i64 a] c fun c d =>
 ∃ e,c = .bool e ∧
 (CA 104 #[.int .i64 b] d fun c d =>
 ∃ f,c = .bool f ∧
 (af e
 (af f
 (R (.int .i64 0) d)
 (R (.int .i64 (-1)) d))
 (af f
 (R (.int .i64 1) d)
 (af (decide (a<b))
 (R (.int .i64 (-1)) d)
 (af (decide (a>b))
 (R (.int .i64 1) d)
 (R (.int .i64 0) d))))))
end cmp_Compare_int
def cmp_Compare_int (R:VP):=cmp_Compare_int.g0 R
theorem cmp_Compare_int.calls {R a b w} (k:cmp_Compare_int R a b w):CA 94 #[.int .i64 a,.int .i64 b] w R:=cal (n:=cmp_Compare_int.an) func94 rfl k (by kernel_rfl)
open Go.Proofs.Tryz (f95 func95)
namespace ai
def an:An:=(aR (aR (aR (aR (.mk none (aR (aL (.mk (some [1,4,5,21,22,23]) .nil .nil))) (aR (aR (.mk none (aL (.mk (some [1,5,8,9]) .nil .nil)) (aL (aR (aL (.mk (some [5,8,92,93]) .nil .nil))))))))))))
def qf (R:VP):QT:=fin prog f95 R
def C:=cdN prog f95 an
abbrev T18:=OA→Int→OA→Nat→Nat→OA→Nat→Nat→Int→Int→World→Prop
abbrev T51:=OA→OA→Nat→Nat→OA→Nat→Nat→OA→Nat→Nat→World→Prop
abbrev T82:=OA→Nat→Nat→OA→Nat→Nat→Int→Int→World→Prop
def g0 (R:VP) (e18:T18) (a:Int) (b:OA) (c d:Nat) (e:World):Prop :=
 nw (e.alloc (.cells (lg a b c d) 50)) fun a =>
 cL a ((na e).add 1) fun b b c =>
 af ((b:Int)==0)
 (R (.tuple #[.int .i64 70,.int .i64 0]) a)
 (chk ((0:Int)≤(b:Int)∧(b:Int)≤(b:Int)∧((8:Nat):Int)*(b:Int)≤281474976710656∧(b:Int)≤9223372036854775807)
 (nw (a.alloc (.cells (madeCells #[.int .i64 0] (((b:Int)).toNat*1)) 3)) fun c =>
 cL c ((na e).add 1) fun d f g =>
 e18 (some (na e)) (b:Int) (some (na a)) (((b:Int)).toNat) (((b:Int)).toNat) d f g (f:Int) 0 c))
def g18 (R:VP) (b18:T18) (e51:T51) (a:OA) (b:Int) (c:OA) (d e:Nat) (f:OA) (g h:Nat) (i j:Int) (k:World):Prop :=
 af (decide (j<i))
 (ix f g j fun l =>
 lU k (l.add (j.toNat*8)) fun l m n o p q r s t u =>
 nw (k.alloc (.cells (pO 0 0 0 0 none 0 0 0 0 0) 56)) fun v =>
 vS v (na k) l m n o p q r s t u fun l =>
 lU l (na k) fun m n o p q r s t u v =>
 CA 105 #[EX m n o p q r s t u v,.int .i64 b] l fun l m =>
 ∃ n,l = .bool n ∧
 (af (!n)
 (R (.tuple #[.int .i64 71,.int .i64 j]) m)
 (cI m ((na k).add 0) .u8 fun l =>
 af (l != 1)
 (cI m ((na k).add 6) .i64 fun l =>
 ix c d l fun n =>
 cI m (n.add (l.toNat*1)) .i64 fun n =>
 inc n fun n =>
 ix c d l fun o =>
 st m ((o.add (l.toNat*1)).add 0) (.int .i64 n) fun l =>
 cI l ((na k).add 7) .i64 fun n =>
 ix c d n fun o =>
 cI l (o.add (n.toNat*1)) .i64 fun o =>
 inc o fun o =>
 ix c d n fun p =>
 st l ((p.add (n.toNat*1)).add 0) (.int .i64 o) fun l =>
 inc j fun n =>
 b18 a b c d e f g h i n l)
 (inc j fun j =>
 b18 a b c d e f g h i j m))))
 (chk ((0:Int)≤b∧b≤b∧((1:Nat):Int)*b≤281474976710656∧b≤9223372036854775807)
 (nw (k.alloc (.cells (madeCells #[.bool false] ((b).toNat*1)) 4)) fun f =>
 nw (f.alloc (.cells #[.int .i64 0] 3)) fun g =>
 e51 a c d e (some (na k)) ((b).toNat) ((b).toNat) (some (na f)) 1 1 g))
def g51 (R:VP) (b51:T51) (e82:T82) (a b:OA) (c d:Nat) (e:OA) (f g:Nat) (h:OA) (i j:Nat) (k:World):Prop :=
 af (decide ((i:Int)>0))
 (nv (IntKind.i64.wrap ((i:Int) - 1)) fun l =>
 ix h i l fun m =>
 cI k (m.add (l.toNat*1)) .i64 fun l =>
 nv (IntKind.i64.wrap ((i:Int) - 1)) fun i =>
 chk ((0:Int)≤i∧i≤(j:Int))
 (ix e f l fun m =>
 cB k (m.add (l.toNat*1)) fun m =>
 af m
 (b51 a b c d e f g (slA h j 0 1) i.toNat j k)
 (ix e f l fun m =>
 st k ((m.add (l.toNat*1)).add 0) (.bool true) fun m =>
 bK a fun n =>
 cL m (n.add 1) fun n o p =>
 ix n o l fun n =>
 lU m (n.add (l.toNat*8)) fun l n o p q r s t u v =>
 nw (m.alloc (.cells (pO 0 0 0 0 none 0 0 0 0 0) 56)) fun w =>
 vS w (na m) l n o p q r s t u v fun l =>
 cI l ((na m).add 0) .u8 fun n =>
 af (n != 1)
 (cI l ((na m).add 6) .i64 fun n =>
 cI l ((na m).add 7) .i64 fun m =>
 nw (l.alloc (.cells (Ej n m) 3)) fun m =>
 dm prog (Builtin.append_ #[53,53] 53 #[.slice (slA h j 0 1) i.toNat j,.slice (some (na l)) 2 2]) m fun m n =>
 ∃ o p q,m = .slice o p q ∧
 (b51 a b c d e f g o p q n))
 (b51 a b c d e f g (slA h j 0 1) i.toNat j l))))
 (bK a fun a =>
 cL k (a.add 1) fun a a h =>
 e82 b c d e f g (a:Int) 0 k)
def g82 (R:VP) (b82:T82) (a:OA) (b c:Nat) (d:OA) (e f:Nat) (g h:Int) (i:World):Prop :=
 af (decide (h<g))
 (af (h==0)
 (ix a b h fun j =>
 cI i (j.add (h.toNat*1)) .i64 fun j =>
 af (j != 0)
 (R (.tuple #[.int .i64 70,.int .i64 h]) i)
 (af (decide (h>0))
 (ix a b h fun j =>
 cI i (j.add (h.toNat*1)) .i64 fun j =>
 af (j != 1)
 (R (.tuple #[.int .i64 70,.int .i64 h]) i)
 (ix d e h fun j =>
 cB i (j.add (h.toNat*1)) fun j =>
 af (!j)
 (R (.tuple #[.int .i64 70,.int .i64 h]) i)
 (inc h fun j =>
 b82 a b c d e f g j i)))
 (ix d e h fun j =>
 cB i (j.add (h.toNat*1)) fun j =>
 af (!j)
 (R (.tuple #[.int .i64 70,.int .i64 h]) i)
 (inc h fun j =>
 b82 a b c d e f g j i))))
 (af (decide (h>0))
 (ix a b h fun j =>
 cI i (j.add (h.toNat*1)) .i64 fun j =>
 af (j != 1)
 (R (.tuple #[.int .i64 70,.int .i64 h]) i)
 (ix d e h fun j =>
 cB i (j.add (h.toNat*1)) fun j =>
 af (!j)
 (R (.tuple #[.int .i64 70,.int .i64 h]) i)
 (inc h fun j =>
 b82 a b c d e f g j i)))
 (ix d e h fun j =>
 cB i (j.add (h.toNat*1)) fun j =>
 af (!j)
 (R (.tuple #[.int .i64 70,.int .i64 h]) i)
 (inc h fun h =>
 b82 a b c d e f g h i))))
 (R (.tuple #[.int .i64 0,.int .i64 0]) i)
def q18 (R:VP):QT:=(Exit.inBlock 0 (qS none (C [1,1,1,1,1]) (qf R)))
@[irreducible] def l18 (R:VP) (k:Nat):T18:=fun a b c d e f g h i j w=>aZ [1,4,5,21,22,23] (C [1,1,1,1,0,1,0,0]) (q18 R) k (fr (U 1 (.pointer a::U 2 (.int .i64 b::(.slice c d e::U 15 (.slice f g h::(.int .i64 i::(.int .i64 j::U 101 [])))))))) w
def e18 (R:VP):T18:=fun a b c d e f g h i j w=>∃ k,l18 R k a b c d e f g h i j w
def q51 (R:VP):QT:=(Exit.inBlock 2 (qS none (C [1,1,1,1,1,1,1,1]) (qf R)))
@[irreducible] def l51 (R:VP) (k:Nat):T51:=fun a b c d e f g h i j w=>aZ [1,5,8,9] (C [1,1,1,1,1,1,1,0,0,0]) (q51 R) k (fr (U 1 (.pointer a::U 3 (.slice b c d::U 2 (.slice e f g::(.slice h i j::U 115 [])))))) w
def e51 (R:VP):T51:=fun a b c d e f g h i j w=>∃ k,l51 R k a b c d e f g h i j w
def q82 (R:VP):QT:=(Exit.inBlock 4 (qS none (C [1,1,1,1,1,1,1,1,1]) (qf R)))
@[irreducible] def l82 (R:VP) (k:Nat):T82:=fun a b c d e f g h w=>aZ [5,8,92,93] (C [1,1,1,1,1,1,1,1,0,1,0,0]) (q82 R) k (fr (U 5 (.slice a b c::U 2 (.slice d e f::U 83 (.int .i64 g::(.int .i64 h::U 31 [])))))) w
def e82 (R:VP):T82:=fun a b c d e f g h w=>∃ k,l82 R k a b c d e f g h w
theorem u82 (R k a b c d e f g h w):l82 R (k+1) a b c d e f g h w=g82 R (l82 R k) a b c d e f g h w:=ju (by kernel_rfl)
theorem u51 (R k a b c d e f g h i j w):l51 R (k+1) a b c d e f g h i j w=g51 R (l51 R k) (e82 R) a b c d e f g h i j w:=ju (by kernel_rfl)
theorem u18 (R k a b c d e f g h i j w):l18 R (k+1) a b c d e f g h i j w=g18 R (l18 R k) (e51 R) a b c d e f g h i j w:=ju (by kernel_rfl)
end ai
def ai (R:VP):=ai.g0 R (ai.e18 R)
theorem ai.calls {R a b c d w} (k:ai R a b c d w):CA 95 #[jv a b c d] w R:=cal (n:=ai.an) func95 rfl k (by kernel_rfl)
open Go.Proofs.Tryz (f96 func96)
namespace aX
def an:An:=(aR (aR (aR (aL (aL (.mk (some [1,3,4]) .nil .nil))))))
def qf (R:VP):QT:=fin prog f96 R
def C:=cdN prog f96 an
abbrev T8:=OA→OA→Nat→Nat→OA→Nat→Nat→World→Prop
def g0 (R:VP) (e8:T8) (a:Int) (b:OA) (c d:Nat) (e:World):Prop :=
 nw (e.alloc (.cells (lg a b c d) 50)) fun a =>
 nw (a.alloc (.cells #[.int .i64 0] 3)) fun b =>
 e8 (some (na e)) none 0 0 (some (na a)) 1 1 b
def g8 (R:VP) (b8:T8) (a b:OA) (c d:Nat) (e:OA) (f g:Nat) (h:World):Prop :=
 af (decide ((f:Int)>0))
 (nv (IntKind.i64.wrap ((f:Int) - 1)) fun i =>
 ix e f i fun j =>
 cI h (j.add (i.toNat*1)) .i64 fun i =>
 nv (IntKind.i64.wrap ((f:Int) - 1)) fun f =>
 chk ((0:Int)≤f∧f≤(g:Int))
 (nw (h.alloc (.cells #[.int .i64 i] 3)) fun j =>
 dm prog (Builtin.append_ #[53,53] 53 #[.slice b c d,.slice (some (na h)) 1 1]) j fun j k =>
 ∃ l m n,j = .slice l m n ∧
 (bK a fun j =>
 cL k (j.add 1) fun j o p =>
 ix j o i fun j =>
 lU k (j.add (i.toNat*8)) fun i j o p q r s t u v =>
 nw (k.alloc (.cells (pO 0 0 0 0 none 0 0 0 0 0) 56)) fun w =>
 vS w (na k) i j o p q r s t u v fun i =>
 cI i ((na k).add 0) .u8 fun j =>
 af (j != 1)
 (cI i ((na k).add 7) .i64 fun j =>
 cI i ((na k).add 6) .i64 fun k =>
 nw (i.alloc (.cells (Ej j k) 3)) fun j =>
 dm prog (Builtin.append_ #[53,53] 53 #[.slice (slA e g 0 1) f.toNat g,.slice (some (na i)) 2 2]) j fun j k =>
 ∃ o p q,j = .slice o p q ∧
 (b8 a l m n o p q k))
 (b8 a l m n (slA e g 0 1) f.toNat g i))))
 (R (.slice b c d) h)
def q8 (R:VP):QT:=(Exit.inBlock 0 (qS none (C [1,1,1,1]) (qf R)))
@[irreducible] def l8 (R:VP) (k:Nat):T8:=fun a b c d e f g w=>aZ [1,3,4] (C [1,1,1,0,0,0]) (q8 R) k (fr (U 1 (.pointer a::U 1 (.slice b c d::(.slice e f g::U 37 []))))) w
def e8 (R:VP):T8:=fun a b c d e f g w=>∃ k,l8 R k a b c d e f g w
theorem u8 (R k a b c d e f g w):l8 R (k+1) a b c d e f g w=g8 R (l8 R k) a b c d e f g w:=ju (by kernel_rfl)
end aX
def aX (R:VP):=aX.g0 R (aX.e8 R)
theorem aX.calls {R a b c d w} (k:aX R a b c d w):CA 96 #[jv a b c d] w R:=cal (n:=aX.an) func96 rfl k (by kernel_rfl)
open Go.Proofs.Tryz (f97 func97)
namespace aV
def an:An:=(aR (aR (aR (aR (aR (aL (aR (aL (.mk (some [1,6,7,25,26,27]) .nil .nil)))))))))
def qf (R:VP):QT:=fin prog f97 R
def C:=cdN prog f97 an
abbrev T20:=OA→OA→Nat→Nat→OA→Nat→Nat→OA→Nat→Nat→Int→Int→World→Prop
def g0 (R:VP) (e20:T20) (a:Int) (b:OA) (c d:Nat) (e:World):Prop :=
 nw (e.alloc (.cells (lg a b c d) 50)) fun a =>
 lK a (na e) fun b c d f =>
 CA 50 #[jv b c d f] a fun a b =>
 ∃ c d,a = .tuple #[.int .i64 c,.int .i64 d] ∧
 (af (d != 0)
 (R (.tuple #[.slice none 0 0,.int .i64 d]) b)
 (cL b ((na e).add 1) fun a a c =>
 chk ((0:Int)≤(a:Int)∧(a:Int)≤(a:Int)∧((8:Nat):Int)*(a:Int)≤281474976710656∧(a:Int)≤9223372036854775807)
 (nw (b.alloc (.cells (madeCells #[.int .i64 0] (((a:Int)).toNat*1)) 3)) fun c =>
 lK c (na e) fun d f g h =>
 CA 96 #[jv d f g h] c fun c d =>
 ∃ f g h,c = .slice f g h ∧
 (e20 (some (na e)) (some (na b)) (((a:Int)).toNat) (((a:Int)).toNat) none 0 0 f g h (g:Int) 0 d))))
def g20 (R:VP) (b20:T20) (a b:OA) (c d:Nat) (e:OA) (f g:Nat) (h:OA) (i j:Nat) (k l:Int) (m:World):Prop :=
 af (decide (l<k))
 (ix h i l fun n =>
 cI m (n.add (l.toNat*1)) .i64 fun n =>
 bK a fun o =>
 cL m (o.add 1) fun o p q =>
 ix o p n fun o =>
 lU m (o.add (n.toNat*8)) fun o p q r s t u v w x =>
 nw (m.alloc (.cells (pO 0 0 0 0 none 0 0 0 0 0) 56)) fun y =>
 vS y (na m) o p q r s t u v w x fun o =>
 cI o ((na m).add 0) .u8 fun p =>
 af (p==1)
 (inc l fun p =>
 b20 a b c d e f g h i j k p o)
 (bK a fun p =>
 lK o p fun p q r s =>
 cI o ((na m).add 6) .i64 fun t =>
 CA 106 #[jv p q r s,.int .i64 t] o fun o p =>
 ∃ q,o = .int .i64 q ∧
 (∃ o:Nat→Value→World→Prop,KpF o ∧
 (ix b c n fun r =>
 cI p (r.add (n.toNat*1)) .i64 fun r =>
 ix b c n fun s =>
 cI p (s.add (n.toNat*1)) .i64 fun s =>
 nv (IntKind.i64.wrap (s+q)) fun s =>
 (∀ t:World,Below p.heap.size p t→o 13 (.slice (some (na t)) 1 1) (t.alloc (.cells (Ko n r s) 135))) ∧
 (∀ r:Addr,(∃ s,Below p.heap.size p s∧o 13 (.slice (some r) 1 1) s) →
 ∀ s:World,Below p.heap.size p s→o 13 (.slice (some r) 1 1) s →
 dm prog (Builtin.append_ #[131,131] 131 #[.slice e f g,.slice (some r) 1 1]) s fun o p =>
 ∃ r s t,o = .slice r s t ∧
 (cI p ((na m).add 6) .i64 fun o =>
 ix b c n fun u =>
 cI p (u.add (n.toNat*1)) .i64 fun u =>
 ix b c o fun v =>
 st p ((v.add (o.toNat*1)).add 0) (.int .i64 u) fun o =>
 cI o ((na m).add 7) .i64 fun p =>
 ix b c n fun u =>
 cI o (u.add (n.toNat*1)) .i64 fun n =>
 nv (IntKind.i64.wrap (n+q)) fun n =>
 ix b c p fun q =>
 st o ((q.add (p.toNat*1)).add 0) (.int .i64 n) fun n =>
 inc l fun l =>
 b20 a b c d r s t h i j k l n))))))
 (R (.tuple #[.slice e f g,.int .i64 0]) m)
def q20 (R:VP):QT:=(Exit.inBlock 0 (qS none (C [1,1,1,1,1,1]) (qf R)))
@[irreducible] def l20 (R:VP) (k:Nat):T20:=fun a b c d e f g h i j l m w=>aZ [1,6,7,25,26,27] (C [1,1,1,1,1,0,1,0,0]) (q20 R) k (fr (U 1 (.pointer a::U 4 (.slice b c d::(.slice e f g::U 17 (.slice h i j::(.int .i64 l::(.int .i64 m::U 50 [])))))))) w
def e20 (R:VP):T20:=fun a b c d e f g h i j l m w=>∃ k,l20 R k a b c d e f g h i j l m w
theorem u20 (R k a b c d e f g h i j l m w):l20 R (k+1) a b c d e f g h i j l m w=g20 R (l20 R k) a b c d e f g h i j l m w:=ju (by kernel_rfl)
end aV
def aV (R:VP):=aV.g0 R (aV.e20 R)
theorem aV.calls {R a b c d w} (k:aV R a b c d w):CA 97 #[jv a b c d] w R:=cal (n:=aV.an) func97 rfl k (by kernel_rfl)
open Go.Proofs.Tryz (f98 func98)
namespace dL
def an:An:=(aR (aR (.mk none (aL (.mk (some [0,1,2,6,7,8]) .nil .nil)) (aR (aL (.mk (some [0,1,2,6]) (aR (aL (aR (aL (aL (.mk (some [0,1,2,6,7,8]) .nil .nil)))))) .nil))))))
def qf (R:VP):QT:=fin prog f98 R
def C:=cdN prog f98 an
abbrev T6:=OA→Nat→Nat→Int→Int→Int→Int→World→Prop
abbrev T22:=OA→Nat→Nat→Int→Int→World→Prop
abbrev T34:=OA→Nat→Nat→Int→Int→Int→Int→World→Prop
def g0 (R:VP) (e6:T6) (a:OA) (b c:Nat) (d:Int) (e:World):Prop :=
 e6 a b c d 20 0 20 e
def g6 (R:VP) (b6:T6) (e22:T22) (a:OA) (b c:Nat) (d e f g:Int) (h:World):Prop :=
 af (decide (g≤d))
 (CA 107 #[.slice a b c,.int .i64 f,.int .i64 g,.func (.func 80) #[] #[]] h fun i j =>
 i = .tuple #[] ∧
 (nv (IntKind.i64.wrap (g+e)) fun i =>
 b6 a b c d e g i j))
 (CA 107 #[.slice a b c,.int .i64 f,.int .i64 d,.func (.func 80) #[] #[]] h fun f g =>
 f = .tuple #[] ∧
 (e22 a b c d e g))
def g22 (R:VP) (e34:T34) (a:OA) (b c:Nat) (d e:Int) (f:World):Prop :=
 af (decide (e<d))
 (nv (IntKind.i64.wrap (2*e)) fun g =>
 e34 a b c d e 0 g f)
 (R (.tuple #[]) f)
def g34 (R:VP) (b22:T22) (b34:T34) (a:OA) (b c:Nat) (d e f g:Int) (h:World):Prop :=
 af (decide (g≤d))
 (nv (IntKind.i64.wrap (f+e)) fun i =>
 CA 108 #[.slice a b c,.int .i64 f,.int .i64 i,.int .i64 g,.func (.func 80) #[] #[]] h fun i j =>
 i = .tuple #[] ∧
 (nv (IntKind.i64.wrap (2*e)) fun i =>
 nv (IntKind.i64.wrap (g+i)) fun i =>
 b34 a b c d e g i j))
 (nv (IntKind.i64.wrap (f+e)) fun g =>
 af (decide (g<d))
 (CA 108 #[.slice a b c,.int .i64 f,.int .i64 g,.int .i64 d,.func (.func 80) #[] #[]] h fun f g =>
 f = .tuple #[] ∧
 (nv (IntKind.i64.wrap (e*2)) fun f =>
 b22 a b c d f g))
 (nv (IntKind.i64.wrap (e*2)) fun e =>
 b22 a b c d e h))
def q6 (R:VP):QT:=(Exit.inBlock 0 (qS none (C [1,1,1]) (qf R)))
@[irreducible] def l6 (R:VP) (k:Nat):T6:=fun a b c d e f g w=>aZ [0,1,2,6,7,8] (C [1,1,0,0,0]) (q6 R) k (fr ((.slice a b c::(.int .i64 d::(.func (.func 80) #[] #[]::U 3 (.int .i64 e::(.int .i64 f::(.int .i64 g::U 54 [])))))))) w
def e6 (R:VP):T6:=fun a b c d e f g w=>∃ k,l6 R k a b c d e f g w
def q22 (R:VP):QT:=(Exit.inBlock 2 (qf R))
@[irreducible] def l22 (R:VP) (k:Nat):T22:=fun a b c d e w=>aZ [0,1,2,6] (C [1,1,1,1,0,0]) (q22 R) k (fr ((.slice a b c::(.int .i64 d::(.func (.func 80) #[] #[]::U 3 (.int .i64 e::U 56 [])))))) w
def e22 (R:VP):T22:=fun a b c d e w=>∃ k,l22 R k a b c d e w
def q34 (R:VP) (k22:Nat):QT:=(Exit.inBlock 4 (qS none (C [1,1,1,1,0,0,1,0,1,1]) (Exit.inBlock 3 (qL [0,1,2,6] (C [1,1,1,1,0,0]) (q22 R) k22))))
def xJ (R:VP) (k22:Nat) (k:Nat):T34:=fun a b c d e f g w=>aZ [0,1,2,6,7,8] (C [1,1,1,1,0,0,1,0,1,0,0,0]) (q34 R k22) k (fr ((.slice a b c::(.int .i64 d::(.func (.func 80) #[] #[]::U 3 (.int .i64 e::(.int .i64 f::(.int .i64 g::U 54 [])))))))) w
def IE (R:VP) (k22:Nat):T34:=fun a b c d e f g w=>∃ k,xJ R k22 k a b c d e f g w
def l34 (R:VP) (b22:T22):Nat→T34
 | 0=>fun _ _ _ _ _ _ _ _=>False
 | k+1=>g34 R b22 (l34 R b22 k)
def e34 (R:VP) (b22:T22):T34:=fun a b c d e f g w=>∃ k,l34 R b22 k a b c d e f g w
theorem s34 (R:VP) (k22:Nat) (k:Nat):xJ R k22 (k+1)=fun a b c d e f g w=>∀ _:Nat→Value,g34 R (l22 R k22) (xJ R k22 k) a b c d e f g w:=by kernel_rfl
theorem IL (R:VP) (k22:Nat) (b22:T22) (hb22:b22=l22 R k22):∀ k,l34 R b22 k=xJ R k22 k
 | 0=>by kernel_rfl
 | k+1=>by
  rw [s34]
  simp only [forall_const]
  unfold l34
  have ih:=IL R k22 b22 hb22 k
  subst hb22
  rw [ih]
  all_goals rfl
theorem QQ (R:VP) (k22:Nat) (b22:T22) (hb22:b22=l22 R k22):e34 R b22=IE R k22:=by
 unfold e34 IE
 simp only [IL R k22 b22 hb22]
theorem u22 (R k a b c d e w):l22 R (k+1) a b c d e w=g22 R (e34 R (l22 R k)) a b c d e w:=by rw [QQ R k _ rfl]; exact ju (by kernel_rfl)
theorem u6 (R k a b c d e f g w):l6 R (k+1) a b c d e f g w=g6 R (l6 R k) (e22 R) a b c d e f g w:=ju (by kernel_rfl)
end dL
def dL (R:VP):=dL.g0 R (dL.e6 R)
theorem dL.calls {R a b c d w} (k:dL R a b c d w):CA 98 #[.slice a b c,.int .i64 d,.func (.func 80) #[] #[]] w R:=cal (n:=dL.an) func98 rfl k (by kernel_rfl)
open Go.Proofs.Tryz (f99 func99)
namespace dK
def an:An:=(aR (aR (aR (aR (aR (aR (aL (aR (aL (.mk (some [5,6,108,109,110]) .nil .nil))))))))))
def qf (R:VP):QT:=fin prog f99 R
def C:=cdN prog f99 an
abbrev T34:=Bool→Int→OA→Nat→Nat→Int→Int→World→Prop
def g0 (R:VP) (e34:T34) (a b c:Int) (d:Nat) (e:OA) (f g:Nat) (h i j k:Int) (l:World):Prop :=
 nw (l.alloc (.cells (pO a b c d e f g h i j) 56)) fun a =>
 cF a ((na l).add 3) .f64 fun b =>
 ∃ c,pV prog (callFunc 56 #[.float .f64 b]) a (.int .u64 c) ∧
 (cI a ((na l).add 0) .u8 fun b =>
 af (b==1)
 (cI a ((na l).add 2) .i64 fun b =>
 af (b==0)
 (af (c==0)
 (cL a ((na l).add 4) fun b b d =>
 af ((b:Int)==0)
 (cI a ((na l).add 5) .u8 fun b =>
 af (b==0)
 (cI a ((na l).add 6) .i64 fun b =>
 af (b==0)
 (cI a ((na l).add 7) .i64 fun b =>
 R (.bool (b==0)) a)
 (R (.bool false) a))
 (R (.bool false) a))
 (R (.bool false) a))
 (R (.bool false) a))
 (R (.bool false) a))
 (lU a (na l) fun b d e f g h i j m n =>
 CA 86 #[EX b d e f g h i j m n] a fun a b =>
 ∃ d,a = .bool d ∧
 (af (!d)
 (R (.bool false) b)
 (cI b ((na l).add 1) .i64 fun a =>
 af (a != 0)
 (R (.bool false) b)
 (cI b ((na l).add 2) .i64 fun a =>
 af (decide (a<0))
 (R (.bool false) b)
 (cI b ((na l).add 2) .i64 fun a =>
 af (decide (a≥65536))
 (R (.bool false) b)
 (cI b ((na l).add 5) .u8 fun a =>
 af (a != 1)
 (cI b ((na l).add 5) .u8 fun a =>
 af (a != 2)
 (R (.bool false) b)
 (cI b ((na l).add 6) .i64 fun a =>
 af (decide (a<1))
 (R (.bool false) b)
 (cI b ((na l).add 6) .i64 fun a =>
 af (decide (a≥k))
 (R (.bool false) b)
 (cI b ((na l).add 7) .i64 fun a =>
 af (decide (a<1))
 (R (.bool false) b)
 (cI b ((na l).add 7) .i64 fun a =>
 af (decide (a≥k))
 (R (.bool false) b)
 (cI b ((na l).add 0) .u8 fun a =>
 af (a==2)
 (cF b ((na l).add 3) .f64 fun a =>
 cF b ((na l).add 3) .f64 fun d =>
 af (FloatKind.f64.format.order a d==some .eq)
 (cL b ((na l).add 4) fun a a d =>
 R (.bool ((a:Int)==0)) b)
 (R (.bool false) b))
 (cL b ((na l).add 4) fun a d e =>
 e34 (c==0) (-1) a d e (d:Int) 0 b)))))))
 (cI b ((na l).add 6) .i64 fun a =>
 af (decide (a<1))
 (R (.bool false) b)
 (cI b ((na l).add 6) .i64 fun a =>
 af (decide (a≥k))
 (R (.bool false) b)
 (cI b ((na l).add 7) .i64 fun a =>
 af (decide (a<1))
 (R (.bool false) b)
 (cI b ((na l).add 7) .i64 fun a =>
 af (decide (a≥k))
 (R (.bool false) b)
 (cI b ((na l).add 0) .u8 fun a =>
 af (a==2)
 (cF b ((na l).add 3) .f64 fun a =>
 cF b ((na l).add 3) .f64 fun d =>
 af (FloatKind.f64.format.order a d==some .eq)
 (cL b ((na l).add 4) fun a a d =>
 R (.bool ((a:Int)==0)) b)
 (R (.bool false) b))
 (cL b ((na l).add 4) fun a d e =>
 e34 (c==0) (-1) a d e (d:Int) 0 b)))))))))))))
def g34 (R:VP) (b34:T34) (a:Bool) (b:Int) (c:OA) (d e:Nat) (f g:Int) (h:World):Prop :=
 af (decide (g<f))
 (ix c d g fun i =>
 cI h (i.add (g.toNat*1)) .i64 fun i =>
 af (decide (i≤b))
 (R (.bool false) h)
 (af (decide (i≥1024))
 (R (.bool false) h)
 (inc g fun g =>
 b34 a i c d e f g h)))
 (af a
 (R (.bool (decide (b≥0))) h)
 (R (.bool false) h))
def q34 (R:VP):QT:=(Exit.inBlock 0 (qS none (C [1,1,1,1,1,1,1]) (qf R)))
@[irreducible] def l34 (R:VP) (k:Nat):T34:=fun a b c d e f g w=>aZ [5,6,108,109,110] (C [1,1,1,1,1,1,0,1,0,0]) (q34 R) k (fr (U 5 (.bool a::(.int .i64 b::U 101 (.slice c d e::(.int .i64 f::(.int .i64 g::U 17 []))))))) w
def e34 (R:VP):T34:=fun a b c d e f g w=>∃ k,l34 R k a b c d e f g w
theorem u34 (R k a b c d e f g w):l34 R (k+1) a b c d e f g w=g34 R (l34 R k) a b c d e f g w:=ju (by kernel_rfl)
end dK
def dK (R:VP):=dK.g0 R (dK.e34 R)
theorem dK.calls {R a b c d e f g h i j l w} (k:dK R a b c d e f g h i j l w):CA 99 #[EX a b c d e f g h i j,.int .i64 l] w R:=cal (n:=dK.an) func99 rfl k (by kernel_rfl)
open Go.Proofs.Tryz (f100 func100)
namespace dQ
def an:An:=(aR (aL (.mk (some [0,1,3]) .nil .nil)))
def qf (R:VP):QT:=fin prog f100 R
def C:=cdN prog f100 an
abbrev T3:=Nat→Addr→OA→Nat→Nat→World→Prop
def g0 (R:VP) (e3:T3) (a:Nat) (b:Addr) (c:World):Prop :=
 nw (c.alloc (.cells (Ej 0 0) 166)) fun d =>
 e3 a b (some (na c)) 1 1 d
def g3 (R:VP) (b3:T3) (a:Nat) (b:Addr) (c:OA) (d e:Nat) (f:World):Prop :=
 af (decide ((d:Int)>0))
 (nv (IntKind.i64.wrap ((d:Int) - 1)) fun g =>
 ix c d g fun h =>
 Tv f (h.add (g.toNat*2)) fun g h =>
 nw (f.alloc (.cells (Ej 0 0) 166)) fun i =>
 Tn i (na f) g h fun g =>
 nv (IntKind.i64.wrap ((d:Int) - 1)) fun d =>
 chk ((0:Int)≤d∧d≤(e:Int))
 (cI g ((na f).add 0) .i64 fun h =>
 cI g ((na f).add 1) .i64 fun i =>
 tZ prog a #[.int .i64 h,.int .i64 i] g fun g h =>
 ∃ i,g = .bool i ∧
 (af (!i)
 (R (.tuple #[]) h)
 (cL h (b.add 1) fun g i j =>
 cI h ((na f).add 0) .i64 fun j =>
 ix g i j fun g =>
 lU h (g.add (j.toNat*8)) fun g i j k l m n o p q =>
 nw (h.alloc (.cells (pO 0 0 0 0 none 0 0 0 0 0) 56)) fun r =>
 vS r (na h) g i j k l m n o p q fun g =>
 lU g (na h) fun i j k l m n o p q r =>
 CA 86 #[EX i j k l m n o p q r] g fun g i =>
 ∃ j,g = .bool j ∧
 (af j
 (cI i ((na h).add 7) .i64 fun g =>
 cI i ((na f).add 1) .i64 fun j =>
 inc j fun j =>
 cI i ((na h).add 6) .i64 fun h =>
 cI i ((na f).add 1) .i64 fun k =>
 inc k fun k =>
 nw (i.alloc (.cells (RZ g j h k) 166)) fun g =>
 dm prog (Builtin.append_ #[167,167] 167 #[.slice (slA c e 0 2) d.toNat e,.slice (some (na i)) 2 2]) g fun g h =>
 ∃ j k l,g = .slice j k l ∧
 (b3 a b j k l h))
 (b3 a b (slA c e 0 2) d.toNat e i))))))
 (R (.tuple #[]) f)
def q3 (R:VP):QT:=(Exit.inBlock 0 (qf R))
@[irreducible] def l3 (R:VP) (k:Nat):T3:=fun a b c d e w=>aZ [0,1,3] (C [1,0,0]) (q3 R) k (fr ((.func (.yield a) #[] #[]::(.pointer (some b)::U 1 (.slice c d e::U 48 []))))) w
def e3 (R:VP):T3:=fun a b c d e w=>∃ k,l3 R k a b c d e w
theorem u3 (R k a b c d e w):l3 R (k+1) a b c d e w=g3 R (l3 R k) a b c d e w:=ju (by kernel_rfl)
end dQ
def dQ (R:VP):=dQ.g0 R (dQ.e3 R)
theorem dQ.calls {R a b w} (k:dQ R a b w):CA 100 #[.func (.yield a) #[] #[],.pointer (some b)] w R:=cal (n:=dQ.an) func100 rfl k (by kernel_rfl)
open Go.Proofs.Tryz (f101 func101)
namespace eY
def an:An:=(aR (aR (.mk none (aL (.mk (some [0,1,2,6,7,8]) .nil .nil)) (aR (aL (.mk (some [0,1,2,6]) (aR (aL (aR (aL (aL (.mk (some [0,1,2,6,7,8]) .nil .nil)))))) .nil))))))
def qf (R:VP):QT:=fin prog f101 R
def C:=cdN prog f101 an
abbrev T6:=OA→Nat→Nat→Int→Addr→Int→Int→Int→World→Prop
abbrev T22:=OA→Nat→Nat→Int→Addr→Int→World→Prop
abbrev T34:=OA→Nat→Nat→Int→Addr→Int→Int→Int→World→Prop
def g0 (R:VP) (e6:T6) (a:OA) (b c:Nat) (d:Int) (e:Addr) (f:World):Prop :=
 e6 a b c d e 20 0 20 f
def g6 (R:VP) (b6:T6) (e22:T22) (a:OA) (b c:Nat) (d:Int) (e:Addr) (f g h:Int) (i:World):Prop :=
 af (decide (h≤d))
 (CA 109 #[.slice a b c,.int .i64 g,.int .i64 h,.func (.func 90) #[] #[.pointer (some e)]] i fun j k =>
 j = .tuple #[] ∧
 (nv (IntKind.i64.wrap (h+f)) fun j =>
 b6 a b c d e f h j k))
 (CA 109 #[.slice a b c,.int .i64 g,.int .i64 d,.func (.func 90) #[] #[.pointer (some e)]] i fun g h =>
 g = .tuple #[] ∧
 (e22 a b c d e f h))
def g22 (R:VP) (e34:T34) (a:OA) (b c:Nat) (d:Int) (e:Addr) (f:Int) (g:World):Prop :=
 af (decide (f<d))
 (nv (IntKind.i64.wrap (2*f)) fun h =>
 e34 a b c d e f 0 h g)
 (R (.tuple #[]) g)
def g34 (R:VP) (b22:T22) (b34:T34) (a:OA) (b c:Nat) (d:Int) (e:Addr) (f g h:Int) (i:World):Prop :=
 af (decide (h≤d))
 (nv (IntKind.i64.wrap (g+f)) fun j =>
 CA 110 #[.slice a b c,.int .i64 g,.int .i64 j,.int .i64 h,.func (.func 90) #[] #[.pointer (some e)]] i fun j k =>
 j = .tuple #[] ∧
 (nv (IntKind.i64.wrap (2*f)) fun j =>
 nv (IntKind.i64.wrap (h+j)) fun j =>
 b34 a b c d e f h j k))
 (nv (IntKind.i64.wrap (g+f)) fun h =>
 af (decide (h<d))
 (CA 110 #[.slice a b c,.int .i64 g,.int .i64 h,.int .i64 d,.func (.func 90) #[] #[.pointer (some e)]] i fun g h =>
 g = .tuple #[] ∧
 (nv (IntKind.i64.wrap (f*2)) fun g =>
 b22 a b c d e g h))
 (nv (IntKind.i64.wrap (f*2)) fun f =>
 b22 a b c d e f i))
def q6 (R:VP):QT:=(Exit.inBlock 0 (qS none (C [1,1,1]) (qf R)))
@[irreducible] def l6 (R:VP) (k:Nat):T6:=fun a b c d e f g h w=>aZ [0,1,2,6,7,8] (C [1,1,0,0,0]) (q6 R) k (fr ((.slice a b c::(.int .i64 d::(.func (.func 90) #[] #[.pointer (some e)]::U 3 (.int .i64 f::(.int .i64 g::(.int .i64 h::U 54 [])))))))) w
def e6 (R:VP):T6:=fun a b c d e f g h w=>∃ k,l6 R k a b c d e f g h w
def q22 (R:VP):QT:=(Exit.inBlock 2 (qf R))
@[irreducible] def l22 (R:VP) (k:Nat):T22:=fun a b c d e f w=>aZ [0,1,2,6] (C [1,1,1,1,0,0]) (q22 R) k (fr ((.slice a b c::(.int .i64 d::(.func (.func 90) #[] #[.pointer (some e)]::U 3 (.int .i64 f::U 56 [])))))) w
def e22 (R:VP):T22:=fun a b c d e f w=>∃ k,l22 R k a b c d e f w
def q34 (R:VP) (k22:Nat):QT:=(Exit.inBlock 4 (qS none (C [1,1,1,1,0,0,1,0,1,1]) (Exit.inBlock 3 (qL [0,1,2,6] (C [1,1,1,1,0,0]) (q22 R) k22))))
def xJ (R:VP) (k22:Nat) (k:Nat):T34:=fun a b c d e f g h w=>aZ [0,1,2,6,7,8] (C [1,1,1,1,0,0,1,0,1,0,0,0]) (q34 R k22) k (fr ((.slice a b c::(.int .i64 d::(.func (.func 90) #[] #[.pointer (some e)]::U 3 (.int .i64 f::(.int .i64 g::(.int .i64 h::U 54 [])))))))) w
def IE (R:VP) (k22:Nat):T34:=fun a b c d e f g h w=>∃ k,xJ R k22 k a b c d e f g h w
def l34 (R:VP) (b22:T22):Nat→T34
 | 0=>fun _ _ _ _ _ _ _ _ _=>False
 | k+1=>g34 R b22 (l34 R b22 k)
def e34 (R:VP) (b22:T22):T34:=fun a b c d e f g h w=>∃ k,l34 R b22 k a b c d e f g h w
theorem s34 (R:VP) (k22:Nat) (k:Nat):xJ R k22 (k+1)=fun a b c d e f g h w=>∀ _:Nat→Value,g34 R (l22 R k22) (xJ R k22 k) a b c d e f g h w:=by kernel_rfl
theorem IL (R:VP) (k22:Nat) (b22:T22) (hb22:b22=l22 R k22):∀ k,l34 R b22 k=xJ R k22 k
 | 0=>by kernel_rfl
 | k+1=>by
  rw [s34]
  simp only [forall_const]
  unfold l34
  have ih:=IL R k22 b22 hb22 k
  subst hb22
  rw [ih]
  all_goals rfl
theorem QQ (R:VP) (k22:Nat) (b22:T22) (hb22:b22=l22 R k22):e34 R b22=IE R k22:=by
 unfold e34 IE
 simp only [IL R k22 b22 hb22]
theorem u22 (R k a b c d e f w):l22 R (k+1) a b c d e f w=g22 R (e34 R (l22 R k)) a b c d e f w:=by rw [QQ R k _ rfl]; exact ju (by kernel_rfl)
theorem u6 (R k a b c d e f g h w):l6 R (k+1) a b c d e f g h w=g6 R (l6 R k) (e22 R) a b c d e f g h w:=ju (by kernel_rfl)
end eY
def eY (R:VP):=eY.g0 R (eY.e6 R)
theorem eY.calls {R a b c d e w} (k:eY R a b c d e w):CA 101 #[.slice a b c,.int .i64 d,.func (.func 90) #[] #[.pointer (some e)]] w R:=cal (n:=eY.an) func101 rfl k (by kernel_rfl)
end Go.Mir
set_option linter.unusedVariables false
set_option maxRecDepth 100000
namespace Go.Mir
open Go Go.E Go.RowKit
open Go.Proofs.Tryz (prog)
open Go.Proofs.Tryz (f102 func102)
namespace fG
def an:An:=An.nil
def g0 (R:VP) (a:Int) (b:World):Prop :=
 R (.bool (a != a)) b
end fG
def fG (R:VP):=fG.g0 R
theorem fG.calls {R a w} (k:fG R a w):CA 102 #[.int .u64 a] w R:=cal (n:=fG.an) func102 rfl k (by kernel_rfl)
open Go.Proofs.Tryz (f103 func103)
namespace dX
def an:An:=(aR (aR (.mk none (aL (.mk (some [0,1,2,6,7,8]) .nil .nil)) (aR (aL (.mk (some [0,1,2,6]) (aR (aL (aR (aL (aL (.mk (some [0,1,2,6,7,8]) .nil .nil)))))) .nil))))))
def qf (R:VP):QT:=fin prog f103 R
def C:=cdN prog f103 an
abbrev T6:=OA→Nat→Nat→Int→Addr→Int→Int→Int→World→Prop
abbrev T22:=OA→Nat→Nat→Int→Addr→Int→World→Prop
abbrev T34:=OA→Nat→Nat→Int→Addr→Int→Int→Int→World→Prop
def g0 (R:VP) (e6:T6) (a:OA) (b c:Nat) (d:Int) (e:Addr) (f:World):Prop :=
 e6 a b c d e 20 0 20 f
def g6 (R:VP) (b6:T6) (e22:T22) (a:OA) (b c:Nat) (d:Int) (e:Addr) (f g h:Int) (i:World):Prop :=
 af (decide (h≤d))
 (CA 111 #[.slice a b c,.int .i64 g,.int .i64 h,.func (.func 93) #[] #[.pointer (some e)]] i fun j k =>
 j = .tuple #[] ∧
 (nv (IntKind.i64.wrap (h+f)) fun j =>
 b6 a b c d e f h j k))
 (CA 111 #[.slice a b c,.int .i64 g,.int .i64 d,.func (.func 93) #[] #[.pointer (some e)]] i fun g h =>
 g = .tuple #[] ∧
 (e22 a b c d e f h))
def g22 (R:VP) (e34:T34) (a:OA) (b c:Nat) (d:Int) (e:Addr) (f:Int) (g:World):Prop :=
 af (decide (f<d))
 (nv (IntKind.i64.wrap (2*f)) fun h =>
 e34 a b c d e f 0 h g)
 (R (.tuple #[]) g)
def g34 (R:VP) (b22:T22) (b34:T34) (a:OA) (b c:Nat) (d:Int) (e:Addr) (f g h:Int) (i:World):Prop :=
 af (decide (h≤d))
 (nv (IntKind.i64.wrap (g+f)) fun j =>
 CA 112 #[.slice a b c,.int .i64 g,.int .i64 j,.int .i64 h,.func (.func 93) #[] #[.pointer (some e)]] i fun j k =>
 j = .tuple #[] ∧
 (nv (IntKind.i64.wrap (2*f)) fun j =>
 nv (IntKind.i64.wrap (h+j)) fun j =>
 b34 a b c d e f h j k))
 (nv (IntKind.i64.wrap (g+f)) fun h =>
 af (decide (h<d))
 (CA 112 #[.slice a b c,.int .i64 g,.int .i64 h,.int .i64 d,.func (.func 93) #[] #[.pointer (some e)]] i fun g h =>
 g = .tuple #[] ∧
 (nv (IntKind.i64.wrap (f*2)) fun g =>
 b22 a b c d e g h))
 (nv (IntKind.i64.wrap (f*2)) fun f =>
 b22 a b c d e f i))
def q6 (R:VP):QT:=(Exit.inBlock 0 (qS none (C [1,1,1]) (qf R)))
@[irreducible] def l6 (R:VP) (k:Nat):T6:=fun a b c d e f g h w=>aZ [0,1,2,6,7,8] (C [1,1,0,0,0]) (q6 R) k (fr ((.slice a b c::(.int .i64 d::(.func (.func 93) #[] #[.pointer (some e)]::U 3 (.int .i64 f::(.int .i64 g::(.int .i64 h::U 54 [])))))))) w
def e6 (R:VP):T6:=fun a b c d e f g h w=>∃ k,l6 R k a b c d e f g h w
def q22 (R:VP):QT:=(Exit.inBlock 2 (qf R))
@[irreducible] def l22 (R:VP) (k:Nat):T22:=fun a b c d e f w=>aZ [0,1,2,6] (C [1,1,1,1,0,0]) (q22 R) k (fr ((.slice a b c::(.int .i64 d::(.func (.func 93) #[] #[.pointer (some e)]::U 3 (.int .i64 f::U 56 [])))))) w
def e22 (R:VP):T22:=fun a b c d e f w=>∃ k,l22 R k a b c d e f w
def q34 (R:VP) (k22:Nat):QT:=(Exit.inBlock 4 (qS none (C [1,1,1,1,0,0,1,0,1,1]) (Exit.inBlock 3 (qL [0,1,2,6] (C [1,1,1,1,0,0]) (q22 R) k22))))
def xJ (R:VP) (k22:Nat) (k:Nat):T34:=fun a b c d e f g h w=>aZ [0,1,2,6,7,8] (C [1,1,1,1,0,0,1,0,1,0,0,0]) (q34 R k22) k (fr ((.slice a b c::(.int .i64 d::(.func (.func 93) #[] #[.pointer (some e)]::U 3 (.int .i64 f::(.int .i64 g::(.int .i64 h::U 54 [])))))))) w
def IE (R:VP) (k22:Nat):T34:=fun a b c d e f g h w=>∃ k,xJ R k22 k a b c d e f g h w
def l34 (R:VP) (b22:T22):Nat→T34
 | 0=>fun _ _ _ _ _ _ _ _ _=>False
 | k+1=>g34 R b22 (l34 R b22 k)
def e34 (R:VP) (b22:T22):T34:=fun a b c d e f g h w=>∃ k,l34 R b22 k a b c d e f g h w
theorem s34 (R:VP) (k22:Nat) (k:Nat):xJ R k22 (k+1)=fun a b c d e f g h w=>∀ _:Nat→Value,g34 R (l22 R k22) (xJ R k22 k) a b c d e f g h w:=by kernel_rfl
theorem IL (R:VP) (k22:Nat) (b22:T22) (hb22:b22=l22 R k22):∀ k,l34 R b22 k=xJ R k22 k
 | 0=>by kernel_rfl
 | k+1=>by
  rw [s34]
  simp only [forall_const]
  unfold l34
  have ih:=IL R k22 b22 hb22 k
  subst hb22
  rw [ih]
  all_goals rfl
theorem QQ (R:VP) (k22:Nat) (b22:T22) (hb22:b22=l22 R k22):e34 R b22=IE R k22:=by
 unfold e34 IE
 simp only [IL R k22 b22 hb22]
theorem u22 (R k a b c d e f w):l22 R (k+1) a b c d e f w=g22 R (e34 R (l22 R k)) a b c d e f w:=by rw [QQ R k _ rfl]; exact ju (by kernel_rfl)
theorem u6 (R k a b c d e f g h w):l6 R (k+1) a b c d e f g h w=g6 R (l6 R k) (e22 R) a b c d e f g h w:=ju (by kernel_rfl)
end dX
def dX (R:VP):=dX.g0 R (dX.e6 R)
theorem dX.calls {R a b c d e w} (k:dX R a b c d e w):CA 103 #[.slice a b c,.int .i64 d,.func (.func 93) #[] #[.pointer (some e)]] w R:=cal (n:=dX.an) func103 rfl k (by kernel_rfl)
open Go.Proofs.Tryz (f104 func104)
namespace cmp_isNaN_int
def an:An:=An.nil
def g0 (R:VP) (a:Int) (b:World):Prop :=
 R (.bool (a != a)) b
end cmp_isNaN_int
def cmp_isNaN_int (R:VP):=cmp_isNaN_int.g0 R
theorem cmp_isNaN_int.calls {R a w} (k:cmp_isNaN_int R a w):CA 104 #[.int .i64 a] w R:=cal (n:=cmp_isNaN_int.an) func104 rfl k (by kernel_rfl)
open Go.Proofs.Tryz (f105 func105)
namespace dG
def an:An:=An.nil
def g0 (R:VP) (a b c:Int) (d:Nat) (e:OA) (f g:Nat) (h i j k:Int) (l:World):Prop :=
 nw (l.alloc (.cells (pO a b c d e f g h i j) 56)) fun a =>
 cI a ((na l).add 0) .u8 fun b =>
 af (b==1)
 (cI a ((na l).add 2) .i64 fun c =>
 af (c==0)
 (cF a ((na l).add 3) .f64 fun c =>
 ∃ d,pV prog (callFunc 56 #[.float .f64 c]) a (.int .u64 d) ∧
 (af (d==0)
 (cL a ((na l).add 4) fun c c d =>
 af ((c:Int)==0)
 (cI a ((na l).add 5) .u8 fun c =>
 af (c==0)
 (cI a ((na l).add 6) .i64 fun c =>
 af (c==0)
 (cI a ((na l).add 7) .i64 fun c =>
 R (.bool (c==0)) a)
 (R (.bool false) a))
 (R (.bool false) a))
 (R (.bool false) a))
 (R (.bool false) a)))
 (R (.bool false) a))
 (af (b==2)
 (cF a ((na l).add 3) .f64 fun c =>
 CA 113 #[.float .f64 c] a fun c d =>
 ∃ e,c = .bool e ∧
 (af e
 (R (.bool false) d)
 (cL d ((na l).add 4) fun c c e =>
 af (decide ((c:Int)>0))
 (R (.bool false) d)
 (cI d ((na l).add 1) .i64 fun c =>
 af (c==0)
 (cI d ((na l).add 2) .i64 fun c =>
 af (decide (c≥0))
 (cI d ((na l).add 2) .i64 fun c =>
 af (decide (c<65536))
 (cI d ((na l).add 5) .u8 fun c =>
 af (c==1)
 (cI d ((na l).add 6) .i64 fun c =>
 af (decide (c≥1))
 (cI d ((na l).add 6) .i64 fun c =>
 af (decide (c<k))
 (cI d ((na l).add 7) .i64 fun c =>
 af (decide (c≥1))
 (cI d ((na l).add 7) .i64 fun c =>
 R (.bool (decide (c<k))) d)
 (R (.bool false) d))
 (R (.bool false) d))
 (R (.bool false) d))
 (cI d ((na l).add 5) .u8 fun c =>
 af (c==2)
 (cI d ((na l).add 6) .i64 fun c =>
 af (decide (c≥1))
 (cI d ((na l).add 6) .i64 fun c =>
 af (decide (c<k))
 (cI d ((na l).add 7) .i64 fun c =>
 af (decide (c≥1))
 (cI d ((na l).add 7) .i64 fun c =>
 R (.bool (decide (c<k))) d)
 (R (.bool false) d))
 (R (.bool false) d))
 (R (.bool false) d))
 (R (.bool false) d)))
 (R (.bool false) d))
 (R (.bool false) d))
 (R (.bool false) d)))))
 (af (b==3)
 (cF a ((na l).add 3) .f64 fun b =>
 ∃ c,pV prog (callFunc 56 #[.float .f64 b]) a (.int .u64 c) ∧
 (af (c != 0)
 (R (.bool false) a)
 (cL a ((na l).add 4) fun b c d =>
 CA 114 #[.slice b c d] a fun b c =>
 ∃ d,b = .bool d ∧
 (af (!d)
 (R (.bool false) c)
 (cI c ((na l).add 1) .i64 fun b =>
 af (b==0)
 (cI c ((na l).add 2) .i64 fun b =>
 af (decide (b≥0))
 (cI c ((na l).add 2) .i64 fun b =>
 af (decide (b<65536))
 (cI c ((na l).add 5) .u8 fun b =>
 af (b==1)
 (cI c ((na l).add 6) .i64 fun b =>
 af (decide (b≥1))
 (cI c ((na l).add 6) .i64 fun b =>
 af (decide (b<k))
 (cI c ((na l).add 7) .i64 fun b =>
 af (decide (b≥1))
 (cI c ((na l).add 7) .i64 fun b =>
 R (.bool (decide (b<k))) c)
 (R (.bool false) c))
 (R (.bool false) c))
 (R (.bool false) c))
 (cI c ((na l).add 5) .u8 fun b =>
 af (b==2)
 (cI c ((na l).add 6) .i64 fun b =>
 af (decide (b≥1))
 (cI c ((na l).add 6) .i64 fun b =>
 af (decide (b<k))
 (cI c ((na l).add 7) .i64 fun b =>
 af (decide (b≥1))
 (cI c ((na l).add 7) .i64 fun b =>
 R (.bool (decide (b<k))) c)
 (R (.bool false) c))
 (R (.bool false) c))
 (R (.bool false) c))
 (R (.bool false) c)))
 (R (.bool false) c))
 (R (.bool false) c))
 (R (.bool false) c))))))
 (R (.bool false) a)))
end dG
def dG (R:VP):=dG.g0 R
theorem dG.calls {R a b c d e f g h i j l w} (k:dG R a b c d e f g h i j l w):CA 105 #[EX a b c d e f g h i j,.int .i64 l] w R:=cal (n:=dG.an) func105 rfl k (by kernel_rfl)
open Go.Proofs.Tryz (f106 func106)
namespace aU
def an:An:=(aR (aR (aR (aL (aL (.mk (some [2,5,6]) .nil .nil))))))
def qf (R:VP):QT:=fin prog f106 R
def C:=cdN prog f106 an
abbrev T8:=OA→Int→OA→Nat→Nat→World→Prop
def g0 (R:VP) (e8:T8) (a:Int) (b:OA) (c d:Nat) (e:Int) (f:World):Prop :=
 nw (f.alloc (.cells (lg a b c d) 50)) fun a =>
 nw (a.alloc (.cells #[.int .i64 e] 3)) fun b =>
 e8 (some (na f)) 0 (some (na a)) 1 1 b
def g8 (R:VP) (b8:T8) (a:OA) (b:Int) (c:OA) (d e:Nat) (f:World):Prop :=
 af (decide ((d:Int)>0))
 (∃ g:Nat→Value→World→Prop,KpF g ∧
 (bK a fun h =>
 cL f (h.add 1) fun h i j =>
 nv (IntKind.i64.wrap ((d:Int) - 1)) fun j =>
 ix c d j fun k =>
 cI f (k.add (j.toNat*1)) .i64 fun j =>
 ix h i j fun h =>
 lU f (h.add (j.toNat*8)) fun h i j k l m n o p q =>
 (∀ r:World,Below f.heap.size f r→g 10 (.pointer (some (na r))) (r.alloc (.cells (pO 0 0 0 0 none 0 0 0 0 0) 56))) ∧
 (∀ r:Addr,(∃ s,Below f.heap.size f s∧g 10 (.pointer (some r)) s) →
 ∀ s:World,Below f.heap.size f s→g 10 (.pointer (some r)) s →
 vS s r h i j k l m n o p q fun g =>
 nv (IntKind.i64.wrap ((d:Int) - 1)) fun d =>
 chk ((0:Int)≤d∧d≤(e:Int))
 (cI g (r.add 0) .u8 fun h =>
 af (h==1)
 (inc b fun h =>
 b8 a h (slA c e 0 1) d.toNat e g)
 (cI g (r.add 6) .i64 fun h =>
 cI g (r.add 7) .i64 fun i =>
 nw (g.alloc (.cells (Ej h i) 3)) fun h =>
 dm prog (Builtin.append_ #[53,53] 53 #[.slice (slA c e 0 1) d.toNat e,.slice (some (na g)) 2 2]) h fun c d =>
 ∃ e g h,c = .slice e g h ∧
 (b8 a b e g h d))))))
 (R (.int .i64 b) f)
def q8 (R:VP):QT:=(Exit.inBlock 0 (qS none (C [1,1,1,1]) (qf R)))
@[irreducible] def l8 (R:VP) (k:Nat):T8:=fun a b c d e w=>aZ [2,5,6] (C [1,1,1,0,0,0]) (q8 R) k (fr (U 2 (.pointer a::U 2 (.int .i64 b::(.slice c d e::U 34 []))))) w
def e8 (R:VP):T8:=fun a b c d e w=>∃ k,l8 R k a b c d e w
theorem u8 (R k a b c d e w):l8 R (k+1) a b c d e w=g8 R (l8 R k) a b c d e w:=ju (by kernel_rfl)
end aU
def aU (R:VP):=aU.g0 R (aU.e8 R)
theorem aU.calls {R a b c d e w} (k:aU R a b c d e w):CA 106 #[jv a b c d,.int .i64 e] w R:=cal (n:=aU.an) func106 rfl k (by kernel_rfl)
open Go.Proofs.Tryz (f107 func107)
namespace iE
def an:An:=(aR (aL (.mk (some [0,1,2,3,8]) (aR (aL (aL (aR (aL (.mk (some [0,1,2,3,8,9]) .nil .nil)))))) .nil)))
def qf (R:VP):QT:=fin prog f107 R
def C:=cdN prog f107 an
abbrev T3:=OA→Nat→Nat→Int→Int→Int→World→Prop
abbrev T15:=OA→Nat→Nat→Int→Int→Int→Int→World→Prop
def g0 (R:VP) (e3:T3) (a:OA) (b c:Nat) (d e:Int) (f:World):Prop :=
 inc d fun g =>
 e3 a b c d e g f
def g3 (R:VP) (e15:T15) (a:OA) (b c:Nat) (d e f:Int) (g:World):Prop :=
 af (decide (f<e))
 (e15 a b c d e f f g)
 (R (.tuple #[]) g)
def g15 (R:VP) (b3:T3) (b15:T15) (a:OA) (b c:Nat) (d e f g:Int) (h:World):Prop :=
 af (decide (g>d))
 (ix a b g fun i =>
 lC h (i.add (g.toNat*10)) fun i j k l m n o p q r s t =>
 nv (IntKind.i64.wrap (g - 1)) fun u =>
 ix a b u fun v =>
 lC h (v.add (u.toNat*10)) fun u v w x y z A B C D E F =>
 CA 80 #[wG i j k l m n o p q r s t,wG u v w x y z A B C D E F] h fun i j =>
 ∃ k,i = .int .i64 k ∧
 (af (decide (k<0))
 (∃ i:World,CK i j ∧
 (nv (IntKind.i64.wrap (g - 1)) fun k =>
 nv (IntKind.i64.wrap (g - 1)) fun l =>
 ix a b l fun m =>
 lC j (m.add (l.toNat*10)) fun l m n o p q r s t u v w =>
 ix a b g fun x =>
 lC j (x.add (g.toNat*10)) fun x y z A B C D E F G H I =>
 ix a b g fun J =>
 xI j (J.add (g.toNat*10)) l m n o p q r s t u v w fun l =>
 CK i l ∧
 (ix a b k fun i =>
 xI l (i.add (k.toNat*10)) x y z A B C D E F G H I fun i =>
 nv (IntKind.i64.wrap (g - 1)) fun g =>
 b15 a b c d e f g i)))
 (inc f fun g =>
 b3 a b c d e g j)))
 (inc f fun f =>
 b3 a b c d e f h)
def q3 (R:VP):QT:=(Exit.inBlock 0 (qf R))
@[irreducible] def l3 (R:VP) (k:Nat):T3:=fun a b c d e f w=>aZ [0,1,2,3,8] (C [1,0,0]) (q3 R) k (fr ((.slice a b c::(.int .i64 d::(.int .i64 e::(.func (.func 80) #[] #[]::U 4 (.int .i64 f::U 44 []))))))) w
def e3 (R:VP):T3:=fun a b c d e f w=>∃ k,l3 R k a b c d e f w
def q15 (R:VP) (k3:Nat):QT:=(Exit.inBlock 2 (Exit.inBlock 1 (qS none (C [1,0,0,1,1]) (qL [0,1,2,3,8] (C [1,0,0]) (q3 R) k3))))
def EI (R:VP) (k3:Nat) (k:Nat):T15:=fun a b c d e f g w=>aZ [0,1,2,3,8,9] (C [1,0,0,1,0,0,1,0,0]) (q15 R k3) k (fr ((.slice a b c::(.int .i64 d::(.int .i64 e::(.func (.func 80) #[] #[]::U 4 (.int .i64 f::(.int .i64 g::U 43 [])))))))) w
def OT (R:VP) (k3:Nat):T15:=fun a b c d e f g w=>∃ k,EI R k3 k a b c d e f g w
def l15 (R:VP) (b3:T3):Nat→T15
 | 0=>fun _ _ _ _ _ _ _ _=>False
 | k+1=>g15 R b3 (l15 R b3 k)
def e15 (R:VP) (b3:T3):T15:=fun a b c d e f g w=>∃ k,l15 R b3 k a b c d e f g w
theorem s15 (R:VP) (k3:Nat) (k:Nat):EI R k3 (k+1)=fun a b c d e f g w=>∀ _:Nat→Value,g15 R (l3 R k3) (EI R k3 k) a b c d e f g w:=by kernel_rfl
theorem OX (R:VP) (k3:Nat) (b3:T3) (hb3:b3=l3 R k3):∀ k,l15 R b3 k=EI R k3 k
 | 0=>by kernel_rfl
 | k+1=>by
  rw [s15]
  simp only [forall_const]
  unfold l15
  have ih:=OX R k3 b3 hb3 k
  subst hb3
  rw [ih]
  all_goals rfl
theorem TL (R:VP) (k3:Nat) (b3:T3) (hb3:b3=l3 R k3):e15 R b3=OT R k3:=by
 unfold e15 OT
 simp only [OX R k3 b3 hb3]
theorem u3 (R k a b c d e f w):l3 R (k+1) a b c d e f w=g3 R (e15 R (l3 R k)) a b c d e f w:=by rw [TL R k _ rfl]; exact ju (by kernel_rfl)
end iE
def iE (R:VP):=iE.g0 R (iE.e3 R)
theorem iE.calls {R a b c d e w} (k:iE R a b c d e w):CA 107 #[.slice a b c,.int .i64 d,.int .i64 e,.func (.func 80) #[] #[]] w R:=cal (n:=iE.an) func107 rfl k (by kernel_rfl)
open Go.Proofs.Tryz (f108 func108)
namespace dI
def an:An:=(.mk none (aR (aL (aR (aR (.mk none (aL (.mk (some [0,1,4,10,11]) .nil .nil)) (aL (aR (aL (.mk (some [0,10,13]) .nil .nil))))))))) (.mk none (aR (aL (aR (aR (.mk none (aL (.mk (some [0,2,4,14,15]) .nil .nil)) (aL (aR (aL (.mk (some [0,14,17]) .nil .nil))))))))) (aR (aR (aR (.mk (some [0,1,2,3,4,18,19,20,21]) .nil (aR (.mk none (aL (.mk (some [0,1,2,3,4,18,19,20,21,22]) .nil .nil)) (aR (.mk (some [0,1,3,4,18,20,24]) .nil (.mk (some [0,3,4,18,24]) .nil .nil)))))))))))
def qf (R:VP):QT:=fin prog f108 R
def C:=cdN prog f108 an
abbrev T10:=OA→Nat→Nat→Int→Int→Int→World→Prop
abbrev T29:=OA→Nat→Nat→Int→Int→World→Prop
abbrev T52:=OA→Nat→Nat→Int→Int→Int→World→Prop
abbrev T71:=OA→Nat→Nat→Int→Int→World→Prop
abbrev L6:=OA→Nat→Nat→Int→Int→Int→Int→Int→Int→Int→World→Prop
abbrev EN:=OA→Nat→Nat→Int→Int→Int→Int→Int→Int→Int→Int→World→Prop
abbrev JY:=OA→Nat→Nat→Int→Int→Int→Int→Int→World→Prop
abbrev JC:=OA→Nat→Nat→Int→Int→Int→World→Prop
def g0 (R:VP) (e10:T10) (e52:T52) (j100:L6) (a:OA) (b c:Nat) (d e f:Int) (g:World):Prop :=
 nv (IntKind.i64.wrap (e - d)) fun h =>
 af (h==1)
 (e10 a b c d e f g)
 (nv (IntKind.i64.wrap (f - e)) fun h =>
 af (h==1)
 (e52 a b c e d e g)
 (nv (IntKind.i64.wrap (d+f)) fun h =>
 nv (IntKind.u64.wrap h) fun h =>
 nv (Int.fdiv h (2 ^ 1)) fun h =>
 nv (IntKind.i64.wrap h) fun h =>
 nv (IntKind.i64.wrap (h+e)) fun i =>
 af (decide (e>h))
 (nv (IntKind.i64.wrap (i - f)) fun j =>
 j100 a b c d e f h i j h g)
 (j100 a b c d e f h i d e g)))
def g10 (R:VP) (b10:T10) (e29:T29) (a:OA) (b c:Nat) (d e f:Int) (g:World):Prop :=
 af (decide (e<f))
 (nv (IntKind.i64.wrap (e+f)) fun h =>
 nv (IntKind.u64.wrap h) fun h =>
 nv (Int.fdiv h (2 ^ 1)) fun h =>
 nv (IntKind.i64.wrap h) fun h =>
 ix a b h fun i =>
 lC g (i.add (h.toNat*10)) fun i j k l m n o p q r s t =>
 ix a b d fun u =>
 lC g (u.add (d.toNat*10)) fun u v w x y z A B C D E F =>
 CA 80 #[wG i j k l m n o p q r s t,wG u v w x y z A B C D E F] g fun i j =>
 ∃ k,i = .int .i64 k ∧
 (af (decide (k<0))
 (inc h fun i =>
 b10 a b c d i f j)
 (b10 a b c d e h j)))
 (e29 a b c e d g)
def g29 (R:VP) (b29:T29) (a:OA) (b c:Nat) (d e:Int) (f:World):Prop :=
 nv (IntKind.i64.wrap (d - 1)) fun g =>
 af (decide (e<g))
 (∃ g:World,CK g f ∧
 (inc e fun h =>
 inc e fun i =>
 ix a b i fun j =>
 lC f (j.add (i.toNat*10)) fun i j k l m n o p q r s t =>
 ix a b e fun u =>
 lC f (u.add (e.toNat*10)) fun u v w x y z A B C D E F =>
 ix a b e fun G =>
 xI f (G.add (e.toNat*10)) i j k l m n o p q r s t fun i =>
 CK g i ∧
 (ix a b h fun g =>
 xI i (g.add (h.toNat*10)) u v w x y z A B C D E F fun g =>
 inc e fun e =>
 b29 a b c d e g)))
 (R (.tuple #[]) f)
def g52 (R:VP) (b52:T52) (e71:T71) (a:OA) (b c:Nat) (d e f:Int) (g:World):Prop :=
 af (decide (e<f))
 (nv (IntKind.i64.wrap (e+f)) fun h =>
 nv (IntKind.u64.wrap h) fun h =>
 nv (Int.fdiv h (2 ^ 1)) fun h =>
 nv (IntKind.i64.wrap h) fun h =>
 ix a b d fun i =>
 lC g (i.add (d.toNat*10)) fun i j k l m n o p q r s t =>
 ix a b h fun u =>
 lC g (u.add (h.toNat*10)) fun u v w x y z A B C D E F =>
 CA 80 #[wG i j k l m n o p q r s t,wG u v w x y z A B C D E F] g fun i j =>
 ∃ k,i = .int .i64 k ∧
 (af (!(decide (k<0)))
 (inc h fun i =>
 b52 a b c d i f j)
 (b52 a b c d e h j)))
 (e71 a b c e d g)
def g71 (R:VP) (b71:T71) (a:OA) (b c:Nat) (d e:Int) (f:World):Prop :=
 af (decide (e>d))
 (∃ g:World,CK g f ∧
 (nv (IntKind.i64.wrap (e - 1)) fun h =>
 nv (IntKind.i64.wrap (e - 1)) fun i =>
 ix a b i fun j =>
 lC f (j.add (i.toNat*10)) fun i j k l m n o p q r s t =>
 ix a b e fun u =>
 lC f (u.add (e.toNat*10)) fun u v w x y z A B C D E F =>
 ix a b e fun G =>
 xI f (G.add (e.toNat*10)) i j k l m n o p q r s t fun i =>
 CK g i ∧
 (ix a b h fun g =>
 xI i (g.add (h.toNat*10)) u v w x y z A B C D E F fun g =>
 nv (IntKind.i64.wrap (e - 1)) fun e =>
 b71 a b c d e g)))
 (R (.tuple #[]) f)
def OV (R:VP) (Eg:EN) (a:OA) (b c:Nat) (d e f g h i j:Int) (k:World):Prop :=
 nv (IntKind.i64.wrap (h - 1)) fun l =>
 Eg a b c d e f g h i j l k
def TY (R:VP) (b104:EN) (j127:JY) (a:OA) (b c:Nat) (d e f g h i j k:Int) (l:World):Prop :=
 af (decide (i<j))
 (nv (IntKind.i64.wrap (i+j)) fun m =>
 nv (IntKind.u64.wrap m) fun m =>
 nv (Int.fdiv m (2 ^ 1)) fun m =>
 nv (IntKind.i64.wrap m) fun m =>
 nv (IntKind.i64.wrap (k - m)) fun n =>
 ix a b n fun o =>
 lC l (o.add (n.toNat*10)) fun n o p q r s t u v w x y =>
 ix a b m fun z =>
 lC l (z.add (m.toNat*10)) fun z A B C D E F G H I J K =>
 CA 80 #[wG n o p q r s t u v w x y,wG z A B C D E F G H I J K] l fun n o =>
 ∃ p,n = .int .i64 p ∧
 (af (!(decide (p<0)))
 (inc m fun n =>
 b104 a b c d e f g h n j k o)
 (b104 a b c d e f g h i m k o)))
 (nv (IntKind.i64.wrap (h - i)) fun h =>
 af (decide (i<e))
 (af (decide (e<h))
 (CA 115 #[.slice a b c,.int .i64 i,.int .i64 e,.int .i64 h,.func (.func 80) #[] #[]] l fun e j =>
 e = .tuple #[] ∧
 (j127 a b c d f g i h j))
 (j127 a b c d f g i h l))
 (j127 a b c d f g i h l))
def Ov (R:VP) (j133:JC) (a:OA) (b c:Nat) (d e f g h:Int) (i:World):Prop :=
 af (decide (d<g))
 (af (decide (g<f))
 (CA 108 #[.slice a b c,.int .i64 d,.int .i64 g,.int .i64 f,.func (.func 80) #[] #[]] i fun d g =>
 d = .tuple #[] ∧
 (j133 a b c e f h g))
 (j133 a b c e f h i))
 (j133 a b c e f h i)
def Ph (R:VP) (a:OA) (b c:Nat) (d e f:Int) (g:World):Prop :=
 af (decide (e<f))
 (af (decide (f<d))
 (CA 108 #[.slice a b c,.int .i64 e,.int .i64 f,.int .i64 d,.func (.func 80) #[] #[]] g fun a b =>
 a = .tuple #[] ∧
 (R (.tuple #[]) b))
 (R (.tuple #[]) g))
 (R (.tuple #[]) g)
def q10 (R:VP):QT:=(Exit.inBlock 0 (qS none (C [0,1,0,1,1,1]) (qS none (C [1]) (qf R))))
@[irreducible] def l10 (R:VP) (k:Nat):T10:=fun a b c d e f w=>aZ [0,1,4,10,11] (C [0,1,0,1,1,0,0,0]) (q10 R) k (fr ((.slice a b c::(.int .i64 d::U 2 (.func (.func 80) #[] #[]::U 5 (.int .i64 e::(.int .i64 f::U 208 []))))))) w
def e10 (R:VP):T10:=fun a b c d e f w=>∃ k,l10 R k a b c d e f w
def q29 (R:VP):QT:=(Exit.inBlock 2 (qS none (C [0,1,0,1,1,1,1]) (qS none (C [1]) (qf R))))
@[irreducible] def l29 (R:VP) (k:Nat):T29:=fun a b c d e w=>aZ [0,10,13] (C [0,1,0,1,1,1,0,1,0,0]) (q29 R) k (fr ((.slice a b c::U 9 (.int .i64 d::U 2 (.int .i64 e::U 206 []))))) w
def e29 (R:VP):T29:=fun a b c d e w=>∃ k,l29 R k a b c d e w
def q52 (R:VP):QT:=(Exit.inBlock 4 (qS none (C [1,0,1,0,1,1,1]) (qS none (C [1,1]) (qf R))))
@[irreducible] def l52 (R:VP) (k:Nat):T52:=fun a b c d e f w=>aZ [0,2,4,14,15] (C [1,0,1,0,1,1,0,0,0]) (q52 R) k (fr ((.slice a b c::U 1 (.int .i64 d::U 1 (.func (.func 80) #[] #[]::U 9 (.int .i64 e::(.int .i64 f::U 204 []))))))) w
def e52 (R:VP):T52:=fun a b c d e f w=>∃ k,l52 R k a b c d e f w
def q71 (R:VP):QT:=(Exit.inBlock 6 (qS none (C [1,0,1,0,1,1,1,1]) (qS none (C [1,1]) (qf R))))
@[irreducible] def l71 (R:VP) (k:Nat):T71:=fun a b c d e w=>aZ [0,14,17] (C [1,0,1,0,1,1,1,0,1,0,0]) (q71 R) k (fr ((.slice a b c::U 13 (.int .i64 d::U 2 (.int .i64 e::U 202 []))))) w
def e71 (R:VP):T71:=fun a b c d e w=>∃ k,l71 R k a b c d e w
def AY (R:VP):L6:=fun a b c d e f g h i j w=>jS (some [0,1,2,3,4,18,19,20,21]) (C [1,1,1,1,1,1] (qf R)) (fr ((.slice a b c::(.int .i64 d::(.int .i64 e::(.int .i64 f::(.func (.func 80) #[] #[]::U 13 (.int .i64 g::(.int .i64 h::(.int .i64 i::(.int .i64 j::U 198 []))))))))))) w
def OQ (R:VP):QT:=(Exit.inBlock 8 (qS none (C [1,1,1,1,1,1,1,1]) (qf R)))
@[irreducible] def xk (R:VP) (k:Nat):EN:=fun a b c d e f g h i j l w=>aZ [0,1,2,3,4,18,19,20,21,22] (C [1,1,1,1,1,1,1,0,0,0]) (OQ R) k (fr ((.slice a b c::(.int .i64 d::(.int .i64 e::(.int .i64 f::(.func (.func 80) #[] #[]::U 13 (.int .i64 g::(.int .i64 h::(.int .i64 i::(.int .i64 j::(.int .i64 l::U 197 [])))))))))))) w
def Eg (R:VP):EN:=fun a b c d e f g h i j l w=>∃ k,xk R k a b c d e f g h i j l w
def Bo (R:VP):JY:=fun a b c d e f g h w=>jS (some [0,1,3,4,18,20,24]) (C [1,1,1,1,1,1,1,1,1,1] (qf R)) (fr ((.slice a b c::(.int .i64 d::U 1 (.int .i64 e::(.func (.func 80) #[] #[]::U 13 (.int .i64 f::U 1 (.int .i64 g::U 3 (.int .i64 h::U 195 []))))))))) w
def vW (R:VP):JC:=fun a b c d e f w=>jS (some [0,3,4,18,24]) (C [1,1,1,1,1,1,1,1,1,1,1] (qf R)) (fr ((.slice a b c::U 2 (.int .i64 d::(.func (.func 80) #[] #[]::U 13 (.int .i64 e::U 5 (.int .i64 f::U 195 []))))))) w
theorem u29 (R k a b c d e w):l29 R (k+1) a b c d e w=g29 R (l29 R k) a b c d e w:=ju (by kernel_rfl)
theorem u10 (R k a b c d e f w):l10 R (k+1) a b c d e f w=g10 R (l10 R k) (e29 R) a b c d e f w:=ju (by kernel_rfl)
theorem u71 (R k a b c d e w):l71 R (k+1) a b c d e w=g71 R (l71 R k) a b c d e w:=ju (by kernel_rfl)
theorem u52 (R k a b c d e f w):l52 R (k+1) a b c d e f w=g52 R (l52 R k) (e71 R) a b c d e f w:=ju (by kernel_rfl)
def j133 (R:VP):JC:=Ph R
theorem TF (R:VP):vW R=fun a b c d e f w=>∀ _:Nat→Value,Ph R a b c d e f w:=by kernel_rfl
theorem Jo (R:VP):j133 R=vW R:=by
  rw [TF]
  simp only [forall_const]
  unfold j133
  all_goals rfl
def j127 (R:VP):JY:=Ov R (j133 R)
theorem Ud (R:VP):Bo R=fun a b c d e f g h w=>∀ _:Nat→Value,Ov R (vW R) a b c d e f g h w:=by kernel_rfl
theorem IA (R:VP):j127 R=Bo R:=by
  rw [Ud]
  simp only [forall_const]
  unfold j127
  rw [Jo R]
  all_goals rfl
theorem TK (R k a b c d e f g h i j l w):xk R (k+1) a b c d e f g h i j l w=TY R (xk R k) (j127 R) a b c d e f g h i j l w:=by rw [IA R]; exact ju (by kernel_rfl)
def j100 (R:VP):L6:=OV R (Eg R)
theorem Ti (R:VP):AY R=fun a b c d e f g h i j w=>∀ _:Nat→Value,OV R (Eg R) a b c d e f g h i j w:=by kernel_rfl
theorem Kq (R:VP):j100 R=AY R:=by
  rw [Ti]
  simp only [forall_const]
  unfold j100
  all_goals rfl
end dI
def dI (R:VP):=dI.g0 R (dI.e10 R) (dI.e52 R) (dI.j100 R)
theorem dI.calls {R a b c d e f w} (k:dI R a b c d e f w):CA 108 #[.slice a b c,.int .i64 d,.int .i64 e,.int .i64 f,.func (.func 80) #[] #[]] w R:=cal (n:=dI.an) func108 rfl k (by unfold dI; rw [dI.Kq R]; kernel_rfl)
open Go.Proofs.Tryz (f109 func109)
namespace jQ
def an:An:=(aR (aL (.mk (some [0,1,2,3,8]) (aR (aL (aL (aR (aL (.mk (some [0,1,2,3,8,9]) .nil .nil)))))) .nil)))
def qf (R:VP):QT:=fin prog f109 R
def C:=cdN prog f109 an
abbrev T3:=OA→Nat→Nat→Int→Int→Addr→Int→World→Prop
abbrev T15:=OA→Nat→Nat→Int→Int→Addr→Int→Int→World→Prop
def g0 (R:VP) (e3:T3) (a:OA) (b c:Nat) (d e:Int) (f:Addr) (g:World):Prop :=
 inc d fun h =>
 e3 a b c d e f h g
def g3 (R:VP) (e15:T15) (a:OA) (b c:Nat) (d e:Int) (f:Addr) (g:Int) (h:World):Prop :=
 af (decide (g<e))
 (e15 a b c d e f g g h)
 (R (.tuple #[]) h)
def g15 (R:VP) (b3:T3) (b15:T15) (a:OA) (b c:Nat) (d e:Int) (f:Addr) (g h:Int) (i:World):Prop :=
 af (decide (h>d))
 (ix a b h fun j =>
 mi i (j.add (h.toNat*5)) fun j k l m n o p =>
 nv (IntKind.i64.wrap (h - 1)) fun q =>
 ix a b q fun r =>
 mi i (r.add (q.toNat*5)) fun q r s t u v w =>
 CA 90 #[oI j k l m n o p,oI q r s t u v w,.pointer (some f)] i fun j k =>
 ∃ l,j = .int .i64 l ∧
 (af (decide (l<0))
 (∃ j:World,CK j k ∧
 (nv (IntKind.i64.wrap (h - 1)) fun l =>
 nv (IntKind.i64.wrap (h - 1)) fun m =>
 ix a b m fun n =>
 mi k (n.add (m.toNat*5)) fun m n o p q r s =>
 ix a b h fun t =>
 mi k (t.add (h.toNat*5)) fun t u v w x y z =>
 ix a b h fun A =>
 vw k (A.add (h.toNat*5)) m n o p q r s fun m =>
 CK j m ∧
 (ix a b l fun j =>
 vw m (j.add (l.toNat*5)) t u v w x y z fun j =>
 nv (IntKind.i64.wrap (h - 1)) fun h =>
 b15 a b c d e f g h j)))
 (inc g fun h =>
 b3 a b c d e f h k)))
 (inc g fun g =>
 b3 a b c d e f g i)
def q3 (R:VP):QT:=(Exit.inBlock 0 (qf R))
@[irreducible] def l3 (R:VP) (k:Nat):T3:=fun a b c d e f g w=>aZ [0,1,2,3,8] (C [1,0,0]) (q3 R) k (fr ((.slice a b c::(.int .i64 d::(.int .i64 e::(.func (.func 90) #[] #[.pointer (some f)]::U 4 (.int .i64 g::U 44 []))))))) w
def e3 (R:VP):T3:=fun a b c d e f g w=>∃ k,l3 R k a b c d e f g w
def q15 (R:VP) (k3:Nat):QT:=(Exit.inBlock 2 (Exit.inBlock 1 (qS none (C [1,0,0,1,1]) (qL [0,1,2,3,8] (C [1,0,0]) (q3 R) k3))))
def EI (R:VP) (k3:Nat) (k:Nat):T15:=fun a b c d e f g h w=>aZ [0,1,2,3,8,9] (C [1,0,0,1,0,0,1,0,0]) (q15 R k3) k (fr ((.slice a b c::(.int .i64 d::(.int .i64 e::(.func (.func 90) #[] #[.pointer (some f)]::U 4 (.int .i64 g::(.int .i64 h::U 43 [])))))))) w
def OT (R:VP) (k3:Nat):T15:=fun a b c d e f g h w=>∃ k,EI R k3 k a b c d e f g h w
def l15 (R:VP) (b3:T3):Nat→T15
 | 0=>fun _ _ _ _ _ _ _ _ _=>False
 | k+1=>g15 R b3 (l15 R b3 k)
def e15 (R:VP) (b3:T3):T15:=fun a b c d e f g h w=>∃ k,l15 R b3 k a b c d e f g h w
theorem s15 (R:VP) (k3:Nat) (k:Nat):EI R k3 (k+1)=fun a b c d e f g h w=>∀ _:Nat→Value,g15 R (l3 R k3) (EI R k3 k) a b c d e f g h w:=by kernel_rfl
theorem OX (R:VP) (k3:Nat) (b3:T3) (hb3:b3=l3 R k3):∀ k,l15 R b3 k=EI R k3 k
 | 0=>by kernel_rfl
 | k+1=>by
  rw [s15]
  simp only [forall_const]
  unfold l15
  have ih:=OX R k3 b3 hb3 k
  subst hb3
  rw [ih]
  all_goals rfl
theorem TL (R:VP) (k3:Nat) (b3:T3) (hb3:b3=l3 R k3):e15 R b3=OT R k3:=by
 unfold e15 OT
 simp only [OX R k3 b3 hb3]
theorem u3 (R k a b c d e f g w):l3 R (k+1) a b c d e f g w=g3 R (e15 R (l3 R k)) a b c d e f g w:=by rw [TL R k _ rfl]; exact ju (by kernel_rfl)
end jQ
def jQ (R:VP):=jQ.g0 R (jQ.e3 R)
theorem jQ.calls {R a b c d e f w} (k:jQ R a b c d e f w):CA 109 #[.slice a b c,.int .i64 d,.int .i64 e,.func (.func 90) #[] #[.pointer (some f)]] w R:=cal (n:=jQ.an) func109 rfl k (by kernel_rfl)
open Go.Proofs.Tryz (f110 func110)
namespace gu
def an:An:=(.mk none (aR (aL (aR (aR (.mk none (aL (.mk (some [0,1,4,10,11]) .nil .nil)) (aL (aR (aL (.mk (some [0,10,13]) .nil .nil))))))))) (.mk none (aR (aL (aR (aR (.mk none (aL (.mk (some [0,2,4,14,15]) .nil .nil)) (aL (aR (aL (.mk (some [0,14,17]) .nil .nil))))))))) (aR (aR (aR (.mk (some [0,1,2,3,4,18,19,20,21]) .nil (aR (.mk none (aL (.mk (some [0,1,2,3,4,18,19,20,21,22]) .nil .nil)) (aR (.mk (some [0,1,3,4,18,20,24]) .nil (.mk (some [0,3,4,18,24]) .nil .nil)))))))))))
def qf (R:VP):QT:=fin prog f110 R
def C:=cdN prog f110 an
abbrev T10:=OA→Nat→Nat→Int→Addr→Int→Int→World→Prop
abbrev T29:=OA→Nat→Nat→Int→Int→World→Prop
abbrev T52:=OA→Nat→Nat→Int→Addr→Int→Int→World→Prop
abbrev T71:=OA→Nat→Nat→Int→Int→World→Prop
abbrev L6:=OA→Nat→Nat→Int→Int→Int→Addr→Int→Int→Int→Int→World→Prop
abbrev EN:=OA→Nat→Nat→Int→Int→Int→Addr→Int→Int→Int→Int→Int→World→Prop
abbrev JY:=OA→Nat→Nat→Int→Int→Addr→Int→Int→Int→World→Prop
abbrev JC:=OA→Nat→Nat→Int→Addr→Int→Int→World→Prop
def g0 (R:VP) (e10:T10) (e52:T52) (j100:L6) (a:OA) (b c:Nat) (d e f:Int) (g:Addr) (h:World):Prop :=
 nv (IntKind.i64.wrap (e - d)) fun i =>
 af (i==1)
 (e10 a b c d g e f h)
 (nv (IntKind.i64.wrap (f - e)) fun i =>
 af (i==1)
 (e52 a b c e g d e h)
 (nv (IntKind.i64.wrap (d+f)) fun i =>
 nv (IntKind.u64.wrap i) fun i =>
 nv (Int.fdiv i (2 ^ 1)) fun i =>
 nv (IntKind.i64.wrap i) fun i =>
 nv (IntKind.i64.wrap (i+e)) fun j =>
 af (decide (e>i))
 (nv (IntKind.i64.wrap (j - f)) fun k =>
 j100 a b c d e f g i j k i h)
 (j100 a b c d e f g i j d e h)))
def g10 (R:VP) (b10:T10) (e29:T29) (a:OA) (b c:Nat) (d:Int) (e:Addr) (f g:Int) (h:World):Prop :=
 af (decide (f<g))
 (nv (IntKind.i64.wrap (f+g)) fun i =>
 nv (IntKind.u64.wrap i) fun i =>
 nv (Int.fdiv i (2 ^ 1)) fun i =>
 nv (IntKind.i64.wrap i) fun i =>
 ix a b i fun j =>
 mi h (j.add (i.toNat*5)) fun j k l m n o p =>
 ix a b d fun q =>
 mi h (q.add (d.toNat*5)) fun q r s t u v w =>
 CA 90 #[oI j k l m n o p,oI q r s t u v w,.pointer (some e)] h fun j k =>
 ∃ l,j = .int .i64 l ∧
 (af (decide (l<0))
 (inc i fun j =>
 b10 a b c d e j g k)
 (b10 a b c d e f i k)))
 (e29 a b c f d h)
def g29 (R:VP) (b29:T29) (a:OA) (b c:Nat) (d e:Int) (f:World):Prop :=
 nv (IntKind.i64.wrap (d - 1)) fun g =>
 af (decide (e<g))
 (∃ g:World,CK g f ∧
 (inc e fun h =>
 inc e fun i =>
 ix a b i fun j =>
 mi f (j.add (i.toNat*5)) fun i j k l m n o =>
 ix a b e fun p =>
 mi f (p.add (e.toNat*5)) fun p q r s t u v =>
 ix a b e fun w =>
 vw f (w.add (e.toNat*5)) i j k l m n o fun i =>
 CK g i ∧
 (ix a b h fun g =>
 vw i (g.add (h.toNat*5)) p q r s t u v fun g =>
 inc e fun e =>
 b29 a b c d e g)))
 (R (.tuple #[]) f)
def g52 (R:VP) (b52:T52) (e71:T71) (a:OA) (b c:Nat) (d:Int) (e:Addr) (f g:Int) (h:World):Prop :=
 af (decide (f<g))
 (nv (IntKind.i64.wrap (f+g)) fun i =>
 nv (IntKind.u64.wrap i) fun i =>
 nv (Int.fdiv i (2 ^ 1)) fun i =>
 nv (IntKind.i64.wrap i) fun i =>
 ix a b d fun j =>
 mi h (j.add (d.toNat*5)) fun j k l m n o p =>
 ix a b i fun q =>
 mi h (q.add (i.toNat*5)) fun q r s t u v w =>
 CA 90 #[oI j k l m n o p,oI q r s t u v w,.pointer (some e)] h fun j k =>
 ∃ l,j = .int .i64 l ∧
 (af (!(decide (l<0)))
 (inc i fun j =>
 b52 a b c d e j g k)
 (b52 a b c d e f i k)))
 (e71 a b c f d h)
def g71 (R:VP) (b71:T71) (a:OA) (b c:Nat) (d e:Int) (f:World):Prop :=
 af (decide (e>d))
 (∃ g:World,CK g f ∧
 (nv (IntKind.i64.wrap (e - 1)) fun h =>
 nv (IntKind.i64.wrap (e - 1)) fun i =>
 ix a b i fun j =>
 mi f (j.add (i.toNat*5)) fun i j k l m n o =>
 ix a b e fun p =>
 mi f (p.add (e.toNat*5)) fun p q r s t u v =>
 ix a b e fun w =>
 vw f (w.add (e.toNat*5)) i j k l m n o fun i =>
 CK g i ∧
 (ix a b h fun g =>
 vw i (g.add (h.toNat*5)) p q r s t u v fun g =>
 nv (IntKind.i64.wrap (e - 1)) fun e =>
 b71 a b c d e g)))
 (R (.tuple #[]) f)
def OV (R:VP) (Eg:EN) (a:OA) (b c:Nat) (d e f:Int) (g:Addr) (h i j k:Int) (l:World):Prop :=
 nv (IntKind.i64.wrap (i - 1)) fun m =>
 Eg a b c d e f g h i j k m l
def TY (R:VP) (b104:EN) (j127:JY) (a:OA) (b c:Nat) (d e f:Int) (g:Addr) (h i j k l:Int) (m:World):Prop :=
 af (decide (j<k))
 (nv (IntKind.i64.wrap (j+k)) fun n =>
 nv (IntKind.u64.wrap n) fun n =>
 nv (Int.fdiv n (2 ^ 1)) fun n =>
 nv (IntKind.i64.wrap n) fun n =>
 nv (IntKind.i64.wrap (l - n)) fun o =>
 ix a b o fun p =>
 mi m (p.add (o.toNat*5)) fun o p q r s t u =>
 ix a b n fun v =>
 mi m (v.add (n.toNat*5)) fun v w x y z A B =>
 CA 90 #[oI o p q r s t u,oI v w x y z A B,.pointer (some g)] m fun o p =>
 ∃ q,o = .int .i64 q ∧
 (af (!(decide (q<0)))
 (inc n fun o =>
 b104 a b c d e f g h i o k l p)
 (b104 a b c d e f g h i j n l p)))
 (nv (IntKind.i64.wrap (i - j)) fun i =>
 af (decide (j<e))
 (af (decide (e<i))
 (CA 116 #[.slice a b c,.int .i64 j,.int .i64 e,.int .i64 i,.func (.func 90) #[] #[.pointer (some g)]] m fun e k =>
 e = .tuple #[] ∧
 (j127 a b c d f g h j i k))
 (j127 a b c d f g h j i m))
 (j127 a b c d f g h j i m))
def Ov (R:VP) (j133:JC) (a:OA) (b c:Nat) (d e:Int) (f:Addr) (g h i:Int) (j:World):Prop :=
 af (decide (d<h))
 (af (decide (h<g))
 (CA 110 #[.slice a b c,.int .i64 d,.int .i64 h,.int .i64 g,.func (.func 90) #[] #[.pointer (some f)]] j fun d h =>
 d = .tuple #[] ∧
 (j133 a b c e f g i h))
 (j133 a b c e f g i j))
 (j133 a b c e f g i j)
def Ph (R:VP) (a:OA) (b c:Nat) (d:Int) (e:Addr) (f g:Int) (h:World):Prop :=
 af (decide (f<g))
 (af (decide (g<d))
 (CA 110 #[.slice a b c,.int .i64 f,.int .i64 g,.int .i64 d,.func (.func 90) #[] #[.pointer (some e)]] h fun a b =>
 a = .tuple #[] ∧
 (R (.tuple #[]) b))
 (R (.tuple #[]) h))
 (R (.tuple #[]) h)
def q10 (R:VP):QT:=(Exit.inBlock 0 (qS none (C [0,1,0,1,1,1]) (qS none (C [1]) (qf R))))
@[irreducible] def l10 (R:VP) (k:Nat):T10:=fun a b c d e f g w=>aZ [0,1,4,10,11] (C [0,1,0,1,1,0,0,0]) (q10 R) k (fr ((.slice a b c::(.int .i64 d::U 2 (.func (.func 90) #[] #[.pointer (some e)]::U 5 (.int .i64 f::(.int .i64 g::U 208 []))))))) w
def e10 (R:VP):T10:=fun a b c d e f g w=>∃ k,l10 R k a b c d e f g w
def q29 (R:VP):QT:=(Exit.inBlock 2 (qS none (C [0,1,0,1,1,1,1]) (qS none (C [1]) (qf R))))
@[irreducible] def l29 (R:VP) (k:Nat):T29:=fun a b c d e w=>aZ [0,10,13] (C [0,1,0,1,1,1,0,1,0,0]) (q29 R) k (fr ((.slice a b c::U 9 (.int .i64 d::U 2 (.int .i64 e::U 206 []))))) w
def e29 (R:VP):T29:=fun a b c d e w=>∃ k,l29 R k a b c d e w
def q52 (R:VP):QT:=(Exit.inBlock 4 (qS none (C [1,0,1,0,1,1,1]) (qS none (C [1,1]) (qf R))))
@[irreducible] def l52 (R:VP) (k:Nat):T52:=fun a b c d e f g w=>aZ [0,2,4,14,15] (C [1,0,1,0,1,1,0,0,0]) (q52 R) k (fr ((.slice a b c::U 1 (.int .i64 d::U 1 (.func (.func 90) #[] #[.pointer (some e)]::U 9 (.int .i64 f::(.int .i64 g::U 204 []))))))) w
def e52 (R:VP):T52:=fun a b c d e f g w=>∃ k,l52 R k a b c d e f g w
def q71 (R:VP):QT:=(Exit.inBlock 6 (qS none (C [1,0,1,0,1,1,1,1]) (qS none (C [1,1]) (qf R))))
@[irreducible] def l71 (R:VP) (k:Nat):T71:=fun a b c d e w=>aZ [0,14,17] (C [1,0,1,0,1,1,1,0,1,0,0]) (q71 R) k (fr ((.slice a b c::U 13 (.int .i64 d::U 2 (.int .i64 e::U 202 []))))) w
def e71 (R:VP):T71:=fun a b c d e w=>∃ k,l71 R k a b c d e w
def AY (R:VP):L6:=fun a b c d e f g h i j l w=>jS (some [0,1,2,3,4,18,19,20,21]) (C [1,1,1,1,1,1] (qf R)) (fr ((.slice a b c::(.int .i64 d::(.int .i64 e::(.int .i64 f::(.func (.func 90) #[] #[.pointer (some g)]::U 13 (.int .i64 h::(.int .i64 i::(.int .i64 j::(.int .i64 l::U 198 []))))))))))) w
def OQ (R:VP):QT:=(Exit.inBlock 8 (qS none (C [1,1,1,1,1,1,1,1]) (qf R)))
@[irreducible] def xk (R:VP) (k:Nat):EN:=fun a b c d e f g h i j l m w=>aZ [0,1,2,3,4,18,19,20,21,22] (C [1,1,1,1,1,1,1,0,0,0]) (OQ R) k (fr ((.slice a b c::(.int .i64 d::(.int .i64 e::(.int .i64 f::(.func (.func 90) #[] #[.pointer (some g)]::U 13 (.int .i64 h::(.int .i64 i::(.int .i64 j::(.int .i64 l::(.int .i64 m::U 197 [])))))))))))) w
def Eg (R:VP):EN:=fun a b c d e f g h i j l m w=>∃ k,xk R k a b c d e f g h i j l m w
def Bo (R:VP):JY:=fun a b c d e f g h i w=>jS (some [0,1,3,4,18,20,24]) (C [1,1,1,1,1,1,1,1,1,1] (qf R)) (fr ((.slice a b c::(.int .i64 d::U 1 (.int .i64 e::(.func (.func 90) #[] #[.pointer (some f)]::U 13 (.int .i64 g::U 1 (.int .i64 h::U 3 (.int .i64 i::U 195 []))))))))) w
def vW (R:VP):JC:=fun a b c d e f g w=>jS (some [0,3,4,18,24]) (C [1,1,1,1,1,1,1,1,1,1,1] (qf R)) (fr ((.slice a b c::U 2 (.int .i64 d::(.func (.func 90) #[] #[.pointer (some e)]::U 13 (.int .i64 f::U 5 (.int .i64 g::U 195 []))))))) w
theorem u29 (R k a b c d e w):l29 R (k+1) a b c d e w=g29 R (l29 R k) a b c d e w:=ju (by kernel_rfl)
theorem u10 (R k a b c d e f g w):l10 R (k+1) a b c d e f g w=g10 R (l10 R k) (e29 R) a b c d e f g w:=ju (by kernel_rfl)
theorem u71 (R k a b c d e w):l71 R (k+1) a b c d e w=g71 R (l71 R k) a b c d e w:=ju (by kernel_rfl)
theorem u52 (R k a b c d e f g w):l52 R (k+1) a b c d e f g w=g52 R (l52 R k) (e71 R) a b c d e f g w:=ju (by kernel_rfl)
def j133 (R:VP):JC:=Ph R
theorem TF (R:VP):vW R=fun a b c d e f g w=>∀ _:Nat→Value,Ph R a b c d e f g w:=by kernel_rfl
theorem Jo (R:VP):j133 R=vW R:=by
  rw [TF]
  simp only [forall_const]
  unfold j133
  all_goals rfl
def j127 (R:VP):JY:=Ov R (j133 R)
theorem Ud (R:VP):Bo R=fun a b c d e f g h i w=>∀ _:Nat→Value,Ov R (vW R) a b c d e f g h i w:=by kernel_rfl
theorem IA (R:VP):j127 R=Bo R:=by
  rw [Ud]
  simp only [forall_const]
  unfold j127
  rw [Jo R]
  all_goals rfl
theorem TK (R k a b c d e f g h i j l m w):xk R (k+1) a b c d e f g h i j l m w=TY R (xk R k) (j127 R) a b c d e f g h i j l m w:=by rw [IA R]; exact ju (by kernel_rfl)
def j100 (R:VP):L6:=OV R (Eg R)
theorem Ti (R:VP):AY R=fun a b c d e f g h i j l w=>∀ _:Nat→Value,OV R (Eg R) a b c d e f g h i j l w:=by kernel_rfl
theorem Kq (R:VP):j100 R=AY R:=by
  rw [Ti]
  simp only [forall_const]
  unfold j100
  all_goals rfl
end gu
def gu (R:VP):=gu.g0 R (gu.e10 R) (gu.e52 R) (gu.j100 R)
theorem gu.calls {R a b c d e f g w} (k:gu R a b c d e f g w):CA 110 #[.slice a b c,.int .i64 d,.int .i64 e,.int .i64 f,.func (.func 90) #[] #[.pointer (some g)]] w R:=cal (n:=gu.an) func110 rfl k (by unfold gu; rw [gu.Kq R]; kernel_rfl)
end Go.Mir
set_option linter.unusedVariables false
set_option maxRecDepth 100000
namespace Go.Mir
open Go Go.E Go.RowKit
open Go.Proofs.Tryz (prog)
open Go.Proofs.Tryz (f111 func111)
namespace ja
def an:An:=(aR (aL (.mk (some [0,1,2,3,8]) (aR (aL (aL (aR (aL (.mk (some [0,1,2,3,8,9]) .nil .nil)))))) .nil)))
def qf (R:VP):QT:=fin prog f111 R
def C:=cdN prog f111 an
abbrev T3:=OA→Nat→Nat→Int→Int→Addr→Int→World→Prop
abbrev T15:=OA→Nat→Nat→Int→Int→Addr→Int→Int→World→Prop
def g0 (R:VP) (e3:T3) (a:OA) (b c:Nat) (d e:Int) (f:Addr) (g:World):Prop :=
 inc d fun h =>
 e3 a b c d e f h g
def g3 (R:VP) (e15:T15) (a:OA) (b c:Nat) (d e:Int) (f:Addr) (g:Int) (h:World):Prop :=
 af (decide (g<e))
 (e15 a b c d e f g g h)
 (R (.tuple #[]) h)
def g15 (R:VP) (b3:T3) (b15:T15) (a:OA) (b c:Nat) (d e:Int) (f:Addr) (g h:Int) (i:World):Prop :=
 af (decide (h>d))
 (ix a b h fun j =>
 qg i (j.add (h.toNat*4)) fun j k l m n o p q r s =>
 nv (IntKind.i64.wrap (h - 1)) fun t =>
 ix a b t fun u =>
 qg i (u.add (t.toNat*4)) fun t u v w x y z A B C =>
 CA 93 #[zQ j k l m n o p q r s,zQ t u v w x y z A B C,.pointer (some f)] i fun j k =>
 ∃ l,j = .int .i64 l ∧
 (af (decide (l<0))
 (∃ j:World,CK j k ∧
 (nv (IntKind.i64.wrap (h - 1)) fun l =>
 nv (IntKind.i64.wrap (h - 1)) fun m =>
 ix a b m fun n =>
 qg k (n.add (m.toNat*4)) fun m n o p q r s t u v =>
 ix a b h fun w =>
 qg k (w.add (h.toNat*4)) fun w x y z A B C D E F =>
 ix a b h fun G =>
 Cm k (G.add (h.toNat*4)) m n o p q r s t u v fun m =>
 CK j m ∧
 (ix a b l fun j =>
 Cm m (j.add (l.toNat*4)) w x y z A B C D E F fun j =>
 nv (IntKind.i64.wrap (h - 1)) fun h =>
 b15 a b c d e f g h j)))
 (inc g fun h =>
 b3 a b c d e f h k)))
 (inc g fun g =>
 b3 a b c d e f g i)
def q3 (R:VP):QT:=(Exit.inBlock 0 (qf R))
@[irreducible] def l3 (R:VP) (k:Nat):T3:=fun a b c d e f g w=>aZ [0,1,2,3,8] (C [1,0,0]) (q3 R) k (fr ((.slice a b c::(.int .i64 d::(.int .i64 e::(.func (.func 93) #[] #[.pointer (some f)]::U 4 (.int .i64 g::U 44 []))))))) w
def e3 (R:VP):T3:=fun a b c d e f g w=>∃ k,l3 R k a b c d e f g w
def q15 (R:VP) (k3:Nat):QT:=(Exit.inBlock 2 (Exit.inBlock 1 (qS none (C [1,0,0,1,1]) (qL [0,1,2,3,8] (C [1,0,0]) (q3 R) k3))))
def EI (R:VP) (k3:Nat) (k:Nat):T15:=fun a b c d e f g h w=>aZ [0,1,2,3,8,9] (C [1,0,0,1,0,0,1,0,0]) (q15 R k3) k (fr ((.slice a b c::(.int .i64 d::(.int .i64 e::(.func (.func 93) #[] #[.pointer (some f)]::U 4 (.int .i64 g::(.int .i64 h::U 43 [])))))))) w
def OT (R:VP) (k3:Nat):T15:=fun a b c d e f g h w=>∃ k,EI R k3 k a b c d e f g h w
def l15 (R:VP) (b3:T3):Nat→T15
 | 0=>fun _ _ _ _ _ _ _ _ _=>False
 | k+1=>g15 R b3 (l15 R b3 k)
def e15 (R:VP) (b3:T3):T15:=fun a b c d e f g h w=>∃ k,l15 R b3 k a b c d e f g h w
theorem s15 (R:VP) (k3:Nat) (k:Nat):EI R k3 (k+1)=fun a b c d e f g h w=>∀ _:Nat→Value,g15 R (l3 R k3) (EI R k3 k) a b c d e f g h w:=by kernel_rfl
theorem OX (R:VP) (k3:Nat) (b3:T3) (hb3:b3=l3 R k3):∀ k,l15 R b3 k=EI R k3 k
 | 0=>by kernel_rfl
 | k+1=>by
  rw [s15]
  simp only [forall_const]
  unfold l15
  have ih:=OX R k3 b3 hb3 k
  subst hb3
  rw [ih]
  all_goals rfl
theorem TL (R:VP) (k3:Nat) (b3:T3) (hb3:b3=l3 R k3):e15 R b3=OT R k3:=by
 unfold e15 OT
 simp only [OX R k3 b3 hb3]
theorem u3 (R k a b c d e f g w):l3 R (k+1) a b c d e f g w=g3 R (e15 R (l3 R k)) a b c d e f g w:=by rw [TL R k _ rfl]; exact ju (by kernel_rfl)
end ja
def ja (R:VP):=ja.g0 R (ja.e3 R)
theorem ja.calls {R a b c d e f w} (k:ja R a b c d e f w):CA 111 #[.slice a b c,.int .i64 d,.int .i64 e,.func (.func 93) #[] #[.pointer (some f)]] w R:=cal (n:=ja.an) func111 rfl k (by kernel_rfl)
open Go.Proofs.Tryz (f112 func112)
namespace eu
def an:An:=(.mk none (aR (aL (aR (aR (.mk none (aL (.mk (some [0,1,4,10,11]) .nil .nil)) (aL (aR (aL (.mk (some [0,10,13]) .nil .nil))))))))) (.mk none (aR (aL (aR (aR (.mk none (aL (.mk (some [0,2,4,14,15]) .nil .nil)) (aL (aR (aL (.mk (some [0,14,17]) .nil .nil))))))))) (aR (aR (aR (.mk (some [0,1,2,3,4,18,19,20,21]) .nil (aR (.mk none (aL (.mk (some [0,1,2,3,4,18,19,20,21,22]) .nil .nil)) (aR (.mk (some [0,1,3,4,18,20,24]) .nil (.mk (some [0,3,4,18,24]) .nil .nil)))))))))))
def qf (R:VP):QT:=fin prog f112 R
def C:=cdN prog f112 an
abbrev T10:=OA→Nat→Nat→Int→Addr→Int→Int→World→Prop
abbrev T29:=OA→Nat→Nat→Int→Int→World→Prop
abbrev T52:=OA→Nat→Nat→Int→Addr→Int→Int→World→Prop
abbrev T71:=OA→Nat→Nat→Int→Int→World→Prop
abbrev L6:=OA→Nat→Nat→Int→Int→Int→Addr→Int→Int→Int→Int→World→Prop
abbrev EN:=OA→Nat→Nat→Int→Int→Int→Addr→Int→Int→Int→Int→Int→World→Prop
abbrev JY:=OA→Nat→Nat→Int→Int→Addr→Int→Int→Int→World→Prop
abbrev JC:=OA→Nat→Nat→Int→Addr→Int→Int→World→Prop
def g0 (R:VP) (e10:T10) (e52:T52) (j100:L6) (a:OA) (b c:Nat) (d e f:Int) (g:Addr) (h:World):Prop :=
 nv (IntKind.i64.wrap (e - d)) fun i =>
 af (i==1)
 (e10 a b c d g e f h)
 (nv (IntKind.i64.wrap (f - e)) fun i =>
 af (i==1)
 (e52 a b c e g d e h)
 (nv (IntKind.i64.wrap (d+f)) fun i =>
 nv (IntKind.u64.wrap i) fun i =>
 nv (Int.fdiv i (2 ^ 1)) fun i =>
 nv (IntKind.i64.wrap i) fun i =>
 nv (IntKind.i64.wrap (i+e)) fun j =>
 af (decide (e>i))
 (nv (IntKind.i64.wrap (j - f)) fun k =>
 j100 a b c d e f g i j k i h)
 (j100 a b c d e f g i j d e h)))
def g10 (R:VP) (b10:T10) (e29:T29) (a:OA) (b c:Nat) (d:Int) (e:Addr) (f g:Int) (h:World):Prop :=
 af (decide (f<g))
 (nv (IntKind.i64.wrap (f+g)) fun i =>
 nv (IntKind.u64.wrap i) fun i =>
 nv (Int.fdiv i (2 ^ 1)) fun i =>
 nv (IntKind.i64.wrap i) fun i =>
 ix a b i fun j =>
 qg h (j.add (i.toNat*4)) fun j k l m n o p q r s =>
 ix a b d fun t =>
 qg h (t.add (d.toNat*4)) fun t u v w x y z A B C =>
 CA 93 #[zQ j k l m n o p q r s,zQ t u v w x y z A B C,.pointer (some e)] h fun j k =>
 ∃ l,j = .int .i64 l ∧
 (af (decide (l<0))
 (inc i fun j =>
 b10 a b c d e j g k)
 (b10 a b c d e f i k)))
 (e29 a b c f d h)
def g29 (R:VP) (b29:T29) (a:OA) (b c:Nat) (d e:Int) (f:World):Prop :=
 nv (IntKind.i64.wrap (d - 1)) fun g =>
 af (decide (e<g))
 (∃ g:World,CK g f ∧
 (inc e fun h =>
 inc e fun i =>
 ix a b i fun j =>
 qg f (j.add (i.toNat*4)) fun i j k l m n o p q r =>
 ix a b e fun s =>
 qg f (s.add (e.toNat*4)) fun s t u v w x y z A B =>
 ix a b e fun C =>
 Cm f (C.add (e.toNat*4)) i j k l m n o p q r fun i =>
 CK g i ∧
 (ix a b h fun g =>
 Cm i (g.add (h.toNat*4)) s t u v w x y z A B fun g =>
 inc e fun e =>
 b29 a b c d e g)))
 (R (.tuple #[]) f)
def g52 (R:VP) (b52:T52) (e71:T71) (a:OA) (b c:Nat) (d:Int) (e:Addr) (f g:Int) (h:World):Prop :=
 af (decide (f<g))
 (nv (IntKind.i64.wrap (f+g)) fun i =>
 nv (IntKind.u64.wrap i) fun i =>
 nv (Int.fdiv i (2 ^ 1)) fun i =>
 nv (IntKind.i64.wrap i) fun i =>
 ix a b d fun j =>
 qg h (j.add (d.toNat*4)) fun j k l m n o p q r s =>
 ix a b i fun t =>
 qg h (t.add (i.toNat*4)) fun t u v w x y z A B C =>
 CA 93 #[zQ j k l m n o p q r s,zQ t u v w x y z A B C,.pointer (some e)] h fun j k =>
 ∃ l,j = .int .i64 l ∧
 (af (!(decide (l<0)))
 (inc i fun j =>
 b52 a b c d e j g k)
 (b52 a b c d e f i k)))
 (e71 a b c f d h)
def g71 (R:VP) (b71:T71) (a:OA) (b c:Nat) (d e:Int) (f:World):Prop :=
 af (decide (e>d))
 (∃ g:World,CK g f ∧
 (nv (IntKind.i64.wrap (e - 1)) fun h =>
 nv (IntKind.i64.wrap (e - 1)) fun i =>
 ix a b i fun j =>
 qg f (j.add (i.toNat*4)) fun i j k l m n o p q r =>
 ix a b e fun s =>
 qg f (s.add (e.toNat*4)) fun s t u v w x y z A B =>
 ix a b e fun C =>
 Cm f (C.add (e.toNat*4)) i j k l m n o p q r fun i =>
 CK g i ∧
 (ix a b h fun g =>
 Cm i (g.add (h.toNat*4)) s t u v w x y z A B fun g =>
 nv (IntKind.i64.wrap (e - 1)) fun e =>
 b71 a b c d e g)))
 (R (.tuple #[]) f)
def OV (R:VP) (Eg:EN) (a:OA) (b c:Nat) (d e f:Int) (g:Addr) (h i j k:Int) (l:World):Prop :=
 nv (IntKind.i64.wrap (i - 1)) fun m =>
 Eg a b c d e f g h i j k m l
def TY (R:VP) (b104:EN) (j127:JY) (a:OA) (b c:Nat) (d e f:Int) (g:Addr) (h i j k l:Int) (m:World):Prop :=
 af (decide (j<k))
 (nv (IntKind.i64.wrap (j+k)) fun n =>
 nv (IntKind.u64.wrap n) fun n =>
 nv (Int.fdiv n (2 ^ 1)) fun n =>
 nv (IntKind.i64.wrap n) fun n =>
 nv (IntKind.i64.wrap (l - n)) fun o =>
 ix a b o fun p =>
 qg m (p.add (o.toNat*4)) fun o p q r s t u v w x =>
 ix a b n fun y =>
 qg m (y.add (n.toNat*4)) fun y z A B C D E F G H =>
 CA 93 #[zQ o p q r s t u v w x,zQ y z A B C D E F G H,.pointer (some g)] m fun o p =>
 ∃ q,o = .int .i64 q ∧
 (af (!(decide (q<0)))
 (inc n fun o =>
 b104 a b c d e f g h i o k l p)
 (b104 a b c d e f g h i j n l p)))
 (nv (IntKind.i64.wrap (i - j)) fun i =>
 af (decide (j<e))
 (af (decide (e<i))
 (CA 117 #[.slice a b c,.int .i64 j,.int .i64 e,.int .i64 i,.func (.func 93) #[] #[.pointer (some g)]] m fun e k =>
 e = .tuple #[] ∧
 (j127 a b c d f g h j i k))
 (j127 a b c d f g h j i m))
 (j127 a b c d f g h j i m))
def Ov (R:VP) (j133:JC) (a:OA) (b c:Nat) (d e:Int) (f:Addr) (g h i:Int) (j:World):Prop :=
 af (decide (d<h))
 (af (decide (h<g))
 (CA 112 #[.slice a b c,.int .i64 d,.int .i64 h,.int .i64 g,.func (.func 93) #[] #[.pointer (some f)]] j fun d h =>
 d = .tuple #[] ∧
 (j133 a b c e f g i h))
 (j133 a b c e f g i j))
 (j133 a b c e f g i j)
def Ph (R:VP) (a:OA) (b c:Nat) (d:Int) (e:Addr) (f g:Int) (h:World):Prop :=
 af (decide (f<g))
 (af (decide (g<d))
 (CA 112 #[.slice a b c,.int .i64 f,.int .i64 g,.int .i64 d,.func (.func 93) #[] #[.pointer (some e)]] h fun a b =>
 a = .tuple #[] ∧
 (R (.tuple #[]) b))
 (R (.tuple #[]) h))
 (R (.tuple #[]) h)
def q10 (R:VP):QT:=(Exit.inBlock 0 (qS none (C [0,1,0,1,1,1]) (qS none (C [1]) (qf R))))
@[irreducible] def l10 (R:VP) (k:Nat):T10:=fun a b c d e f g w=>aZ [0,1,4,10,11] (C [0,1,0,1,1,0,0,0]) (q10 R) k (fr ((.slice a b c::(.int .i64 d::U 2 (.func (.func 93) #[] #[.pointer (some e)]::U 5 (.int .i64 f::(.int .i64 g::U 208 []))))))) w
def e10 (R:VP):T10:=fun a b c d e f g w=>∃ k,l10 R k a b c d e f g w
def q29 (R:VP):QT:=(Exit.inBlock 2 (qS none (C [0,1,0,1,1,1,1]) (qS none (C [1]) (qf R))))
@[irreducible] def l29 (R:VP) (k:Nat):T29:=fun a b c d e w=>aZ [0,10,13] (C [0,1,0,1,1,1,0,1,0,0]) (q29 R) k (fr ((.slice a b c::U 9 (.int .i64 d::U 2 (.int .i64 e::U 206 []))))) w
def e29 (R:VP):T29:=fun a b c d e w=>∃ k,l29 R k a b c d e w
def q52 (R:VP):QT:=(Exit.inBlock 4 (qS none (C [1,0,1,0,1,1,1]) (qS none (C [1,1]) (qf R))))
@[irreducible] def l52 (R:VP) (k:Nat):T52:=fun a b c d e f g w=>aZ [0,2,4,14,15] (C [1,0,1,0,1,1,0,0,0]) (q52 R) k (fr ((.slice a b c::U 1 (.int .i64 d::U 1 (.func (.func 93) #[] #[.pointer (some e)]::U 9 (.int .i64 f::(.int .i64 g::U 204 []))))))) w
def e52 (R:VP):T52:=fun a b c d e f g w=>∃ k,l52 R k a b c d e f g w
def q71 (R:VP):QT:=(Exit.inBlock 6 (qS none (C [1,0,1,0,1,1,1,1]) (qS none (C [1,1]) (qf R))))
@[irreducible] def l71 (R:VP) (k:Nat):T71:=fun a b c d e w=>aZ [0,14,17] (C [1,0,1,0,1,1,1,0,1,0,0]) (q71 R) k (fr ((.slice a b c::U 13 (.int .i64 d::U 2 (.int .i64 e::U 202 []))))) w
def e71 (R:VP):T71:=fun a b c d e w=>∃ k,l71 R k a b c d e w
def AY (R:VP):L6:=fun a b c d e f g h i j l w=>jS (some [0,1,2,3,4,18,19,20,21]) (C [1,1,1,1,1,1] (qf R)) (fr ((.slice a b c::(.int .i64 d::(.int .i64 e::(.int .i64 f::(.func (.func 93) #[] #[.pointer (some g)]::U 13 (.int .i64 h::(.int .i64 i::(.int .i64 j::(.int .i64 l::U 198 []))))))))))) w
def OQ (R:VP):QT:=(Exit.inBlock 8 (qS none (C [1,1,1,1,1,1,1,1]) (qf R)))
@[irreducible] def xk (R:VP) (k:Nat):EN:=fun a b c d e f g h i j l m w=>aZ [0,1,2,3,4,18,19,20,21,22] (C [1,1,1,1,1,1,1,0,0,0]) (OQ R) k (fr ((.slice a b c::(.int .i64 d::(.int .i64 e::(.int .i64 f::(.func (.func 93) #[] #[.pointer (some g)]::U 13 (.int .i64 h::(.int .i64 i::(.int .i64 j::(.int .i64 l::(.int .i64 m::U 197 [])))))))))))) w
def Eg (R:VP):EN:=fun a b c d e f g h i j l m w=>∃ k,xk R k a b c d e f g h i j l m w
def Bo (R:VP):JY:=fun a b c d e f g h i w=>jS (some [0,1,3,4,18,20,24]) (C [1,1,1,1,1,1,1,1,1,1] (qf R)) (fr ((.slice a b c::(.int .i64 d::U 1 (.int .i64 e::(.func (.func 93) #[] #[.pointer (some f)]::U 13 (.int .i64 g::U 1 (.int .i64 h::U 3 (.int .i64 i::U 195 []))))))))) w
def vW (R:VP):JC:=fun a b c d e f g w=>jS (some [0,3,4,18,24]) (C [1,1,1,1,1,1,1,1,1,1,1] (qf R)) (fr ((.slice a b c::U 2 (.int .i64 d::(.func (.func 93) #[] #[.pointer (some e)]::U 13 (.int .i64 f::U 5 (.int .i64 g::U 195 []))))))) w
theorem u29 (R k a b c d e w):l29 R (k+1) a b c d e w=g29 R (l29 R k) a b c d e w:=ju (by kernel_rfl)
theorem u10 (R k a b c d e f g w):l10 R (k+1) a b c d e f g w=g10 R (l10 R k) (e29 R) a b c d e f g w:=ju (by kernel_rfl)
theorem u71 (R k a b c d e w):l71 R (k+1) a b c d e w=g71 R (l71 R k) a b c d e w:=ju (by kernel_rfl)
theorem u52 (R k a b c d e f g w):l52 R (k+1) a b c d e f g w=g52 R (l52 R k) (e71 R) a b c d e f g w:=ju (by kernel_rfl)
def j133 (R:VP):JC:=Ph R
theorem TF (R:VP):vW R=fun a b c d e f g w=>∀ _:Nat→Value,Ph R a b c d e f g w:=by kernel_rfl
theorem Jo (R:VP):j133 R=vW R:=by
  rw [TF]
  simp only [forall_const]
  unfold j133
  all_goals rfl
def j127 (R:VP):JY:=Ov R (j133 R)
theorem Ud (R:VP):Bo R=fun a b c d e f g h i w=>∀ _:Nat→Value,Ov R (vW R) a b c d e f g h i w:=by kernel_rfl
theorem IA (R:VP):j127 R=Bo R:=by
  rw [Ud]
  simp only [forall_const]
  unfold j127
  rw [Jo R]
  all_goals rfl
theorem TK (R k a b c d e f g h i j l m w):xk R (k+1) a b c d e f g h i j l m w=TY R (xk R k) (j127 R) a b c d e f g h i j l m w:=by rw [IA R]; exact ju (by kernel_rfl)
def j100 (R:VP):L6:=OV R (Eg R)
theorem Ti (R:VP):AY R=fun a b c d e f g h i j l w=>∀ _:Nat→Value,OV R (Eg R) a b c d e f g h i j l w:=by kernel_rfl
theorem Kq (R:VP):j100 R=AY R:=by
  rw [Ti]
  simp only [forall_const]
  unfold j100
  all_goals rfl
end eu
def eu (R:VP):=eu.g0 R (eu.e10 R) (eu.e52 R) (eu.j100 R)
theorem eu.calls {R a b c d e f g w} (k:eu R a b c d e f g w):CA 112 #[.slice a b c,.int .i64 d,.int .i64 e,.int .i64 f,.func (.func 93) #[] #[.pointer (some g)]] w R:=cal (n:=eu.an) func112 rfl k (by unfold eu; rw [eu.Kq R]; kernel_rfl)
open Go.Proofs.Tryz (f113 func113)
namespace dO
def an:An:=An.nil
def g0 (R:VP) (a:Nat) (b:World):Prop :=
 R (.bool (FloatKind.f64.format.order a a != some .eq)) b
end dO
def dO (R:VP):=dO.g0 R
theorem dO.calls {R a w} (k:dO R a w):CA 113 #[.float .f64 a] w R:=cal (n:=dO.an) func113 rfl k (by kernel_rfl)
open Go.Proofs.Tryz (f114 func114)
namespace bD
def an:An:=(aR (aL (aR (aL (.mk (some [0,5,6,7]) .nil .nil)))))
def qf (R:VP):QT:=fin prog f114 R
def C:=cdN prog f114 an
abbrev T6:=OA→Nat→Nat→OA→Nat→Nat→Int→Int→World→Prop
def g0 (R:VP) (e6:T6) (a:OA) (b c:Nat) (d:World):Prop :=
 e6 a b c a b c (b:Int) 0 d
def g6 (R:VP) (b6:T6) (a:OA) (b c:Nat) (d:OA) (e f:Nat) (g h:Int) (i:World):Prop :=
 af (decide (h<g))
 (ix d e h fun j =>
 cI i (j.add (h.toNat*1)) .i64 fun j =>
 af (decide (j<0))
 (R (.bool false) i)
 (af (decide (j≥1024))
 (R (.bool false) i)
 (af (decide (h>0))
 (nv (IntKind.i64.wrap (h - 1)) fun k =>
 ix a b k fun l =>
 cI i (l.add (k.toNat*1)) .i64 fun k =>
 af (decide (j≤k))
 (R (.bool false) i)
 (inc h fun j =>
 b6 a b c d e f g j i))
 (inc h fun h =>
 b6 a b c d e f g h i))))
 (R (.bool (decide ((b:Int)>0))) i)
def q6 (R:VP):QT:=(Exit.inBlock 0 (qS none (C [1,1]) (qf R)))
@[irreducible] def l6 (R:VP) (k:Nat):T6:=fun a b c d e f g h w=>aZ [0,5,6,7] (C [1,0,1,0,0]) (q6 R) k (fr ((.slice a b c::U 4 (.slice d e f::(.int .i64 g::(.int .i64 h::U 27 [])))))) w
def e6 (R:VP):T6:=fun a b c d e f g h w=>∃ k,l6 R k a b c d e f g h w
theorem u6 (R k a b c d e f g h w):l6 R (k+1) a b c d e f g h w=g6 R (l6 R k) a b c d e f g h w:=ju (by kernel_rfl)
end bD
def bD (R:VP):=bD.g0 R (bD.e6 R)
theorem bD.calls {R a b c w} (k:bD R a b c w):CA 114 #[.slice a b c] w R:=cal (n:=bD.an) func114 rfl k (by kernel_rfl)
open Go.Proofs.Tryz (f115 func115)
namespace iI
def an:An:=(aR (aR (aL (aL (.mk (some [0,2,4,10,11]) .nil .nil)))))
def qf (R:VP):QT:=fin prog f115 R
def C:=cdN prog f115 an
abbrev T6:=OA→Nat→Nat→Int→Int→Int→World→Prop
def g0 (R:VP) (e6:T6) (a:OA) (b c:Nat) (d e f:Int) (g:World):Prop :=
 nv (IntKind.i64.wrap (e - d)) fun d =>
 nv (IntKind.i64.wrap (f - e)) fun f =>
 e6 a b c e d f g
def g6 (R:VP) (b6:T6) (a:OA) (b c:Nat) (d e f:Int) (g:World):Prop :=
 af (e != f)
 (af (decide (e>f))
 (nv (IntKind.i64.wrap (d - e)) fun h =>
 CA 118 #[.slice a b c,.int .i64 h,.int .i64 d,.int .i64 f,.func (.func 80) #[] #[]] g fun h i =>
 h = .tuple #[] ∧
 (nv (IntKind.i64.wrap (e - f)) fun h =>
 b6 a b c d h f i))
 (nv (IntKind.i64.wrap (d - e)) fun h =>
 nv (IntKind.i64.wrap (d+f)) fun i =>
 nv (IntKind.i64.wrap (i - e)) fun i =>
 CA 118 #[.slice a b c,.int .i64 h,.int .i64 i,.int .i64 e,.func (.func 80) #[] #[]] g fun h i =>
 h = .tuple #[] ∧
 (nv (IntKind.i64.wrap (f - e)) fun f =>
 b6 a b c d e f i)))
 (nv (IntKind.i64.wrap (d - e)) fun f =>
 CA 118 #[.slice a b c,.int .i64 f,.int .i64 d,.int .i64 e,.func (.func 80) #[] #[]] g fun a b =>
 a = .tuple #[] ∧
 (R (.tuple #[]) b))
def q6 (R:VP):QT:=(Exit.inBlock 0 (qS none (C [1,1,1]) (qf R)))
@[irreducible] def l6 (R:VP) (k:Nat):T6:=fun a b c d e f w=>aZ [0,2,4,10,11] (C [1,1,0,0,0]) (q6 R) k (fr ((.slice a b c::U 1 (.int .i64 d::U 1 (.func (.func 80) #[] #[]::U 5 (.int .i64 e::(.int .i64 f::U 46 []))))))) w
def e6 (R:VP):T6:=fun a b c d e f w=>∃ k,l6 R k a b c d e f w
theorem u6 (R k a b c d e f w):l6 R (k+1) a b c d e f w=g6 R (l6 R k) a b c d e f w:=ju (by kernel_rfl)
end iI
def iI (R:VP):=iI.g0 R (iI.e6 R)
theorem iI.calls {R a b c d e f w} (k:iI R a b c d e f w):CA 115 #[.slice a b c,.int .i64 d,.int .i64 e,.int .i64 f,.func (.func 80) #[] #[]] w R:=cal (n:=iI.an) func115 rfl k (by kernel_rfl)
open Go.Proofs.Tryz (f116 func116)
namespace jO
def an:An:=(aR (aR (aL (aL (.mk (some [0,2,4,10,11]) .nil .nil)))))
def qf (R:VP):QT:=fin prog f116 R
def C:=cdN prog f116 an
abbrev T6:=OA→Nat→Nat→Int→Addr→Int→Int→World→Prop
def g0 (R:VP) (e6:T6) (a:OA) (b c:Nat) (d e f:Int) (g:Addr) (h:World):Prop :=
 nv (IntKind.i64.wrap (e - d)) fun d =>
 nv (IntKind.i64.wrap (f - e)) fun f =>
 e6 a b c e g d f h
def g6 (R:VP) (b6:T6) (a:OA) (b c:Nat) (d:Int) (e:Addr) (f g:Int) (h:World):Prop :=
 af (f != g)
 (af (decide (f>g))
 (nv (IntKind.i64.wrap (d - f)) fun i =>
 CA 119 #[.slice a b c,.int .i64 i,.int .i64 d,.int .i64 g,.func (.func 90) #[] #[.pointer (some e)]] h fun i j =>
 i = .tuple #[] ∧
 (nv (IntKind.i64.wrap (f - g)) fun i =>
 b6 a b c d e i g j))
 (nv (IntKind.i64.wrap (d - f)) fun i =>
 nv (IntKind.i64.wrap (d+g)) fun j =>
 nv (IntKind.i64.wrap (j - f)) fun j =>
 CA 119 #[.slice a b c,.int .i64 i,.int .i64 j,.int .i64 f,.func (.func 90) #[] #[.pointer (some e)]] h fun i j =>
 i = .tuple #[] ∧
 (nv (IntKind.i64.wrap (g - f)) fun g =>
 b6 a b c d e f g j)))
 (nv (IntKind.i64.wrap (d - f)) fun g =>
 CA 119 #[.slice a b c,.int .i64 g,.int .i64 d,.int .i64 f,.func (.func 90) #[] #[.pointer (some e)]] h fun a b =>
 a = .tuple #[] ∧
 (R (.tuple #[]) b))
def q6 (R:VP):QT:=(Exit.inBlock 0 (qS none (C [1,1,1]) (qf R)))
@[irreducible] def l6 (R:VP) (k:Nat):T6:=fun a b c d e f g w=>aZ [0,2,4,10,11] (C [1,1,0,0,0]) (q6 R) k (fr ((.slice a b c::U 1 (.int .i64 d::U 1 (.func (.func 90) #[] #[.pointer (some e)]::U 5 (.int .i64 f::(.int .i64 g::U 46 []))))))) w
def e6 (R:VP):T6:=fun a b c d e f g w=>∃ k,l6 R k a b c d e f g w
theorem u6 (R k a b c d e f g w):l6 R (k+1) a b c d e f g w=g6 R (l6 R k) a b c d e f g w:=ju (by kernel_rfl)
end jO
def jO (R:VP):=jO.g0 R (jO.e6 R)
theorem jO.calls {R a b c d e f g w} (k:jO R a b c d e f g w):CA 116 #[.slice a b c,.int .i64 d,.int .i64 e,.int .i64 f,.func (.func 90) #[] #[.pointer (some g)]] w R:=cal (n:=jO.an) func116 rfl k (by kernel_rfl)
open Go.Proofs.Tryz (f117 func117)
namespace jb
def an:An:=(aR (aR (aL (aL (.mk (some [0,2,4,10,11]) .nil .nil)))))
def qf (R:VP):QT:=fin prog f117 R
def C:=cdN prog f117 an
abbrev T6:=OA→Nat→Nat→Int→Addr→Int→Int→World→Prop
def g0 (R:VP) (e6:T6) (a:OA) (b c:Nat) (d e f:Int) (g:Addr) (h:World):Prop :=
 nv (IntKind.i64.wrap (e - d)) fun d =>
 nv (IntKind.i64.wrap (f - e)) fun f =>
 e6 a b c e g d f h
def g6 (R:VP) (b6:T6) (a:OA) (b c:Nat) (d:Int) (e:Addr) (f g:Int) (h:World):Prop :=
 af (f != g)
 (af (decide (f>g))
 (nv (IntKind.i64.wrap (d - f)) fun i =>
 CA 120 #[.slice a b c,.int .i64 i,.int .i64 d,.int .i64 g,.func (.func 93) #[] #[.pointer (some e)]] h fun i j =>
 i = .tuple #[] ∧
 (nv (IntKind.i64.wrap (f - g)) fun i =>
 b6 a b c d e i g j))
 (nv (IntKind.i64.wrap (d - f)) fun i =>
 nv (IntKind.i64.wrap (d+g)) fun j =>
 nv (IntKind.i64.wrap (j - f)) fun j =>
 CA 120 #[.slice a b c,.int .i64 i,.int .i64 j,.int .i64 f,.func (.func 93) #[] #[.pointer (some e)]] h fun i j =>
 i = .tuple #[] ∧
 (nv (IntKind.i64.wrap (g - f)) fun g =>
 b6 a b c d e f g j)))
 (nv (IntKind.i64.wrap (d - f)) fun g =>
 CA 120 #[.slice a b c,.int .i64 g,.int .i64 d,.int .i64 f,.func (.func 93) #[] #[.pointer (some e)]] h fun a b =>
 a = .tuple #[] ∧
 (R (.tuple #[]) b))
def q6 (R:VP):QT:=(Exit.inBlock 0 (qS none (C [1,1,1]) (qf R)))
@[irreducible] def l6 (R:VP) (k:Nat):T6:=fun a b c d e f g w=>aZ [0,2,4,10,11] (C [1,1,0,0,0]) (q6 R) k (fr ((.slice a b c::U 1 (.int .i64 d::U 1 (.func (.func 93) #[] #[.pointer (some e)]::U 5 (.int .i64 f::(.int .i64 g::U 46 []))))))) w
def e6 (R:VP):T6:=fun a b c d e f g w=>∃ k,l6 R k a b c d e f g w
theorem u6 (R k a b c d e f g w):l6 R (k+1) a b c d e f g w=g6 R (l6 R k) a b c d e f g w:=ju (by kernel_rfl)
end jb
def jb (R:VP):=jb.g0 R (jb.e6 R)
theorem jb.calls {R a b c d e f g w} (k:jb R a b c d e f g w):CA 117 #[.slice a b c,.int .i64 d,.int .i64 e,.int .i64 f,.func (.func 93) #[] #[.pointer (some g)]] w R:=cal (n:=jb.an) func117 rfl k (by kernel_rfl)
open Go.Proofs.Tryz (f118 func118)
namespace iQ
def an:An:=(aR (aL (.mk (some [0,1,2,3,10]) .nil .nil)))
def qf (R:VP):QT:=fin prog f118 R
def C:=cdN prog f118 an
abbrev T3:=OA→Nat→Nat→Int→Int→Int→Int→World→Prop
def g0 (R:VP) (e3:T3) (a:OA) (b c:Nat) (d e f:Int) (g:World):Prop :=
 e3 a b c d e f 0 g
def g3 (R:VP) (b3:T3) (a:OA) (b c:Nat) (d e f g:Int) (h:World):Prop :=
 af (decide (g<f))
 (∃ i:World,CK i h ∧
 (nv (IntKind.i64.wrap (d+g)) fun j =>
 nv (IntKind.i64.wrap (e+g)) fun k =>
 nv (IntKind.i64.wrap (e+g)) fun l =>
 ix a b l fun m =>
 lC h (m.add (l.toNat*10)) fun l m n o p q r s t u v w =>
 nv (IntKind.i64.wrap (d+g)) fun x =>
 ix a b x fun y =>
 lC h (y.add (x.toNat*10)) fun x y z A B C D E F G H I =>
 ix a b j fun J =>
 xI h (J.add (j.toNat*10)) l m n o p q r s t u v w fun j =>
 CK i j ∧
 (ix a b k fun i =>
 xI j (i.add (k.toNat*10)) x y z A B C D E F G H I fun i =>
 inc g fun g =>
 b3 a b c d e f g i)))
 (R (.tuple #[]) h)
def q3 (R:VP):QT:=(Exit.inBlock 0 (qf R))
@[irreducible] def l3 (R:VP) (k:Nat):T3:=fun a b c d e f g w=>aZ [0,1,2,3,10] (C [1,0,0]) (q3 R) k (fr ((.slice a b c::(.int .i64 d::(.int .i64 e::(.int .i64 f::U 6 (.int .i64 g::U 27 []))))))) w
def e3 (R:VP):T3:=fun a b c d e f g w=>∃ k,l3 R k a b c d e f g w
theorem u3 (R k a b c d e f g w):l3 R (k+1) a b c d e f g w=g3 R (l3 R k) a b c d e f g w:=ju (by kernel_rfl)
end iQ
def iQ (R:VP):=iQ.g0 R (iQ.e3 R)
theorem iQ.calls {R a b c d e f w} (k:iQ R a b c d e f w):CA 118 #[.slice a b c,.int .i64 d,.int .i64 e,.int .i64 f,.func (.func 80) #[] #[]] w R:=cal (n:=iQ.an) func118 rfl k (by kernel_rfl)
open Go.Proofs.Tryz (f119 func119)
namespace kF
def an:An:=(aR (aL (.mk (some [0,1,2,3,10]) .nil .nil)))
def qf (R:VP):QT:=fin prog f119 R
def C:=cdN prog f119 an
abbrev T3:=OA→Nat→Nat→Int→Int→Int→Int→World→Prop
def g0 (R:VP) (e3:T3) (a:OA) (b c:Nat) (d e f:Int) (g:Addr) (h:World):Prop :=
 e3 a b c d e f 0 h
def g3 (R:VP) (b3:T3) (a:OA) (b c:Nat) (d e f g:Int) (h:World):Prop :=
 af (decide (g<f))
 (∃ i:World,CK i h ∧
 (nv (IntKind.i64.wrap (d+g)) fun j =>
 nv (IntKind.i64.wrap (e+g)) fun k =>
 nv (IntKind.i64.wrap (e+g)) fun l =>
 ix a b l fun m =>
 mi h (m.add (l.toNat*5)) fun l m n o p q r =>
 nv (IntKind.i64.wrap (d+g)) fun s =>
 ix a b s fun t =>
 mi h (t.add (s.toNat*5)) fun s t u v w x y =>
 ix a b j fun z =>
 vw h (z.add (j.toNat*5)) l m n o p q r fun j =>
 CK i j ∧
 (ix a b k fun i =>
 vw j (i.add (k.toNat*5)) s t u v w x y fun i =>
 inc g fun g =>
 b3 a b c d e f g i)))
 (R (.tuple #[]) h)
def q3 (R:VP):QT:=(Exit.inBlock 0 (qf R))
@[irreducible] def l3 (R:VP) (k:Nat):T3:=fun a b c d e f g w=>aZ [0,1,2,3,10] (C [1,0,0]) (q3 R) k (fr ((.slice a b c::(.int .i64 d::(.int .i64 e::(.int .i64 f::U 6 (.int .i64 g::U 27 []))))))) w
def e3 (R:VP):T3:=fun a b c d e f g w=>∃ k,l3 R k a b c d e f g w
theorem u3 (R k a b c d e f g w):l3 R (k+1) a b c d e f g w=g3 R (l3 R k) a b c d e f g w:=ju (by kernel_rfl)
end kF
def kF (R:VP):=kF.g0 R (kF.e3 R)
theorem kF.calls {R a b c d e f g w} (k:kF R a b c d e f g w):CA 119 #[.slice a b c,.int .i64 d,.int .i64 e,.int .i64 f,.func (.func 90) #[] #[.pointer (some g)]] w R:=cal (n:=kF.an) func119 rfl k (by kernel_rfl)
open Go.Proofs.Tryz (f120 func120)
namespace jm
def an:An:=(aR (aL (.mk (some [0,1,2,3,10]) .nil .nil)))
def qf (R:VP):QT:=fin prog f120 R
def C:=cdN prog f120 an
abbrev T3:=OA→Nat→Nat→Int→Int→Int→Int→World→Prop
def g0 (R:VP) (e3:T3) (a:OA) (b c:Nat) (d e f:Int) (g:Addr) (h:World):Prop :=
 e3 a b c d e f 0 h
def g3 (R:VP) (b3:T3) (a:OA) (b c:Nat) (d e f g:Int) (h:World):Prop :=
 af (decide (g<f))
 (∃ i:World,CK i h ∧
 (nv (IntKind.i64.wrap (d+g)) fun j =>
 nv (IntKind.i64.wrap (e+g)) fun k =>
 nv (IntKind.i64.wrap (e+g)) fun l =>
 ix a b l fun m =>
 qg h (m.add (l.toNat*4)) fun l m n o p q r s t u =>
 nv (IntKind.i64.wrap (d+g)) fun v =>
 ix a b v fun w =>
 qg h (w.add (v.toNat*4)) fun v w x y z A B C D E =>
 ix a b j fun F =>
 Cm h (F.add (j.toNat*4)) l m n o p q r s t u fun j =>
 CK i j ∧
 (ix a b k fun i =>
 Cm j (i.add (k.toNat*4)) v w x y z A B C D E fun i =>
 inc g fun g =>
 b3 a b c d e f g i)))
 (R (.tuple #[]) h)
def q3 (R:VP):QT:=(Exit.inBlock 0 (qf R))
@[irreducible] def l3 (R:VP) (k:Nat):T3:=fun a b c d e f g w=>aZ [0,1,2,3,10] (C [1,0,0]) (q3 R) k (fr ((.slice a b c::(.int .i64 d::(.int .i64 e::(.int .i64 f::U 6 (.int .i64 g::U 27 []))))))) w
def e3 (R:VP):T3:=fun a b c d e f g w=>∃ k,l3 R k a b c d e f g w
theorem u3 (R k a b c d e f g w):l3 R (k+1) a b c d e f g w=g3 R (l3 R k) a b c d e f g w:=ju (by kernel_rfl)
end jm
def jm (R:VP):=jm.g0 R (jm.e3 R)
theorem jm.calls {R a b c d e f g w} (k:jm R a b c d e f g w):CA 120 #[.slice a b c,.int .i64 d,.int .i64 e,.int .i64 f,.func (.func 93) #[] #[.pointer (some g)]] w R:=cal (n:=jm.an) func120 rfl k (by kernel_rfl)
end Go.Mir
