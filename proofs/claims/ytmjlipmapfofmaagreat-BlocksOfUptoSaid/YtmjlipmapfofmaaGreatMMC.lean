/- Part of a proof of laws of the seat YtmjlipmapfofmaaGreat: functions' weakest preconditions, each checked by the kernel, contracts out of them, plain lemmas; no conditions. -/
import Derived.Test.YtmjlipmapfofmaaGreatMMA
set_option linter.unusedVariables false
set_option linter.unusedSimpArgs false
set_option linter.unusedSectionVars false
set_option linter.unusedVariables false
set_option maxRecDepth 100000
namespace Go.Mir
open Go Go.E Go.RowKit
open Go.Proofs.Tryz (prog)
open Go.Proofs.Tryz (f64 func64)
namespace jc
def an:An:=(aR (aR (aL (aR (aL (.mk (some [1,2,15,16,17]) .nil .nil))))))
def qf (R:VP):QT:=fin prog f64 R
def C:=cdN prog f64 an
abbrev T14:=OA→Nat→Nat→OA→Nat→Nat→Int→Int→World→Prop
def g0 (R:VP) (e14:T14) (a:OA) (b c:Nat) (d:OA) (e f:Nat) (g:World):Prop :=
 af ((b:Int) != (e:Int))
 (R (.bool false) g)
 (e14 d e f a b c (b:Int) 0 g)
def g14 (R:VP) (b14:T14) (a:OA) (b c:Nat) (d:OA) (e f:Nat) (g h:Int) (i:World):Prop :=
 af (decide (h<g))
 (ix d e h fun j =>
 qg i (j.add (h.toNat*4)) fun j k l m n o p q r s =>
 nw (i.alloc (.cells (uk 0 none 0 0 none 0 0 none 0 0) 74)) fun t =>
 Cm t (na i) j k l m n o p q r s fun j =>
 ix a b h fun k =>
 qg j (k.add (h.toNat*4)) fun k l m n o p q r s t =>
 nw (j.alloc (.cells (uk 0 none 0 0 none 0 0 none 0 0) 74)) fun u =>
 Cm u (na j) k l m n o p q r s t fun k =>
 qg k (na i) fun l m n o p q r s t u =>
 qg k (na j) fun j v w x y z A B C D =>
 CA 65 #[zQ l m n o p q r s t u,zQ j v w x y z A B C D] k fun j k =>
 ∃ l,j = .bool l ∧
 (af (!l)
 (R (.bool false) k)
 (inc h fun h =>
 b14 a b c d e f g h k)))
 (R (.bool true) i)
def q14 (R:VP):QT:=(Exit.inBlock 0 (qS none (C [1,1,1]) (qf R)))
@[irreducible] def l14 (R:VP) (k:Nat):T14:=fun a b c d e f g h w=>aZ [1,2,15,16,17] (C [1,1,0,1,0,0]) (q14 R) k (fr (U 1 (.slice a b c::(.func (.func 65) #[] #[]::U 12 (.slice d e f::(.int .i64 g::(.int .i64 h::U 14 []))))))) w
def e14 (R:VP):T14:=fun a b c d e f g h w=>∃ k,l14 R k a b c d e f g h w
theorem u14 (R k a b c d e f g h w):l14 R (k+1) a b c d e f g h w=g14 R (l14 R k) a b c d e f g h w:=ju (by kernel_rfl)
end jc
def jc (R:VP):=jc.g0 R (jc.e14 R)
theorem jc.calls {R a b c d e f w} (k:jc R a b c d e f w):CA 64 #[.slice a b c,.slice d e f,.func (.func 65) #[] #[]] w R:=cal (n:=jc.an) func64 rfl k (by kernel_rfl)
open Go.Proofs.Tryz (f65 func65)
namespace dV
def an:An:=An.nil
def g0 (R:VP) (a:Int) (b:OA) (c d:Nat) (e:OA) (f g:Nat) (h:OA) (i j:Nat) (k:Int) (l:OA) (m n:Nat) (o:OA) (p q:Nat) (r:OA) (s t:Nat) (u:World):Prop :=
 nw (u.alloc (.cells (uk a b c d e f g h i j) 74)) fun a =>
 nw (a.alloc (.cells (uk k l m n o p q r s t) 74)) fun b =>
 cI b ((na u).add 0) .i64 fun c =>
 cI b ((na a).add 0) .i64 fun d =>
 af (c==d)
 (cL b ((na u).add 1) fun c d e =>
 cL b ((na a).add 1) fun f g h =>
 CA 66 #[.slice c d e,.slice f g h] b fun c d =>
 ∃ e,c = .bool e ∧
 (af e
 (cL d ((na u).add 2) fun c e f =>
 cL d ((na a).add 2) fun g h i =>
 CA 66 #[.slice c e f,.slice g h i] d fun c e =>
 ∃ f,c = .bool f ∧
 (af f
 (cL e ((na u).add 3) fun c f g =>
 cL e ((na a).add 3) fun a h i =>
 CA 66 #[.slice c f g,.slice a h i] e fun a c =>
 ∃ f,a = .bool f ∧
 (R (.bool f) c))
 (R (.bool false) e)))
 (R (.bool false) d)))
 (R (.bool false) b)
end dV
def dV (R:VP):=dV.g0 R
theorem dV.calls {R a b c d e f g h i j l m n o p q r s t u w} (k:dV R a b c d e f g h i j l m n o p q r s t u w):CA 65 #[zQ a b c d e f g h i j,zQ l m n o p q r s t u] w R:=cal (n:=dV.an) func65 rfl k (by kernel_rfl)
open Go.Proofs.Tryz (f66 func66)
namespace gY
def an:An:=An.nil
def g0 (R:VP) (a:OA) (b c:Nat) (d:OA) (e f:Nat) (g:World):Prop :=
 CA 82 #[.slice a b c,.slice d e f,.func (.func 83) #[] #[]] g fun a b =>
 ∃ c,a = .bool c ∧
 (R (.bool c) b)
end gY
def gY (R:VP):=gY.g0 R
theorem gY.calls {R a b c d e f w} (k:gY R a b c d e f w):CA 66 #[.slice a b c,.slice d e f] w R:=cal (n:=gY.an) func66 rfl k (by kernel_rfl)
open Go.Proofs.Tryz (f68 func68)
namespace ik
def an:An:=An.nil
def g0 (R:VP) (a:Int) (b:OA) (c d:Nat) (e:Bool) (f:World):Prop :=
 nw (f.alloc (.cells (lg a b c d) 50)) fun a =>
 nw (a.alloc (.cells #[.bool e] 4)) fun b =>
 lK b (na f) fun c d e g =>
 CA 84 #[jv c d e g] b fun b c =>
 ∃ d e,b = .tuple #[.int .i64 d,.int .i64 e] ∧
 (af (d != 0)
 (R (.tuple #[.slice none 0 0,.int .i64 d]) c)
 (nw (c.alloc (.cells #[.slice none 0 0] 53)) fun b =>
 lK b (na f) fun d e g h =>
 CA 85 #[jv d e g h] b fun b d =>
 ∃ e,b=e ∧
 (JJ prog e d
 (fun b d d e =>
 cL d ((na f).add 1) fun f g h =>
 ix f g b fun f =>
 lU d (f.add (b.toNat*8)) fun f g h i j k l m n o =>
 ∃ p,(∀ q:World,Below d.heap.size d q→CA 86 #[EX f g h i j k l m n o] q fun f g=>f = .bool p∧Below d.heap.size d g) ∧
 (cB d (na a) fun a =>
 ∀ f:World,Below d.heap.size d f →
 af (p==a)
 (cL f (na c) fun a d g =>
 nw (f.alloc (.cells #[.int .i64 b] 3)) fun b =>
 dm prog (Builtin.append_ #[53,53] 53 #[.slice a d g,.slice (some (na f)) 1 1]) b fun a b =>
 ∃ d g h,a = .slice d g h ∧
 (st b ((na c).add 0) (.slice d g h) fun a =>
 e a))
 (e f)))
 (fun a b =>
 cL b (na c) fun c d e =>
 b.heap[a]?=some (.deferred (some [])) ∧
 nw (b.putObj a (.deferred none)) fun a =>
 R (.tuple #[.slice c d e,.int .i64 0]) a))))
end ik
def ik (R:VP):=ik.g0 R
theorem ik.calls {R a b c d e w} (k:ik R a b c d e w):CA 68 #[jv a b c d,.bool e] w R:=cal (n:=ik.an) func68 rfl k (by kernel_rfl)
open Go.Proofs.Tryz (f69 func69)
namespace bW
def an:An:=(aR (aR (aR (aL (aR (aL (.mk (some [1,20,21,22]) (aR (aR (aL (aL (aR (aR (aR (aR (aR (aL (.mk (some [1,20,21,22,38,39,40]) .nil .nil))))))))))) .nil)))))))
def qf (R:VP):QT:=fin prog f69 R
def C:=cdN prog f69 an
abbrev T22:=Int→OA→Nat→Nat→Int→Int→World→Prop
abbrev T54:=Int→OA→Nat→Nat→Int→Int→OA→Nat→Nat→Int→Int→World→Prop
def g0 (R:VP) (e22:T22) (a:OA) (b c:Nat) (d:Int) (e:World):Prop :=
 af (decide (d<0))
 (R (.int .i64 2) e)
 (af (decide (d>65536))
 (R (.int .i64 2) e)
 (af (decide ((b:Int)>65536))
 (R (.int .i64 3) e)
 (e22 d a b c (b:Int) 0 e)))
def g22 (R:VP) (e54:T54) (a:Int) (b:OA) (c d:Nat) (e f:Int) (g:World):Prop :=
 af (decide (f<e))
 (ix b c f fun h =>
 lK g (h.add (f.toNat*2)) fun h i j k =>
 nw (g.alloc (.cells (lg 0 none 0 0) 50)) fun l =>
 DN l (na g) h i j k fun h =>
 lK h (na g) fun i j k l =>
 CA 48 #[jv i j k l] h fun h i =>
 ∃ j k l m,h = .tuple #[.slice j k l,.int .i64 m] ∧
 (af (m != 0)
 (R (.int .i64 m) i)
 (af (decide ((k:Int)>4096))
 (R (.int .i64 3) i)
 (cL i ((na g).add 1) fun h j k =>
 e54 a b c d e f h j k (j:Int) 0 i))))
 (R (.int .i64 0) g)
def g54 (R:VP) (b22:T22) (b54:T54) (a:Int) (b:OA) (c d:Nat) (e f:Int) (g:OA) (h i:Nat) (j k:Int) (l:World):Prop :=
 af (decide (k<j))
 (ix g h k fun m =>
 lU l (m.add (k.toNat*8)) fun m n o p q r s t u v =>
 nw (l.alloc (.cells (pO 0 0 0 0 none 0 0 0 0 0) 56)) fun w =>
 vS w (na l) m n o p q r s t u v fun m =>
 cI m ((na l).add 0) .u8 fun n =>
 af (n != 1)
 (cI m ((na l).add 2) .i64 fun n =>
 af (decide (n≥a))
 (R (.int .i64 72) m)
 (inc k fun n =>
 b54 a b c d e f g h i j n m))
 (inc k fun k =>
 b54 a b c d e f g h i j k m))
 (inc f fun f =>
 b22 a b c d e f l)
def q22 (R:VP):QT:=(Exit.inBlock 0 (qS none (C [1,1,1,1]) (qf R)))
@[irreducible] def l22 (R:VP) (k:Nat):T22:=fun a b c d e f w=>aZ [1,20,21,22] (C [1,1,1,0,1,0,0]) (q22 R) k (fr (U 1 (.int .i64 a::U 18 (.slice b c d::(.int .i64 e::(.int .i64 f::U 32 [])))))) w
def e22 (R:VP):T22:=fun a b c d e f w=>∃ k,l22 R k a b c d e f w
def q54 (R:VP) (k22:Nat):QT:=(Exit.inBlock 2 (Exit.inBlock 1 (qS none (C [1,1,1,0,1,0,0,1,1,1]) (qL [1,20,21,22] (C [1,1,1,0,1,0,0]) (q22 R) k22))))
def UH (R:VP) (k22:Nat) (k:Nat):T54:=fun a b c d e f g h i j l w=>aZ [1,20,21,22,38,39,40] (C [1,1,1,0,1,0,0,1,1,0,0,1,1,1,1,1,0,0]) (q54 R k22) k (fr (U 1 (.int .i64 a::U 18 (.slice b c d::(.int .i64 e::(.int .i64 f::U 15 (.slice g h i::(.int .i64 j::(.int .i64 l::U 14 []))))))))) w
def We (R:VP) (k22:Nat):T54:=fun a b c d e f g h i j l w=>∃ k,UH R k22 k a b c d e f g h i j l w
def l54 (R:VP) (b22:T22):Nat→T54
 | 0=>fun _ _ _ _ _ _ _ _ _ _ _ _=>False
 | k+1=>g54 R b22 (l54 R b22 k)
def e54 (R:VP) (b22:T22):T54:=fun a b c d e f g h i j l w=>∃ k,l54 R b22 k a b c d e f g h i j l w
theorem s54 (R:VP) (k22:Nat) (k:Nat):UH R k22 (k+1)=fun a b c d e f g h i j l w=>∀ _:Nat→Value,g54 R (l22 R k22) (UH R k22 k) a b c d e f g h i j l w:=by kernel_rfl
theorem Wj (R:VP) (k22:Nat) (b22:T22) (hb22:b22=l22 R k22):∀ k,l54 R b22 k=UH R k22 k
 | 0=>by kernel_rfl
 | k+1=>by
  rw [s54]
  simp only [forall_const]
  unfold l54
  have ih:=Wj R k22 b22 hb22 k
  subst hb22
  rw [ih]
  all_goals rfl
theorem X6 (R:VP) (k22:Nat) (b22:T22) (hb22:b22=l22 R k22):e54 R b22=We R k22:=by
 unfold e54 We
 simp only [Wj R k22 b22 hb22]
theorem u22 (R k a b c d e f w):l22 R (k+1) a b c d e f w=g22 R (e54 R (l22 R k)) a b c d e f w:=by rw [X6 R k _ rfl]; exact ju (by kernel_rfl)
end bW
def bW (R:VP):=bW.g0 R (bW.e22 R)
theorem bW.calls {R a b c d w} (k:bW R a b c d w):CA 69 #[.slice a b c,.int .i64 d] w R:=cal (n:=bW.an) func69 rfl k (by kernel_rfl)
open Go.Proofs.Tryz (f70 func70)
namespace iw
def an:An:=An.nil
def g0 (R:VP) (a:Int) (b:OA) (c d:Nat) (e:World):Prop :=
 nw (e.alloc (.cells (lg a b c d) 50)) fun a =>
 lK a (na e) fun b c d f =>
 CA 87 #[jv b c d f] a fun a b =>
 ∃ c d,a = .tuple #[.int .i64 c,.int .i64 d] ∧
 (af (d != 0)
 (R (.tuple #[.slice none 0 0,.int .i64 d]) b)
 (nw (b.alloc (.cells #[.slice none 0 0] 131)) fun a =>
 nw (a.alloc (.cells #[.nilFunc] 154)) fun c =>
 st c ((na a).add 0) (.func (.func 88) #[] #[.pointer (some (na e)),.pointer (some (na b)),.pointer (some (na a))]) fun c =>
 cV c (na a) fun a =>
 uV prog a #[.int .i64 0,.int .i64 0] c fun a c =>
 ∃ d,a = .int .i64 d ∧
 (cL c (na b) fun a b d =>
 R (.tuple #[.slice a b d,.int .i64 0]) c)))
end iw
def iw (R:VP):=iw.g0 R
theorem iw.calls {R a b c d w} (k:iw R a b c d w):CA 70 #[jv a b c d] w R:=cal (n:=iw.an) func70 rfl k (by kernel_rfl)
open Go.Proofs.Tryz (f71 func71)
namespace gG
def an:An:=An.nil
def g0 (R:VP) (a:Nat) (b:OA) (c d:Nat) (e f g:Int) (h:World):Prop :=
 nw (h.alloc (.cells (oG a b c d e f g) 76)) fun a =>
 nw (a.alloc (.cells (oG 0 none 0 0 0 0 0) 76)) fun b =>
 cL b ((na h).add 1) fun c d e =>
 dm prog (Builtin.append_ #[53,53] 53 #[.slice none 0 0,.slice c d e]) b fun b c =>
 ∃ d e f,b = .slice d e f ∧
 (st c (((na h).add 1).add 0) (.slice d e f) fun b =>
 mi b (na h) fun c d e f g h i =>
 vw b (na a) c d e f g h i fun b =>
 mi b (na a) fun a c d e f g h =>
 R (oI a c d e f g h) b)
end gG
def gG (R:VP):=gG.g0 R
theorem gG.calls {R a b c d e f g w} (k:gG R a b c d e f g w):CA 71 #[oI a b c d e f g] w R:=cal (n:=gG.an) func71 rfl k (by kernel_rfl)
open Go.Proofs.Tryz (f72 func72)
namespace iT
def an:An:=An.nil
def g0 (R:VP) (a:OA) (b c:Nat) (d:World):Prop :=
 nw (d.alloc (.cells #[.func (.func 73) #[] #[]] 138)) fun e =>
 CA 89 #[.slice a b c,.func (.func 90) #[] #[.pointer (some (na d))]] e fun a b =>
 a = .tuple #[] ∧
 (R (.tuple #[]) b)
end iT
def iT (R:VP):=iT.g0 R
theorem iT.calls {R a b c w} (k:iT R a b c w):CA 72 #[.slice a b c,.func (.func 73) #[] #[]] w R:=cal (n:=iT.an) func72 rfl k (by kernel_rfl)
end Go.Mir
set_option linter.unusedVariables false
set_option maxRecDepth 100000
namespace Go.Mir
open Go Go.E Go.RowKit
open Go.Proofs.Tryz (prog)
open Go.Proofs.Tryz (f73 func73)
namespace iV
def an:An:=An.nil
def g0 (R:VP) (a:Nat) (b:OA) (c d:Nat) (e f g:Int) (h:World):Prop :=
 nw (h.alloc (.cells (oG a b c d e f g) 76)) fun a =>
 cF a ((na h).add 0) .f64 fun b =>
 CA 74 #[.float .f64 b] a fun a b =>
 ∃ c,a = .int .u64 c ∧
 (R (.int .u64 c) b)
end iV
def iV (R:VP):=iV.g0 R
theorem iV.calls {R a b c d e f g w} (k:iV R a b c d e f g w):CA 73 #[oI a b c d e f g] w R:=cal (n:=iV.an) func73 rfl k (by kernel_rfl)
open Go.Proofs.Tryz (f74 func74)
namespace jl
def an:An:=An.nil
def g0 (R:VP) (a:Nat) (b:World):Prop :=
 ∃ c,pV prog (callFunc 56 #[.float .f64 a]) b (.int .u64 c) ∧
 (af (FloatKind.f64.format.order a a != some .eq)
 (R (.int .u64 18437736874454810625) b)
 (nv (Int.fdiv c (2 ^ (min (63:Int).toNat 64))) fun a =>
 af (a==0)
 (nv (IntKind.u64.wrap (9218868437227405312+c)) fun a =>
 R (.int .u64 a) b)
 (nv (Kt .andNot .u64 c 9223372036854775808) fun a =>
 nv (IntKind.u64.wrap (9218868437227405312 - a)) fun a =>
 R (.int .u64 a) b)))
end jl
def jl (R:VP):=jl.g0 R
theorem jl.calls {R a w} (k:jl R a w):CA 74 #[.float .f64 a] w R:=cal (n:=jl.an) func74 rfl k (by kernel_rfl)
open Go.Proofs.Tryz (f75 func75)
namespace iC
def an:An:=An.nil
def g0 (R:VP) (a:OA) (b c:Nat) (d:World):Prop :=
 nw (d.alloc (.cells #[.func (.func 76) #[] #[]] 140)) fun e =>
 CA 92 #[.slice a b c,.func (.func 93) #[] #[.pointer (some (na d))]] e fun a b =>
 a = .tuple #[] ∧
 (R (.tuple #[]) b)
end iC
def iC (R:VP):=iC.g0 R
theorem iC.calls {R a b c w} (k:iC R a b c w):CA 75 #[.slice a b c,.func (.func 76) #[] #[]] w R:=cal (n:=iC.an) func75 rfl k (by kernel_rfl)
open Go.Proofs.Tryz (f76 func76)
namespace iR
def an:An:=An.nil
def g0 (R:VP) (a:Int) (b:OA) (c d:Nat) (e:OA) (f g:Nat) (h:OA) (i j:Nat) (k:World):Prop :=
 nw (k.alloc (.cells (uk a b c d e f g h i j) 74)) fun a =>
 cI a ((na k).add 0) .i64 fun b =>
 R (.int .i64 b) a
end iR
def iR (R:VP):=iR.g0 R
theorem iR.calls {R a b c d e f g h i j w} (k:iR R a b c d e f g h i j w):CA 76 #[zQ a b c d e f g h i j] w R:=cal (n:=iR.an) func76 rfl k (by kernel_rfl)
open Go.Proofs.Tryz (f77 func77)
namespace bg
def an:An:=(aR (aR (aR (aR (aL (aR (aL (.mk (some [1,2,8,20,21,22]) .nil .nil))))))))
def qf (R:VP):QT:=fin prog f77 R
def C:=cdN prog f77 an
abbrev T18:=Bool→OA→OA→Nat→Nat→OA→Nat→Nat→Int→Int→World→Prop
def g0 (R:VP) (e18:T18) (a:Int) (b:OA) (c d:Nat) (e:Bool) (f:World):Prop :=
 nw (f.alloc (.cells (lg a b c d) 50)) fun a =>
 lK a (na f) fun b c d g =>
 CA 95 #[jv b c d g] a fun a b =>
 ∃ c d,a = .tuple #[.int .i64 c,.int .i64 d] ∧
 (af (c != 0)
 (R (.tuple #[.slice none 0 0,.int .i64 c]) b)
 (lK b (na f) fun a c d g =>
 CA 96 #[jv a c d g] b fun a b =>
 ∃ c d g,a = .slice c d g ∧
 (e18 e (some (na f)) none 0 0 c d g (d:Int) 0 b)))
def g18 (R:VP) (b18:T18) (a:Bool) (b c:OA) (d e:Nat) (f:OA) (g h:Nat) (i j:Int) (k:World):Prop :=
 af (decide (j<i))
 (ix f g j fun l =>
 cI k (l.add (j.toNat*1)) .i64 fun l =>
 bK b fun m =>
 cL k (m.add 1) fun m n o =>
 ix m n l fun m =>
 cI k ((m.add (l.toNat*8)).add 0) .u8 fun m =>
 af ((m==1)==a)
 (nw (k.alloc (.cells #[.int .i64 l] 3)) fun l =>
 dm prog (Builtin.append_ #[53,53] 53 #[.slice c d e,.slice (some (na k)) 1 1]) l fun l m =>
 ∃ n o p,l = .slice n o p ∧
 (inc j fun l =>
 b18 a b n o p f g h i l m))
 (inc j fun j =>
 b18 a b c d e f g h i j k))
 (R (.tuple #[.slice c d e,.int .i64 0]) k)
def q18 (R:VP):QT:=(Exit.inBlock 0 (qS none (C [1,1,1,1,1]) (qf R)))
@[irreducible] def l18 (R:VP) (k:Nat):T18:=fun a b c d e f g h i j w=>aZ [1,2,8,20,21,22] (C [1,1,1,1,0,1,0,0]) (q18 R) k (fr (U 1 (.bool a::(.pointer b::U 5 (.slice c d e::U 11 (.slice f g h::(.int .i64 i::(.int .i64 j::U 18 [])))))))) w
def e18 (R:VP):T18:=fun a b c d e f g h i j w=>∃ k,l18 R k a b c d e f g h i j w
theorem u18 (R k a b c d e f g h i j w):l18 R (k+1) a b c d e f g h i j w=g18 R (l18 R k) a b c d e f g h i j w:=ju (by kernel_rfl)
end bg
def bg (R:VP):=bg.g0 R (bg.e18 R)
theorem bg.calls {R a b c d e w} (k:bg R a b c d e w):CA 77 #[jv a b c d,.bool e] w R:=cal (n:=bg.an) func77 rfl k (by kernel_rfl)
open Go.Proofs.Tryz (f78 func78)
namespace aG
def an:An:=(aR (aR (aR (aL (aR (aL (.mk (some [4,5,13,14,15]) (aR (aR (aL (aL (aR (aR (aR (aL (.mk (some [4,5,6,7,13,14,15,25,26,27]) .nil .nil))))))))) .nil)))))))
def qf (R:VP):QT:=fin prog f78 R
def C:=cdN prog f78 an
abbrev T10:=OA→Nat→Nat→OA→Nat→Nat→OA→Nat→Nat→Int→Int→World→Prop
abbrev T26:=OA→Nat→Nat→OA→Nat→Nat→Int→OA→OA→Nat→Nat→Int→Int→OA→Nat→Nat→Int→Int→World→Prop
def g0 (R:VP) (e10:T10) (a:OA) (b c:Nat) (d:World):Prop :=
 e10 none 0 0 none 0 0 a b c (b:Int) 0 d
def g10 (R:VP) (e26:T26) (a:OA) (b c:Nat) (d:OA) (e f:Nat) (g:OA) (h i:Nat) (j k:Int) (l:World):Prop :=
 af (decide (k<j))
 (ix g h k fun m =>
 lK l (m.add (k.toNat*2)) fun m n o p =>
 nw (l.alloc (.cells (lg 0 none 0 0) 50)) fun q =>
 DN q (na l) m n o p fun m =>
 lK m (na l) fun n o p q =>
 CA 97 #[jv n o p q] m fun m n =>
 ∃ o p q r,m = .tuple #[.slice o p q,.int .i64 r] ∧
 (e26 a b c d e f k (some (na l)) g h i j k o p q (p:Int) 0 n))
 (R (.tuple #[.slice a b c,.slice d e f]) l)
def g26 (R:VP) (b10:T10) (b26:T26) (a:OA) (b c:Nat) (d:OA) (e f:Nat) (g:Int) (h i:OA) (j k:Nat) (l m:Int) (n:OA) (o p:Nat) (q r:Int) (s:World):Prop :=
 af (decide (r<q))
 (ix n o r fun t =>
 SG s (t.add (r.toNat*3)) fun t u v =>
 nw (s.alloc (.cells (Ko 0 0 0) 135)) fun w =>
 Uh w (na s) t u v fun t =>
 bK h fun u =>
 cL t (u.add 1) fun u v v =>
 cI t ((na s).add 0) .i64 fun w =>
 cI t ((na s).add 0) .i64 fun x =>
 inc x fun x =>
 chk ((0:Int)≤x∧x≤(v:Int))
 (chk ((0:Int)≤w∧w≤(x.toNat:Int))
 (CA 22 #[.slice (slA u v w.toNat 8) (x.toNat - w.toNat) (v - w.toNat)] t fun t u =>
 ∃ v w x,t = .slice v w x ∧
 (ix v w 0 fun t =>
 lU u (t.add 0) fun t v w x y z A B C D =>
 nw (u.alloc (.cells (pO 0 0 0 0 none 0 0 0 0 0) 56)) fun E =>
 vS E (na u) t v w x y z A B C D fun t =>
 cF t ((na u).add 3) .f64 fun v =>
 cL t ((na u).add 4) fun w x y =>
 cI t ((na s).add 1) .i64 fun z =>
 cI t ((na s).add 2) .i64 fun A =>
 nw (t.alloc (.cells (oG v w x y g z A) 76)) fun v =>
 dm prog (Builtin.append_ #[72,72] 72 #[.slice a b c,.slice (some (na t)) 1 1]) v fun t v =>
 ∃ w x y,t = .slice w x y ∧
 (lU v (na u) fun t u z A B C D E F G =>
 nw (v.alloc (.cells (pO t u z A B C D E F G) 56)) fun t =>
 dm prog (Builtin.append_ #[48,48] 48 #[.slice d e f,.slice (some (na v)) 1 1]) t fun t u =>
 ∃ v z A,t = .slice v z A ∧
 (inc r fun r =>
 b26 w x y v z A g h i j k l m n o p q r u))))))
 (inc m fun g =>
 b10 a b c d e f i j k l g s)
def q10 (R:VP):QT:=(Exit.inBlock 0 (qS none (C [1,1,1,1]) (qf R)))
@[irreducible] def l10 (R:VP) (k:Nat):T10:=fun a b c d e f g h i j l w=>aZ [4,5,13,14,15] (C [1,1,1,0,1,0,0]) (q10 R) k (fr (U 4 (.slice a b c::(.slice d e f::U 7 (.slice g h i::(.int .i64 j::(.int .i64 l::U 47 []))))))) w
def e10 (R:VP):T10:=fun a b c d e f g h i j l w=>∃ k,l10 R k a b c d e f g h i j l w
def q26 (R:VP) (k10:Nat):QT:=(Exit.inBlock 2 (Exit.inBlock 1 (qS none (C [1,1,1,0,1,0,0,1,1,1]) (qL [4,5,13,14,15] (C [1,1,1,0,1,0,0]) (q10 R) k10))))
def Uy (R:VP) (k10:Nat) (k:Nat):T26:=fun a b c d e f g h i j l m n o p q r s w=>aZ [4,5,6,7,13,14,15,25,26,27] (C [1,1,1,0,1,0,0,1,1,0,0,1,1,1,0,0]) (q26 R k10) k (fr (U 4 (.slice a b c::(.slice d e f::(.int .i64 g::(.pointer h::U 5 (.slice i j l::(.int .i64 m::(.int .i64 n::U 9 (.slice o p q::(.int .i64 r::(.int .i64 s::U 35 [])))))))))))) w
def WV (R:VP) (k10:Nat):T26:=fun a b c d e f g h i j l m n o p q r s w=>∃ k,Uy R k10 k a b c d e f g h i j l m n o p q r s w
def l26 (R:VP) (b10:T10):Nat→T26
 | 0=>fun _ _ _ _ _ _ _ _ _ _ _ _ _ _ _ _ _ _ _=>False
 | k+1=>g26 R b10 (l26 R b10 k)
def e26 (R:VP) (b10:T10):T26:=fun a b c d e f g h i j l m n o p q r s w=>∃ k,l26 R b10 k a b c d e f g h i j l m n o p q r s w
theorem s26 (R:VP) (k10:Nat) (k:Nat):Uy R k10 (k+1)=fun a b c d e f g h i j l m n o p q r s w=>∀ _:Nat→Value,g26 R (l10 R k10) (Uy R k10 k) a b c d e f g h i j l m n o p q r s w:=by kernel_rfl
theorem WW (R:VP) (k10:Nat) (b10:T10) (hb10:b10=l10 R k10):∀ k,l26 R b10 k=Uy R k10 k
 | 0=>by kernel_rfl
 | k+1=>by
  rw [s26]
  simp only [forall_const]
  unfold l26
  have ih:=WW R k10 b10 hb10 k
  subst hb10
  rw [ih]
  all_goals rfl
theorem X7 (R:VP) (k10:Nat) (b10:T10) (hb10:b10=l10 R k10):e26 R b10=WV R k10:=by
 unfold e26 WV
 simp only [WW R k10 b10 hb10]
theorem u10 (R k a b c d e f g h i j l w):l10 R (k+1) a b c d e f g h i j l w=g10 R (e26 R (l10 R k)) a b c d e f g h i j l w:=by rw [X7 R k _ rfl]; exact ju (by kernel_rfl)
end aG
def aG (R:VP):=aG.g0 R (aG.e10 R)
theorem aG.calls {R a b c w} (k:aG R a b c w):CA 78 #[.slice a b c] w R:=cal (n:=aG.an) func78 rfl k (by kernel_rfl)
open Go.Proofs.Tryz (f79 func79)
namespace jw
def an:An:=An.nil
def g0 (R:VP) (a:OA) (b c:Nat) (d:World):Prop :=
 CA 98 #[.slice a b c,.int .i64 (b:Int),.func (.func 80) #[] #[]] d fun a b =>
 a = .tuple #[] ∧
 (R (.tuple #[]) b)
end jw
def jw (R:VP):=jw.g0 R
theorem jw.calls {R a b c w} (k:jw R a b c w):CA 79 #[.slice a b c,.func (.func 80) #[] #[]] w R:=cal (n:=jw.an) func79 rfl k (by kernel_rfl)
open Go.Proofs.Tryz (f80 func80)
namespace dP
def an:An:=An.nil
def g0 (R:VP) (a b c:Int) (d:Nat) (e:OA) (f g:Nat) (h i j k l m n o:Int) (p:Nat) (q:OA) (r s:Nat) (t u v w x:Int) (y:World):Prop :=
 nw (y.alloc (.cells (qY a b c d e f g h i j k l) 115)) fun a =>
 nw (a.alloc (.cells (qY m n o p q r s t u v w x) 115)) fun b =>
 cI b ((na a).add 9) .i64 fun a =>
 cI b ((na y).add 9) .i64 fun c =>
 nv (IntKind.i64.wrap (a - c)) fun a =>
 R (.int .i64 a) b
end dP
def dP (R:VP):=dP.g0 R
theorem dP.calls {R a b c d e f g h i j l m n o p q r s t u v x y z w} (k:dP R a b c d e f g h i j l m n o p q r s t u v x y z w):CA 80 #[wG a b c d e f g h i j l m,wG n o p q r s t u v x y z] w R:=cal (n:=dP.an) func80 rfl k (by kernel_rfl)
open Go.Proofs.Tryz (f81 func81)
namespace cO
def an:An:=An.nil
def g0 (R:VP) (a b:Int) (c d e f g:Addr) (h:World):Prop :=
 cB h c fun i =>
 af (!i)
 (R (.tuple #[]) h)
 (nv (IntKind.i64.wrap (b - a)) fun i =>
 af (i==1)
 (∃ i:Nat→Value→World→Prop,KpF i ∧
 (cL h (d.add 1) fun j k l =>
 cL h e fun e m n =>
 ix e m a fun e =>
 cI h (e.add (a.toNat*1)) .i64 fun e =>
 (∀ m:World,Below h.heap.size h m→i 7 (.slice (some (na m)) 1 1) (m.alloc (.cells (pO 1 e 0 0 none 0 0 0 0 0) 56))) ∧
 (∀ e:Addr,(∃ m,Below h.heap.size h m∧i 7 (.slice (some e) 1 1) m) →
 ∀ m:World,Below h.heap.size h m→i 7 (.slice (some e) 1 1) m →
 dm prog (Builtin.append_ #[48,48] 48 #[.slice j k l,.slice (some e) 1 1]) m fun e i =>
 ∃ j k l,e = .slice j k l ∧
 (st i ((d.add 1).add 0) (.slice j k l) fun e =>
 R (.tuple #[]) e))))
 (cM h f fun e =>
 dm prog (Instr.lookup 144 (.map e) (.int .i64 a) false) h fun e h =>
 ∃ i j k,e = .slice i j k ∧
 (af ((j:Int)==0)
 (st h (c.add 0) (.bool false) fun e =>
 R (.tuple #[]) e)
 (ix i j 0 fun e =>
 cI h ((e.add 0).add 9) .i64 fun e =>
 af (decide (e≥b))
 (st h (c.add 0) (.bool false) fun c =>
 R (.tuple #[]) c)
 (cM h f fun c =>
 chk ((0:Int)≤1∧1≤(j:Int))
 (dm prog (do Instr.mapUpdate 144 (.map c) (.int .i64 a) (.slice (slA i k 1 10) (j - 1) (k - 1)); pure undef) h fun _ c =>
 cL c (d.add 1) fun e e f =>
 ix i j 0 fun f =>
 lU c ((f.add 0).add 0) fun f h k l m n o p q r =>
 nw (c.alloc (.cells (pO 0 0 0 0 none 0 0 0 0 0) 56)) fun s =>
 vS s (na c) f h k l m n o p q r fun f =>
 nv (IntKind.i64.wrap ((e:Int)+1)) fun h =>
 st f (((na c).add 6).add 0) (.int .i64 h) fun f =>
 cL f (d.add 1) fun h k l =>
 lU f (na c) fun c m n o p q r s t u =>
 nw (f.alloc (.cells (pO c m n o p q r s t u) 56)) fun c =>
 dm prog (Builtin.append_ #[48,48] 48 #[.slice h k l,.slice (some (na f)) 1 1]) c fun c f =>
 ∃ h k l,c = .slice h k l ∧
 (st f ((d.add 1).add 0) (.slice h k l) fun c =>
 cV c g fun f =>
 ix i j 0 fun h =>
 cI c ((h.add 0).add 9) .i64 fun h =>
 Ob prog f #[.int .i64 a,.int .i64 h] c fun a c =>
 a = .tuple #[] ∧
 (cL c (d.add 1) fun a f h =>
 cL c (d.add 1) fun d d h =>
 ix a f (e:Int) fun a =>
 st c (((a.add ((e:Int).toNat*8)).add 7).add 0) (.int .i64 (d:Int)) fun a =>
 cV a g fun c =>
 ix i j 0 fun d =>
 cI a ((d.add 0).add 9) .i64 fun d =>
 Ob prog c #[.int .i64 d,.int .i64 b] a fun a b =>
 a = .tuple #[] ∧
 (R (.tuple #[]) b)))))))))
end cO
def cO (R:VP):=cO.g0 R
theorem cO.calls {R a b c d e f g w} (k:cO R a b c d e f g w):CA 81 #[.int .i64 a,.int .i64 b,.pointer (some c),.pointer (some d),.pointer (some e),.pointer (some f),.pointer (some g)] w R:=cal (n:=cO.an) func81 rfl k (by kernel_rfl)
open Go.Proofs.Tryz (f82 func82)
namespace kE
def an:An:=(aR (aR (aL (aR (aL (.mk (some [1,2,15,16,17]) .nil .nil))))))
def qf (R:VP):QT:=fin prog f82 R
def C:=cdN prog f82 an
abbrev T14:=OA→Nat→Nat→OA→Nat→Nat→Int→Int→World→Prop
def g0 (R:VP) (e14:T14) (a:OA) (b c:Nat) (d:OA) (e f:Nat) (g:World):Prop :=
 af ((b:Int) != (e:Int))
 (R (.bool false) g)
 (e14 d e f a b c (b:Int) 0 g)
def g14 (R:VP) (b14:T14) (a:OA) (b c:Nat) (d:OA) (e f:Nat) (g h:Int) (i:World):Prop :=
 af (decide (h<g))
 (ix d e h fun j =>
 mi i (j.add (h.toNat*5)) fun j k l m n o p =>
 nw (i.alloc (.cells (oG 0 none 0 0 0 0 0) 76)) fun q =>
 vw q (na i) j k l m n o p fun j =>
 ix a b h fun k =>
 mi j (k.add (h.toNat*5)) fun k l m n o p q =>
 nw (j.alloc (.cells (oG 0 none 0 0 0 0 0) 76)) fun r =>
 vw r (na j) k l m n o p q fun k =>
 mi k (na i) fun l m n o p q r =>
 mi k (na j) fun j s t u v w x =>
 CA 83 #[oI l m n o p q r,oI j s t u v w x] k fun j k =>
 ∃ l,j = .bool l ∧
 (af (!l)
 (R (.bool false) k)
 (inc h fun h =>
 b14 a b c d e f g h k)))
 (R (.bool true) i)
def q14 (R:VP):QT:=(Exit.inBlock 0 (qS none (C [1,1,1]) (qf R)))
@[irreducible] def l14 (R:VP) (k:Nat):T14:=fun a b c d e f g h w=>aZ [1,2,15,16,17] (C [1,1,0,1,0,0]) (q14 R) k (fr (U 1 (.slice a b c::(.func (.func 83) #[] #[]::U 12 (.slice d e f::(.int .i64 g::(.int .i64 h::U 14 []))))))) w
def e14 (R:VP):T14:=fun a b c d e f g h w=>∃ k,l14 R k a b c d e f g h w
theorem u14 (R k a b c d e f g h w):l14 R (k+1) a b c d e f g h w=g14 R (l14 R k) a b c d e f g h w:=ju (by kernel_rfl)
end kE
def kE (R:VP):=kE.g0 R (kE.e14 R)
theorem kE.calls {R a b c d e f w} (k:kE R a b c d e f w):CA 82 #[.slice a b c,.slice d e f,.func (.func 83) #[] #[]] w R:=cal (n:=kE.an) func82 rfl k (by kernel_rfl)
end Go.Mir
set_option linter.unusedVariables false
set_option maxRecDepth 100000
namespace Go.Mir
open Go Go.E Go.RowKit
open Go.Proofs.Tryz (prog)
open Go.Proofs.Tryz (f83 func83)
namespace fK
def an:An:=An.nil
def g0 (R:VP) (a:Nat) (b:OA) (c d:Nat) (e f g:Int) (h:Nat) (i:OA) (j k:Nat) (l m n:Int) (o:World):Prop :=
 nw (o.alloc (.cells (oG a b c d e f g) 76)) fun a =>
 nw (a.alloc (.cells (oG h i j k l m n) 76)) fun b =>
 cF b ((na o).add 0) .f64 fun c =>
 ∃ d,pV prog (callFunc 56 #[.float .f64 c]) b (.int .u64 d) ∧
 (cF b ((na a).add 0) .f64 fun c =>
 ∃ e,pV prog (callFunc 56 #[.float .f64 c]) b (.int .u64 e) ∧
 (af (d==e)
 (cL b ((na o).add 1) fun c d e =>
 cL b ((na a).add 1) fun f g h =>
 ∃ i,(∀ j:World,Below b.heap.size b j→CA 57 #[.slice c d e,.slice f g h] j fun c d=>c = .bool i∧Below b.heap.size b d) ∧
 (af i
 (cI b ((na o).add 2) .i64 fun c =>
 cI b ((na a).add 2) .i64 fun d =>
 af (c==d)
 (cI b ((na o).add 3) .i64 fun c =>
 cI b ((na a).add 3) .i64 fun d =>
 af (c==d)
 (cI b ((na o).add 4) .i64 fun c =>
 cI b ((na a).add 4) .i64 fun a =>
 ∀ d:World,Below b.heap.size b d →
 R (.bool (c==a)) d)
 (∀ a:World,Below b.heap.size b a →
 R (.bool false) a))
 (∀ a:World,Below b.heap.size b a →
 R (.bool false) a))
 (∀ a:World,Below b.heap.size b a →
 R (.bool false) a)))
 (∀ a:World,Below b.heap.size b a →
 R (.bool false) a)))
end fK
def fK (R:VP):=fK.g0 R
theorem fK.calls {R a b c d e f g h i j l m n o w} (k:fK R a b c d e f g h i j l m n o w):CA 83 #[oI a b c d e f g,oI h i j l m n o] w R:=cal (n:=fK.an) func83 rfl k (by kernel_rfl)
open Go.Proofs.Tryz (f84 func84)
namespace bC
def an:An:=(aR (aR (aR (.mk none (aR (aL (.mk (some [1,4,22,23,24]) .nil .nil))) (aR (aR (.mk none (aL (.mk (some [1,4,7,8]) .nil .nil)) (aL (aR (aL (.mk (some [4,7,95,96]) .nil .nil)))))))))))
def qf (R:VP):QT:=fin prog f84 R
def C:=cdN prog f84 an
abbrev T16:=OA→OA→Nat→Nat→OA→Nat→Nat→Int→Int→World→Prop
abbrev T49:=OA→OA→Nat→Nat→OA→Nat→Nat→OA→Nat→Nat→World→Prop
abbrev T80:=OA→Nat→Nat→OA→Nat→Nat→Int→Int→World→Prop
def g0 (R:VP) (e16:T16) (a:Int) (b:OA) (c d:Nat) (e:World):Prop :=
 nw (e.alloc (.cells (lg a b c d) 50)) fun a =>
 cL a ((na e).add 1) fun b b c =>
 af ((b:Int)==0)
 (R (.tuple #[.int .i64 70,.int .i64 0]) a)
 (cL a ((na e).add 1) fun b b c =>
 chk ((0:Int)≤(b:Int)∧(b:Int)≤(b:Int)∧((8:Nat):Int)*(b:Int)≤281474976710656∧(b:Int)≤9223372036854775807)
 (nw (a.alloc (.cells (madeCells #[.int .i64 0] (((b:Int)).toNat*1)) 3)) fun c =>
 cL c ((na e).add 1) fun d f g =>
 e16 (some (na e)) (some (na a)) (((b:Int)).toNat) (((b:Int)).toNat) d f g (f:Int) 0 c))
def g16 (R:VP) (b16:T16) (e49:T49) (a b:OA) (c d:Nat) (e:OA) (f g:Nat) (h i:Int) (j:World):Prop :=
 af (decide (i<h))
 (ix e f i fun k =>
 lU j (k.add (i.toNat*8)) fun k l m n o p q r s t =>
 nw (j.alloc (.cells (pO 0 0 0 0 none 0 0 0 0 0) 56)) fun u =>
 vS u (na j) k l m n o p q r s t fun k =>
 lU k (na j) fun l m n o p q r s t u =>
 bK a fun v =>
 cL k (v.add 1) fun v v w =>
 CA 99 #[EX l m n o p q r s t u,.int .i64 (v:Int)] k fun k l =>
 ∃ m,k = .bool m ∧
 (af (!m)
 (R (.tuple #[.int .i64 71,.int .i64 i]) l)
 (lU l (na j) fun k m n o p q r s t u =>
 CA 86 #[EX k m n o p q r s t u] l fun k l =>
 ∃ m,k = .bool m ∧
 (af m
 (cI l ((na j).add 6) .i64 fun k =>
 ix b c k fun m =>
 cI l (m.add (k.toNat*1)) .i64 fun m =>
 inc m fun m =>
 ix b c k fun n =>
 st l ((n.add (k.toNat*1)).add 0) (.int .i64 m) fun k =>
 cI k ((na j).add 7) .i64 fun m =>
 ix b c m fun n =>
 cI k (n.add (m.toNat*1)) .i64 fun n =>
 inc n fun n =>
 ix b c m fun o =>
 st k ((o.add (m.toNat*1)).add 0) (.int .i64 n) fun k =>
 inc i fun m =>
 b16 a b c d e f g h m k)
 (inc i fun i =>
 b16 a b c d e f g h i l)))))
 (bK a fun e =>
 cL j (e.add 1) fun e e f =>
 chk ((0:Int)≤(e:Int)∧(e:Int)≤(e:Int)∧((1:Nat):Int)*(e:Int)≤281474976710656∧(e:Int)≤9223372036854775807)
 (nw (j.alloc (.cells (madeCells #[.bool false] (((e:Int)).toNat*1)) 4)) fun f =>
 nw (f.alloc (.cells #[.int .i64 0] 3)) fun g =>
 e49 a b c d (some (na j)) (((e:Int)).toNat) (((e:Int)).toNat) (some (na f)) 1 1 g))
def g49 (R:VP) (b49:T49) (e80:T80) (a b:OA) (c d:Nat) (e:OA) (f g:Nat) (h:OA) (i j:Nat) (k:World):Prop :=
 af (decide ((i:Int)>0))
 (nv (IntKind.i64.wrap ((i:Int) - 1)) fun l =>
 ix h i l fun m =>
 cI k (m.add (l.toNat*1)) .i64 fun l =>
 nv (IntKind.i64.wrap ((i:Int) - 1)) fun i =>
 chk ((0:Int)≤i∧i≤(j:Int))
 (ix e f l fun m =>
 cB k (m.add (l.toNat*1)) fun m =>
 af m
 (b49 a b c d e f g (slA h j 0 1) i.toNat j k)
 (ix e f l fun m =>
 st k ((m.add (l.toNat*1)).add 0) (.bool true) fun m =>
 bK a fun n =>
 cL m (n.add 1) fun n o p =>
 ix n o l fun n =>
 lU m (n.add (l.toNat*8)) fun l n o p q r s t u v =>
 nw (m.alloc (.cells (pO 0 0 0 0 none 0 0 0 0 0) 56)) fun w =>
 vS w (na m) l n o p q r s t u v fun l =>
 lU l (na m) fun n o p q r s t u v w =>
 CA 86 #[EX n o p q r s t u v w] l fun l n =>
 ∃ o,l = .bool o ∧
 (af o
 (cI n ((na m).add 6) .i64 fun l =>
 cI n ((na m).add 7) .i64 fun m =>
 nw (n.alloc (.cells (Ej l m) 3)) fun l =>
 dm prog (Builtin.append_ #[53,53] 53 #[.slice (slA h j 0 1) i.toNat j,.slice (some (na n)) 2 2]) l fun l m =>
 ∃ o p q,l = .slice o p q ∧
 (b49 a b c d e f g o p q m))
 (b49 a b c d e f g (slA h j 0 1) i.toNat j n)))))
 (bK a fun a =>
 cL k (a.add 1) fun a a h =>
 e80 b c d e f g (a:Int) 0 k)
def g80 (R:VP) (b80:T80) (a:OA) (b c:Nat) (d:OA) (e f:Nat) (g h:Int) (i:World):Prop :=
 af (decide (h<g))
 (nv ((if 1<h then 1 else h)) fun j =>
 ix a b h fun k =>
 cI i (k.add (h.toNat*1)) .i64 fun k =>
 af (k != j)
 (R (.tuple #[.int .i64 70,.int .i64 h]) i)
 (ix d e h fun j =>
 cB i (j.add (h.toNat*1)) fun j =>
 af (!j)
 (R (.tuple #[.int .i64 70,.int .i64 h]) i)
 (inc h fun h =>
 b80 a b c d e f g h i)))
 (R (.tuple #[.int .i64 0,.int .i64 0]) i)
def q16 (R:VP):QT:=(Exit.inBlock 0 (qS none (C [1,1,1,1]) (qf R)))
@[irreducible] def l16 (R:VP) (k:Nat):T16:=fun a b c d e f g h i w=>aZ [1,4,22,23,24] (C [1,1,1,0,1,0,0]) (q16 R) k (fr (U 1 (.pointer a::U 2 (.slice b c d::U 17 (.slice e f g::(.int .i64 h::(.int .i64 i::U 91 []))))))) w
def e16 (R:VP):T16:=fun a b c d e f g h i w=>∃ k,l16 R k a b c d e f g h i w
def q49 (R:VP):QT:=(Exit.inBlock 2 (qS none (C [1,1,1,1,1,1,1]) (qf R)))
@[irreducible] def l49 (R:VP) (k:Nat):T49:=fun a b c d e f g h i j w=>aZ [1,4,7,8] (C [1,1,1,1,1,1,0,0,0]) (q49 R) k (fr (U 1 (.pointer a::U 2 (.slice b c d::U 2 (.slice e f g::(.slice h i j::U 107 [])))))) w
def e49 (R:VP):T49:=fun a b c d e f g h i j w=>∃ k,l49 R k a b c d e f g h i j w
def q80 (R:VP):QT:=(Exit.inBlock 4 (qS none (C [1,1,1,1,1,1,1,1]) (qf R)))
@[irreducible] def l80 (R:VP) (k:Nat):T80:=fun a b c d e f g h w=>aZ [4,7,95,96] (C [1,1,1,1,1,1,1,0,1,0,0]) (q80 R) k (fr (U 4 (.slice a b c::U 2 (.slice d e f::U 87 (.int .i64 g::(.int .i64 h::U 19 [])))))) w
def e80 (R:VP):T80:=fun a b c d e f g h w=>∃ k,l80 R k a b c d e f g h w
theorem u80 (R k a b c d e f g h w):l80 R (k+1) a b c d e f g h w=g80 R (l80 R k) a b c d e f g h w:=ju (by kernel_rfl)
theorem u49 (R k a b c d e f g h i j w):l49 R (k+1) a b c d e f g h i j w=g49 R (l49 R k) (e80 R) a b c d e f g h i j w:=ju (by kernel_rfl)
theorem u16 (R k a b c d e f g h i w):l16 R (k+1) a b c d e f g h i w=g16 R (l16 R k) (e49 R) a b c d e f g h i w:=ju (by kernel_rfl)
end bC
def bC (R:VP):=bC.g0 R (bC.e16 R)
theorem bC.calls {R a b c d w} (k:bC R a b c d w):CA 84 #[jv a b c d] w R:=cal (n:=bC.an) func84 rfl k (by kernel_rfl)
open Go.Proofs.Tryz (f85 func85)
namespace jo
def an:An:=An.nil
def g0 (R:VP) (a:Int) (b:OA) (c d:Nat) (e:World):Prop :=
 nw (e.alloc (.cells (lg a b c d) 50)) fun a =>
 R (.func (.func 100) #[] #[.pointer (some (na e))]) a
end jo
def jo (R:VP):=jo.g0 R
theorem jo.calls {R a b c d w} (k:jo R a b c d w):CA 85 #[jv a b c d] w R:=cal (n:=jo.an) func85 rfl k (by kernel_rfl)
open Go.Proofs.Tryz (f86 func86)
namespace iy
def an:An:=An.nil
def g0 (R:VP) (a b c:Int) (d:Nat) (e:OA) (f g:Nat) (h i j:Int) (k:World):Prop :=
 nw (k.alloc (.cells (pO a b c d e f g h i j) 56)) fun a =>
 cI a ((na k).add 0) .u8 fun b =>
 af (b==2)
 (R (.bool true) a)
 (cI a ((na k).add 0) .u8 fun b =>
 R (.bool (b==3)) a)
end iy
def iy (R:VP):=iy.g0 R
theorem iy.calls {R a b c d e f g h i j w} (k:iy R a b c d e f g h i j w):CA 86 #[EX a b c d e f g h i j] w R:=cal (n:=iy.an) func86 rfl k (by kernel_rfl)
open Go.Proofs.Tryz (f87 func87)
namespace gK
def an:An:=An.nil
def g0 (R:VP) (a:Int) (b:OA) (c d:Nat) (e:World):Prop :=
 nw (e.alloc (.cells (lg a b c d) 50)) fun a =>
 lK a (na e) fun b c d e =>
 CA 48 #[jv b c d e] a fun a b =>
 ∃ c d e f,a = .tuple #[.slice c d e,.int .i64 f] ∧
 (af (f==0)
 (af (decide ((d:Int)>4096))
 (R (.tuple #[.int .i64 0,.int .i64 3]) b)
 (R (.tuple #[.int .i64 (d:Int),.int .i64 f]) b))
 (R (.tuple #[.int .i64 (d:Int),.int .i64 f]) b))
end gK
def gK (R:VP):=gK.g0 R
theorem gK.calls {R a b c d w} (k:gK R a b c d w):CA 87 #[jv a b c d] w R:=cal (n:=gK.an) func87 rfl k (by kernel_rfl)
open Go.Proofs.Tryz (f88 func88)
namespace dM
def an:An:=An.nil
def g0 (R:VP) (a b:Int) (c d e:Addr) (f:World):Prop :=
 cL f (c.add 1) fun c g h =>
 ix c g a fun c =>
 lU f (c.add (a.toNat*8)) fun c g h i j k l m n o =>
 nw (f.alloc (.cells (pO 0 0 0 0 none 0 0 0 0 0) 56)) fun p =>
 vS p (na f) c g h i j k l m n o fun c =>
 cI c ((na f).add 0) .u8 fun g =>
 af (g==1)
 (inc b fun g =>
 R (.int .i64 g) c)
 (cL c d fun g g h =>
 cL c d fun h i j =>
 nw (c.alloc (.cells (Ko a b 0) 135)) fun a =>
 dm prog (Builtin.append_ #[131,131] 131 #[.slice h i j,.slice (some (na c)) 1 1]) a fun a c =>
 ∃ h i j,a = .slice h i j ∧
 (st c (d.add 0) (.slice h i j) fun a =>
 cV a e fun c =>
 cI a ((na f).add 6) .i64 fun h =>
 uV prog c #[.int .i64 h,.int .i64 b] a fun a b =>
 ∃ c,a = .int .i64 c ∧
 (cL b d fun a d h =>
 ix a d (g:Int) fun a =>
 st b (((a.add ((g:Int).toNat*3)).add 2).add 0) (.int .i64 c) fun a =>
 cV a e fun b =>
 cI a ((na f).add 7) .i64 fun d =>
 uV prog b #[.int .i64 d,.int .i64 c] a fun a b =>
 ∃ c,a = .int .i64 c ∧
 (R (.int .i64 c) b))))
end dM
def dM (R:VP):=dM.g0 R
theorem dM.calls {R a b c d e w} (k:dM R a b c d e w):CA 88 #[.int .i64 a,.int .i64 b,.pointer (some c),.pointer (some d),.pointer (some e)] w R:=cal (n:=dM.an) func88 rfl k (by kernel_rfl)
open Go.Proofs.Tryz (f89 func89)
namespace mY
def an:An:=An.nil
def g0 (R:VP) (a:OA) (b c:Nat) (d:Addr) (e:World):Prop :=
 CA 101 #[.slice a b c,.int .i64 (b:Int),.func (.func 90) #[] #[.pointer (some d)]] e fun a b =>
 a = .tuple #[] ∧
 (R (.tuple #[]) b)
end mY
def mY (R:VP):=mY.g0 R
theorem mY.calls {R a b c d w} (k:mY R a b c d w):CA 89 #[.slice a b c,.func (.func 90) #[] #[.pointer (some d)]] w R:=cal (n:=mY.an) func89 rfl k (by kernel_rfl)
open Go.Proofs.Tryz (f90 func90)
namespace gJ
def an:An:=An.nil
def g0 (R:VP) (a:Nat) (b:OA) (c d:Nat) (e f g:Int) (h:Nat) (i:OA) (j k:Nat) (l m n:Int) (o:Addr) (p:World):Prop :=
 nw (p.alloc (.cells (oG a b c d e f g) 76)) fun a =>
 nw (a.alloc (.cells (oG h i j k l m n) 76)) fun b =>
 cV b o fun c =>
 mi b (na p) fun d e f g h i j =>
 qfN prog c #[oI d e f g h i j] 104 b fun c =>
 cV b o fun d =>
 mi b (na a) fun a e f g h i j =>
 qfN prog d #[oI a e f g h i j] 104 b fun a =>
 ∃ d,(∀ e:World,Below b.heap.size b e→CA 91 #[c,a] e fun a c=>a = .int .i64 d∧Below b.heap.size b c) ∧
 (∀ a:World,Below b.heap.size b a →
 R (.int .i64 d) a)
end gJ
def gJ (R:VP):=gJ.g0 R
theorem gJ.calls {R a b c d e f g h i j l m n o p w} (k:gJ R a b c d e f g h i j l m n o p w):CA 90 #[oI a b c d e f g,oI h i j l m n o,.pointer (some p)] w R:=cal (n:=gJ.an) func90 rfl k (by kernel_rfl)
open Go.Proofs.Tryz (f91 func91)
namespace dW
def an:An:=An.nil
def g0 (R:VP) (a b:Int) (c:World):Prop :=
 CA 102 #[.int .u64 a] c fun c d =>
 ∃ e,c = .bool e ∧
 (CA 102 #[.int .u64 b] d fun c d =>
 ∃ f,c = .bool f ∧
 (af e
 (af f
 (R (.int .i64 0) d)
 (R (.int .i64 (-1)) d))
 (af f
 (R (.int .i64 1) d)
 (af (decide (a<b))
 (R (.int .i64 (-1)) d)
 (af (decide (a>b))
 (R (.int .i64 1) d)
 (R (.int .i64 0) d))))))
end dW
def dW (R:VP):=dW.g0 R
theorem dW.calls {R a b w} (k:dW R a b w):CA 91 #[.int .u64 a,.int .u64 b] w R:=cal (n:=dW.an) func91 rfl k (by kernel_rfl)
end Go.Mir
