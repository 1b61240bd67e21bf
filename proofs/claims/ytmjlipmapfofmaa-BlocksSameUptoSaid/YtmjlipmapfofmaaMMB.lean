/- Part of a proof of laws of the seat Ytmjlipmapfofmaa: functions' weakest preconditions, each checked by the kernel, contracts out of them, plain lemmas; no conditions. -/
import Derived.Test.YtmjlipmapfofmaaMMA
set_option linter.unusedVariables false
set_option linter.unusedSimpArgs false
set_option linter.unusedSectionVars false
set_option linter.unusedVariables false
set_option maxRecDepth 100000
namespace Go.Mir
open Go Go.E Go.RowKit
open Go.Proofs.Try (prog)
open Go.Proofs.Try (f33 func33)
namespace eY
def an:An:=(aR (aR (aL (aR (aL (.mk (some [1,2,15,16,17]) .nil .nil))))))
def qf (R:VP):QT:=fin prog f33 R
def C:=cdN prog f33 an
abbrev T14:=OA→Nat→Nat→OA→Nat→Nat→Int→Int→World→Prop
def g0 (R:VP) (e14:T14) (a:OA) (b c:Nat) (d:OA) (e f:Nat) (g:World):Prop :=
 ae ((b:Int) != (e:Int))
 (R (.bool false) g)
 (e14 d e f a b c (b:Int) 0 g)
def g14 (R:VP) (b14:T14) (a:OA) (b c:Nat) (d:OA) (e f:Nat) (g h:Int) (i:World):Prop :=
 ae (decide (h<g))
 (ix d e h fun j =>
 Ou i (j.add (h.toNat*5)) fun j k l m n o p q r s t u v =>
 nw (i.alloc (.cells (wY 0 none 0 0 none 0 0 none 0 0 none 0 0) 66)) fun w =>
 Si w (na i) j k l m n o p q r s t u v fun j =>
 ix a b h fun k =>
 Ou j (k.add (h.toNat*5)) fun k l m n o p q r s t u v w =>
 nw (j.alloc (.cells (wY 0 none 0 0 none 0 0 none 0 0 none 0 0) 66)) fun x =>
 Si x (na j) k l m n o p q r s t u v w fun k =>
 Ou k (na i) fun l m n o p q r s t u v w x =>
 Ou k (na j) fun j y z A B C D E F G H I J =>
 CA 34 #[GG l m n o p q r s t u v w x,GG j y z A B C D E F G H I J] k fun j k =>
 ∃ l,j = .bool l ∧
 (ae (!l)
 (R (.bool false) k)
 (inc h fun h =>
 b14 a b c d e f g h k)))
 (R (.bool true) i)
def q14 (R:VP):QT:=(Exit.inBlock 0 (qS none (C [1,1,1]) (qf R)))
@[irreducible] def l14 (R:VP) (k:Nat):T14:=fun a b c d e f g h w=>aS [1,2,15,16,17] (C [1,1,0,1,0,0]) (q14 R) k (fr (U 1 (.slice a b c::(.func (.func 34) #[] #[]::U 12 (.slice d e f::(.int .i64 g::(.int .i64 h::U 14 []))))))) w
def e14 (R:VP):T14:=fun a b c d e f g h w=>∃ k,l14 R k a b c d e f g h w
theorem u14 (R k a b c d e f g h w):l14 R (k+1) a b c d e f g h w=g14 R (l14 R k) a b c d e f g h w:=ju (by kernel_rfl)
end eY
def eY (R:VP):=eY.g0 R (eY.e14 R)
theorem eY.calls {R a b c d e f w} (k:eY R a b c d e f w):CA 33 #[.slice a b c,.slice d e f,.func (.func 34) #[] #[]] w R:=cal (n:=eY.an) func33 rfl k (by kernel_rfl)
open Go.Proofs.Try (f34 func34)
namespace dK
def an:An:=An.nil
def g0 (R:VP) (a:Int) (b:OA) (c d:Nat) (e:OA) (f g:Nat) (h:OA) (i j:Nat) (k:OA) (l m:Nat) (n:Int) (o:OA) (p q:Nat) (r:OA) (s t:Nat) (u:OA) (v w:Nat) (x:OA) (y z:Nat) (A:World):Prop :=
 nw (A.alloc (.cells (wY a b c d e f g h i j k l m) 66)) fun a =>
 nw (a.alloc (.cells (wY n o p q r s t u v w x y z) 66)) fun b =>
 cI b ((na A).add 0) .i64 fun c =>
 cI b ((na a).add 0) .i64 fun d =>
 ae (c==d)
 (cL b ((na A).add 1) fun c d e =>
 cL b ((na a).add 1) fun f g h =>
 CA 35 #[.slice c d e,.slice f g h] b fun c d =>
 ∃ e,c = .bool e ∧
 (ae e
 (cL d ((na A).add 2) fun c e f =>
 cL d ((na a).add 2) fun g h i =>
 CA 36 #[.slice c e f,.slice g h i,.func (.func 32) #[] #[]] d fun c e =>
 ∃ f,c = .bool f ∧
 (ae f
 (cL e ((na A).add 3) fun c f g =>
 cL e ((na a).add 3) fun h i j =>
 CA 35 #[.slice c f g,.slice h i j] e fun c f =>
 ∃ g,c = .bool g ∧
 (ae g
 (cL f ((na A).add 4) fun c g h =>
 cL f ((na a).add 4) fun a i j =>
 CA 37 #[.slice c g h,.slice a i j,.func (.func 38) #[] #[]] f fun a c =>
 ∃ g,a = .bool g ∧
 (R (.bool g) c))
 (R (.bool false) f)))
 (R (.bool false) e)))
 (R (.bool false) d)))
 (R (.bool false) b)
end dK
def dK (R:VP):=dK.g0 R
theorem dK.calls {R a b c d e f g h i j l m n o p q r s t u v x y z A B w} (k:dK R a b c d e f g h i j l m n o p q r s t u v x y z A B w):CA 34 #[GG a b c d e f g h i j l m n,GG o p q r s t u v x y z A B] w R:=cal (n:=dK.an) func34 rfl k (by kernel_rfl)
open Go.Proofs.Try (f35 func35)
namespace slices_Equal_int
def an:An:=(aR (aR (aL (aR (aL (.mk (some [0,1,12,13]) .nil .nil))))))
def qf (R:VP):QT:=fin prog f35 R
def C:=cdN prog f35 an
abbrev T14:=OA→Nat→Nat→OA→Nat→Nat→Int→Int→World→Prop
def g0 (R:VP) (e14:T14) (a:OA) (b c:Nat) (d:OA) (e f:Nat) (g:World):Prop :=
 ae ((b:Int) != (e:Int))
 (R (.bool false) g)
 (e14 a b c d e f (b:Int) 0 g)
def g14 (R:VP) (b14:T14) (a:OA) (b c:Nat) (d:OA) (e f:Nat) (g h:Int) (i:World):Prop :=
 ae (decide (h<g))
 (ix a b h fun j =>
 cI i (j.add (h.toNat*1)) .i64 fun j =>
 ix d e h fun k =>
 cI i (k.add (h.toNat*1)) .i64 fun k =>
 ae (j != k)
 (R (.bool false) i)
 (inc h fun h =>
 b14 a b c d e f g h i))
 (R (.bool true) i)
def q14 (R:VP):QT:=(Exit.inBlock 0 (qS none (C [1,1,1]) (qf R)))
@[irreducible] def l14 (R:VP) (k:Nat):T14:=fun a b c d e f g h w=>aS [0,1,12,13] (C [1,1,0,1,0,0]) (q14 R) k (fr ((.slice a b c::(.slice d e f::U 10 (.int .i64 g::(.int .i64 h::U 12 [])))))) w
def e14 (R:VP):T14:=fun a b c d e f g h w=>∃ k,l14 R k a b c d e f g h w
theorem u14 (R k a b c d e f g h w):l14 R (k+1) a b c d e f g h w=g14 R (l14 R k) a b c d e f g h w:=ju (by kernel_rfl)
end slices_Equal_int
def slices_Equal_int (R:VP):=slices_Equal_int.g0 R (slices_Equal_int.e14 R)
theorem slices_Equal_int.calls {R a b c d e f w} (k:slices_Equal_int R a b c d e f w):CA 35 #[.slice a b c,.slice d e f] w R:=cal (n:=slices_Equal_int.an) func35 rfl k (by kernel_rfl)
open Go.Proofs.Try (f36 func36)
namespace iq
def an:An:=(aR (aR (aL (aR (aL (.mk (some [1,2,15,16,17]) .nil .nil))))))
def qf (R:VP):QT:=fin prog f36 R
def C:=cdN prog f36 an
abbrev T14:=OA→Nat→Nat→OA→Nat→Nat→Int→Int→World→Prop
def g0 (R:VP) (e14:T14) (a:OA) (b c:Nat) (d:OA) (e f:Nat) (g:World):Prop :=
 ae ((b:Int) != (e:Int))
 (R (.bool false) g)
 (e14 d e f a b c (b:Int) 0 g)
def g14 (R:VP) (b14:T14) (a:OA) (b c:Nat) (d:OA) (e f:Nat) (g h:Int) (i:World):Prop :=
 ae (decide (h<g))
 (ix d e h fun j =>
 cL i (j.add (h.toNat*1)) fun j k l =>
 ix a b h fun m =>
 cL i (m.add (h.toNat*1)) fun m n o =>
 CA 32 #[.slice j k l,.slice m n o] i fun j k =>
 ∃ l,j = .bool l ∧
 (ae (!l)
 (R (.bool false) k)
 (inc h fun h =>
 b14 a b c d e f g h k)))
 (R (.bool true) i)
def q14 (R:VP):QT:=(Exit.inBlock 0 (qS none (C [1,1,1]) (qf R)))
@[irreducible] def l14 (R:VP) (k:Nat):T14:=fun a b c d e f g h w=>aS [1,2,15,16,17] (C [1,1,0,1,0,0]) (q14 R) k (fr (U 1 (.slice a b c::(.func (.func 32) #[] #[]::U 12 (.slice d e f::(.int .i64 g::(.int .i64 h::U 14 []))))))) w
def e14 (R:VP):T14:=fun a b c d e f g h w=>∃ k,l14 R k a b c d e f g h w
theorem u14 (R k a b c d e f g h w):l14 R (k+1) a b c d e f g h w=g14 R (l14 R k) a b c d e f g h w:=ju (by kernel_rfl)
end iq
def iq (R:VP):=iq.g0 R (iq.e14 R)
theorem iq.calls {R a b c d e f w} (k:iq R a b c d e f w):CA 36 #[.slice a b c,.slice d e f,.func (.func 32) #[] #[]] w R:=cal (n:=iq.an) func36 rfl k (by kernel_rfl)
open Go.Proofs.Try (f37 func37)
namespace iy
def an:An:=(aR (aR (aL (aR (aL (.mk (some [1,2,15,16,17]) .nil .nil))))))
def qf (R:VP):QT:=fin prog f37 R
def C:=cdN prog f37 an
abbrev T14:=OA→Nat→Nat→OA→Nat→Nat→Int→Int→World→Prop
def g0 (R:VP) (e14:T14) (a:OA) (b c:Nat) (d:OA) (e f:Nat) (g:World):Prop :=
 ae ((b:Int) != (e:Int))
 (R (.bool false) g)
 (e14 d e f a b c (b:Int) 0 g)
def g14 (R:VP) (b14:T14) (a:OA) (b c:Nat) (d:OA) (e f:Nat) (g h:Int) (i:World):Prop :=
 ae (decide (h<g))
 (ix d e h fun j =>
 sV i (j.add (h.toNat*4)) fun j k l m n o p q r s =>
 nw (i.alloc (.cells (zK 0 none 0 0 none 0 0 none 0 0) 69)) fun t =>
 GY t (na i) j k l m n o p q r s fun j =>
 ix a b h fun k =>
 sV j (k.add (h.toNat*4)) fun k l m n o p q r s t =>
 nw (j.alloc (.cells (zK 0 none 0 0 none 0 0 none 0 0) 69)) fun u =>
 GY u (na j) k l m n o p q r s t fun k =>
 sV k (na i) fun l m n o p q r s t u =>
 sV k (na j) fun j v w x y z A B C D =>
 CA 38 #[yB l m n o p q r s t u,yB j v w x y z A B C D] k fun j k =>
 ∃ l,j = .bool l ∧
 (ae (!l)
 (R (.bool false) k)
 (inc h fun h =>
 b14 a b c d e f g h k)))
 (R (.bool true) i)
def q14 (R:VP):QT:=(Exit.inBlock 0 (qS none (C [1,1,1]) (qf R)))
@[irreducible] def l14 (R:VP) (k:Nat):T14:=fun a b c d e f g h w=>aS [1,2,15,16,17] (C [1,1,0,1,0,0]) (q14 R) k (fr (U 1 (.slice a b c::(.func (.func 38) #[] #[]::U 12 (.slice d e f::(.int .i64 g::(.int .i64 h::U 14 []))))))) w
def e14 (R:VP):T14:=fun a b c d e f g h w=>∃ k,l14 R k a b c d e f g h w
theorem u14 (R k a b c d e f g h w):l14 R (k+1) a b c d e f g h w=g14 R (l14 R k) a b c d e f g h w:=ju (by kernel_rfl)
end iy
def iy (R:VP):=iy.g0 R (iy.e14 R)
theorem iy.calls {R a b c d e f w} (k:iy R a b c d e f w):CA 37 #[.slice a b c,.slice d e f,.func (.func 38) #[] #[]] w R:=cal (n:=iy.an) func37 rfl k (by kernel_rfl)
open Go.Proofs.Try (f38 func38)
namespace cZ
def an:An:=An.nil
def g0 (R:VP) (a:Int) (b:OA) (c d:Nat) (e:OA) (f g:Nat) (h:OA) (i j:Nat) (k:Int) (l:OA) (m n:Nat) (o:OA) (p q:Nat) (r:OA) (s t:Nat) (u:World):Prop :=
 nw (u.alloc (.cells (zK a b c d e f g h i j) 69)) fun a =>
 nw (a.alloc (.cells (zK k l m n o p q r s t) 69)) fun b =>
 cI b ((na u).add 0) .i64 fun c =>
 cI b ((na a).add 0) .i64 fun d =>
 ae (c==d)
 (cL b ((na u).add 1) fun c d e =>
 cL b ((na a).add 1) fun f g h =>
 CA 39 #[.slice c d e,.slice f g h] b fun c d =>
 ∃ e,c = .bool e ∧
 (ae e
 (cL d ((na u).add 2) fun c e f =>
 cL d ((na a).add 2) fun g h i =>
 CA 39 #[.slice c e f,.slice g h i] d fun c e =>
 ∃ f,c = .bool f ∧
 (ae f
 (cL e ((na u).add 3) fun c f g =>
 cL e ((na a).add 3) fun a h i =>
 CA 39 #[.slice c f g,.slice a h i] e fun a c =>
 ∃ f,a = .bool f ∧
 (R (.bool f) c))
 (R (.bool false) e)))
 (R (.bool false) d)))
 (R (.bool false) b)
end cZ
def cZ (R:VP):=cZ.g0 R
theorem cZ.calls {R a b c d e f g h i j l m n o p q r s t u w} (k:cZ R a b c d e f g h i j l m n o p q r s t u w):CA 38 #[yB a b c d e f g h i j,yB l m n o p q r s t u] w R:=cal (n:=cZ.an) func38 rfl k (by kernel_rfl)
open Go.Proofs.Try (f39 func39)
namespace fB
def an:An:=An.nil
def g0 (R:VP) (a:OA) (b c:Nat) (d:OA) (e f:Nat) (g:World):Prop :=
 CA 63 #[.slice a b c,.slice d e f,.func (.func 64) #[] #[]] g fun a b =>
 ∃ c,a = .bool c ∧
 (R (.bool c) b)
end fB
def fB (R:VP):=fB.g0 R
theorem fB.calls {R a b c d e f w} (k:fB R a b c d e f w):CA 39 #[.slice a b c,.slice d e f] w R:=cal (n:=fB.an) func39 rfl k (by kernel_rfl)
open Go.Proofs.Try (f40 func40)
namespace l7
def an:An:=(aR (aR (aL (aR (aL (.mk (some [0,1,12,13]) .nil .nil))))))
def qf (R:VP):QT:=fin prog f40 R
def C:=cdN prog f40 an
abbrev T14:=OA→Nat→Nat→OA→Nat→Nat→Int→Int→World→Prop
def g0 (R:VP) (e14:T14) (a:OA) (b c:Nat) (d:OA) (e f:Nat) (g:World):Prop :=
 ae ((b:Int) != (e:Int))
 (R (.bool false) g)
 (e14 a b c d e f (b:Int) 0 g)
def g14 (R:VP) (b14:T14) (a:OA) (b c:Nat) (d:OA) (e f:Nat) (g h:Int) (i:World):Prop :=
 ae (decide (h<g))
 (ix a b h fun j =>
 cI i (j.add (h.toNat*1)) .i64 fun j =>
 ix d e h fun k =>
 cI i (k.add (h.toNat*1)) .i64 fun k =>
 ae (j != k)
 (R (.bool false) i)
 (inc h fun h =>
 b14 a b c d e f g h i))
 (R (.bool true) i)
def q14 (R:VP):QT:=(Exit.inBlock 0 (qS none (C [1,1,1]) (qf R)))
@[irreducible] def l14 (R:VP) (k:Nat):T14:=fun a b c d e f g h w=>aS [0,1,12,13] (C [1,1,0,1,0,0]) (q14 R) k (fr ((.slice a b c::(.slice d e f::U 10 (.int .i64 g::(.int .i64 h::U 12 [])))))) w
def e14 (R:VP):T14:=fun a b c d e f g h w=>∃ k,l14 R k a b c d e f g h w
theorem u14 (R k a b c d e f g h w):l14 R (k+1) a b c d e f g h w=g14 R (l14 R k) a b c d e f g h w:=ju (by kernel_rfl)
end l7
def l7 (R:VP):=l7.g0 R (l7.e14 R)
theorem l7.calls {R a b c d e f w} (k:l7 R a b c d e f w):CA 40 #[.slice a b c,.slice d e f] w R:=cal (n:=l7.an) func40 rfl k (by kernel_rfl)
open Go.Proofs.Try (f41 func41)
namespace az
def an:An:=(aR (aR (aL (aR (aL (.mk (some [0,1,12,13]) .nil .nil))))))
def qf (R:VP):QT:=fin prog f41 R
def C:=cdN prog f41 an
abbrev T14:=OA→Nat→Nat→OA→Nat→Nat→Int→Int→World→Prop
def g0 (R:VP) (e14:T14) (a:OA) (b c:Nat) (d:OA) (e f:Nat) (g:World):Prop :=
 ae ((b:Int) != (e:Int))
 (R (.bool false) g)
 (e14 a b c d e f (b:Int) 0 g)
def g14 (R:VP) (b14:T14) (a:OA) (b c:Nat) (d:OA) (e f:Nat) (g h:Int) (i:World):Prop :=
 ae (decide (h<g))
 (ix a b h fun j =>
 cI i (j.add (h.toNat*1)) .i64 fun j =>
 ix d e h fun k =>
 cI i (k.add (h.toNat*1)) .i64 fun k =>
 ae (j != k)
 (R (.bool false) i)
 (inc h fun h =>
 b14 a b c d e f g h i))
 (R (.bool true) i)
def q14 (R:VP):QT:=(Exit.inBlock 0 (qS none (C [1,1,1]) (qf R)))
@[irreducible] def l14 (R:VP) (k:Nat):T14:=fun a b c d e f g h w=>aS [0,1,12,13] (C [1,1,0,1,0,0]) (q14 R) k (fr ((.slice a b c::(.slice d e f::U 10 (.int .i64 g::(.int .i64 h::U 12 [])))))) w
def e14 (R:VP):T14:=fun a b c d e f g h w=>∃ k,l14 R k a b c d e f g h w
theorem u14 (R k a b c d e f g h w):l14 R (k+1) a b c d e f g h w=g14 R (l14 R k) a b c d e f g h w:=ju (by kernel_rfl)
end az
def az (R:VP):=az.g0 R (az.e14 R)
theorem az.calls {R a b c d e f w} (k:az R a b c d e f w):CA 41 #[.slice a b c,.slice d e f] w R:=cal (n:=az.an) func41 rfl k (by kernel_rfl)
end Go.Mir
set_option linter.unusedVariables false
set_option maxRecDepth 100000
namespace Go.Mir
open Go Go.E Go.RowKit
open Go.Proofs.Try (prog)
open Go.Proofs.Try (f42 func42)
namespace o5
def an:An:=(aR (aR (aL (aR (aL (.mk (some [1,13,14,15]) .nil .nil))))))
def qf (R:VP):QT:=fin prog f42 R
def C:=cdN prog f42 an
abbrev T14:=OA→Nat→Nat→OA→Nat→Nat→Int→Int→World→Prop
def g0 (R:VP) (e14:T14) (a:OA) (b c:Nat) (d:OA) (e f:Nat) (g:World):Prop :=
 ae ((b:Int) != (e:Int))
 (R (.bool false) g)
 (e14 d e f a b c (b:Int) 0 g)
def g14 (R:VP) (b14:T14) (a:OA) (b c:Nat) (d:OA) (e f:Nat) (g h:Int) (i:World):Prop :=
 ae (decide (h<g))
 (ix d e h fun j =>
 sV i (j.add (h.toNat*4)) fun j k l m n o p q r s =>
 nw (i.alloc (.cells (zK 0 none 0 0 none 0 0 none 0 0) 69)) fun t =>
 GY t (na i) j k l m n o p q r s fun j =>
 ix a b h fun k =>
 sV j (k.add (h.toNat*4)) fun k l m n o p q r s t =>
 nw (j.alloc (.cells (zK 0 none 0 0 none 0 0 none 0 0) 69)) fun u =>
 GY u (na j) k l m n o p q r s t fun k =>
 cI k ((na i).add 0) .i64 fun l =>
 cI k ((na j).add 0) .i64 fun m =>
 ae (l != m)
 (R (.bool false) k)
 (cL k ((na i).add 1) fun l m n =>
 cL k ((na j).add 1) fun o p q =>
 CA 65 #[.slice l m n,.slice o p q] k fun k l =>
 ∃ m,k = .bool m ∧
 (ae (!m)
 (R (.bool false) l)
 (cL l ((na i).add 2) fun k m n =>
 cL l ((na j).add 2) fun o p q =>
 CA 65 #[.slice k m n,.slice o p q] l fun k l =>
 ∃ m,k = .bool m ∧
 (ae (!m)
 (R (.bool false) l)
 (cL l ((na i).add 3) fun k m n =>
 cL l ((na j).add 3) fun j o p =>
 CA 65 #[.slice k m n,.slice j o p] l fun j k =>
 ∃ l,j = .bool l ∧
 (ae (!l)
 (R (.bool false) k)
 (inc h fun h =>
 b14 a b c d e f g h k))))))))
 (R (.bool true) i)
def q14 (R:VP):QT:=(Exit.inBlock 0 (qS none (C [1,1,1]) (qf R)))
@[irreducible] def l14 (R:VP) (k:Nat):T14:=fun a b c d e f g h w=>aS [1,13,14,15] (C [1,1,0,1,0,0]) (q14 R) k (fr (U 1 (.slice a b c::U 11 (.slice d e f::(.int .i64 g::(.int .i64 h::U 38 [])))))) w
def e14 (R:VP):T14:=fun a b c d e f g h w=>∃ k,l14 R k a b c d e f g h w
theorem u14 (R k a b c d e f g h w):l14 R (k+1) a b c d e f g h w=g14 R (l14 R k) a b c d e f g h w:=ju (by kernel_rfl)
end o5
def o5 (R:VP):=o5.g0 R (o5.e14 R)
theorem o5.calls {R a b c d e f w} (k:o5 R a b c d e f w):CA 42 #[.slice a b c,.slice d e f] w R:=cal (n:=o5.an) func42 rfl k (by kernel_rfl)
open Go.Proofs.Try (f43 func43)
namespace WG
def an:An:=(aR (aR (aL (aR (aL (.mk (some [3,7,8,9]) .nil .nil))))))
def qf (R:VP):QT:=fin prog f43 R
def C:=cdN prog f43 an
abbrev T8:=OA→Nat→Nat→OA→Nat→Nat→Int→Int→World→Prop
def g0 (R:VP) (e8:T8) (a:OA) (b c:Nat) (d:World):Prop :=
 e8 none 0 0 a b c (b:Int) 0 d
def g8 (R:VP) (b8:T8) (a:OA) (b c:Nat) (d:OA) (e f:Nat) (g h:Int) (i:World):Prop :=
 ae (decide (h<g))
 (ix d e h fun j =>
 oW i (j.add (h.toNat*5)) fun j k l m n o p =>
 nw (i.alloc (.cells (yH 0 none 0 0 0 0 0) 72)) fun q =>
 D9 q (na i) j k l m n o p fun j =>
 cL j ((na i).add 1) fun k l m =>
 cO prog (Builtin.append_ #[45,45] 45 #[.slice none 0 0,.slice k l m]) j fun j k =>
 ∃ l m n,j = .slice l m n ∧
 (st k (((na i).add 1).add 0) (.slice l m n) fun j =>
 oW j (na i) fun k l m n o p q =>
 nw (j.alloc (.cells (yH k l m n o p q) 72)) fun k =>
 cO prog (Builtin.append_ #[67,67] 67 #[.slice a b c,.slice (some (na j)) 1 1]) k fun j k =>
 ∃ l m n,j = .slice l m n ∧
 (inc h fun h =>
 b8 l m n d e f g h k)))
 (R (.slice a b c) i)
def q8 (R:VP):QT:=(Exit.inBlock 0 (qS none (C [1,1,1]) (qf R)))
@[irreducible] def l8 (R:VP) (k:Nat):T8:=fun a b c d e f g h w=>aS [3,7,8,9] (C [1,1,0,1,0,0]) (q8 R) k (fr (U 3 (.slice a b c::U 3 (.slice d e f::(.int .i64 g::(.int .i64 h::U 14 [])))))) w
def e8 (R:VP):T8:=fun a b c d e f g h w=>∃ k,l8 R k a b c d e f g h w
theorem u8 (R k a b c d e f g h w):l8 R (k+1) a b c d e f g h w=g8 R (l8 R k) a b c d e f g h w:=ju (by kernel_rfl)
end WG
def WG (R:VP):=WG.g0 R (WG.e8 R)
theorem WG.calls {R a b c w} (k:WG R a b c w):CA 43 #[.slice a b c] w R:=cal (n:=WG.an) func43 rfl k (by kernel_rfl)
open Go.Proofs.Try (f44 func44)
namespace WL
def an:An:=An.nil
def g0 (R:VP) (a:OA) (b c:Nat) (d:World):Prop :=
 ae a.isNone
 (R (.slice none 0 0) d)
 (nw (d.alloc (.cells #[] 66)) fun e =>
 cO prog (Builtin.append_ #[35,35] 35 #[.slice (some (na d)) 0 0,.slice a b c]) e fun a b =>
 ∃ c d e,a = .slice c d e ∧
 (R (.slice c d e) b))
end WL
def WL (R:VP):=WL.g0 R
theorem WL.calls {R a b c w} (k:WL R a b c w):CA 44 #[.slice a b c] w R:=cal (n:=WL.an) func44 rfl k (by kernel_rfl)
open Go.Proofs.Try (f45 func45)
namespace slices_Clone_int
def an:An:=An.nil
def g0 (R:VP) (a:OA) (b c:Nat) (d:World):Prop :=
 ae a.isNone
 (R (.slice none 0 0) d)
 (nw (d.alloc (.cells #[] 3)) fun e =>
 cO prog (Builtin.append_ #[45,45] 45 #[.slice (some (na d)) 0 0,.slice a b c]) e fun a b =>
 ∃ c d e,a = .slice c d e ∧
 (R (.slice c d e) b))
end slices_Clone_int
def slices_Clone_int (R:VP):=slices_Clone_int.g0 R
theorem slices_Clone_int.calls {R a b c w} (k:slices_Clone_int R a b c w):CA 45 #[.slice a b c] w R:=cal (n:=slices_Clone_int.an) func45 rfl k (by kernel_rfl)
open Go.Proofs.Try (f46 func46)
namespace WN
def an:An:=An.nil
def g0 (R:VP) (a:OA) (b c:Nat) (d:World):Prop :=
 ae a.isNone
 (R (.slice none 0 0) d)
 (nw (d.alloc (.cells #[] 23)) fun e =>
 cO prog (Builtin.append_ #[63,63] 63 #[.slice (some (na d)) 0 0,.slice a b c]) e fun a b =>
 ∃ c d e,a = .slice c d e ∧
 (R (.slice c d e) b))
end WN
def WN (R:VP):=WN.g0 R
theorem WN.calls {R a b c w} (k:WN R a b c w):CA 46 #[.slice a b c] w R:=cal (n:=WN.an) func46 rfl k (by kernel_rfl)
open Go.Proofs.Try (f47 func47)
namespace WM
def an:An:=An.nil
def g0 (R:VP) (a:OA) (b c:Nat) (d:World):Prop :=
 ae a.isNone
 (R (.slice none 0 0) d)
 (nw (d.alloc (.cells #[] 69)) fun e =>
 cO prog (Builtin.append_ #[64,64] 64 #[.slice (some (na d)) 0 0,.slice a b c]) e fun a b =>
 ∃ c d e,a = .slice c d e ∧
 (R (.slice c d e) b))
end WM
def WM (R:VP):=WM.g0 R
theorem WM.calls {R a b c w} (k:WM R a b c w):CA 47 #[.slice a b c] w R:=cal (n:=WM.an) func47 rfl k (by kernel_rfl)
open Go.Proofs.Try (f48 func48)
namespace WI
def an:An:=(aR (aR (aL (aR (aL (.mk (some [3,8,9]) .nil .nil))))))
def qf (R:VP):QT:=fin prog f48 R
def C:=cdN prog f48 an
abbrev T8:=OA→Nat→Nat→Int→Int→World→Prop
def g0 (R:VP) (e8:T8) (a:OA) (b c:Nat) (d:World):Prop :=
 CA 66 #[.slice a b c] d fun a b =>
 ∃ c d e,a = .slice c d e ∧
 (e8 c d e (d:Int) 0 b)
def g8 (R:VP) (b8:T8) (a:OA) (b c:Nat) (d e:Int) (f:World):Prop :=
 ae (decide (e<d))
 (ix a b e fun g =>
 cL f ((g.add (e.toNat*5)).add 1) fun g h i =>
 CA 45 #[.slice g h i] f fun g h =>
 ∃ i j k,g = .slice i j k ∧
 (ix a b e fun g =>
 st h (((g.add (e.toNat*5)).add 1).add 0) (.slice i j k) fun g =>
 inc e fun e =>
 b8 a b c d e g))
 (R (.slice a b c) f)
def q8 (R:VP):QT:=(Exit.inBlock 0 (qS none (C [1,1,1]) (qf R)))
@[irreducible] def l8 (R:VP) (k:Nat):T8:=fun a b c d e w=>aS [3,8,9] (C [1,1,0,1,0,0]) (q8 R) k (fr (U 3 (.slice a b c::U 4 (.int .i64 d::(.int .i64 e::U 14 []))))) w
def e8 (R:VP):T8:=fun a b c d e w=>∃ k,l8 R k a b c d e w
theorem u8 (R k a b c d e w):l8 R (k+1) a b c d e w=g8 R (l8 R k) a b c d e w:=ju (by kernel_rfl)
end WI
def WI (R:VP):=WI.g0 R (WI.e8 R)
theorem WI.calls {R a b c w} (k:WI R a b c w):CA 48 #[.slice a b c] w R:=cal (n:=WI.an) func48 rfl k (by kernel_rfl)
end Go.Mir
set_option linter.unusedVariables false
set_option maxRecDepth 100000
namespace Go.Mir
open Go Go.E Go.RowKit
open Go.Proofs.Try (prog)
open Go.Proofs.Try (f51 func51)
namespace af
def an:An:=(aR (aR (aR (.mk none (aR (aL (.mk (some [1,4,41,42,43]) (aR (aR (aL (aL (aR (aR (.mk none (aR (aL (.mk (some [1,4,6,7,41,42,43,49,50,51]) .nil .nil))) (aR (aL (.mk (some [1,4,6,7,41,42,43,74,75,76]) (aR (aR (aL (aL (aR (aR (aL (.mk (some [1,4,6,7,10,41,42,43,74,75,76,81,82,83]) .nil .nil)))))))) .nil)))))))))) .nil))) (aR (aL (aR (aL (.mk (some [1,15,141,142,143]) .nil .nil)))))))))
def qf (R:VP):QT:=fin prog f51 R
def C:=cdN prog f51 an
abbrev T16:=OA→OA→Nat→Nat→OA→Nat→Nat→Int→Int→World→Prop
abbrev T33:=OA→OA→Nat→Nat→OA→(Option Nat)→OA→Nat→Nat→Int→Int→OA→Nat→Nat→Int→Int→World→Prop
abbrev T49:=OA→OA→Nat→Nat→OA→(Option Nat)→OA→Nat→Nat→Int→Int→OA→Nat→Nat→Int→Int→World→Prop
abbrev T63:=OA→OA→Nat→Nat→OA→(Option Nat)→Int→OA→Nat→Nat→Int→Int→OA→Nat→Nat→Int→Int→OA→Nat→Nat→Int→Int→World→Prop
abbrev U4:=OA→OA→Nat→Nat→OA→Nat→Nat→Int→Int→World→Prop
def g0 (R:VP) (e16:T16) (a:Int) (b:OA) (c d:Nat) (e:OA) (f g:Nat) (h:OA) (i j:Nat) (k:OA) (l m:Nat) (n:World):Prop :=
 nw (n.alloc (.cells (wY a b c d e f g h i j k l m) 66)) fun a =>
 cL a ((na n).add 1) fun b b c =>
 cL a ((na n).add 2) fun c c d =>
 ae ((b:Int) != (c:Int))
 (R (.tuple #[.slice none 0 0,.bool false]) a)
 (cL a ((na n).add 1) fun b b c =>
 cL a ((na n).add 3) fun c c d =>
 ae ((b:Int) != (c:Int))
 (R (.tuple #[.slice none 0 0,.bool false]) a)
 (cL a ((na n).add 1) fun b b c =>
 chk ((0:Int)≤(b:Int)∧(b:Int)≤(b:Int)∧((24:Nat):Int)*(b:Int)≤281474976710656∧(b:Int)≤9223372036854775807)
 (nw (a.alloc (.cells (madeCells #[.slice none 0 0] (((b:Int)).toNat*1)) 124)) fun c =>
 cL c ((na n).add 4) fun d e f =>
 e16 (some (na n)) (some (na a)) (((b:Int)).toNat) (((b:Int)).toNat) d e f (e:Int) 0 c)))
def g16 (R:VP) (e33:T33) (UJ:U4) (a b:OA) (c d:Nat) (e:OA) (f g:Nat) (h i:Int) (j:World):Prop :=
 ae (decide (i<h))
 (ix e f i fun k =>
 sV j (k.add (i.toNat*4)) fun k l m n o p q r s t =>
 nw (j.alloc (.cells (zK 0 none 0 0 none 0 0 none 0 0) 69)) fun u =>
 GY u (na j) k l m n o p q r s t fun k =>
 nw (k.alloc (.map #[] 0)) fun l =>
 cL l ((na j).add 3) fun m n o =>
 e33 a b c d (some (na j)) (some k.heap.size) e f g h i m n o (n:Int) 0 l)
 (UJ a none 0 0 b c d (c:Int) 0 j)
def g33 (R:VP) (b33:T33) (e49:T49) (a b:OA) (c d:Nat) (e:OA) (f:Option Nat) (g:OA) (h i:Nat) (j k:Int) (l:OA) (m n:Nat) (o p:Int) (q:World):Prop :=
 ae (decide (p<o))
 (ix l m p fun r =>
 oW q (r.add (p.toNat*5)) fun r s t u v w x =>
 nw (q.alloc (.cells (yH 0 none 0 0 0 0 0) 72)) fun y =>
 D9 y (na q) r s t u v w x fun r =>
 ∃ (s:World) (t:World→Prop) (u:World→World→Prop) (v:Nat→Value→World→Prop),Dv s r t u v ∧
 (cI s ((na q).add 2) .i64 fun r =>
 cI s ((na q).add 3) .i64 fun w =>
 cI s ((na q).add 4) .i64 fun x =>
 aY e fun y =>
 cI s (y.add 0) .i64 fun s =>
 (∀ y:World,t y→cO prog (Instr.lookup 120 (.map f) (Gg r w x s) false) y fun z A=>∃ B,z = .int .i64 B∧v 10 (.int .i64 B) A∧u y A) ∧
 (∀ y:Int,(∃ z,t z∧v 10 (.int .i64 y) z) →
 inc y fun z =>
 (∀ A:World,t A→cO prog (Instr.mapEntry 120 (.map f) (Gg r w x s)) A fun r s=>∃ (w:Value) (x:Int),r = .tuple #[w,.int .i64 x]∧v 12 (.tuple #[w,.int .i64 x]) s∧u A s) ∧
 (∀ (r:Value) (s:Int),(∃ u,t u∧v 12 (.tuple #[r,.int .i64 s]) u) →
 ∀ u:World,t u→v 10 (.int .i64 y) u→v 12 (.tuple #[r,.int .i64 s]) u →
 cO prog (do Instr.entryStore 120 (.map f) (.int .i64 s) (.int .i64 z); pure undef) u fun _ r =>
 inc p fun p =>
 b33 a b c d e f g h i j k l m n o p r))))
 (aY e fun l =>
 cL q (l.add 1) fun l m n =>
 aY e fun o =>
 cL q (o.add 2) fun o p r =>
 nw (q.alloc (.cells #[.slice l m n,.slice o p r] 67)) fun l =>
 e49 a b c d e f g h i j k (some (na q)) 2 2 2 0 l)
def g49 (R:VP) (b16:T16) (e63:T63) (a b:OA) (c d:Nat) (e:OA) (f:Option Nat) (g:OA) (h i:Nat) (j k:Int) (l:OA) (m n:Nat) (o p:Int) (q:World):Prop :=
 ae (decide (p<o))
 (ix l m p fun r =>
 cL q (r.add (p.toNat*1)) fun r s t =>
 e63 a b c d e f p g h i j k l m n o p r s t (s:Int) 0 q)
 (inc k fun e =>
 b16 a b c d g h i j e q)
def g63 (R:VP) (b49:T49) (b63:T63) (a b:OA) (c d:Nat) (e:OA) (f:Option Nat) (g:Int) (h:OA) (i j:Nat) (k l:Int) (m:OA) (n o:Nat) (p q:Int) (r:OA) (s t:Nat) (u v:Int) (w:World):Prop :=
 ae (decide (v<u))
 (ix r s v fun x =>
 oW w (x.add (v.toNat*5)) fun x y z A B C D =>
 nw (w.alloc (.cells (yH 0 none 0 0 0 0 0) 72)) fun E =>
 D9 E (na w) x y z A B C D fun x =>
 cI x ((na w).add 2) .i64 fun y =>
 ae (decide (y<0))
 (R (.tuple #[.slice none 0 0,.bool false]) x)
 (cI x ((na w).add 2) .i64 fun y =>
 ae (decide (y≥(c:Int)))
 (R (.tuple #[.slice none 0 0,.bool false]) x)
 (∃ y:Nat→Value→World→Prop,KpF y ∧
 (aY e fun z =>
 cI x (z.add 0) .i64 fun z =>
 cF x ((na w).add 0) .f64 fun A =>
 cL x ((na w).add 1) fun B C D =>
 (∀ E:World,Below x.heap.size x E→CA 45 #[.slice B C D] E fun B C=>∃ D F G,B = .slice D F G∧y 6 (.slice D F G) C∧Below E.heap.size E C) ∧
 (∀ B:Option Addr,∀ C:Nat,∀ D:Nat,(∃ E,Below x.heap.size x E∧y 6 (.slice B C D) E) →
 (∀ E:World,Below x.heap.size x E→y 8 (.pointer (some (na E))) (E.alloc (.cells (jQ 0 0 0 0 none 0 0 0 0 0) 101))) ∧
 (∀ E:Addr,(∃ F,Below x.heap.size x F∧y 8 (.pointer (some E)) F) →
 ∀ F:World,Below x.heap.size x F→y 6 (.slice B C D) F→y 8 (.pointer (some E)) F →
 oJ F E 2 0 z A B C D 1 0 0 fun x =>
 ae (g==1)
 (st x ((E.add 0).add 0) (.int .u8 3) fun y =>
 cI y ((na w).add 2) .i64 fun z =>
 cI y ((na w).add 3) .i64 fun A =>
 cI y ((na w).add 4) .i64 fun B =>
 aY e fun C =>
 cI y (C.add 0) .i64 fun C =>
 cO prog (Instr.lookup 120 (.map f) (Gg z A B C) false) y fun y z =>
 ∃ A,y = .int .i64 A ∧
 (ae (decide (A>0))
 (st z ((E.add 5).add 0) (.int .u8 2) fun y =>
 ∃ A:World,CK A y ∧
 (cI A ((na w).add 2) .i64 fun B =>
 cI A ((na w).add 2) .i64 fun C =>
 ix b c C fun D =>
 cL A (D.add (C.toNat*1)) fun C D F =>
 iF A E fun G H I J K L M N O P =>
 cI A ((na w).add 3) .i64 fun Q =>
 cI A ((na w).add 4) .i64 fun S =>
 nw (y.alloc (.cells (pK G H I J K L M N O P Q S) 126)) fun G =>
 CK A G ∧
 (cO prog (Builtin.append_ #[124,124] 124 #[.slice C D F,.slice (some (na y)) 1 1]) G fun y C =>
 ∃ D F G,y = .slice D F G ∧
 (CK A C ∧
 (ix b c B fun y =>
 st C ((y.add (B.toNat*1)).add 0) (.slice D F G) fun y =>
 inc v fun A =>
 b63 a b c d e f g h i j k l m n o p q r s t u A y)))))
 (∃ y:World,CK y z ∧
 (cI y ((na w).add 2) .i64 fun A =>
 cI y ((na w).add 2) .i64 fun B =>
 ix b c B fun C =>
 cL y (C.add (B.toNat*1)) fun B C D =>
 iF y E fun F G H I J K L M N O =>
 cI y ((na w).add 3) .i64 fun P =>
 cI y ((na w).add 4) .i64 fun Q =>
 nw (z.alloc (.cells (pK F G H I J K L M N O P Q) 126)) fun F =>
 CK y F ∧
 (cO prog (Builtin.append_ #[124,124] 124 #[.slice B C D,.slice (some (na z)) 1 1]) F fun z B =>
 ∃ C D F,z = .slice C D F ∧
 (CK y B ∧
 (ix b c A fun y =>
 st B ((y.add (A.toNat*1)).add 0) (.slice C D F) fun y =>
 inc v fun z =>
 b63 a b c d e f g h i j k l m n o p q r s t u z y)))))))
 (cI x ((na w).add 2) .i64 fun y =>
 cI x ((na w).add 3) .i64 fun z =>
 cI x ((na w).add 4) .i64 fun A =>
 aY e fun B =>
 cI x (B.add 0) .i64 fun B =>
 cO prog (Instr.lookup 120 (.map f) (Gg y z A B) false) x fun x y =>
 ∃ z,x = .int .i64 z ∧
 (ae (decide (z>0))
 (st y ((E.add 5).add 0) (.int .u8 2) fun x =>
 ∃ z:World,CK z x ∧
 (cI z ((na w).add 2) .i64 fun A =>
 cI z ((na w).add 2) .i64 fun B =>
 ix b c B fun C =>
 cL z (C.add (B.toNat*1)) fun B C D =>
 iF z E fun F G H I J K L M N O =>
 cI z ((na w).add 3) .i64 fun P =>
 cI z ((na w).add 4) .i64 fun Q =>
 nw (x.alloc (.cells (pK F G H I J K L M N O P Q) 126)) fun F =>
 CK z F ∧
 (cO prog (Builtin.append_ #[124,124] 124 #[.slice B C D,.slice (some (na x)) 1 1]) F fun x B =>
 ∃ C D F,x = .slice C D F ∧
 (CK z B ∧
 (ix b c A fun x =>
 st B ((x.add (A.toNat*1)).add 0) (.slice C D F) fun x =>
 inc v fun z =>
 b63 a b c d e f g h i j k l m n o p q r s t u z x)))))
 (∃ x:World,CK x y ∧
 (cI x ((na w).add 2) .i64 fun z =>
 cI x ((na w).add 2) .i64 fun A =>
 ix b c A fun B =>
 cL x (B.add (A.toNat*1)) fun A B C =>
 iF x E fun D E F G H I J K L M =>
 cI x ((na w).add 3) .i64 fun N =>
 cI x ((na w).add 4) .i64 fun O =>
 nw (y.alloc (.cells (pK D E F G H I J K L M N O) 126)) fun D =>
 CK x D ∧
 (cO prog (Builtin.append_ #[124,124] 124 #[.slice A B C,.slice (some (na y)) 1 1]) D fun y A =>
 ∃ B C D,y = .slice B C D ∧
 (CK x A ∧
 (ix b c z fun x =>
 st A ((x.add (z.toNat*1)).add 0) (.slice B C D) fun x =>
 inc v fun v =>
 b63 a b c d e f g h i j k l m n o p q r s t u v x)))))))))))))
 (inc q fun g =>
 b49 a b c d e f h i j k l m n o p g w)
def Ux (R:VP) (b106:U4) (a b:OA) (c d:Nat) (e:OA) (f g:Nat) (h i:Int) (j:World):Prop :=
 ae (decide (i<h))
 (ix e f i fun k =>
 cL j (k.add (i.toNat*1)) fun k l m =>
 aY a fun n =>
 cL j (n.add 1) fun n o p =>
 ix n o i fun n =>
 cI j (n.add (i.toNat*1)) .i64 fun n =>
 ae (decide (n<1))
 (R (.tuple #[.slice none 0 0,.bool false]) j)
 (aY a fun n =>
 cL j (n.add 1) fun n o p =>
 ix n o i fun n =>
 cI j (n.add (i.toNat*1)) .i64 fun n =>
 ae (decide (n>4096))
 (R (.tuple #[.slice none 0 0,.bool false]) j)
 (aY a fun n =>
 cL j (n.add 2) fun n o p =>
 ix n o i fun n =>
 cL j (n.add (i.toNat*1)) fun n n o =>
 aY a fun o =>
 cL j (o.add 1) fun o p q =>
 ix o p i fun o =>
 cI j (o.add (i.toNat*1)) .i64 fun o =>
 ae ((n:Int) != o)
 (R (.tuple #[.slice none 0 0,.bool false]) j)
 (aY a fun n =>
 cL j (n.add 1) fun n o p =>
 ix n o i fun n =>
 cI j (n.add (i.toNat*1)) .i64 fun n =>
 nv (IntKind.i64.wrap (n - 1)) fun n =>
 ae ((l:Int) != n)
 (R (.tuple #[.slice none 0 0,.bool false]) j)
 (aY a fun n =>
 cL j (n.add 2) fun n o p =>
 ix n o i fun n =>
 cL j (n.add (i.toNat*1)) fun n o p =>
 CA 69 #[.slice k l m,.slice n o p] j fun k l =>
 ∃ m n o p q,k = .tuple #[WS m n o p,.bool q] ∧
 (nw (l.alloc (.cells (mi 0 none 0 0) 44)) fun k =>
 zZ k (na l) m n o p fun k =>
 ae (!q)
 (R (.tuple #[.slice none 0 0,.bool false]) k)
 (aY a fun m =>
 cL k (m.add 3) fun m n o =>
 ix m n i fun m =>
 cI k (m.add (i.toNat*1)) .i64 fun m =>
 st k (((na l).add 0).add 0) (.int .i64 m) fun k =>
 lY k (na l) fun l m n o =>
 nw (k.alloc (.cells (mi l m n o) 44)) fun l =>
 cO prog (Builtin.append_ #[24,24] 24 #[.slice b c d,.slice (some (na k)) 1 1]) l fun k l =>
 ∃ m n o,k = .slice m n o ∧
 (inc i fun i =>
 b106 a m n o e f g h i l))))))))
 (R (.tuple #[.slice b c d,.bool true]) j)
def q16 (R:VP):QT:=(Exit.inBlock 0 (qS none (C [1,1,1,1]) (qf R)))
@[irreducible] def l16 (R:VP) (k:Nat):T16:=fun a b c d e f g h i w=>aS [1,4,41,42,43] (C [1,1,1,0,1,0,0]) (q16 R) k (fr (U 1 (.pointer a::U 2 (.slice b c d::U 36 (.slice e f g::(.int .i64 h::(.int .i64 i::U 167 []))))))) w
def e16 (R:VP):T16:=fun a b c d e f g h i w=>∃ k,l16 R k a b c d e f g h i w
def q33 (R:VP) (k16:Nat):QT:=(Exit.inBlock 2 (qS none (C [1,1,1,0,1,0,0,1,1,0,0,1,1,1]) (Exit.inBlock 1 (qS none (C [1,1,1,0,1,0,0,1,1,1]) (qL [1,4,41,42,43] (C [1,1,1,0,1,0,0]) (q16 R) k16)))))
def TZ (R:VP) (k16:Nat) (k:Nat):T33:=fun a b c d e f g h i j l m n o p q w=>aS [1,4,6,7,41,42,43,49,50,51] (C [1,1,1,0,1,0,0,1,1,0,0,1,1,0,1,0,0]) (q33 R k16) k (fr (U 1 (.pointer a::U 2 (.slice b c d::U 1 (.pointer e::(.map f::U 33 (.slice g h i::(.int .i64 j::(.int .i64 l::U 5 (.slice m n o::(.int .i64 p::(.int .i64 q::U 159 [])))))))))))) w
def Vq (R:VP) (k16:Nat):T33:=fun a b c d e f g h i j l m n o p q w=>∃ k,TZ R k16 k a b c d e f g h i j l m n o p q w
def q49 (R:VP) (k16:Nat):QT:=(Exit.inBlock 4 (Exit.inBlock 1 (qS none (C [1,1,1,0,1,0,0,1,1,1]) (qL [1,4,41,42,43] (C [1,1,1,0,1,0,0]) (q16 R) k16))))
def QR (R:VP) (k16:Nat) (k:Nat):T49:=fun a b c d e f g h i j l m n o p q w=>aS [1,4,6,7,41,42,43,74,75,76] (C [1,1,1,0,1,0,0,1,1,0,0,1,1,1,1,0,0]) (q49 R k16) k (fr (U 1 (.pointer a::U 2 (.slice b c d::U 1 (.pointer e::(.map f::U 33 (.slice g h i::(.int .i64 j::(.int .i64 l::U 30 (.slice m n o::(.int .i64 p::(.int .i64 q::U 134 [])))))))))))) w
def UU (R:VP) (k16:Nat):T49:=fun a b c d e f g h i j l m n o p q w=>∃ k,QR R k16 k a b c d e f g h i j l m n o p q w
def q63 (R:VP) (k16 k49:Nat):QT:=(Exit.inBlock 6 (Exit.inBlock 5 (qS none (C [1,1,1,0,1,0,0,1,1,0,0,1,1,1,1,0,0,1,1,1]) (qL [1,4,6,7,41,42,43,74,75,76] (C [1,1,1,0,1,0,0,1,1,0,0,1,1,1,1,0,0]) (q49 R k16) k49))))
def TQ (R:VP) (k16 k49:Nat) (k:Nat):T63:=fun a b c d e f g h i j l m n o p q r s t u v x w=>aS [1,4,6,7,10,41,42,43,74,75,76,81,82,83] (C [1,1,1,0,1,0,0,1,1,0,0,1,1,1,1,0,0,1,1,0,0,1,1,0,0]) (q63 R k16 k49) k (fr (U 1 (.pointer a::U 2 (.slice b c d::U 1 (.pointer e::(.map f::U 2 (.int .i64 g::U 30 (.slice h i j::(.int .i64 l::(.int .i64 m::U 30 (.slice n o p::(.int .i64 q::(.int .i64 r::U 4 (.slice s t u::(.int .i64 v::(.int .i64 x::U 127 [])))))))))))))))) w
def Vd (R:VP) (k16 k49:Nat):T63:=fun a b c d e f g h i j l m n o p q r s t u v x w=>∃ k,TQ R k16 k49 k a b c d e f g h i j l m n o p q r s t u v x w
def Wh (R:VP):QT:=(Exit.inBlock 8 (qS none (C [1,1,1,1,1,1]) (qf R)))
@[irreducible] def U9 (R:VP) (k:Nat):U4:=fun a b c d e f g h i w=>aS [1,15,141,142,143] (C [1,1,1,1,1,0,1,0,0]) (Wh R) k (fr (U 1 (.pointer a::U 13 (.slice b c d::U 125 (.slice e f g::(.int .i64 h::(.int .i64 i::U 67 []))))))) w
def UJ (R:VP):U4:=fun a b c d e f g h i w=>∃ k,U9 R k a b c d e f g h i w
def l63 (R:VP) (b16:T16) (b49:T49):Nat→T63
 | 0=>fun _ _ _ _ _ _ _ _ _ _ _ _ _ _ _ _ _ _ _ _ _ _ _=>False
 | k+1=>g63 R b49 (l63 R b16 b49 k)
def e63 (R:VP) (b16:T16) (b49:T49):T63:=fun a b c d e f g h i j l m n o p q r s t u v x w=>∃ k,l63 R b16 b49 k a b c d e f g h i j l m n o p q r s t u v x w
theorem s63 (R:VP) (k16 k49:Nat) (k:Nat):TQ R k16 k49 (k+1)=fun a b c d e f g h i j l m n o p q r s t u v x w=>∀ _:Nat→Value,g63 R (QR R k16 k49) (TQ R k16 k49 k) a b c d e f g h i j l m n o p q r s t u v x w:=by kernel_rfl
theorem Vh (R:VP) (k16 k49:Nat) (b16:T16) (b49:T49) (hb16:b16=l16 R k16) (hb49:b49=QR R k16 k49):∀ k,l63 R b16 b49 k=TQ R k16 k49 k
 | 0=>by kernel_rfl
 | k+1=>by
  rw [s63]
  simp only [forall_const]
  unfold l63
  have ih:=Vh R k16 k49 b16 b49 hb16 hb49 k
  subst hb16
  subst hb49
  rw [ih]
  all_goals rfl
theorem VQ (R:VP) (k16 k49:Nat) (b16:T16) (b49:T49) (hb16:b16=l16 R k16) (hb49:b49=QR R k16 k49):e63 R b16 b49=Vd R k16 k49:=by
 unfold e63 Vd
 simp only [Vh R k16 k49 b16 b49 hb16 hb49]
def l49 (R:VP) (b16:T16):Nat→T49
 | 0=>fun _ _ _ _ _ _ _ _ _ _ _ _ _ _ _ _ _=>False
 | k+1=>g49 R b16 (e63 R b16 (l49 R b16 k))
def e49 (R:VP) (b16:T16):T49:=fun a b c d e f g h i j l m n o p q w=>∃ k,l49 R b16 k a b c d e f g h i j l m n o p q w
theorem s49 (R:VP) (k16:Nat) (k:Nat):QR R k16 (k+1)=fun a b c d e f g h i j l m n o p q w=>∀ _:Nat→Value,g49 R (l16 R k16) (Vd R k16 k) a b c d e f g h i j l m n o p q w:=by kernel_rfl
theorem Vz (R:VP) (k16:Nat) (b16:T16) (hb16:b16=l16 R k16):∀ k,l49 R b16 k=QR R k16 k
 | 0=>by kernel_rfl
 | k+1=>by
  rw [s49]
  simp only [forall_const]
  unfold l49
  have ih:=Vz R k16 b16 hb16 k
  subst hb16
  rw [VQ R k16 k _ _ rfl ih]
  all_goals rfl
theorem Wu (R:VP) (k16:Nat) (b16:T16) (hb16:b16=l16 R k16):e49 R b16=UU R k16:=by
 unfold e49 UU
 simp only [Vz R k16 b16 hb16]
def l33 (R:VP) (b16:T16):Nat→T33
 | 0=>fun _ _ _ _ _ _ _ _ _ _ _ _ _ _ _ _ _=>False
 | k+1=>g33 R (l33 R b16 k) (e49 R b16)
def e33 (R:VP) (b16:T16):T33:=fun a b c d e f g h i j l m n o p q w=>∃ k,l33 R b16 k a b c d e f g h i j l m n o p q w
theorem s33 (R:VP) (k16:Nat) (k:Nat):TZ R k16 (k+1)=fun a b c d e f g h i j l m n o p q w=>∀ _:Nat→Value,g33 R (TZ R k16 k) (UU R k16) a b c d e f g h i j l m n o p q w:=by kernel_rfl
theorem Vw (R:VP) (k16:Nat) (b16:T16) (hb16:b16=l16 R k16):∀ k,l33 R b16 k=TZ R k16 k
 | 0=>by kernel_rfl
 | k+1=>by
  rw [s33]
  simp only [forall_const]
  unfold l33
  have ih:=Vw R k16 b16 hb16 k
  subst hb16
  rw [Wu R k16 _ rfl]
  rw [ih]
  all_goals rfl
theorem Wi (R:VP) (k16:Nat) (b16:T16) (hb16:b16=l16 R k16):e33 R b16=Vq R k16:=by
 unfold e33 Vq
 simp only [Vw R k16 b16 hb16]
theorem QO (R k a b c d e f g h i w):U9 R (k+1) a b c d e f g h i w=Ux R (U9 R k) a b c d e f g h i w:=ju (by kernel_rfl)
theorem u16 (R k a b c d e f g h i w):l16 R (k+1) a b c d e f g h i w=g16 R (e33 R (l16 R k)) (UJ R) a b c d e f g h i w:=by rw [Wi R k _ rfl]; exact ju (by kernel_rfl)
end af
def af (R:VP):=af.g0 R (af.e16 R)
theorem af.calls {R a b c d e f g h i j l m n w} (k:af R a b c d e f g h i j l m n w):CA 51 #[GG a b c d e f g h i j l m n] w R:=cal (n:=af.an) func51 rfl k (by kernel_rfl)
open Go.Proofs.Try (f53 func53)
namespace eu
def an:An:=An.nil
def g0 (R:VP) (a:Int) (b:OA) (c d:Nat) (e:World):Prop :=
 nw (e.alloc (.cells (mi a b c d) 44)) fun a =>
 lY a (na e) fun b c d e =>
 CA 31 #[WS b c d e,.bool false] a fun a b =>
 ∃ c d e f,a = .tuple #[.slice c d e,.int .i64 f] ∧
 (R (.tuple #[.slice c d e,.int .i64 f]) b)
end eu
def eu (R:VP):=eu.g0 R
theorem eu.calls {R a b c d w} (k:eu R a b c d w):CA 53 #[WS a b c d] w R:=cal (n:=eu.an) func53 rfl k (by kernel_rfl)
open Go.Proofs.Try (f56 func56)
namespace dw
def an:An:=(aR (aR (aL (aR (aL (.mk (some [1,2,15,16,17]) .nil .nil))))))
def qf (R:VP):QT:=fin prog f56 R
def C:=cdN prog f56 an
abbrev T14:=OA→Nat→Nat→OA→Nat→Nat→Int→Int→World→Prop
def g0 (R:VP) (e14:T14) (a:OA) (b c:Nat) (d:OA) (e f:Nat) (g:World):Prop :=
 ae ((b:Int) != (e:Int))
 (R (.bool false) g)
 (e14 d e f a b c (b:Int) 0 g)
def g14 (R:VP) (b14:T14) (a:OA) (b c:Nat) (d:OA) (e f:Nat) (g h:Int) (i:World):Prop :=
 ae (decide (h<g))
 (ix d e h fun j =>
 iF i (j.add (h.toNat*8)) fun j k l m n o p q r s =>
 nw (i.alloc (.cells (jQ 0 0 0 0 none 0 0 0 0 0) 101)) fun t =>
 oJ t (na i) j k l m n o p q r s fun j =>
 ix a b h fun k =>
 iF j (k.add (h.toNat*8)) fun k l m n o p q r s t =>
 nw (j.alloc (.cells (jQ 0 0 0 0 none 0 0 0 0 0) 101)) fun u =>
 oJ u (na j) k l m n o p q r s t fun k =>
 iF k (na i) fun l m n o p q r s t u =>
 iF k (na j) fun j v w x y z A B C D =>
 CA 57 #[qG l m n o p q r s t u,qG j v w x y z A B C D] k fun j k =>
 ∃ l,j = .bool l ∧
 (ae (!l)
 (R (.bool false) k)
 (inc h fun h =>
 b14 a b c d e f g h k)))
 (R (.bool true) i)
def q14 (R:VP):QT:=(Exit.inBlock 0 (qS none (C [1,1,1]) (qf R)))
@[irreducible] def l14 (R:VP) (k:Nat):T14:=fun a b c d e f g h w=>aS [1,2,15,16,17] (C [1,1,0,1,0,0]) (q14 R) k (fr (U 1 (.slice a b c::(.func (.func 57) #[] #[]::U 12 (.slice d e f::(.int .i64 g::(.int .i64 h::U 14 []))))))) w
def e14 (R:VP):T14:=fun a b c d e f g h w=>∃ k,l14 R k a b c d e f g h w
theorem u14 (R k a b c d e f g h w):l14 R (k+1) a b c d e f g h w=g14 R (l14 R k) a b c d e f g h w:=ju (by kernel_rfl)
end dw
def dw (R:VP):=dw.g0 R (dw.e14 R)
theorem dw.calls {R a b c d e f w} (k:dw R a b c d e f w):CA 56 #[.slice a b c,.slice d e f,.func (.func 57) #[] #[]] w R:=cal (n:=dw.an) func56 rfl k (by kernel_rfl)
open Go.Proofs.Try (f57 func57)
namespace dO
def an:An:=An.nil
def g0 (R:VP) (a b c:Int) (d:Nat) (e:OA) (f g:Nat) (h i j k l m:Int) (n:Nat) (o:OA) (p q:Nat) (r s t:Int) (u:World):Prop :=
 nw (u.alloc (.cells (jQ a b c d e f g h i j) 101)) fun a =>
 nw (a.alloc (.cells (jQ k l m n o p q r s t) 101)) fun b =>
 cI b ((na u).add 0) .u8 fun c =>
 cI b ((na a).add 0) .u8 fun d =>
 ae (c==d)
 (cI b ((na u).add 1) .i64 fun c =>
 cI b ((na a).add 1) .i64 fun d =>
 ae (c==d)
 (cI b ((na u).add 2) .i64 fun c =>
 cI b ((na a).add 2) .i64 fun d =>
 ae (c==d)
 (cF b ((na u).add 3) .f64 fun c =>
 ∃ d,qE prog (callFunc 58 #[.float .f64 c]) b (.int .u64 d) ∧
 (cF b ((na a).add 3) .f64 fun c =>
 ∃ e,qE prog (callFunc 58 #[.float .f64 c]) b (.int .u64 e) ∧
 (ae (d==e)
 (cL b ((na u).add 4) fun c d e =>
 cL b ((na a).add 4) fun f g h =>
 ∃ i,(∀ j:World,Below b.heap.size b j→CA 35 #[.slice c d e,.slice f g h] j fun c d=>c = .bool i∧Below b.heap.size b d) ∧
 (ae i
 (cI b ((na u).add 5) .u8 fun c =>
 cI b ((na a).add 5) .u8 fun d =>
 ae (c==d)
 (cI b ((na u).add 6) .i64 fun c =>
 cI b ((na a).add 6) .i64 fun d =>
 ae (c==d)
 (cI b ((na u).add 7) .i64 fun c =>
 cI b ((na a).add 7) .i64 fun a =>
 ∀ d:World,Below b.heap.size b d →
 R (.bool (c==a)) d)
 (∀ a:World,Below b.heap.size b a →
 R (.bool false) a))
 (∀ a:World,Below b.heap.size b a →
 R (.bool false) a))
 (∀ a:World,Below b.heap.size b a →
 R (.bool false) a)))
 (∀ a:World,Below b.heap.size b a →
 R (.bool false) a))))
 (∀ a:World,Below b.heap.size b a →
 R (.bool false) a))
 (∀ a:World,Below b.heap.size b a →
 R (.bool false) a))
 (∀ a:World,Below b.heap.size b a →
 R (.bool false) a)
end dO
def dO (R:VP):=dO.g0 R
theorem dO.calls {R a b c d e f g h i j l m n o p q r s t u w} (k:dO R a b c d e f g h i j l m n o p q r s t u w):CA 57 #[qG a b c d e f g h i j,qG l m n o p q r s t u] w R:=cal (n:=dO.an) func57 rfl k (by kernel_rfl)
open Go.Proofs.Try (f59 func59)
namespace aC
def an:An:=(aR (aR (aR (.mk none (aR (aL (.mk (some [7,27,28,29]) (aR (aR (aL (aL (aR (aR (aR (aL (.mk (some [7,8,9,27,28,29,39,40,41]) (aR (aR (aL (aL (aR (aR (aR (.mk (some [7,8,9,13,14,15,27,28,29,39,40,41]) .nil (aR (.mk (some [7,8,9,14,15,16,27,28,29,39,40,41]) .nil .nil)))))))))) .nil))))))))) .nil))) (aR (aL (aR (aL (.mk (some [17,117]) (.mk (some [17,117,119]) .nil .nil) .nil)))))))))
def qf (R:VP):QT:=fin prog f59 R
def C:=cdN prog f59 an
abbrev T18:=(Option Nat)→OA→Nat→Nat→Int→Int→World→Prop
abbrev T34:=(Option Nat)→Int→OA→OA→Nat→Nat→Int→Int→OA→Nat→Nat→Int→Int→World→Prop
abbrev T57:=(Option Nat)→Int→OA→OA→OA→OA→OA→Nat→Nat→Int→Int→OA→Nat→Nat→Int→Int→World→Prop
abbrev T65:=(Option Nat)→Int→OA→OA→OA→OA→OA→Nat→Nat→Int→Int→OA→Nat→Nat→Int→Int→World→Prop
abbrev T78:=OA→Nat→Nat→OA→World→Prop
abbrev T81:=OA→Nat→Nat→OA→Bool→World→Prop
def g0 (R:VP) (e18:T18) (a:OA) (b c:Nat) (d:Int) (e:World):Prop :=
 CA 71 #[.slice a b c,.int .i64 d] e fun d e =>
 ∃ f,d = .int .i64 f ∧
 (ae (f != 0)
 (R (.tuple #[.slice none 0 0,.int .i64 f]) e)
 (nw (e.alloc (.map #[] 0)) fun d =>
 e18 (some e.heap.size) a b c (b:Int) 0 d))
def g18 (R:VP) (e34:T34) (e78:T78) (a:Option Nat) (b:OA) (c d:Nat) (e f:Int) (g:World):Prop :=
 ae (decide (f<e))
 (ix b c f fun h =>
 lY g (h.add (f.toNat*2)) fun h i j k =>
 nw (g.alloc (.cells (mi 0 none 0 0) 44)) fun l =>
 zZ l (na g) h i j k fun h =>
 lY h (na g) fun i j k l =>
 CA 72 #[WS i j k l] h fun h i =>
 ∃ j k l m,h = .tuple #[.slice j k l,.int .i64 m] ∧
 (e34 a f (some (na g)) b c d e f j k l (k:Int) 0 i))
 (cO prog (Instr.range 130 (.map a)) g fun a b =>
 ∃ c:Addr,a = .pointer (some c) ∧
 (e78 none 0 0 (some c) b))
def g34 (R:VP) (b18:T18) (j57:T57) (a:Option Nat) (b:Int) (c d:OA) (e f:Nat) (g h:Int) (i:OA) (j k:Nat) (l m:Int) (n:World):Prop :=
 ae (decide (m<l))
 (ix i j m fun o =>
 Vf n (o.add (m.toNat*3)) fun o p q =>
 nw (n.alloc (.cells (TJ 0 0 0) 135)) fun r =>
 Ul r (na n) o p q fun o =>
 aY c fun p =>
 cL o (p.add 1) fun p q r =>
 cI o ((na n).add 0) .i64 fun r =>
 ix p q r fun p =>
 iF o (p.add (r.toNat*8)) fun p q r s t u v w x y =>
 nw (o.alloc (.cells (jQ 0 0 0 0 none 0 0 0 0 0) 101)) fun z =>
 oJ z (na o) p q r s t u v w x y fun p =>
 cI p ((na o).add 2) .i64 fun q =>
 cO prog (Instr.lookup 130 (.map a) (.int .i64 q) false) p fun p q =>
 ∃ r,p = .pointer r ∧
 (ae r.isNone
 (cI q ((na o).add 2) .i64 fun p =>
 nw (q.alloc (.cells (zK p none 0 0 none 0 0 none 0 0) 69)) fun p =>
 cI p ((na o).add 2) .i64 fun s =>
 cO prog (do Instr.mapUpdate 130 (.map a) (.int .i64 s) (.pointer (some (na q))); pure undef) p fun _ p =>
 j57 a b c (some (na n)) (some (na o)) (some (na q)) d e f g h i j k l m p)
 (j57 a b c (some (na n)) (some (na o)) r d e f g h i j k l m q)))
 (inc h fun b =>
 b18 a d e f g b n)
def g57 (R:VP) (j65:T65) (a:Option Nat) (b:Int) (c d e f g:OA) (h i:Nat) (j k:Int) (l:OA) (m n:Nat) (o p:Int) (q:World):Prop :=
 aY e fun r =>
 cF q (r.add 3) .f64 fun r =>
 aY e fun s =>
 cL q (s.add 4) fun s t u =>
 aY d fun v =>
 cI q (v.add 1) .i64 fun v =>
 aY d fun d =>
 cI q (d.add 2) .i64 fun d =>
 nw (q.alloc (.cells (yH 0 none 0 0 0 0 0) 72)) fun w =>
 D9 w (na q) r s t u b v d fun d =>
 aY e fun r =>
 cI d (r.add 0) .u8 fun r =>
 ae (r==3)
 (∃ r:World,CK r d ∧
 (aY f fun s =>
 cL r (s.add 2) fun s t u =>
 oW r (na q) fun v w x y z A B =>
 CA 73 #[pX v w x y z A B] d fun v w =>
 ∃ x y z A B C D,v=pX x y z A B C D ∧
 (CK r w ∧
 (nw (w.alloc (.cells (yH x y z A B C D) 72)) fun v =>
 CK r v ∧
 (cO prog (Builtin.append_ #[67,67] 67 #[.slice s t u,.slice (some (na w)) 1 1]) v fun s t =>
 ∃ u v w,s = .slice u v w ∧
 (CK r t ∧
 (aY f fun r =>
 st t ((r.add 2).add 0) (.slice u v w) fun r =>
 j65 a b c e f (some (na q)) g h i j k l m n o p r)))))))
 (∃ r:World,CK r d ∧
 (aY f fun s =>
 cL r (s.add 1) fun s t u =>
 oW r (na q) fun v w x y z A B =>
 CA 73 #[pX v w x y z A B] d fun d v =>
 ∃ w x y z A B C,d=pX w x y z A B C ∧
 (CK r v ∧
 (nw (v.alloc (.cells (yH w x y z A B C) 72)) fun d =>
 CK r d ∧
 (cO prog (Builtin.append_ #[67,67] 67 #[.slice s t u,.slice (some (na v)) 1 1]) d fun d s =>
 ∃ t u v,d = .slice t u v ∧
 (CK r s ∧
 (aY f fun d =>
 st s ((d.add 1).add 0) (.slice t u v) fun d =>
 j65 a b c e f (some (na q)) g h i j k l m n o p d)))))))
def g65 (R:VP) (b34:T34) (a:Option Nat) (b:Int) (c d e f g:OA) (h i:Nat) (j k:Int) (l:OA) (m n:Nat) (o p:Int) (q:World):Prop :=
 aY d fun d =>
 cI q (d.add 5) .u8 fun d =>
 ae (d==2)
 (∃ d:World,CK d q ∧
 (aY e fun r =>
 cL d (r.add 3) fun r s t =>
 aY f fun f =>
 oW d f fun f u v w x y z =>
 CA 73 #[pX f u v w x y z] q fun f u =>
 ∃ v w x y z A B,f=pX v w x y z A B ∧
 (CK d u ∧
 (nw (u.alloc (.cells (yH v w x y z A B) 72)) fun f =>
 CK d f ∧
 (cO prog (Builtin.append_ #[67,67] 67 #[.slice r s t,.slice (some (na u)) 1 1]) f fun f r =>
 ∃ s t u,f = .slice s t u ∧
 (CK d r ∧
 (aY e fun d =>
 st r ((d.add 3).add 0) (.slice s t u) fun d =>
 inc p fun e =>
 b34 a b c g h i j k l m n o e d)))))))
 (inc p fun d =>
 b34 a b c g h i j k l m n o d q)
def g78 (R:VP) (j81:T81) (a:OA) (b c:Nat) (d:OA) (e:World):Prop :=
 cO prog (Instr.next (.pointer d) false 0) e fun e f =>
 (e = .tuple #[.bool false] ∧
 (j81 a b c d false f)) ∨
 (∃ g h:Value,e = .tuple #[.bool true,g,h] ∧
 (j81 a b c d true f))
def g81 (R:VP) (b78:T78) (a:OA) (b c:Nat) (d:OA) (e:Bool) (f:World):Prop :=
 ae e
 (cO prog (Instr.entry (.pointer d)) f fun e g =>
 ∃ h i:Value,e = .tuple #[h,i] ∧
 (ckN i fun e =>
 Gn e fun e =>
 cL g (e.add 1) fun e h j =>
 CA 74 #[.slice e h j,.func (.func 75) #[] #[]] g fun e g =>
 e = .tuple #[] ∧
 (ckN i fun e =>
 Gn e fun e =>
 sV g e fun e h i j k l m n o p =>
 nw (g.alloc (.cells (zK e h i j k l m n o p) 69)) fun e =>
 cO prog (Builtin.append_ #[64,64] 64 #[.slice a b c,.slice (some (na g)) 1 1]) e fun e g =>
 ∃ h i j,e = .slice h i j ∧
 (b78 h i j d g))))
 (CA 77 #[.slice a b c,.func (.func 78) #[] #[]] f fun d e =>
 d = .tuple #[] ∧
 (R (.tuple #[.slice a b c,.int .i64 0]) e))
def q18 (R:VP):QT:=(Exit.inBlock 0 (qS none (C [1,1,1,1]) (qf R)))
@[irreducible] def l18 (R:VP) (k:Nat):T18:=fun a b c d e f w=>aS [7,27,28,29] (C [1,1,1,0,1,0,0]) (q18 R) k (fr (U 7 (.map a::U 19 (.slice b c d::(.int .i64 e::(.int .i64 f::U 106 [])))))) w
def e18 (R:VP):T18:=fun a b c d e f w=>∃ k,l18 R k a b c d e f w
def q34 (R:VP) (k18:Nat):QT:=(Exit.inBlock 2 (Exit.inBlock 1 (qS none (C [1,1,1,0,1,0,0,1,1,1]) (qL [7,27,28,29] (C [1,1,1,0,1,0,0]) (q18 R) k18))))
def wM (R:VP) (k18:Nat) (k:Nat):T34:=fun a b c d e f g h i j l m n w=>aS [7,8,9,27,28,29,39,40,41] (C [1,1,1,0,1,0,0,1,1,0,0,1,1,1,0,0]) (q34 R k18) k (fr (U 7 (.map a::(.int .i64 b::(.pointer c::U 17 (.slice d e f::(.int .i64 g::(.int .i64 h::U 9 (.slice i j l::(.int .i64 m::(.int .i64 n::U 94 []))))))))))) w
def IV (R:VP) (k18:Nat):T34:=fun a b c d e f g h i j l m n w=>∃ k,wM R k18 k a b c d e f g h i j l m n w
def Vb (R:VP) (k18 k34:Nat):T57:=fun a b c d e f g h i j l m n o p q w=>ji (some [7,8,9,13,14,15,27,28,29,39,40,41]) (C [1,1,1,0,1,0,0,1,1,0,0,1,1,1,0,0,1,1,0,0,1,1,1,1] (Exit.inBlock 3 (qS none (C [1,1,1,0,1,0,0,1,1,0,0,1,1,1,0,0,1,1,1]) (qL [7,8,9,27,28,29,39,40,41] (C [1,1,1,0,1,0,0,1,1,0,0,1,1,1,0,0]) (q34 R k18) k34)))) (fr (U 7 (.map a::(.int .i64 b::(.pointer c::U 3 (.pointer d::(.pointer e::(.pointer f::U 11 (.slice g h i::(.int .i64 j::(.int .i64 l::U 9 (.slice m n o::(.int .i64 p::(.int .i64 q::U 94 [])))))))))))))) w
def Va (R:VP) (k18 k34:Nat):T65:=fun a b c d e f g h i j l m n o p q w=>ji (some [7,8,9,14,15,16,27,28,29,39,40,41]) (C [1,1,1,0,1,0,0,1,1,0,0,1,1,1,0,0,1,1,0,0,1,1,1,1,1,1] (Exit.inBlock 3 (qS none (C [1,1,1,0,1,0,0,1,1,0,0,1,1,1,0,0,1,1,1]) (qL [7,8,9,27,28,29,39,40,41] (C [1,1,1,0,1,0,0,1,1,0,0,1,1,1,0,0]) (q34 R k18) k34)))) (fr (U 7 (.map a::(.int .i64 b::(.pointer c::U 4 (.pointer d::(.pointer e::(.pointer f::U 10 (.slice g h i::(.int .i64 j::(.int .i64 l::U 9 (.slice m n o::(.int .i64 p::(.int .i64 q::U 94 [])))))))))))))) w
def q78 (R:VP):QT:=(Exit.inBlock 4 (qS none (C [1,1,1,1,1,1]) (qf R)))
@[irreducible] def l78 (R:VP) (k:Nat):T78:=fun a b c d w=>aS [17,117] (C [1,1,1,1,1,0,1,0,0]) (q78 R) k (fr (U 17 (.slice a b c::U 99 (.pointer d::U 18 [])))) w
def e78 (R:VP):T78:=fun a b c d w=>∃ k,l78 R k a b c d w
def VB (R:VP) (k78:Nat):T81:=fun a b c d e w=>ji (some [17,117,119]) (C [1,1,1,1,1,0,1,0,0,1] (qL [17,117] (C [1,1,1,1,1,0,1,0,0]) (q78 R) k78)) (fr (U 17 (.slice a b c::U 99 (.pointer d::U 1 (.bool e::U 16 []))))) w
def j65 (R:VP) (b18:T18) (b34:T34):T65:=g65 R b34
theorem s65 (R:VP) (k18 k34:Nat):Va R k18 k34=fun a b c d e f g h i j l m n o p q w=>∀ _:Nat→Value,g65 R (wM R k18 k34) a b c d e f g h i j l m n o p q w:=by kernel_rfl
theorem VN (R:VP) (k18 k34:Nat) (b18:T18) (b34:T34) (hb18:b18=l18 R k18) (hb34:b34=wM R k18 k34):j65 R b18 b34=Va R k18 k34:=by
  rw [s65]
  simp only [forall_const]
  unfold j65
  subst hb18
  subst hb34
  all_goals rfl
def j57 (R:VP) (b18:T18) (b34:T34):T57:=g57 R (j65 R b18 b34)
theorem s57 (R:VP) (k18 k34:Nat):Vb R k18 k34=fun a b c d e f g h i j l m n o p q w=>∀ _:Nat→Value,g57 R (Va R k18 k34) a b c d e f g h i j l m n o p q w:=by kernel_rfl
theorem WC (R:VP) (k18 k34:Nat) (b18:T18) (b34:T34) (hb18:b18=l18 R k18) (hb34:b34=wM R k18 k34):j57 R b18 b34=Vb R k18 k34:=by
  rw [s57]
  simp only [forall_const]
  unfold j57
  subst hb18
  subst hb34
  rw [VN R k18 k34 _ _ rfl rfl]
  all_goals rfl
def l34 (R:VP) (b18:T18):Nat→T34
 | 0=>fun _ _ _ _ _ _ _ _ _ _ _ _ _ _=>False
 | k+1=>g34 R b18 (j57 R b18 (l34 R b18 k))
def e34 (R:VP) (b18:T18):T34:=fun a b c d e f g h i j l m n w=>∃ k,l34 R b18 k a b c d e f g h i j l m n w
theorem s34 (R:VP) (k18:Nat) (k:Nat):wM R k18 (k+1)=fun a b c d e f g h i j l m n w=>∀ _:Nat→Value,g34 R (l18 R k18) (Vb R k18 k) a b c d e f g h i j l m n w:=by kernel_rfl
theorem HY (R:VP) (k18:Nat) (b18:T18) (hb18:b18=l18 R k18):∀ k,l34 R b18 k=wM R k18 k
 | 0=>by kernel_rfl
 | k+1=>by
  rw [s34]
  simp only [forall_const]
  unfold l34
  have ih:=HY R k18 b18 hb18 k
  subst hb18
  rw [WC R k18 k _ _ rfl ih]
  all_goals rfl
theorem Py (R:VP) (k18:Nat) (b18:T18) (hb18:b18=l18 R k18):e34 R b18=IV R k18:=by
 unfold e34 IV
 simp only [HY R k18 b18 hb18]
def j81 (R:VP) (b78:T78):T81:=g81 R b78
theorem s81 (R:VP) (k78:Nat):VB R k78=fun a b c d e w=>∀ _:Nat→Value,g81 R (l78 R k78) a b c d e w:=by kernel_rfl
theorem Wy (R:VP) (k78:Nat) (b78:T78) (hb78:b78=l78 R k78):j81 R b78=VB R k78:=by
  rw [s81]
  simp only [forall_const]
  unfold j81
  subst hb78
  all_goals rfl
theorem u78 (R k a b c d w):l78 R (k+1) a b c d w=g78 R (j81 R (l78 R k)) a b c d w:=by rw [Wy R k _ rfl]; exact ju (by kernel_rfl)
theorem u18 (R k a b c d e f w):l18 R (k+1) a b c d e f w=g18 R (e34 R (l18 R k)) (e78 R) a b c d e f w:=by rw [Py R k _ rfl]; exact ju (by kernel_rfl)
end aC
def aC (R:VP):=aC.g0 R (aC.e18 R)
theorem aC.calls {R a b c d w} (k:aC R a b c d w):CA 59 #[.slice a b c,.int .i64 d] w R:=cal (n:=aC.an) func59 rfl k (by kernel_rfl)
open Go.Proofs.Try (f60 func60)
namespace ay
def an:An:=(aR (aR (aR (.mk none (aR (aL (.mk (some [1,4,22,23,24]) .nil .nil))) (aR (aR (.mk none (aL (.mk (some [1,4,7,8]) .nil .nil)) (aL (aR (aL (.mk (some [4,7,95,96]) .nil .nil)))))))))))
def qf (R:VP):QT:=fin prog f60 R
def C:=cdN prog f60 an
abbrev T16:=OA→OA→Nat→Nat→OA→Nat→Nat→Int→Int→World→Prop
abbrev T49:=OA→OA→Nat→Nat→OA→Nat→Nat→OA→Nat→Nat→World→Prop
abbrev T80:=OA→Nat→Nat→OA→Nat→Nat→Int→Int→World→Prop
def g0 (R:VP) (e16:T16) (a:Int) (b:OA) (c d:Nat) (e:World):Prop :=
 nw (e.alloc (.cells (mi a b c d) 44)) fun a =>
 cL a ((na e).add 1) fun b b c =>
 ae ((b:Int)==0)
 (R (.tuple #[.int .i64 70,.int .i64 0]) a)
 (cL a ((na e).add 1) fun b b c =>
 chk ((0:Int)≤(b:Int)∧(b:Int)≤(b:Int)∧((8:Nat):Int)*(b:Int)≤281474976710656∧(b:Int)≤9223372036854775807)
 (nw (a.alloc (.cells (madeCells #[.int .i64 0] (((b:Int)).toNat*1)) 3)) fun c =>
 cL c ((na e).add 1) fun d f g =>
 e16 (some (na e)) (some (na a)) (((b:Int)).toNat) (((b:Int)).toNat) d f g (f:Int) 0 c))
def g16 (R:VP) (b16:T16) (e49:T49) (a b:OA) (c d:Nat) (e:OA) (f g:Nat) (h i:Int) (j:World):Prop :=
 ae (decide (i<h))
 (ix e f i fun k =>
 iF j (k.add (i.toNat*8)) fun k l m n o p q r s t =>
 nw (j.alloc (.cells (jQ 0 0 0 0 none 0 0 0 0 0) 101)) fun u =>
 oJ u (na j) k l m n o p q r s t fun k =>
 iF k (na j) fun l m n o p q r s t u =>
 aY a fun v =>
 cL k (v.add 1) fun v v w =>
 CA 79 #[qG l m n o p q r s t u,.int .i64 (v:Int)] k fun k l =>
 ∃ m,k = .bool m ∧
 (ae (!m)
 (R (.tuple #[.int .i64 71,.int .i64 i]) l)
 (iF l (na j) fun k m n o p q r s t u =>
 CA 62 #[qG k m n o p q r s t u] l fun k l =>
 ∃ m,k = .bool m ∧
 (ae m
 (cI l ((na j).add 6) .i64 fun k =>
 ix b c k fun m =>
 cI l (m.add (k.toNat*1)) .i64 fun m =>
 inc m fun m =>
 ix b c k fun n =>
 st l ((n.add (k.toNat*1)).add 0) (.int .i64 m) fun k =>
 cI k ((na j).add 7) .i64 fun m =>
 ix b c m fun n =>
 cI k (n.add (m.toNat*1)) .i64 fun n =>
 inc n fun n =>
 ix b c m fun o =>
 st k ((o.add (m.toNat*1)).add 0) (.int .i64 n) fun k =>
 inc i fun m =>
 b16 a b c d e f g h m k)
 (inc i fun i =>
 b16 a b c d e f g h i l)))))
 (aY a fun e =>
 cL j (e.add 1) fun e e f =>
 chk ((0:Int)≤(e:Int)∧(e:Int)≤(e:Int)∧((1:Nat):Int)*(e:Int)≤281474976710656∧(e:Int)≤9223372036854775807)
 (nw (j.alloc (.cells (madeCells #[.bool false] (((e:Int)).toNat*1)) 4)) fun f =>
 nw (f.alloc (.cells #[.int .i64 0] 3)) fun g =>
 e49 a b c d (some (na j)) (((e:Int)).toNat) (((e:Int)).toNat) (some (na f)) 1 1 g))
def g49 (R:VP) (b49:T49) (e80:T80) (a b:OA) (c d:Nat) (e:OA) (f g:Nat) (h:OA) (i j:Nat) (k:World):Prop :=
 ae (decide ((i:Int)>0))
 (nv (IntKind.i64.wrap ((i:Int) - 1)) fun l =>
 ix h i l fun m =>
 cI k (m.add (l.toNat*1)) .i64 fun l =>
 nv (IntKind.i64.wrap ((i:Int) - 1)) fun i =>
 chk ((0:Int)≤i∧i≤(j:Int))
 (ix e f l fun m =>
 cB k (m.add (l.toNat*1)) fun m =>
 ae m
 (b49 a b c d e f g (slA h j 0 1) i.toNat j k)
 (ix e f l fun m =>
 st k ((m.add (l.toNat*1)).add 0) (.bool true) fun m =>
 aY a fun n =>
 cL m (n.add 1) fun n o p =>
 ix n o l fun n =>
 iF m (n.add (l.toNat*8)) fun l n o p q r s t u v =>
 nw (m.alloc (.cells (jQ 0 0 0 0 none 0 0 0 0 0) 101)) fun w =>
 oJ w (na m) l n o p q r s t u v fun l =>
 iF l (na m) fun n o p q r s t u v w =>
 CA 62 #[qG n o p q r s t u v w] l fun l n =>
 ∃ o,l = .bool o ∧
 (ae o
 (cI n ((na m).add 6) .i64 fun l =>
 cI n ((na m).add 7) .i64 fun m =>
 nw (n.alloc (.cells (Qv l m) 3)) fun l =>
 cO prog (Builtin.append_ #[45,45] 45 #[.slice (slA h j 0 1) i.toNat j,.slice (some (na n)) 2 2]) l fun l m =>
 ∃ o p q,l = .slice o p q ∧
 (b49 a b c d e f g o p q m))
 (b49 a b c d e f g (slA h j 0 1) i.toNat j n)))))
 (aY a fun a =>
 cL k (a.add 1) fun a a h =>
 e80 b c d e f g (a:Int) 0 k)
def g80 (R:VP) (b80:T80) (a:OA) (b c:Nat) (d:OA) (e f:Nat) (g h:Int) (i:World):Prop :=
 ae (decide (h<g))
 (nv ((if 1<h then 1 else h)) fun j =>
 ix a b h fun k =>
 cI i (k.add (h.toNat*1)) .i64 fun k =>
 ae (k != j)
 (R (.tuple #[.int .i64 70,.int .i64 h]) i)
 (ix d e h fun j =>
 cB i (j.add (h.toNat*1)) fun j =>
 ae (!j)
 (R (.tuple #[.int .i64 70,.int .i64 h]) i)
 (inc h fun h =>
 b80 a b c d e f g h i)))
 (R (.tuple #[.int .i64 0,.int .i64 0]) i)
def q16 (R:VP):QT:=(Exit.inBlock 0 (qS none (C [1,1,1,1]) (qf R)))
@[irreducible] def l16 (R:VP) (k:Nat):T16:=fun a b c d e f g h i w=>aS [1,4,22,23,24] (C [1,1,1,0,1,0,0]) (q16 R) k (fr (U 1 (.pointer a::U 2 (.slice b c d::U 17 (.slice e f g::(.int .i64 h::(.int .i64 i::U 91 []))))))) w
def e16 (R:VP):T16:=fun a b c d e f g h i w=>∃ k,l16 R k a b c d e f g h i w
def q49 (R:VP):QT:=(Exit.inBlock 2 (qS none (C [1,1,1,1,1,1,1]) (qf R)))
@[irreducible] def l49 (R:VP) (k:Nat):T49:=fun a b c d e f g h i j w=>aS [1,4,7,8] (C [1,1,1,1,1,1,0,0,0]) (q49 R) k (fr (U 1 (.pointer a::U 2 (.slice b c d::U 2 (.slice e f g::(.slice h i j::U 107 [])))))) w
def e49 (R:VP):T49:=fun a b c d e f g h i j w=>∃ k,l49 R k a b c d e f g h i j w
def q80 (R:VP):QT:=(Exit.inBlock 4 (qS none (C [1,1,1,1,1,1,1,1]) (qf R)))
@[irreducible] def l80 (R:VP) (k:Nat):T80:=fun a b c d e f g h w=>aS [4,7,95,96] (C [1,1,1,1,1,1,1,0,1,0,0]) (q80 R) k (fr (U 4 (.slice a b c::U 2 (.slice d e f::U 87 (.int .i64 g::(.int .i64 h::U 19 [])))))) w
def e80 (R:VP):T80:=fun a b c d e f g h w=>∃ k,l80 R k a b c d e f g h w
theorem u80 (R k a b c d e f g h w):l80 R (k+1) a b c d e f g h w=g80 R (l80 R k) a b c d e f g h w:=ju (by kernel_rfl)
theorem u49 (R k a b c d e f g h i j w):l49 R (k+1) a b c d e f g h i j w=g49 R (l49 R k) (e80 R) a b c d e f g h i j w:=ju (by kernel_rfl)
theorem u16 (R k a b c d e f g h i w):l16 R (k+1) a b c d e f g h i w=g16 R (l16 R k) (e49 R) a b c d e f g h i w:=ju (by kernel_rfl)
end ay
def ay (R:VP):=ay.g0 R (ay.e16 R)
theorem ay.calls {R a b c d w} (k:ay R a b c d w):CA 60 #[WS a b c d] w R:=cal (n:=ay.an) func60 rfl k (by kernel_rfl)
end Go.Mir
