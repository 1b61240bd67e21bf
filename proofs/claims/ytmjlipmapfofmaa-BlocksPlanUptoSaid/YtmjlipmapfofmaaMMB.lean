/- Part of a proof of laws of the seat Ytmjlipmapfofmaa: functions' weakest preconditions, each checked by the kernel, contracts out of them, plain lemmas; no conditions. -/
import Derived.Test.YtmjlipmapfofmaaMMA
set_option linter.unusedVariables false
set_option linter.unusedSimpArgs false
set_option linter.unusedSectionVars false
set_option linter.unusedVariables false
set_option maxRecDepth 100000
namespace Go.Mir
open Go Go.E Go.RowKit
open Go.Proofs.Try (prog)
open Go.Proofs.Try (f33 func33)
namespace Eq_block
def an : An := (aR (aR (aL (aR (aL (.mk (some [1, 2, 15, 16, 17]) .nil .nil))))))
def qf (R : VP) : QT := fin prog f33 R
def C := cdN prog f33 an
abbrev T14 := OA → Nat → Nat → OA → Nat → Nat → Int → Int → World → Prop
def g0 (R : VP) (e14 : T14) (a : OA) (b c : Nat) (d : OA) (e f : Nat) (g : World) : Prop :=
 onBool ((b : Int) != (e : Int))
 (R (.bool false) g)
 (e14 d e f a b c (b : Int) 0 g)
def g14 (R : VP) (b14 : T14) (a : OA) (b c : Nat) (d : OA) (e f : Nat) (g h : Int) (i : World) : Prop :=
 onBool (decide (h < g))
 (ix d e h fun j =>
 ld65 i (j.add (h.toNat * 5)) fun j k l m n o p q r s t u v =>
 nw (i.alloc (.cells (cl65 0 none 0 0 none 0 0 none 0 0 none 0 0) 66)) fun w =>
 st65 w (na i) j k l m n o p q r s t u v fun j =>
 ix a b h fun k =>
 ld65 j (k.add (h.toNat * 5)) fun k l m n o p q r s t u v w =>
 nw (j.alloc (.cells (cl65 0 none 0 0 none 0 0 none 0 0 none 0 0) 66)) fun x =>
 st65 x (na j) k l m n o p q r s t u v w fun k =>
 ld65 k (na i) fun l m n o p q r s t u v w x =>
 ld65 k (na j) fun j y z A B C D E F G H I J =>
 CA 34 #[ag65 l m n o p q r s t u v w x, ag65 j y z A B C D E F G H I J] k fun j k =>
 ∃ l, j = .bool l ∧
 (onBool (!l)
 (R (.bool false) k)
 (inc h fun h =>
 b14 a b c d e f g h k)))
 (R (.bool true) i)
def q14 (R : VP) : QT := (Exit.inBlock 0 (qS none (C [1,1,1]) (qf R)))
@[irreducible] def l14 (R : VP) (k : Nat) : T14 := fun a b c d e f g h w => loopN [1,2,15,16,17] (C [1,1,0,1,0,0]) (q14 R) k (fr (U 1 (.slice a b c :: (.func (.func 34) #[] #[] :: U 12 (.slice d e f :: (.int .i64 g :: (.int .i64 h :: U 14 []))))))) w
def e14 (R : VP) : T14 := fun a b c d e f g h w => ∃ k, l14 R k a b c d e f g h w
theorem u14 (R k a b c d e f g h w) : l14 R (k + 1) a b c d e f g h w = g14 R (l14 R k) a b c d e f g h w := ju (by kernel_rfl)
end Eq_block
def Eq_block (R : VP) := Eq_block.g0 R (Eq_block.e14 R)
theorem Eq_block.calls {R a b c d e f w} (k : Eq_block R a b c d e f w) : CA 33 #[.slice a b c, .slice d e f, .func (.func 34) #[] #[]] w R := cal (n := Eq_block.an) func33 rfl k (by kernel_rfl)
open Go.Proofs.Try (f34 func34)
namespace blocks_Same_1
def an : An := An.nil
def g0 (R : VP) (a : Int) (b : OA) (c d : Nat) (e : OA) (f g : Nat) (h : OA) (i j : Nat) (k : OA) (l m : Nat) (n : Int) (o : OA) (p q : Nat) (r : OA) (s t : Nat) (u : OA) (v w : Nat) (x : OA) (y z : Nat) (A : World) : Prop :=
 nw (A.alloc (.cells (cl65 a b c d e f g h i j k l m) 66)) fun a =>
 nw (a.alloc (.cells (cl65 n o p q r s t u v w x y z) 66)) fun b =>
 cI b ((na A).add 0) .i64 fun c =>
 cI b ((na a).add 0) .i64 fun d =>
 onBool (c == d)
 (cL b ((na A).add 1) fun c d e =>
 cL b ((na a).add 1) fun f g h =>
 CA 35 #[.slice c d e, .slice f g h] b fun c d =>
 ∃ e, c = .bool e ∧
 (onBool e
 (cL d ((na A).add 2) fun c e f =>
 cL d ((na a).add 2) fun g h i =>
 CA 36 #[.slice c e f, .slice g h i, .func (.func 32) #[] #[]] d fun c e =>
 ∃ f, c = .bool f ∧
 (onBool f
 (cL e ((na A).add 3) fun c f g =>
 cL e ((na a).add 3) fun h i j =>
 CA 35 #[.slice c f g, .slice h i j] e fun c f =>
 ∃ g, c = .bool g ∧
 (onBool g
 (cL f ((na A).add 4) fun c g h =>
 cL f ((na a).add 4) fun a i j =>
 CA 37 #[.slice c g h, .slice a i j, .func (.func 38) #[] #[]] f fun a c =>
 ∃ g, a = .bool g ∧
 (R (.bool g) c))
 (R (.bool false) f)))
 (R (.bool false) e)))
 (R (.bool false) d)))
 (R (.bool false) b)
end blocks_Same_1
def blocks_Same_1 (R : VP) := blocks_Same_1.g0 R
theorem blocks_Same_1.calls {R a b c d e f g h i j l m n o p q r s t u v x y z A B w} (k : blocks_Same_1 R a b c d e f g h i j l m n o p q r s t u v x y z A B w) : CA 34 #[ag65 a b c d e f g h i j l m n, ag65 o p q r s t u v x y z A B] w R := cal (n := blocks_Same_1.an) func34 rfl k (by kernel_rfl)
open Go.Proofs.Try (f35 func35)
namespace slices_Equal_int
def an : An := (aR (aR (aL (aR (aL (.mk (some [0, 1, 12, 13]) .nil .nil))))))
def qf (R : VP) : QT := fin prog f35 R
def C := cdN prog f35 an
abbrev T14 := OA → Nat → Nat → OA → Nat → Nat → Int → Int → World → Prop
def g0 (R : VP) (e14 : T14) (a : OA) (b c : Nat) (d : OA) (e f : Nat) (g : World) : Prop :=
 onBool ((b : Int) != (e : Int))
 (R (.bool false) g)
 (e14 a b c d e f (b : Int) 0 g)
def g14 (R : VP) (b14 : T14) (a : OA) (b c : Nat) (d : OA) (e f : Nat) (g h : Int) (i : World) : Prop :=
 onBool (decide (h < g))
 (ix a b h fun j =>
 cI i (j.add (h.toNat * 1)) .i64 fun j =>
 ix d e h fun k =>
 cI i (k.add (h.toNat * 1)) .i64 fun k =>
 onBool (j != k)
 (R (.bool false) i)
 (inc h fun h =>
 b14 a b c d e f g h i))
 (R (.bool true) i)
def q14 (R : VP) : QT := (Exit.inBlock 0 (qS none (C [1,1,1]) (qf R)))
@[irreducible] def l14 (R : VP) (k : Nat) : T14 := fun a b c d e f g h w => loopN [0,1,12,13] (C [1,1,0,1,0,0]) (q14 R) k (fr ((.slice a b c :: (.slice d e f :: U 10 (.int .i64 g :: (.int .i64 h :: U 12 [])))))) w
def e14 (R : VP) : T14 := fun a b c d e f g h w => ∃ k, l14 R k a b c d e f g h w
theorem u14 (R k a b c d e f g h w) : l14 R (k + 1) a b c d e f g h w = g14 R (l14 R k) a b c d e f g h w := ju (by kernel_rfl)
end slices_Equal_int
def slices_Equal_int (R : VP) := slices_Equal_int.g0 R (slices_Equal_int.e14 R)
theorem slices_Equal_int.calls {R a b c d e f w} (k : slices_Equal_int R a b c d e f w) : CA 35 #[.slice a b c, .slice d e f] w R := cal (n := slices_Equal_int.an) func35 rfl k (by kernel_rfl)
open Go.Proofs.Try (f36 func36)
namespace Eq_i64s
def an : An := (aR (aR (aL (aR (aL (.mk (some [1, 2, 15, 16, 17]) .nil .nil))))))
def qf (R : VP) : QT := fin prog f36 R
def C := cdN prog f36 an
abbrev T14 := OA → Nat → Nat → OA → Nat → Nat → Int → Int → World → Prop
def g0 (R : VP) (e14 : T14) (a : OA) (b c : Nat) (d : OA) (e f : Nat) (g : World) : Prop :=
 onBool ((b : Int) != (e : Int))
 (R (.bool false) g)
 (e14 d e f a b c (b : Int) 0 g)
def g14 (R : VP) (b14 : T14) (a : OA) (b c : Nat) (d : OA) (e f : Nat) (g h : Int) (i : World) : Prop :=
 onBool (decide (h < g))
 (ix d e h fun j =>
 cL i (j.add (h.toNat * 1)) fun j k l =>
 ix a b h fun m =>
 cL i (m.add (h.toNat * 1)) fun m n o =>
 CA 32 #[.slice j k l, .slice m n o] i fun j k =>
 ∃ l, j = .bool l ∧
 (onBool (!l)
 (R (.bool false) k)
 (inc h fun h =>
 b14 a b c d e f g h k)))
 (R (.bool true) i)
def q14 (R : VP) : QT := (Exit.inBlock 0 (qS none (C [1,1,1]) (qf R)))
@[irreducible] def l14 (R : VP) (k : Nat) : T14 := fun a b c d e f g h w => loopN [1,2,15,16,17] (C [1,1,0,1,0,0]) (q14 R) k (fr (U 1 (.slice a b c :: (.func (.func 32) #[] #[] :: U 12 (.slice d e f :: (.int .i64 g :: (.int .i64 h :: U 14 []))))))) w
def e14 (R : VP) : T14 := fun a b c d e f g h w => ∃ k, l14 R k a b c d e f g h w
theorem u14 (R k a b c d e f g h w) : l14 R (k + 1) a b c d e f g h w = g14 R (l14 R k) a b c d e f g h w := ju (by kernel_rfl)
end Eq_i64s
def Eq_i64s (R : VP) := Eq_i64s.g0 R (Eq_i64s.e14 R)
theorem Eq_i64s.calls {R a b c d e f w} (k : Eq_i64s R a b c d e f w) : CA 36 #[.slice a b c, .slice d e f, .func (.func 32) #[] #[]] w R := cal (n := Eq_i64s.an) func36 rfl k (by kernel_rfl)
open Go.Proofs.Try (f37 func37)
namespace Eq_list
def an : An := (aR (aR (aL (aR (aL (.mk (some [1, 2, 15, 16, 17]) .nil .nil))))))
def qf (R : VP) : QT := fin prog f37 R
def C := cdN prog f37 an
abbrev T14 := OA → Nat → Nat → OA → Nat → Nat → Int → Int → World → Prop
def g0 (R : VP) (e14 : T14) (a : OA) (b c : Nat) (d : OA) (e f : Nat) (g : World) : Prop :=
 onBool ((b : Int) != (e : Int))
 (R (.bool false) g)
 (e14 d e f a b c (b : Int) 0 g)
def g14 (R : VP) (b14 : T14) (a : OA) (b c : Nat) (d : OA) (e f : Nat) (g h : Int) (i : World) : Prop :=
 onBool (decide (h < g))
 (ix d e h fun j =>
 ld68 i (j.add (h.toNat * 4)) fun j k l m n o p q r s =>
 nw (i.alloc (.cells (cl68 0 none 0 0 none 0 0 none 0 0) 69)) fun t =>
 st68 t (na i) j k l m n o p q r s fun j =>
 ix a b h fun k =>
 ld68 j (k.add (h.toNat * 4)) fun k l m n o p q r s t =>
 nw (j.alloc (.cells (cl68 0 none 0 0 none 0 0 none 0 0) 69)) fun u =>
 st68 u (na j) k l m n o p q r s t fun k =>
 ld68 k (na i) fun l m n o p q r s t u =>
 ld68 k (na j) fun j v w x y z A B C D =>
 CA 38 #[ag68 l m n o p q r s t u, ag68 j v w x y z A B C D] k fun j k =>
 ∃ l, j = .bool l ∧
 (onBool (!l)
 (R (.bool false) k)
 (inc h fun h =>
 b14 a b c d e f g h k)))
 (R (.bool true) i)
def q14 (R : VP) : QT := (Exit.inBlock 0 (qS none (C [1,1,1]) (qf R)))
@[irreducible] def l14 (R : VP) (k : Nat) : T14 := fun a b c d e f g h w => loopN [1,2,15,16,17] (C [1,1,0,1,0,0]) (q14 R) k (fr (U 1 (.slice a b c :: (.func (.func 38) #[] #[] :: U 12 (.slice d e f :: (.int .i64 g :: (.int .i64 h :: U 14 []))))))) w
def e14 (R : VP) : T14 := fun a b c d e f g h w => ∃ k, l14 R k a b c d e f g h w
theorem u14 (R k a b c d e f g h w) : l14 R (k + 1) a b c d e f g h w = g14 R (l14 R k) a b c d e f g h w := ju (by kernel_rfl)
end Eq_list
def Eq_list (R : VP) := Eq_list.g0 R (Eq_list.e14 R)
theorem Eq_list.calls {R a b c d e f w} (k : Eq_list R a b c d e f w) : CA 37 #[.slice a b c, .slice d e f, .func (.func 38) #[] #[]] w R := cal (n := Eq_list.an) func37 rfl k (by kernel_rfl)
open Go.Proofs.Try (f38 func38)
namespace blocks_Same_1_1
def an : An := An.nil
def g0 (R : VP) (a : Int) (b : OA) (c d : Nat) (e : OA) (f g : Nat) (h : OA) (i j : Nat) (k : Int) (l : OA) (m n : Nat) (o : OA) (p q : Nat) (r : OA) (s t : Nat) (u : World) : Prop :=
 nw (u.alloc (.cells (cl68 a b c d e f g h i j) 69)) fun a =>
 nw (a.alloc (.cells (cl68 k l m n o p q r s t) 69)) fun b =>
 cI b ((na u).add 0) .i64 fun c =>
 cI b ((na a).add 0) .i64 fun d =>
 onBool (c == d)
 (cL b ((na u).add 1) fun c d e =>
 cL b ((na a).add 1) fun f g h =>
 CA 39 #[.slice c d e, .slice f g h] b fun c d =>
 ∃ e, c = .bool e ∧
 (onBool e
 (cL d ((na u).add 2) fun c e f =>
 cL d ((na a).add 2) fun g h i =>
 CA 39 #[.slice c e f, .slice g h i] d fun c e =>
 ∃ f, c = .bool f ∧
 (onBool f
 (cL e ((na u).add 3) fun c f g =>
 cL e ((na a).add 3) fun a h i =>
 CA 39 #[.slice c f g, .slice a h i] e fun a c =>
 ∃ f, a = .bool f ∧
 (R (.bool f) c))
 (R (.bool false) e)))
 (R (.bool false) d)))
 (R (.bool false) b)
end blocks_Same_1_1
def blocks_Same_1_1 (R : VP) := blocks_Same_1_1.g0 R
theorem blocks_Same_1_1.calls {R a b c d e f g h i j l m n o p q r s t u w} (k : blocks_Same_1_1 R a b c d e f g h i j l m n o p q r s t u w) : CA 38 #[ag68 a b c d e f g h i j, ag68 l m n o p q r s t u] w R := cal (n := blocks_Same_1_1.an) func38 rfl k (by kernel_rfl)
open Go.Proofs.Try (f39 func39)
namespace blocks_cuts
def an : An := An.nil
def g0 (R : VP) (a : OA) (b c : Nat) (d : OA) (e f : Nat) (g : World) : Prop :=
 CA 63 #[.slice a b c, .slice d e f, .func (.func 64) #[] #[]] g fun a b =>
 ∃ c, a = .bool c ∧
 (R (.bool c) b)
end blocks_cuts
def blocks_cuts (R : VP) := blocks_cuts.g0 R
theorem blocks_cuts.calls {R a b c d e f w} (k : blocks_cuts R a b c d e f w) : CA 39 #[.slice a b c, .slice d e f] w R := cal (n := blocks_cuts.an) func39 rfl k (by kernel_rfl)
end Go.Mir

set_option linter.unusedVariables false
set_option maxRecDepth 100000
namespace Go.Mir
open Go Go.E Go.RowKit
open Go.Proofs.Try (prog)
open Go.Proofs.Try (f45 func45)
namespace slices_Clone_int
def an : An := An.nil
def g0 (R : VP) (a : OA) (b c : Nat) (d : World) : Prop :=
 onBool a.isNone
 (R (.slice none 0 0) d)
 (nw (d.alloc (.cells #[] 3)) fun e =>
 rawN prog (Builtin.append_ #[45, 45] 45 #[.slice (some (na d)) 0 0, .slice a b c]) e fun a b =>
 ∃ c d e, a = .slice c d e ∧
 (R (.slice c d e) b))
end slices_Clone_int
def slices_Clone_int (R : VP) := slices_Clone_int.g0 R
theorem slices_Clone_int.calls {R a b c w} (k : slices_Clone_int R a b c w) : CA 45 #[.slice a b c] w R := cal (n := slices_Clone_int.an) func45 rfl k (by kernel_rfl)
end Go.Mir

set_option linter.unusedVariables false
set_option maxRecDepth 100000
namespace Go.Mir
open Go Go.E Go.RowKit
open Go.Proofs.Try (prog)
open Go.Proofs.Try (f51 func51)
namespace blocks_back
def an : An := (aR (aR (aR (.mk none (aR (aL (.mk (some [1, 4, 41, 42, 43]) (aR (aR (aL (aL (aR (aR (.mk none (aR (aL (.mk (some [1, 4, 6, 7, 41, 42, 43, 49, 50, 51]) .nil .nil))) (aR (aL (.mk (some [1, 4, 6, 7, 41, 42, 43, 74, 75, 76]) (aR (aR (aL (aL (aR (aR (aL (.mk (some [1, 4, 6, 7, 10, 41, 42, 43, 74, 75, 76, 81, 82, 83]) .nil .nil)))))))) .nil)))))))))) .nil))) (aR (aL (aR (aL (.mk (some [1, 15, 141, 142, 143]) .nil .nil)))))))))
def qf (R : VP) : QT := fin prog f51 R
def C := cdN prog f51 an
abbrev T16 := OA → OA → Nat → Nat → OA → Nat → Nat → Int → Int → World → Prop
abbrev T33 := OA → OA → Nat → Nat → OA → (Option Nat) → OA → Nat → Nat → Int → Int → OA → Nat → Nat → Int → Int → World → Prop
abbrev T49 := OA → OA → Nat → Nat → OA → (Option Nat) → OA → Nat → Nat → Int → Int → OA → Nat → Nat → Int → Int → World → Prop
abbrev T63 := OA → OA → Nat → Nat → OA → (Option Nat) → Int → OA → Nat → Nat → Int → Int → OA → Nat → Nat → Int → Int → OA → Nat → Nat → Int → Int → World → Prop
abbrev T106 := OA → OA → Nat → Nat → OA → Nat → Nat → Int → Int → World → Prop
def g0 (R : VP) (e16 : T16) (a : Int) (b : OA) (c d : Nat) (e : OA) (f g : Nat) (h : OA) (i j : Nat) (k : OA) (l m : Nat) (n : World) : Prop :=
 nw (n.alloc (.cells (cl65 a b c d e f g h i j k l m) 66)) fun a =>
 cL a ((na n).add 1) fun b b c =>
 cL a ((na n).add 2) fun c c d =>
 onBool ((b : Int) != (c : Int))
 (R (.tuple #[.slice none 0 0, .bool false]) a)
 (cL a ((na n).add 1) fun b b c =>
 cL a ((na n).add 3) fun c c d =>
 onBool ((b : Int) != (c : Int))
 (R (.tuple #[.slice none 0 0, .bool false]) a)
 (cL a ((na n).add 1) fun b b c =>
 chk ((0 : Int) ≤ (b : Int) ∧ (b : Int) ≤ (b : Int) ∧ ((24 : Nat) : Int) * (b : Int) ≤ 281474976710656 ∧ (b : Int) ≤ 9223372036854775807)
 (nw (a.alloc (.cells (madeCells #[.slice none 0 0] (((b : Int)).toNat * 1)) 124)) fun c =>
 cL c ((na n).add 4) fun d e f =>
 e16 (some (na n)) (some (na a)) (((b : Int)).toNat) (((b : Int)).toNat) d e f (e : Int) 0 c)))
def g16 (R : VP) (e33 : T33) (e106 : T106) (a b : OA) (c d : Nat) (e : OA) (f g : Nat) (h i : Int) (j : World) : Prop :=
 onBool (decide (i < h))
 (ix e f i fun k =>
 ld68 j (k.add (i.toNat * 4)) fun k l m n o p q r s t =>
 nw (j.alloc (.cells (cl68 0 none 0 0 none 0 0 none 0 0) 69)) fun u =>
 st68 u (na j) k l m n o p q r s t fun k =>
 nw (k.alloc (.map #[] 0)) fun l =>
 cL l ((na j).add 3) fun m n o =>
 e33 a b c d (some (na j)) (some k.heap.size) e f g h i m n o (n : Int) 0 l)
 (e106 a none 0 0 b c d (c : Int) 0 j)
def g33 (R : VP) (b33 : T33) (e49 : T49) (a b : OA) (c d : Nat) (e : OA) (f : Option Nat) (g : OA) (h i : Nat) (j k : Int) (l : OA) (m n : Nat) (o p : Int) (q : World) : Prop :=
 onBool (decide (p < o))
 (ix l m p fun r =>
 ld71 q (r.add (p.toNat * 5)) fun r s t u v w x =>
 nw (q.alloc (.cells (cl71 0 none 0 0 0 0 0) 72)) fun y =>
 st71 y (na q) r s t u v w x fun r =>
 ∃ (s : World) (t : World → Prop) (u : World → World → Prop) (v : Nat → Value → World → Prop), GLaws s r t u v ∧
 (cI s ((na q).add 2) .i64 fun r =>
 cI s ((na q).add 3) .i64 fun w =>
 cI s ((na q).add 4) .i64 fun x =>
 optN e fun y =>
 cI s (y.add 0) .i64 fun s =>
 (∀ y : World, t y → rawN prog (Instr.lookup 120 (.map f) (ag121 r w x s) false) y fun z A => ∃ B, z = .int .i64 B ∧ v 10 (.int .i64 B) A ∧ u y A) ∧
 (∀ y : Int, (∃ z, t z ∧ v 10 (.int .i64 y) z) →
 inc y fun z =>
 (∀ A : World, t A → rawN prog (Instr.mapEntry 120 (.map f) (ag121 r w x s)) A fun r s => ∃ (w : Value) (x : Int), r = .tuple #[w, .int .i64 x] ∧ v 12 (.tuple #[w, .int .i64 x]) s ∧ u A s) ∧
 (∀ (r : Value) (s : Int), (∃ u, t u ∧ v 12 (.tuple #[r, .int .i64 s]) u) →
 ∀ u : World, t u → v 10 (.int .i64 y) u → v 12 (.tuple #[r, .int .i64 s]) u → 
 rawN prog (do Instr.entryStore 120 (.map f) (.int .i64 s) (.int .i64 z); pure undef) u fun _ r =>
 inc p fun p =>
 b33 a b c d e f g h i j k l m n o p r))))
 (optN e fun l =>
 cL q (l.add 1) fun l m n =>
 optN e fun o =>
 cL q (o.add 2) fun o p r =>
 nw (q.alloc (.cells #[.slice l m n, .slice o p r] 67)) fun l =>
 e49 a b c d e f g h i j k (some (na q)) 2 2 2 0 l)
def g49 (R : VP) (b16 : T16) (e63 : T63) (a b : OA) (c d : Nat) (e : OA) (f : Option Nat) (g : OA) (h i : Nat) (j k : Int) (l : OA) (m n : Nat) (o p : Int) (q : World) : Prop :=
 onBool (decide (p < o))
 (ix l m p fun r =>
 cL q (r.add (p.toNat * 1)) fun r s t =>
 e63 a b c d e f p g h i j k l m n o p r s t (s : Int) 0 q)
 (inc k fun e =>
 b16 a b c d g h i j e q)
def g63 (R : VP) (b49 : T49) (b63 : T63) (a b : OA) (c d : Nat) (e : OA) (f : Option Nat) (g : Int) (h : OA) (i j : Nat) (k l : Int) (m : OA) (n o : Nat) (p q : Int) (r : OA) (s t : Nat) (u v : Int) (w : World) : Prop :=
 onBool (decide (v < u))
 (ix r s v fun x =>
 ld71 w (x.add (v.toNat * 5)) fun x y z A B C D =>
 nw (w.alloc (.cells (cl71 0 none 0 0 0 0 0) 72)) fun E =>
 st71 E (na w) x y z A B C D fun x =>
 cI x ((na w).add 2) .i64 fun y =>
 onBool (decide (y < 0))
 (R (.tuple #[.slice none 0 0, .bool false]) x)
 (cI x ((na w).add 2) .i64 fun y =>
 onBool (decide (y ≥ (c : Int)))
 (R (.tuple #[.slice none 0 0, .bool false]) x)
 (∃ y : Nat → Value → World → Prop, KpF y ∧
 (optN e fun z =>
 cI x (z.add 0) .i64 fun z =>
 cF x ((na w).add 0) .f64 fun A =>
 cL x ((na w).add 1) fun B C D =>
 (∀ E : World, Below x.heap.size x E → CA 45 #[.slice B C D] E fun B C => ∃ D F G, B = .slice D F G ∧ y 6 (.slice D F G) C ∧ Below E.heap.size E C) ∧
 (∀ B : Option Addr, ∀ C : Nat, ∀ D : Nat, (∃ E, Below x.heap.size x E ∧ y 6 (.slice B C D) E) →
 (∀ E : World, Below x.heap.size x E → y 8 (.pointer (some (na E))) (E.alloc (.cells (cl100 0 0 0 0 none 0 0 0 0 0) 101))) ∧
 (∀ E : Addr, (∃ F, Below x.heap.size x F ∧ y 8 (.pointer (some E)) F) →
 ∀ F : World, Below x.heap.size x F → y 6 (.slice B C D) F → y 8 (.pointer (some E)) F → 
 st100 F E 2 0 z A B C D 1 0 0 fun x =>
 onBool (g == 1)
 (st x ((E.add 0).add 0) (.int .u8 3) fun y =>
 cI y ((na w).add 2) .i64 fun z =>
 cI y ((na w).add 3) .i64 fun A =>
 cI y ((na w).add 4) .i64 fun B =>
 optN e fun C =>
 cI y (C.add 0) .i64 fun C =>
 rawN prog (Instr.lookup 120 (.map f) (ag121 z A B C) false) y fun y z =>
 ∃ A, y = .int .i64 A ∧
 (onBool (decide (A > 0))
 (st z ((E.add 5).add 0) (.int .u8 2) fun y =>
 ∃ A : World, CK A y ∧
 (cI A ((na w).add 2) .i64 fun B =>
 cI A ((na w).add 2) .i64 fun C =>
 ix b c C fun D =>
 cL A (D.add (C.toNat * 1)) fun C D F =>
 ld100 A E fun G H I J K L M N O P =>
 cI A ((na w).add 3) .i64 fun Q =>
 cI A ((na w).add 4) .i64 fun S =>
 nw (y.alloc (.cells (cl125 G H I J K L M N O P Q S) 126)) fun G =>
 CK A G ∧
 (rawN prog (Builtin.append_ #[124, 124] 124 #[.slice C D F, .slice (some (na y)) 1 1]) G fun y C =>
 ∃ D F G, y = .slice D F G ∧
 (CK A C ∧
 (ix b c B fun y =>
 st C ((y.add (B.toNat * 1)).add 0) (.slice D F G) fun y =>
 inc v fun A =>
 b63 a b c d e f g h i j k l m n o p q r s t u A y)))))
 (∃ y : World, CK y z ∧
 (cI y ((na w).add 2) .i64 fun A =>
 cI y ((na w).add 2) .i64 fun B =>
 ix b c B fun C =>
 cL y (C.add (B.toNat * 1)) fun B C D =>
 ld100 y E fun F G H I J K L M N O =>
 cI y ((na w).add 3) .i64 fun P =>
 cI y ((na w).add 4) .i64 fun Q =>
 nw (z.alloc (.cells (cl125 F G H I J K L M N O P Q) 126)) fun F =>
 CK y F ∧
 (rawN prog (Builtin.append_ #[124, 124] 124 #[.slice B C D, .slice (some (na z)) 1 1]) F fun z B =>
 ∃ C D F, z = .slice C D F ∧
 (CK y B ∧
 (ix b c A fun y =>
 st B ((y.add (A.toNat * 1)).add 0) (.slice C D F) fun y =>
 inc v fun z =>
 b63 a b c d e f g h i j k l m n o p q r s t u z y)))))))
 (cI x ((na w).add 2) .i64 fun y =>
 cI x ((na w).add 3) .i64 fun z =>
 cI x ((na w).add 4) .i64 fun A =>
 optN e fun B =>
 cI x (B.add 0) .i64 fun B =>
 rawN prog (Instr.lookup 120 (.map f) (ag121 y z A B) false) x fun x y =>
 ∃ z, x = .int .i64 z ∧
 (onBool (decide (z > 0))
 (st y ((E.add 5).add 0) (.int .u8 2) fun x =>
 ∃ z : World, CK z x ∧
 (cI z ((na w).add 2) .i64 fun A =>
 cI z ((na w).add 2) .i64 fun B =>
 ix b c B fun C =>
 cL z (C.add (B.toNat * 1)) fun B C D =>
 ld100 z E fun F G H I J K L M N O =>
 cI z ((na w).add 3) .i64 fun P =>
 cI z ((na w).add 4) .i64 fun Q =>
 nw (x.alloc (.cells (cl125 F G H I J K L M N O P Q) 126)) fun F =>
 CK z F ∧
 (rawN prog (Builtin.append_ #[124, 124] 124 #[.slice B C D, .slice (some (na x)) 1 1]) F fun x B =>
 ∃ C D F, x = .slice C D F ∧
 (CK z B ∧
 (ix b c A fun x =>
 st B ((x.add (A.toNat * 1)).add 0) (.slice C D F) fun x =>
 inc v fun z =>
 b63 a b c d e f g h i j k l m n o p q r s t u z x)))))
 (∃ x : World, CK x y ∧
 (cI x ((na w).add 2) .i64 fun z =>
 cI x ((na w).add 2) .i64 fun A =>
 ix b c A fun B =>
 cL x (B.add (A.toNat * 1)) fun A B C =>
 ld100 x E fun D E F G H I J K L M =>
 cI x ((na w).add 3) .i64 fun N =>
 cI x ((na w).add 4) .i64 fun O =>
 nw (y.alloc (.cells (cl125 D E F G H I J K L M N O) 126)) fun D =>
 CK x D ∧
 (rawN prog (Builtin.append_ #[124, 124] 124 #[.slice A B C, .slice (some (na y)) 1 1]) D fun y A =>
 ∃ B C D, y = .slice B C D ∧
 (CK x A ∧
 (ix b c z fun x =>
 st A ((x.add (z.toNat * 1)).add 0) (.slice B C D) fun x =>
 inc v fun v =>
 b63 a b c d e f g h i j k l m n o p q r s t u v x)))))))))))))
 (inc q fun g =>
 b49 a b c d e f h i j k l m n o p g w)
def g106 (R : VP) (b106 : T106) (a b : OA) (c d : Nat) (e : OA) (f g : Nat) (h i : Int) (j : World) : Prop :=
 onBool (decide (i < h))
 (ix e f i fun k =>
 cL j (k.add (i.toNat * 1)) fun k l m =>
 optN a fun n =>
 cL j (n.add 1) fun n o p =>
 ix n o i fun n =>
 cI j (n.add (i.toNat * 1)) .i64 fun n =>
 onBool (decide (n < 1))
 (R (.tuple #[.slice none 0 0, .bool false]) j)
 (optN a fun n =>
 cL j (n.add 1) fun n o p =>
 ix n o i fun n =>
 cI j (n.add (i.toNat * 1)) .i64 fun n =>
 onBool (decide (n > 4096))
 (R (.tuple #[.slice none 0 0, .bool false]) j)
 (optN a fun n =>
 cL j (n.add 2) fun n o p =>
 ix n o i fun n =>
 cL j (n.add (i.toNat * 1)) fun n n o =>
 optN a fun o =>
 cL j (o.add 1) fun o p q =>
 ix o p i fun o =>
 cI j (o.add (i.toNat * 1)) .i64 fun o =>
 onBool ((n : Int) != o)
 (R (.tuple #[.slice none 0 0, .bool false]) j)
 (optN a fun n =>
 cL j (n.add 1) fun n o p =>
 ix n o i fun n =>
 cI j (n.add (i.toNat * 1)) .i64 fun n =>
 nv (IntKind.i64.wrap (n - 1)) fun n =>
 onBool ((l : Int) != n)
 (R (.tuple #[.slice none 0 0, .bool false]) j)
 (optN a fun n =>
 cL j (n.add 2) fun n o p =>
 ix n o i fun n =>
 cL j (n.add (i.toNat * 1)) fun n o p =>
 CA 69 #[.slice k l m, .slice n o p] j fun k l =>
 ∃ m n o p q, k = .tuple #[ag43 m n o p, .bool q] ∧
 (nw (l.alloc (.cells (cl43 0 none 0 0) 44)) fun k =>
 st43 k (na l) m n o p fun k =>
 onBool (!q)
 (R (.tuple #[.slice none 0 0, .bool false]) k)
 (optN a fun m =>
 cL k (m.add 3) fun m n o =>
 ix m n i fun m =>
 cI k (m.add (i.toNat * 1)) .i64 fun m =>
 st k (((na l).add 0).add 0) (.int .i64 m) fun k =>
 ld43 k (na l) fun l m n o =>
 nw (k.alloc (.cells (cl43 l m n o) 44)) fun l =>
 rawN prog (Builtin.append_ #[24, 24] 24 #[.slice b c d, .slice (some (na k)) 1 1]) l fun k l =>
 ∃ m n o, k = .slice m n o ∧
 (inc i fun i =>
 b106 a m n o e f g h i l))))))))
 (R (.tuple #[.slice b c d, .bool true]) j)
def q16 (R : VP) : QT := (Exit.inBlock 0 (qS none (C [1,1,1,1]) (qf R)))
@[irreducible] def l16 (R : VP) (k : Nat) : T16 := fun a b c d e f g h i w => loopN [1,4,41,42,43] (C [1,1,1,0,1,0,0]) (q16 R) k (fr (U 1 (.pointer a :: U 2 (.slice b c d :: U 36 (.slice e f g :: (.int .i64 h :: (.int .i64 i :: U 167 []))))))) w
def e16 (R : VP) : T16 := fun a b c d e f g h i w => ∃ k, l16 R k a b c d e f g h i w
def q33 (R : VP) (k16 : Nat) : QT := (Exit.inBlock 2 (qS none (C [1,1,1,0,1,0,0,1,1,0,0,1,1,1]) (Exit.inBlock 1 (qS none (C [1,1,1,0,1,0,0,1,1,1]) (qL [1,4,41,42,43] (C [1,1,1,0,1,0,0]) (q16 R) k16)))))
def rl33 (R : VP) (k16 : Nat) (k : Nat) : T33 := fun a b c d e f g h i j l m n o p q w => loopN [1,4,6,7,41,42,43,49,50,51] (C [1,1,1,0,1,0,0,1,1,0,0,1,1,0,1,0,0]) (q33 R k16) k (fr (U 1 (.pointer a :: U 2 (.slice b c d :: U 1 (.pointer e :: (.map f :: U 33 (.slice g h i :: (.int .i64 j :: (.int .i64 l :: U 5 (.slice m n o :: (.int .i64 p :: (.int .i64 q :: U 159 [])))))))))))) w
def re33 (R : VP) (k16 : Nat) : T33 := fun a b c d e f g h i j l m n o p q w => ∃ k, rl33 R k16 k a b c d e f g h i j l m n o p q w
def q49 (R : VP) (k16 : Nat) : QT := (Exit.inBlock 4 (Exit.inBlock 1 (qS none (C [1,1,1,0,1,0,0,1,1,1]) (qL [1,4,41,42,43] (C [1,1,1,0,1,0,0]) (q16 R) k16))))
def rl49 (R : VP) (k16 : Nat) (k : Nat) : T49 := fun a b c d e f g h i j l m n o p q w => loopN [1,4,6,7,41,42,43,74,75,76] (C [1,1,1,0,1,0,0,1,1,0,0,1,1,1,1,0,0]) (q49 R k16) k (fr (U 1 (.pointer a :: U 2 (.slice b c d :: U 1 (.pointer e :: (.map f :: U 33 (.slice g h i :: (.int .i64 j :: (.int .i64 l :: U 30 (.slice m n o :: (.int .i64 p :: (.int .i64 q :: U 134 [])))))))))))) w
def re49 (R : VP) (k16 : Nat) : T49 := fun a b c d e f g h i j l m n o p q w => ∃ k, rl49 R k16 k a b c d e f g h i j l m n o p q w
def q63 (R : VP) (k16 k49 : Nat) : QT := (Exit.inBlock 6 (Exit.inBlock 5 (qS none (C [1,1,1,0,1,0,0,1,1,0,0,1,1,1,1,0,0,1,1,1]) (qL [1,4,6,7,41,42,43,74,75,76] (C [1,1,1,0,1,0,0,1,1,0,0,1,1,1,1,0,0]) (q49 R k16) k49))))
def rl63 (R : VP) (k16 k49 : Nat) (k : Nat) : T63 := fun a b c d e f g h i j l m n o p q r s t u v x w => loopN [1,4,6,7,10,41,42,43,74,75,76,81,82,83] (C [1,1,1,0,1,0,0,1,1,0,0,1,1,1,1,0,0,1,1,0,0,1,1,0,0]) (q63 R k16 k49) k (fr (U 1 (.pointer a :: U 2 (.slice b c d :: U 1 (.pointer e :: (.map f :: U 2 (.int .i64 g :: U 30 (.slice h i j :: (.int .i64 l :: (.int .i64 m :: U 30 (.slice n o p :: (.int .i64 q :: (.int .i64 r :: U 4 (.slice s t u :: (.int .i64 v :: (.int .i64 x :: U 127 [])))))))))))))))) w
def re63 (R : VP) (k16 k49 : Nat) : T63 := fun a b c d e f g h i j l m n o p q r s t u v x w => ∃ k, rl63 R k16 k49 k a b c d e f g h i j l m n o p q r s t u v x w
def q106 (R : VP) : QT := (Exit.inBlock 8 (qS none (C [1,1,1,1,1,1]) (qf R)))
@[irreducible] def l106 (R : VP) (k : Nat) : T106 := fun a b c d e f g h i w => loopN [1,15,141,142,143] (C [1,1,1,1,1,0,1,0,0]) (q106 R) k (fr (U 1 (.pointer a :: U 13 (.slice b c d :: U 125 (.slice e f g :: (.int .i64 h :: (.int .i64 i :: U 67 []))))))) w
def e106 (R : VP) : T106 := fun a b c d e f g h i w => ∃ k, l106 R k a b c d e f g h i w
def l63 (R : VP) (b16 : T16) (b49 : T49) : Nat → T63
  | 0 => fun _ _ _ _ _ _ _ _ _ _ _ _ _ _ _ _ _ _ _ _ _ _ _ => False
  | k + 1 => g63 R b49 (l63 R b16 b49 k)
def e63 (R : VP) (b16 : T16) (b49 : T49) : T63 := fun a b c d e f g h i j l m n o p q r s t u v x w => ∃ k, l63 R b16 b49 k a b c d e f g h i j l m n o p q r s t u v x w
theorem s63 (R : VP) (k16 k49 : Nat) (k : Nat) : rl63 R k16 k49 (k + 1) = fun a b c d e f g h i j l m n o p q r s t u v x w => ∀ _ : Nat → Value, g63 R (rl49 R k16 k49) (rl63 R k16 k49 k) a b c d e f g h i j l m n o p q r s t u v x w := by kernel_rfl
theorem lq63 (R : VP) (k16 k49 : Nat) (b16 : T16) (b49 : T49) (hb16 : b16 = l16 R k16) (hb49 : b49 = rl49 R k16 k49) : ∀ k, l63 R b16 b49 k = rl63 R k16 k49 k
  | 0 => by kernel_rfl
  | k + 1 => by
    rw [s63]
    simp only [forall_const]
    unfold l63
    have ih := lq63 R k16 k49 b16 b49 hb16 hb49 k
    subst hb16
    subst hb49
    rw [ih]
    all_goals rfl
theorem eq63 (R : VP) (k16 k49 : Nat) (b16 : T16) (b49 : T49) (hb16 : b16 = l16 R k16) (hb49 : b49 = rl49 R k16 k49) : e63 R b16 b49 = re63 R k16 k49 := by
  unfold e63 re63
  simp only [lq63 R k16 k49 b16 b49 hb16 hb49]
def l49 (R : VP) (b16 : T16) : Nat → T49
  | 0 => fun _ _ _ _ _ _ _ _ _ _ _ _ _ _ _ _ _ => False
  | k + 1 => g49 R b16 (e63 R b16 (l49 R b16 k))
def e49 (R : VP) (b16 : T16) : T49 := fun a b c d e f g h i j l m n o p q w => ∃ k, l49 R b16 k a b c d e f g h i j l m n o p q w
theorem s49 (R : VP) (k16 : Nat) (k : Nat) : rl49 R k16 (k + 1) = fun a b c d e f g h i j l m n o p q w => ∀ _ : Nat → Value, g49 R (l16 R k16) (re63 R k16 k) a b c d e f g h i j l m n o p q w := by kernel_rfl
theorem lq49 (R : VP) (k16 : Nat) (b16 : T16) (hb16 : b16 = l16 R k16) : ∀ k, l49 R b16 k = rl49 R k16 k
  | 0 => by kernel_rfl
  | k + 1 => by
    rw [s49]
    simp only [forall_const]
    unfold l49
    have ih := lq49 R k16 b16 hb16 k
    subst hb16
    rw [eq63 R k16 k _ _ rfl ih]
    all_goals rfl
theorem eq49 (R : VP) (k16 : Nat) (b16 : T16) (hb16 : b16 = l16 R k16) : e49 R b16 = re49 R k16 := by
  unfold e49 re49
  simp only [lq49 R k16 b16 hb16]
def l33 (R : VP) (b16 : T16) : Nat → T33
  | 0 => fun _ _ _ _ _ _ _ _ _ _ _ _ _ _ _ _ _ => False
  | k + 1 => g33 R (l33 R b16 k) (e49 R b16)
def e33 (R : VP) (b16 : T16) : T33 := fun a b c d e f g h i j l m n o p q w => ∃ k, l33 R b16 k a b c d e f g h i j l m n o p q w
theorem s33 (R : VP) (k16 : Nat) (k : Nat) : rl33 R k16 (k + 1) = fun a b c d e f g h i j l m n o p q w => ∀ _ : Nat → Value, g33 R (rl33 R k16 k) (re49 R k16) a b c d e f g h i j l m n o p q w := by kernel_rfl
theorem lq33 (R : VP) (k16 : Nat) (b16 : T16) (hb16 : b16 = l16 R k16) : ∀ k, l33 R b16 k = rl33 R k16 k
  | 0 => by kernel_rfl
  | k + 1 => by
    rw [s33]
    simp only [forall_const]
    unfold l33
    have ih := lq33 R k16 b16 hb16 k
    subst hb16
    rw [eq49 R k16 _ rfl]
    rw [ih]
    all_goals rfl
theorem eq33 (R : VP) (k16 : Nat) (b16 : T16) (hb16 : b16 = l16 R k16) : e33 R b16 = re33 R k16 := by
  unfold e33 re33
  simp only [lq33 R k16 b16 hb16]
theorem u106 (R k a b c d e f g h i w) : l106 R (k + 1) a b c d e f g h i w = g106 R (l106 R k) a b c d e f g h i w := ju (by kernel_rfl)
theorem u16 (R k a b c d e f g h i w) : l16 R (k + 1) a b c d e f g h i w = g16 R (e33 R (l16 R k)) (e106 R) a b c d e f g h i w := by rw [eq33 R k _ rfl]; exact ju (by kernel_rfl)
end blocks_back
def blocks_back (R : VP) := blocks_back.g0 R (blocks_back.e16 R)
theorem blocks_back.calls {R a b c d e f g h i j l m n w} (k : blocks_back R a b c d e f g h i j l m n w) : CA 51 #[ag65 a b c d e f g h i j l m n] w R := cal (n := blocks_back.an) func51 rfl k (by kernel_rfl)
open Go.Proofs.Try (f53 func53)
namespace trees_Leaves
def an : An := An.nil
def g0 (R : VP) (a : Int) (b : OA) (c d : Nat) (e : World) : Prop :=
 nw (e.alloc (.cells (cl43 a b c d) 44)) fun a =>
 ld43 a (na e) fun b c d e =>
 CA 31 #[ag43 b c d e, .bool false] a fun a b =>
 ∃ c d e f, a = .tuple #[.slice c d e, .int .i64 f] ∧
 (R (.tuple #[.slice c d e, .int .i64 f]) b)
end trees_Leaves
def trees_Leaves (R : VP) := trees_Leaves.g0 R
theorem trees_Leaves.calls {R a b c d w} (k : trees_Leaves R a b c d w) : CA 53 #[ag43 a b c d] w R := cal (n := trees_Leaves.an) func53 rfl k (by kernel_rfl)
open Go.Proofs.Try (f56 func56)
namespace Equal_node
def an : An := (aR (aR (aL (aR (aL (.mk (some [1, 2, 15, 16, 17]) .nil .nil))))))
def qf (R : VP) : QT := fin prog f56 R
def C := cdN prog f56 an
abbrev T14 := OA → Nat → Nat → OA → Nat → Nat → Int → Int → World → Prop
def g0 (R : VP) (e14 : T14) (a : OA) (b c : Nat) (d : OA) (e f : Nat) (g : World) : Prop :=
 onBool ((b : Int) != (e : Int))
 (R (.bool false) g)
 (e14 d e f a b c (b : Int) 0 g)
def g14 (R : VP) (b14 : T14) (a : OA) (b c : Nat) (d : OA) (e f : Nat) (g h : Int) (i : World) : Prop :=
 onBool (decide (h < g))
 (ix d e h fun j =>
 ld100 i (j.add (h.toNat * 8)) fun j k l m n o p q r s =>
 nw (i.alloc (.cells (cl100 0 0 0 0 none 0 0 0 0 0) 101)) fun t =>
 st100 t (na i) j k l m n o p q r s fun j =>
 ix a b h fun k =>
 ld100 j (k.add (h.toNat * 8)) fun k l m n o p q r s t =>
 nw (j.alloc (.cells (cl100 0 0 0 0 none 0 0 0 0 0) 101)) fun u =>
 st100 u (na j) k l m n o p q r s t fun k =>
 ld100 k (na i) fun l m n o p q r s t u =>
 ld100 k (na j) fun j v w x y z A B C D =>
 CA 57 #[ag100 l m n o p q r s t u, ag100 j v w x y z A B C D] k fun j k =>
 ∃ l, j = .bool l ∧
 (onBool (!l)
 (R (.bool false) k)
 (inc h fun h =>
 b14 a b c d e f g h k)))
 (R (.bool true) i)
def q14 (R : VP) : QT := (Exit.inBlock 0 (qS none (C [1,1,1]) (qf R)))
@[irreducible] def l14 (R : VP) (k : Nat) : T14 := fun a b c d e f g h w => loopN [1,2,15,16,17] (C [1,1,0,1,0,0]) (q14 R) k (fr (U 1 (.slice a b c :: (.func (.func 57) #[] #[] :: U 12 (.slice d e f :: (.int .i64 g :: (.int .i64 h :: U 14 []))))))) w
def e14 (R : VP) : T14 := fun a b c d e f g h w => ∃ k, l14 R k a b c d e f g h w
theorem u14 (R k a b c d e f g h w) : l14 R (k + 1) a b c d e f g h w = g14 R (l14 R k) a b c d e f g h w := ju (by kernel_rfl)
end Equal_node
def Equal_node (R : VP) := Equal_node.g0 R (Equal_node.e14 R)
theorem Equal_node.calls {R a b c d e f w} (k : Equal_node R a b c d e f w) : CA 56 #[.slice a b c, .slice d e f, .func (.func 57) #[] #[]] w R := cal (n := Equal_node.an) func56 rfl k (by kernel_rfl)
open Go.Proofs.Try (f57 func57)
namespace trees_Alike_1
def an : An := An.nil
def g0 (R : VP) (a b c : Int) (d : Nat) (e : OA) (f g : Nat) (h i j k l m : Int) (n : Nat) (o : OA) (p q : Nat) (r s t : Int) (u : World) : Prop :=
 nw (u.alloc (.cells (cl100 a b c d e f g h i j) 101)) fun a =>
 nw (a.alloc (.cells (cl100 k l m n o p q r s t) 101)) fun b =>
 cI b ((na u).add 0) .u8 fun c =>
 cI b ((na a).add 0) .u8 fun d =>
 onBool (c == d)
 (cI b ((na u).add 1) .i64 fun c =>
 cI b ((na a).add 1) .i64 fun d =>
 onBool (c == d)
 (cI b ((na u).add 2) .i64 fun c =>
 cI b ((na a).add 2) .i64 fun d =>
 onBool (c == d)
 (cF b ((na u).add 3) .f64 fun c =>
 ∃ d, RunV prog (callFunc 58 #[.float .f64 c]) b (.int .u64 d) ∧
 (cF b ((na a).add 3) .f64 fun c =>
 ∃ e, RunV prog (callFunc 58 #[.float .f64 c]) b (.int .u64 e) ∧
 (onBool (d == e)
 (cL b ((na u).add 4) fun c d e =>
 cL b ((na a).add 4) fun f g h =>
 ∃ i, (∀ j : World, Below b.heap.size b j → CA 35 #[.slice c d e, .slice f g h] j fun c d => c = .bool i ∧ Below b.heap.size b d) ∧
 (onBool i
 (cI b ((na u).add 5) .u8 fun c =>
 cI b ((na a).add 5) .u8 fun d =>
 onBool (c == d)
 (cI b ((na u).add 6) .i64 fun c =>
 cI b ((na a).add 6) .i64 fun d =>
 onBool (c == d)
 (cI b ((na u).add 7) .i64 fun c =>
 cI b ((na a).add 7) .i64 fun a =>
 ∀ d : World, Below b.heap.size b d →
 R (.bool (c == a)) d)
 (∀ a : World, Below b.heap.size b a →
 R (.bool false) a))
 (∀ a : World, Below b.heap.size b a →
 R (.bool false) a))
 (∀ a : World, Below b.heap.size b a →
 R (.bool false) a)))
 (∀ a : World, Below b.heap.size b a →
 R (.bool false) a))))
 (∀ a : World, Below b.heap.size b a →
 R (.bool false) a))
 (∀ a : World, Below b.heap.size b a →
 R (.bool false) a))
 (∀ a : World, Below b.heap.size b a →
 R (.bool false) a)
end trees_Alike_1
def trees_Alike_1 (R : VP) := trees_Alike_1.g0 R
theorem trees_Alike_1.calls {R a b c d e f g h i j l m n o p q r s t u w} (k : trees_Alike_1 R a b c d e f g h i j l m n o p q r s t u w) : CA 57 #[ag100 a b c d e f g h i j, ag100 l m n o p q r s t u] w R := cal (n := trees_Alike_1.an) func57 rfl k (by kernel_rfl)
open Go.Proofs.Try (f59 func59)
namespace lists_Of
def an : An := (aR (aR (aR (.mk none (aR (aL (.mk (some [7, 27, 28, 29]) (aR (aR (aL (aL (aR (aR (aR (aL (.mk (some [7, 8, 9, 27, 28, 29, 39, 40, 41]) (aR (aR (aL (aL (aR (aR (aR (.mk (some [7, 8, 9, 13, 14, 15, 27, 28, 29, 39, 40, 41]) .nil (aR (.mk (some [7, 8, 9, 14, 15, 16, 27, 28, 29, 39, 40, 41]) .nil .nil)))))))))) .nil))))))))) .nil))) (aR (aL (aR (aL (.mk (some [17, 117]) (.mk (some [17, 117, 119]) .nil .nil) .nil)))))))))
def qf (R : VP) : QT := fin prog f59 R
def C := cdN prog f59 an
abbrev T18 := (Option Nat) → OA → Nat → Nat → Int → Int → World → Prop
abbrev T34 := (Option Nat) → Int → OA → OA → Nat → Nat → Int → Int → OA → Nat → Nat → Int → Int → World → Prop
abbrev T57 := (Option Nat) → Int → OA → OA → OA → OA → OA → Nat → Nat → Int → Int → OA → Nat → Nat → Int → Int → World → Prop
abbrev T65 := (Option Nat) → Int → OA → OA → OA → OA → OA → Nat → Nat → Int → Int → OA → Nat → Nat → Int → Int → World → Prop
abbrev T78 := OA → Nat → Nat → OA → World → Prop
abbrev T81 := OA → Nat → Nat → OA → Bool → World → Prop
def g0 (R : VP) (e18 : T18) (a : OA) (b c : Nat) (d : Int) (e : World) : Prop :=
 CA 71 #[.slice a b c, .int .i64 d] e fun d e =>
 ∃ f, d = .int .i64 f ∧
 (onBool (f != 0)
 (R (.tuple #[.slice none 0 0, .int .i64 f]) e)
 (nw (e.alloc (.map #[] 0)) fun d =>
 e18 (some e.heap.size) a b c (b : Int) 0 d))
def g18 (R : VP) (e34 : T34) (e78 : T78) (a : Option Nat) (b : OA) (c d : Nat) (e f : Int) (g : World) : Prop :=
 onBool (decide (f < e))
 (ix b c f fun h =>
 ld43 g (h.add (f.toNat * 2)) fun h i j k =>
 nw (g.alloc (.cells (cl43 0 none 0 0) 44)) fun l =>
 st43 l (na g) h i j k fun h =>
 ld43 h (na g) fun i j k l =>
 CA 72 #[ag43 i j k l] h fun h i =>
 ∃ j k l m, h = .tuple #[.slice j k l, .int .i64 m] ∧
 (e34 a f (some (na g)) b c d e f j k l (k : Int) 0 i))
 (rawN prog (Instr.range 130 (.map a)) g fun a b =>
 ∃ c : Addr, a = .pointer (some c) ∧
 (e78 none 0 0 (some c) b))
def g34 (R : VP) (b18 : T18) (j57 : T57) (a : Option Nat) (b : Int) (c d : OA) (e f : Nat) (g h : Int) (i : OA) (j k : Nat) (l m : Int) (n : World) : Prop :=
 onBool (decide (m < l))
 (ix i j m fun o =>
 ld134 n (o.add (m.toNat * 3)) fun o p q =>
 nw (n.alloc (.cells (cl134 0 0 0) 135)) fun r =>
 st134 r (na n) o p q fun o =>
 optN c fun p =>
 cL o (p.add 1) fun p q r =>
 cI o ((na n).add 0) .i64 fun r =>
 ix p q r fun p =>
 ld100 o (p.add (r.toNat * 8)) fun p q r s t u v w x y =>
 nw (o.alloc (.cells (cl100 0 0 0 0 none 0 0 0 0 0) 101)) fun z =>
 st100 z (na o) p q r s t u v w x y fun p =>
 cI p ((na o).add 2) .i64 fun q =>
 rawN prog (Instr.lookup 130 (.map a) (.int .i64 q) false) p fun p q =>
 ∃ r, p = .pointer r ∧
 (onBool r.isNone
 (cI q ((na o).add 2) .i64 fun p =>
 nw (q.alloc (.cells (cl68 p none 0 0 none 0 0 none 0 0) 69)) fun p =>
 cI p ((na o).add 2) .i64 fun s =>
 rawN prog (do Instr.mapUpdate 130 (.map a) (.int .i64 s) (.pointer (some (na q))); pure undef) p fun _ p =>
 j57 a b c (some (na n)) (some (na o)) (some (na q)) d e f g h i j k l m p)
 (j57 a b c (some (na n)) (some (na o)) r d e f g h i j k l m q)))
 (inc h fun b =>
 b18 a d e f g b n)
def g57 (R : VP) (j65 : T65) (a : Option Nat) (b : Int) (c d e f g : OA) (h i : Nat) (j k : Int) (l : OA) (m n : Nat) (o p : Int) (q : World) : Prop :=
 optN e fun r =>
 cF q (r.add 3) .f64 fun r =>
 optN e fun s =>
 cL q (s.add 4) fun s t u =>
 optN d fun v =>
 cI q (v.add 1) .i64 fun v =>
 optN d fun d =>
 cI q (d.add 2) .i64 fun d =>
 nw (q.alloc (.cells (cl71 0 none 0 0 0 0 0) 72)) fun w =>
 st71 w (na q) r s t u b v d fun d =>
 optN e fun r =>
 cI d (r.add 0) .u8 fun r =>
 onBool (r == 3)
 (∃ r : World, CK r d ∧
 (optN f fun s =>
 cL r (s.add 2) fun s t u =>
 ld71 r (na q) fun v w x y z A B =>
 CA 73 #[ag71 v w x y z A B] d fun v w =>
 ∃ x y z A B C D, v = ag71 x y z A B C D ∧
 (CK r w ∧
 (nw (w.alloc (.cells (cl71 x y z A B C D) 72)) fun v =>
 CK r v ∧
 (rawN prog (Builtin.append_ #[67, 67] 67 #[.slice s t u, .slice (some (na w)) 1 1]) v fun s t =>
 ∃ u v w, s = .slice u v w ∧
 (CK r t ∧
 (optN f fun r =>
 st t ((r.add 2).add 0) (.slice u v w) fun r =>
 j65 a b c e f (some (na q)) g h i j k l m n o p r)))))))
 (∃ r : World, CK r d ∧
 (optN f fun s =>
 cL r (s.add 1) fun s t u =>
 ld71 r (na q) fun v w x y z A B =>
 CA 73 #[ag71 v w x y z A B] d fun d v =>
 ∃ w x y z A B C, d = ag71 w x y z A B C ∧
 (CK r v ∧
 (nw (v.alloc (.cells (cl71 w x y z A B C) 72)) fun d =>
 CK r d ∧
 (rawN prog (Builtin.append_ #[67, 67] 67 #[.slice s t u, .slice (some (na v)) 1 1]) d fun d s =>
 ∃ t u v, d = .slice t u v ∧
 (CK r s ∧
 (optN f fun d =>
 st s ((d.add 1).add 0) (.slice t u v) fun d =>
 j65 a b c e f (some (na q)) g h i j k l m n o p d)))))))
def g65 (R : VP) (b34 : T34) (a : Option Nat) (b : Int) (c d e f g : OA) (h i : Nat) (j k : Int) (l : OA) (m n : Nat) (o p : Int) (q : World) : Prop :=
 optN d fun d =>
 cI q (d.add 5) .u8 fun d =>
 onBool (d == 2)
 (∃ d : World, CK d q ∧
 (optN e fun r =>
 cL d (r.add 3) fun r s t =>
 optN f fun f =>
 ld71 d f fun f u v w x y z =>
 CA 73 #[ag71 f u v w x y z] q fun f u =>
 ∃ v w x y z A B, f = ag71 v w x y z A B ∧
 (CK d u ∧
 (nw (u.alloc (.cells (cl71 v w x y z A B) 72)) fun f =>
 CK d f ∧
 (rawN prog (Builtin.append_ #[67, 67] 67 #[.slice r s t, .slice (some (na u)) 1 1]) f fun f r =>
 ∃ s t u, f = .slice s t u ∧
 (CK d r ∧
 (optN e fun d =>
 st r ((d.add 3).add 0) (.slice s t u) fun d =>
 inc p fun e =>
 b34 a b c g h i j k l m n o e d)))))))
 (inc p fun d =>
 b34 a b c g h i j k l m n o d q)
def g78 (R : VP) (j81 : T81) (a : OA) (b c : Nat) (d : OA) (e : World) : Prop :=
 rawN prog (Instr.next (.pointer d) false 0) e fun e f =>
 (e = .tuple #[.bool false] ∧
 (j81 a b c d false f)) ∨
 (∃ g h : Value, e = .tuple #[.bool true, g, h] ∧
 (j81 a b c d true f))
def g81 (R : VP) (b78 : T78) (a : OA) (b c : Nat) (d : OA) (e : Bool) (f : World) : Prop :=
 onBool e
 (rawN prog (Instr.entry (.pointer d)) f fun e g =>
 ∃ h i : Value, e = .tuple #[h, i] ∧
 (ckN i fun e =>
 ptrN e fun e =>
 cL g (e.add 1) fun e h j =>
 CA 74 #[.slice e h j, .func (.func 75) #[] #[]] g fun e g =>
 e = .tuple #[] ∧
 (ckN i fun e =>
 ptrN e fun e =>
 ld68 g e fun e h i j k l m n o p =>
 nw (g.alloc (.cells (cl68 e h i j k l m n o p) 69)) fun e =>
 rawN prog (Builtin.append_ #[64, 64] 64 #[.slice a b c, .slice (some (na g)) 1 1]) e fun e g =>
 ∃ h i j, e = .slice h i j ∧
 (b78 h i j d g))))
 (CA 77 #[.slice a b c, .func (.func 78) #[] #[]] f fun d e =>
 d = .tuple #[] ∧
 (R (.tuple #[.slice a b c, .int .i64 0]) e))
def q18 (R : VP) : QT := (Exit.inBlock 0 (qS none (C [1,1,1,1]) (qf R)))
@[irreducible] def l18 (R : VP) (k : Nat) : T18 := fun a b c d e f w => loopN [7,27,28,29] (C [1,1,1,0,1,0,0]) (q18 R) k (fr (U 7 (.map a :: U 19 (.slice b c d :: (.int .i64 e :: (.int .i64 f :: U 106 [])))))) w
def e18 (R : VP) : T18 := fun a b c d e f w => ∃ k, l18 R k a b c d e f w
def q34 (R : VP) (k18 : Nat) : QT := (Exit.inBlock 2 (Exit.inBlock 1 (qS none (C [1,1,1,0,1,0,0,1,1,1]) (qL [7,27,28,29] (C [1,1,1,0,1,0,0]) (q18 R) k18))))
def rl34 (R : VP) (k18 : Nat) (k : Nat) : T34 := fun a b c d e f g h i j l m n w => loopN [7,8,9,27,28,29,39,40,41] (C [1,1,1,0,1,0,0,1,1,0,0,1,1,1,0,0]) (q34 R k18) k (fr (U 7 (.map a :: (.int .i64 b :: (.pointer c :: U 17 (.slice d e f :: (.int .i64 g :: (.int .i64 h :: U 9 (.slice i j l :: (.int .i64 m :: (.int .i64 n :: U 94 []))))))))))) w
def re34 (R : VP) (k18 : Nat) : T34 := fun a b c d e f g h i j l m n w => ∃ k, rl34 R k18 k a b c d e f g h i j l m n w
def rj57 (R : VP) (k18 k34 : Nat) : T57 := fun a b c d e f g h i j l m n o p q w => startN (some [7,8,9,13,14,15,27,28,29,39,40,41]) (C [1,1,1,0,1,0,0,1,1,0,0,1,1,1,0,0,1,1,0,0,1,1,1,1] (Exit.inBlock 3 (qS none (C [1,1,1,0,1,0,0,1,1,0,0,1,1,1,0,0,1,1,1]) (qL [7,8,9,27,28,29,39,40,41] (C [1,1,1,0,1,0,0,1,1,0,0,1,1,1,0,0]) (q34 R k18) k34)))) (fr (U 7 (.map a :: (.int .i64 b :: (.pointer c :: U 3 (.pointer d :: (.pointer e :: (.pointer f :: U 11 (.slice g h i :: (.int .i64 j :: (.int .i64 l :: U 9 (.slice m n o :: (.int .i64 p :: (.int .i64 q :: U 94 [])))))))))))))) w
def rj65 (R : VP) (k18 k34 : Nat) : T65 := fun a b c d e f g h i j l m n o p q w => startN (some [7,8,9,14,15,16,27,28,29,39,40,41]) (C [1,1,1,0,1,0,0,1,1,0,0,1,1,1,0,0,1,1,0,0,1,1,1,1,1,1] (Exit.inBlock 3 (qS none (C [1,1,1,0,1,0,0,1,1,0,0,1,1,1,0,0,1,1,1]) (qL [7,8,9,27,28,29,39,40,41] (C [1,1,1,0,1,0,0,1,1,0,0,1,1,1,0,0]) (q34 R k18) k34)))) (fr (U 7 (.map a :: (.int .i64 b :: (.pointer c :: U 4 (.pointer d :: (.pointer e :: (.pointer f :: U 10 (.slice g h i :: (.int .i64 j :: (.int .i64 l :: U 9 (.slice m n o :: (.int .i64 p :: (.int .i64 q :: U 94 [])))))))))))))) w
def q78 (R : VP) : QT := (Exit.inBlock 4 (qS none (C [1,1,1,1,1,1]) (qf R)))
@[irreducible] def l78 (R : VP) (k : Nat) : T78 := fun a b c d w => loopN [17,117] (C [1,1,1,1,1,0,1,0,0]) (q78 R) k (fr (U 17 (.slice a b c :: U 99 (.pointer d :: U 18 [])))) w
def e78 (R : VP) : T78 := fun a b c d w => ∃ k, l78 R k a b c d w
def rj81 (R : VP) (k78 : Nat) : T81 := fun a b c d e w => startN (some [17,117,119]) (C [1,1,1,1,1,0,1,0,0,1] (qL [17,117] (C [1,1,1,1,1,0,1,0,0]) (q78 R) k78)) (fr (U 17 (.slice a b c :: U 99 (.pointer d :: U 1 (.bool e :: U 16 []))))) w
def j65 (R : VP) (b18 : T18) (b34 : T34) : T65 := g65 R b34
theorem s65 (R : VP) (k18 k34 : Nat) : rj65 R k18 k34 = fun a b c d e f g h i j l m n o p q w => ∀ _ : Nat → Value, g65 R (rl34 R k18 k34) a b c d e f g h i j l m n o p q w := by kernel_rfl
theorem jq65 (R : VP) (k18 k34 : Nat) (b18 : T18) (b34 : T34) (hb18 : b18 = l18 R k18) (hb34 : b34 = rl34 R k18 k34) : j65 R b18 b34 = rj65 R k18 k34 := by
    rw [s65]
    simp only [forall_const]
    unfold j65
    subst hb18
    subst hb34
    all_goals rfl
def j57 (R : VP) (b18 : T18) (b34 : T34) : T57 := g57 R (j65 R b18 b34)
theorem s57 (R : VP) (k18 k34 : Nat) : rj57 R k18 k34 = fun a b c d e f g h i j l m n o p q w => ∀ _ : Nat → Value, g57 R (rj65 R k18 k34) a b c d e f g h i j l m n o p q w := by kernel_rfl
theorem jq57 (R : VP) (k18 k34 : Nat) (b18 : T18) (b34 : T34) (hb18 : b18 = l18 R k18) (hb34 : b34 = rl34 R k18 k34) : j57 R b18 b34 = rj57 R k18 k34 := by
    rw [s57]
    simp only [forall_const]
    unfold j57
    subst hb18
    subst hb34
    rw [jq65 R k18 k34 _ _ rfl rfl]
    all_goals rfl
def l34 (R : VP) (b18 : T18) : Nat → T34
  | 0 => fun _ _ _ _ _ _ _ _ _ _ _ _ _ _ => False
  | k + 1 => g34 R b18 (j57 R b18 (l34 R b18 k))
def e34 (R : VP) (b18 : T18) : T34 := fun a b c d e f g h i j l m n w => ∃ k, l34 R b18 k a b c d e f g h i j l m n w
theorem s34 (R : VP) (k18 : Nat) (k : Nat) : rl34 R k18 (k + 1) = fun a b c d e f g h i j l m n w => ∀ _ : Nat → Value, g34 R (l18 R k18) (rj57 R k18 k) a b c d e f g h i j l m n w := by kernel_rfl
theorem lq34 (R : VP) (k18 : Nat) (b18 : T18) (hb18 : b18 = l18 R k18) : ∀ k, l34 R b18 k = rl34 R k18 k
  | 0 => by kernel_rfl
  | k + 1 => by
    rw [s34]
    simp only [forall_const]
    unfold l34
    have ih := lq34 R k18 b18 hb18 k
    subst hb18
    rw [jq57 R k18 k _ _ rfl ih]
    all_goals rfl
theorem eq34 (R : VP) (k18 : Nat) (b18 : T18) (hb18 : b18 = l18 R k18) : e34 R b18 = re34 R k18 := by
  unfold e34 re34
  simp only [lq34 R k18 b18 hb18]
def j81 (R : VP) (b78 : T78) : T81 := g81 R b78
theorem s81 (R : VP) (k78 : Nat) : rj81 R k78 = fun a b c d e w => ∀ _ : Nat → Value, g81 R (l78 R k78) a b c d e w := by kernel_rfl
theorem jq81 (R : VP) (k78 : Nat) (b78 : T78) (hb78 : b78 = l78 R k78) : j81 R b78 = rj81 R k78 := by
    rw [s81]
    simp only [forall_const]
    unfold j81
    subst hb78
    all_goals rfl
theorem u78 (R k a b c d w) : l78 R (k + 1) a b c d w = g78 R (j81 R (l78 R k)) a b c d w := by rw [jq81 R k _ rfl]; exact ju (by kernel_rfl)
theorem u18 (R k a b c d e f w) : l18 R (k + 1) a b c d e f w = g18 R (e34 R (l18 R k)) (e78 R) a b c d e f w := by rw [eq34 R k _ rfl]; exact ju (by kernel_rfl)
end lists_Of
def lists_Of (R : VP) := lists_Of.g0 R (lists_Of.e18 R)
theorem lists_Of.calls {R a b c d w} (k : lists_Of R a b c d w) : CA 59 #[.slice a b c, .int .i64 d] w R := cal (n := lists_Of.an) func59 rfl k (by kernel_rfl)
open Go.Proofs.Try (f60 func60)
namespace trees_Shape
def an : An := (aR (aR (aR (.mk none (aR (aL (.mk (some [1, 4, 22, 23, 24]) .nil .nil))) (aR (aR (.mk none (aL (.mk (some [1, 4, 7, 8]) .nil .nil)) (aL (aR (aL (.mk (some [4, 7, 95, 96]) .nil .nil)))))))))))
def qf (R : VP) : QT := fin prog f60 R
def C := cdN prog f60 an
abbrev T16 := OA → OA → Nat → Nat → OA → Nat → Nat → Int → Int → World → Prop
abbrev T49 := OA → OA → Nat → Nat → OA → Nat → Nat → OA → Nat → Nat → World → Prop
abbrev T80 := OA → Nat → Nat → OA → Nat → Nat → Int → Int → World → Prop
def g0 (R : VP) (e16 : T16) (a : Int) (b : OA) (c d : Nat) (e : World) : Prop :=
 nw (e.alloc (.cells (cl43 a b c d) 44)) fun a =>
 cL a ((na e).add 1) fun b b c =>
 onBool ((b : Int) == 0)
 (R (.tuple #[.int .i64 70, .int .i64 0]) a)
 (cL a ((na e).add 1) fun b b c =>
 chk ((0 : Int) ≤ (b : Int) ∧ (b : Int) ≤ (b : Int) ∧ ((8 : Nat) : Int) * (b : Int) ≤ 281474976710656 ∧ (b : Int) ≤ 9223372036854775807)
 (nw (a.alloc (.cells (madeCells #[.int .i64 0] (((b : Int)).toNat * 1)) 3)) fun c =>
 cL c ((na e).add 1) fun d f g =>
 e16 (some (na e)) (some (na a)) (((b : Int)).toNat) (((b : Int)).toNat) d f g (f : Int) 0 c))
def g16 (R : VP) (b16 : T16) (e49 : T49) (a b : OA) (c d : Nat) (e : OA) (f g : Nat) (h i : Int) (j : World) : Prop :=
 onBool (decide (i < h))
 (ix e f i fun k =>
 ld100 j (k.add (i.toNat * 8)) fun k l m n o p q r s t =>
 nw (j.alloc (.cells (cl100 0 0 0 0 none 0 0 0 0 0) 101)) fun u =>
 st100 u (na j) k l m n o p q r s t fun k =>
 ld100 k (na j) fun l m n o p q r s t u =>
 optN a fun v =>
 cL k (v.add 1) fun v v w =>
 CA 79 #[ag100 l m n o p q r s t u, .int .i64 (v : Int)] k fun k l =>
 ∃ m, k = .bool m ∧
 (onBool (!m)
 (R (.tuple #[.int .i64 71, .int .i64 i]) l)
 (ld100 l (na j) fun k m n o p q r s t u =>
 CA 62 #[ag100 k m n o p q r s t u] l fun k l =>
 ∃ m, k = .bool m ∧
 (onBool m
 (cI l ((na j).add 6) .i64 fun k =>
 ix b c k fun m =>
 cI l (m.add (k.toNat * 1)) .i64 fun m =>
 inc m fun m =>
 ix b c k fun n =>
 st l ((n.add (k.toNat * 1)).add 0) (.int .i64 m) fun k =>
 cI k ((na j).add 7) .i64 fun m =>
 ix b c m fun n =>
 cI k (n.add (m.toNat * 1)) .i64 fun n =>
 inc n fun n =>
 ix b c m fun o =>
 st k ((o.add (m.toNat * 1)).add 0) (.int .i64 n) fun k =>
 inc i fun m =>
 b16 a b c d e f g h m k)
 (inc i fun i =>
 b16 a b c d e f g h i l)))))
 (optN a fun e =>
 cL j (e.add 1) fun e e f =>
 chk ((0 : Int) ≤ (e : Int) ∧ (e : Int) ≤ (e : Int) ∧ ((1 : Nat) : Int) * (e : Int) ≤ 281474976710656 ∧ (e : Int) ≤ 9223372036854775807)
 (nw (j.alloc (.cells (madeCells #[.bool false] (((e : Int)).toNat * 1)) 4)) fun f =>
 nw (f.alloc (.cells #[.int .i64 0] 3)) fun g =>
 e49 a b c d (some (na j)) (((e : Int)).toNat) (((e : Int)).toNat) (some (na f)) 1 1 g))
def g49 (R : VP) (b49 : T49) (e80 : T80) (a b : OA) (c d : Nat) (e : OA) (f g : Nat) (h : OA) (i j : Nat) (k : World) : Prop :=
 onBool (decide ((i : Int) > 0))
 (nv (IntKind.i64.wrap ((i : Int) - 1)) fun l =>
 ix h i l fun m =>
 cI k (m.add (l.toNat * 1)) .i64 fun l =>
 nv (IntKind.i64.wrap ((i : Int) - 1)) fun i =>
 chk ((0 : Int) ≤ i ∧ i ≤ (j : Int))
 (ix e f l fun m =>
 cB k (m.add (l.toNat * 1)) fun m =>
 onBool m
 (b49 a b c d e f g (slA h j 0 1) i.toNat j k)
 (ix e f l fun m =>
 st k ((m.add (l.toNat * 1)).add 0) (.bool true) fun m =>
 optN a fun n =>
 cL m (n.add 1) fun n o p =>
 ix n o l fun n =>
 ld100 m (n.add (l.toNat * 8)) fun l n o p q r s t u v =>
 nw (m.alloc (.cells (cl100 0 0 0 0 none 0 0 0 0 0) 101)) fun w =>
 st100 w (na m) l n o p q r s t u v fun l =>
 ld100 l (na m) fun n o p q r s t u v w =>
 CA 62 #[ag100 n o p q r s t u v w] l fun l n =>
 ∃ o, l = .bool o ∧
 (onBool o
 (cI n ((na m).add 6) .i64 fun l =>
 cI n ((na m).add 7) .i64 fun m =>
 nw (n.alloc (.cells (cl40 l m) 3)) fun l =>
 rawN prog (Builtin.append_ #[45, 45] 45 #[.slice (slA h j 0 1) i.toNat j, .slice (some (na n)) 2 2]) l fun l m =>
 ∃ o p q, l = .slice o p q ∧
 (b49 a b c d e f g o p q m))
 (b49 a b c d e f g (slA h j 0 1) i.toNat j n)))))
 (optN a fun a =>
 cL k (a.add 1) fun a a h =>
 e80 b c d e f g (a : Int) 0 k)
def g80 (R : VP) (b80 : T80) (a : OA) (b c : Nat) (d : OA) (e f : Nat) (g h : Int) (i : World) : Prop :=
 onBool (decide (h < g))
 (nv ((if 1 < h then 1 else h)) fun j =>
 ix a b h fun k =>
 cI i (k.add (h.toNat * 1)) .i64 fun k =>
 onBool (k != j)
 (R (.tuple #[.int .i64 70, .int .i64 h]) i)
 (ix d e h fun j =>
 cB i (j.add (h.toNat * 1)) fun j =>
 onBool (!j)
 (R (.tuple #[.int .i64 70, .int .i64 h]) i)
 (inc h fun h =>
 b80 a b c d e f g h i)))
 (R (.tuple #[.int .i64 0, .int .i64 0]) i)
def q16 (R : VP) : QT := (Exit.inBlock 0 (qS none (C [1,1,1,1]) (qf R)))
@[irreducible] def l16 (R : VP) (k : Nat) : T16 := fun a b c d e f g h i w => loopN [1,4,22,23,24] (C [1,1,1,0,1,0,0]) (q16 R) k (fr (U 1 (.pointer a :: U 2 (.slice b c d :: U 17 (.slice e f g :: (.int .i64 h :: (.int .i64 i :: U 91 []))))))) w
def e16 (R : VP) : T16 := fun a b c d e f g h i w => ∃ k, l16 R k a b c d e f g h i w
def q49 (R : VP) : QT := (Exit.inBlock 2 (qS none (C [1,1,1,1,1,1,1]) (qf R)))
@[irreducible] def l49 (R : VP) (k : Nat) : T49 := fun a b c d e f g h i j w => loopN [1,4,7,8] (C [1,1,1,1,1,1,0,0,0]) (q49 R) k (fr (U 1 (.pointer a :: U 2 (.slice b c d :: U 2 (.slice e f g :: (.slice h i j :: U 107 [])))))) w
def e49 (R : VP) : T49 := fun a b c d e f g h i j w => ∃ k, l49 R k a b c d e f g h i j w
def q80 (R : VP) : QT := (Exit.inBlock 4 (qS none (C [1,1,1,1,1,1,1,1]) (qf R)))
@[irreducible] def l80 (R : VP) (k : Nat) : T80 := fun a b c d e f g h w => loopN [4,7,95,96] (C [1,1,1,1,1,1,1,0,1,0,0]) (q80 R) k (fr (U 4 (.slice a b c :: U 2 (.slice d e f :: U 87 (.int .i64 g :: (.int .i64 h :: U 19 [])))))) w
def e80 (R : VP) : T80 := fun a b c d e f g h w => ∃ k, l80 R k a b c d e f g h w
theorem u80 (R k a b c d e f g h w) : l80 R (k + 1) a b c d e f g h w = g80 R (l80 R k) a b c d e f g h w := ju (by kernel_rfl)
theorem u49 (R k a b c d e f g h i j w) : l49 R (k + 1) a b c d e f g h i j w = g49 R (l49 R k) (e80 R) a b c d e f g h i j w := ju (by kernel_rfl)
theorem u16 (R k a b c d e f g h i w) : l16 R (k + 1) a b c d e f g h i w = g16 R (l16 R k) (e49 R) a b c d e f g h i w := ju (by kernel_rfl)
end trees_Shape
def trees_Shape (R : VP) := trees_Shape.g0 R (trees_Shape.e16 R)
theorem trees_Shape.calls {R a b c d w} (k : trees_Shape R a b c d w) : CA 60 #[ag43 a b c d] w R := cal (n := trees_Shape.an) func60 rfl k (by kernel_rfl)
end Go.Mir
