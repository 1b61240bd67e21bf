/- Part of a proof of laws of the seat Ytmjlipmapfofmaa: functions' weakest preconditions, each checked by the kernel, contracts out of them, plain lemmas; no conditions. -/
import Derived.Test.YtmjlipmapfofmaaMMA
set_option linter.unusedVariables false
set_option linter.unusedSimpArgs false
set_option linter.unusedSectionVars false
set_option linter.unusedVariables false
set_option maxRecDepth 100000
namespace Go.Mir
open Go Go.E Go.RowKit
open Go.Proofs.Try (prog)
open Go.Proofs.Try (f4 func4)
namespace thicketlaw15_BlocksPlan
def an : An := (aR (aR (aR (aR (aR (aR (aR (aL (aR (aL (.mk (some [1, 2, 9, 65, 66, 67]) (aR (aR (aL (aL (aR (aR (aL (aR (aL (.mk (some [1, 2, 9, 10, 11, 12, 65, 66, 67, 78, 79, 80]) .nil .nil)))))))))) .nil)))))))))))
def qf (R : VP) : QT := fin prog f4 R
def C := cdN prog f4 an
abbrev T36 := Int → OA → Int → OA → Nat → Nat → Int → Int → World → Prop
abbrev T53 := Int → OA → Int → Int → OA → Int → OA → Nat → Nat → Int → Int → OA → Nat → Nat → Int → Int → World → Prop
def g0 (R : VP) (e36 : T36) (a : ByteArray) (b : OA) (c d : Nat) (e : Int) (f : OA) (g h : Nat) (i : OA) (j k : Nat) (l : Int) (m : World) : Prop :=
 nw (m.alloc (.cells (cl25 a b c d e f g h i j k) 26)) fun a =>
 CA 11 #[] a fun a b =>
 ∃ c, a = .bool c ∧
 (onBool (!c)
 (R (.bool false) b)
 (ld25 b (na m) fun a c d e f g h i j k n =>
 CA 9 #[ag25 a c d e f g h i j k n, .int .i64 l] b fun a b =>
 ∃ c d e f, a = .tuple #[.slice c d e, .int .i64 f] ∧
 (ld25 b (na m) fun a g h i j k n o p q r =>
 CA 13 #[ag25 a g h i j k n o p q r, .slice c d e] b fun a b =>
 ∃ g h i j k n o p q, a = .tuple #[ag36 g h i j k n o p, .int .i64 q] ∧
 (nw (b.alloc (.cells (cl36 0 0 none 0 0 none 0 0) 37)) fun a =>
 st36 a (na b) g h i j k n o p fun a =>
 onBool (f != 0)
 (onBool ((d : Int) == 0)
 (onBool (f == 2)
 (onBool (decide (l < 0))
 (R (.bool true) a)
 (onBool (q == f)
 (R (.bool true) a)
 (R (.bool (f != 2)) a)))
 (onBool (q == f)
 (R (.bool true) a)
 (R (.bool (f != 2)) a)))
 (R (.bool false) a))
 (onBool (q != 0)
 (R (.bool false) a)
 (cL a ((na b).add 3) fun b b f =>
 onBool ((b : Int) != (d : Int))
 (R (.bool false) a)
 (e36 l (some (na m)) 0 c d e (d : Int) 0 a)))))))
def g36 (R : VP) (e53 : T53) (a : Int) (b : OA) (c : Int) (d : OA) (e f : Nat) (g h : Int) (i : World) : Prop :=
 onBool (decide (h < g))
 (ix d e h fun j =>
 ld40 i (j.add (h.toNat * 2)) fun j k =>
 nw (i.alloc (.cells (cl40 0 0) 41)) fun l =>
 st40 l (na i) j k fun j =>
 optN b fun k =>
 cL j (k.add 4) fun k l l =>
 cI j ((na i).add 0) .i64 fun m =>
 cI j ((na i).add 1) .i64 fun n =>
 chk ((0 : Int) ≤ n ∧ n ≤ (l : Int))
 (chk ((0 : Int) ≤ m ∧ m ≤ (n.toNat : Int))
 (e53 a b c h (some (na i)) 0 d e f g h (slA k l m.toNat 2) (n.toNat - m.toNat) (l - m.toNat) (((n.toNat - m.toNat) : Nat) : Int) 0 j)))
 (R (.bool true) i)
def g53 (R : VP) (b36 : T36) (b53 : T53) (a : Int) (b : OA) (c d : Int) (e : OA) (f : Int) (g : OA) (h i : Nat) (j k : Int) (l : OA) (m n : Nat) (o p : Int) (q : World) : Prop :=
 onBool (decide (p < o))
 (ix l m p fun r =>
 ld43 q (r.add (p.toNat * 2)) fun r s t u =>
 nw (q.alloc (.cells (cl43 0 none 0 0) 44)) fun v =>
 st43 v (na q) r s t u fun r =>
 ld43 r (na q) fun s t u v =>
 CA 14 #[ag43 s t u v] r fun r s =>
 ∃ t u v w, r = .tuple #[.slice t u v, .int .i64 w] ∧
 (onBool (w != 0)
 (R (.bool false) s)
 (nv (IntKind.i64.wrap (f + (u : Int))) fun r =>
 inc p fun p =>
 b53 a b c d e r g h i j k l m n o p s)))
 (optN b fun l =>
 cL q (l.add 4) fun l m n =>
 optN e fun n =>
 cI q (n.add 0) .i64 fun n =>
 ix l m n fun l =>
 ld43 q (l.add (n.toNat * 2)) fun l m n o =>
 CA 14 #[ag43 l m n o] q fun l m =>
 ∃ n o p q, l = .tuple #[.slice n o p, .int .i64 q] ∧
 (onBool (decide (f > a))
 (optN e fun l =>
 cI m (l.add 1) .i64 fun l =>
 optN e fun e =>
 cI m (e.add 0) .i64 fun e =>
 nv (IntKind.i64.wrap (l - e)) fun e =>
 onBool (decide (e > 1))
 (R (.bool false) m)
 (onBool (decide (d > 0))
 (nv (IntKind.i64.wrap (c + (o : Int))) fun e =>
 onBool (decide (e ≤ a))
 (R (.bool false) m)
 (inc k fun e =>
 b36 a b f g h i j e m))
 (inc k fun e =>
 b36 a b f g h i j e m)))
 (onBool (decide (d > 0))
 (nv (IntKind.i64.wrap (c + (o : Int))) fun c =>
 onBool (decide (c ≤ a))
 (R (.bool false) m)
 (inc k fun c =>
 b36 a b f g h i j c m))
 (inc k fun c =>
 b36 a b f g h i j c m))))
def q36 (R : VP) : QT := (Exit.inBlock 0 (qS none (C [1,1,1,1,1,1,1,1]) (qf R)))
@[irreducible] def l36 (R : VP) (k : Nat) : T36 := fun a b c d e f g h w => loopN [1,2,9,65,66,67] (C [1,1,1,1,1,1,1,0,1,0,0]) (q36 R) k (fr (U 1 (.int .i64 a :: (.pointer b :: U 6 (.int .i64 c :: U 55 (.slice d e f :: (.int .i64 g :: (.int .i64 h :: U 63 [])))))))) w
def e36 (R : VP) : T36 := fun a b c d e f g h w => ∃ k, l36 R k a b c d e f g h w
def q53 (R : VP) (k36 : Nat) : QT := (Exit.inBlock 2 (qS none (C [1,1,1,1,1,1,1,0,1,0,0,1,1,0,0,1,1,1]) (Exit.inBlock 1 (qS none (C [1,1,1,1,1,1,1,0,1,0,0,1,1,1]) (qL [1,2,9,65,66,67] (C [1,1,1,1,1,1,1,0,1,0,0]) (q36 R) k36)))))
def rl53 (R : VP) (k36 : Nat) (k : Nat) : T53 := fun a b c d e f g h i j l m n o p q w => loopN [1,2,9,10,11,12,65,66,67,78,79,80] (C [1,1,1,1,1,1,1,0,1,0,0,1,1,0,0,1,1,0,1,0,0]) (q53 R k36) k (fr (U 1 (.int .i64 a :: (.pointer b :: U 6 (.int .i64 c :: (.int .i64 d :: (.pointer e :: (.int .i64 f :: U 52 (.slice g h i :: (.int .i64 j :: (.int .i64 l :: U 10 (.slice m n o :: (.int .i64 p :: (.int .i64 q :: U 50 [])))))))))))))) w
def re53 (R : VP) (k36 : Nat) : T53 := fun a b c d e f g h i j l m n o p q w => ∃ k, rl53 R k36 k a b c d e f g h i j l m n o p q w
def l53 (R : VP) (b36 : T36) : Nat → T53
  | 0 => fun _ _ _ _ _ _ _ _ _ _ _ _ _ _ _ _ _ => False
  | k + 1 => g53 R b36 (l53 R b36 k)
def e53 (R : VP) (b36 : T36) : T53 := fun a b c d e f g h i j l m n o p q w => ∃ k, l53 R b36 k a b c d e f g h i j l m n o p q w
theorem s53 (R : VP) (k36 : Nat) (k : Nat) : rl53 R k36 (k + 1) = fun a b c d e f g h i j l m n o p q w => ∀ _ : Nat → Value, g53 R (l36 R k36) (rl53 R k36 k) a b c d e f g h i j l m n o p q w := by kernel_rfl
theorem lq53 (R : VP) (k36 : Nat) (b36 : T36) (hb36 : b36 = l36 R k36) : ∀ k, l53 R b36 k = rl53 R k36 k
  | 0 => by kernel_rfl
  | k + 1 => by
    rw [s53]
    simp only [forall_const]
    unfold l53
    have ih := lq53 R k36 b36 hb36 k
    subst hb36
    rw [ih]
    all_goals rfl
theorem eq53 (R : VP) (k36 : Nat) (b36 : T36) (hb36 : b36 = l36 R k36) : e53 R b36 = re53 R k36 := by
  unfold e53 re53
  simp only [lq53 R k36 b36 hb36]
theorem u36 (R k a b c d e f g h w) : l36 R (k + 1) a b c d e f g h w = g36 R (e53 R (l36 R k)) a b c d e f g h w := by rw [eq53 R k _ rfl]; exact ju (by kernel_rfl)
end thicketlaw15_BlocksPlan
def thicketlaw15_BlocksPlan (R : VP) := thicketlaw15_BlocksPlan.g0 R (thicketlaw15_BlocksPlan.e36 R)
theorem thicketlaw15_BlocksPlan.calls {R a b c d e f g h i j l m w} (k : thicketlaw15_BlocksPlan R a b c d e f g h i j l m w) : CA 4 #[ag25 a b c d e f g h i j l, .int .i64 m] w R := cal (n := thicketlaw15_BlocksPlan.an) func4 rfl k (by kernel_rfl)
end Go.Mir
