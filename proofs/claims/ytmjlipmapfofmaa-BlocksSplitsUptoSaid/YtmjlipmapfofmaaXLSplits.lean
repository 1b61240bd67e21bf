/- Part of a proof of laws of the seat Ytmjlipmapfofmaa: functions' weakest preconditions, each checked by the kernel, contracts out of them, plain lemmas; no conditions. -/
import Derived.Test.YtmjlipmapfofmaaMMA
set_option linter.unusedVariables false
set_option linter.unusedSimpArgs false
set_option linter.unusedSectionVars false
set_option linter.unusedVariables false
set_option maxRecDepth 100000
namespace Go.Mir
open Go Go.E Go.RowKit
open Go.Proofs.Try (prog)
open Go.Proofs.Try (f3 func3)
namespace thicketlaw15_BlocksSplits
def an : An := An.nil
def g0 (R : VP) (a : ByteArray) (b : OA) (c d : Nat) (e : Int) (f : OA) (g h : Nat) (i : OA) (j k : Nat) (l m : Int) (n : World) : Prop :=
 nw (n.alloc (.cells (cl25 a b c d e f g h i j k) 26)) fun a =>
 CA 7 #[.int .i64 l, .int .i64 m] a fun a b =>
 ∃ c d e f, a = .tuple #[.slice c d e, .int .i64 f] ∧
 (CA 8 #[.int .i64 l, .int .i64 m] b fun a b =>
 ∃ g h i j, a = .tuple #[.slice g h i, .int .i64 j] ∧
 (ld25 b (na n) fun a k l o p q r s t u v =>
 CA 9 #[ag25 a k l o p q r s t u v, .int .i64 m] b fun a b =>
 ∃ k l o p, a = .tuple #[.slice k l o, .int .i64 p] ∧
 (ld25 b (na n) fun a n q r s t u v w x y =>
 CA 10 #[ag25 a n q r s t u v w x y, .int .i64 m] b fun a b =>
 ∃ m n q r, a = .tuple #[.slice m n q, .int .i64 r] ∧
 (CA 11 #[] b fun a b =>
 ∃ s, a = .bool s ∧
 (onBool s
 (CA 12 #[.slice c d e, .slice g h i] b fun a c =>
 ∃ d, a = .bool d ∧
 (onBool d
 (onBool (f == j)
 (CA 12 #[.slice k l o, .slice m n q] c fun a d =>
 ∃ e, a = .bool e ∧
 (onBool e
 (R (.bool (p == r)) d)
 (R (.bool false) d)))
 (R (.bool false) c))
 (R (.bool false) c)))
 (R (.bool false) b))))))
end thicketlaw15_BlocksSplits
def thicketlaw15_BlocksSplits (R : VP) := thicketlaw15_BlocksSplits.g0 R
theorem thicketlaw15_BlocksSplits.calls {R a b c d e f g h i j l m n w} (k : thicketlaw15_BlocksSplits R a b c d e f g h i j l m n w) : CA 3 #[ag25 a b c d e f g h i j l, .int .i64 m, .int .i64 n] w R := cal (n := thicketlaw15_BlocksSplits.an) func3 rfl k (by kernel_rfl)
end Go.Mir
