/- Part of a proof of laws of the seat Ytmjlipmapfofmaa: functions' weakest preconditions, each checked by the kernel, contracts out of them, plain lemmas; no conditions. -/
import Derived.Test.YtmjlipmapfofmaaMMA
set_option linter.unusedVariables false
set_option linter.unusedSimpArgs false
set_option linter.unusedSectionVars false
set_option linter.unusedVariables false
set_option maxRecDepth 100000
namespace Go.Mir
open Go Go.E Go.RowKit
open Go.Proofs.Try (prog)
open Go.Proofs.Try (f6 func6)
namespace ak
def an:An:=An.nil
def g0 (R:VP) (a:ByteArray) (b:OA) (c d:Nat) (e:Int) (f:OA) (g h:Nat) (i:OA) (j k:Nat) (l:OA) (m n:Nat) (o:Int) (p:World):Prop :=
 nw (p.alloc (.cells (qB a b c d e f g h i j k) 26)) fun a =>
 CA 11 #[] a fun a b =>
 ∃ c,a = .bool c ∧
 (ae (!c)
 (R (.bool false) b)
 (C9 b (na p) fun a c d e f g h i j k q =>
 CA 19 #[ou a c d e f g h i j k q] b fun a b =>
 ∃ c d e f g h i j k q r s,a = .tuple #[ou c d e f g h i j k q r,.int .i64 s] ∧
 (nw (b.alloc (.cells (qB ⟨#[]⟩ none 0 0 0 none 0 0 none 0 0) 26)) fun a =>
 PX a (na b) c d e f g h i j k q r fun a =>
 C9 a (na p) fun c d e f g h i j k q r =>
 CA 13 #[ou c d e f g h i j k q r,.slice l m n] a fun a c =>
 ∃ d e f g h i j k l,a = .tuple #[mg d e f g h i j k,.int .i64 l] ∧
 (nw (c.alloc (.cells (sZ 0 0 none 0 0 none 0 0) 37)) fun a =>
 zX a (na c) d e f g h i j k fun a =>
 C9 a (na p) fun d e f g h i j k n p q =>
 CA 20 #[ou d e f g h i j k n p q,.int .i64 o] a fun a d =>
 ∃ e f g h i j k n o,a = .tuple #[mg e f g h i j k n,.int .i64 o] ∧
 (nw (d.alloc (.cells (sZ 0 0 none 0 0 none 0 0) 37)) fun a =>
 zX a (na d) e f g h i j k n fun a =>
 ae (l==0)
 (qc a (na c) fun e f g h i j k n =>
 CA 21 #[mg e f g h i j k n] a fun e f =>
 ∃ g h i j,e = .tuple #[.slice g h i,.int .i64 j] ∧
 (qc f (na c) fun e k n p q r t u =>
 CA 22 #[mg e k n p q r t u] f fun e f =>
 ∃ k n,e = .tuple #[.int .i64 k,.int .i64 n] ∧
 (ae (s != 0)
 (R (.bool false) f)
 (ae (j != 0)
 (R (.bool false) f)
 (ae (k != 0)
 (R (.bool false) f)
 (ae (n != 0)
 (R (.bool false) f)
 (cL f ((na b).add 4) fun e j k =>
 CA 23 #[.slice g h i,.slice e j k] f fun e f =>
 ∃ g,e = .bool g ∧
 (ae (!g)
 (R (.bool false) f)
 (cL f ((na c).add 3) fun c c e =>
 ae ((c:Int) != (m:Int))
 (R (.bool false) f)
 (ae (o != 0)
 (ae (l==0)
 (R (.bool true) f)
 (ae (l==o)
 (R (.bool true) f)
 (ae (o==2)
 (R (.bool true) f)
 (R (.bool (l==6)) f))))
 (qc f (na d) fun c e g h i j k m =>
 CA 21 #[mg c e g h i j k m] f fun c e =>
 ∃ f g h i,c = .tuple #[.slice f g h,.int .i64 i] ∧
 (ae (s==0)
 (ae (i==0)
 (cL e ((na b).add 4) fun c i j =>
 CA 23 #[.slice f g h,.slice c i j] e fun c f =>
 ∃ g,c = .bool g ∧
 (R (.bool g) f))
 (R (.bool false) e))
 (R (.bool false) e)))))))))))))
 (ae (o != 0)
 (ae (l==0)
 (R (.bool true) a)
 (ae (l==o)
 (R (.bool true) a)
 (ae (o==2)
 (R (.bool true) a)
 (R (.bool (l==6)) a))))
 (qc a (na d) fun c d e f g h i j =>
 CA 21 #[mg c d e f g h i j] a fun a c =>
 ∃ d e f g,a = .tuple #[.slice d e f,.int .i64 g] ∧
 (ae (s==0)
 (ae (g==0)
 (cL c ((na b).add 4) fun a b g =>
 CA 23 #[.slice d e f,.slice a b g] c fun a b =>
 ∃ d,a = .bool d ∧
 (R (.bool d) b))
 (R (.bool false) c))
 (R (.bool false) c)))))))))
end ak
def ak (R:VP):=ak.g0 R
theorem ak.calls {R a b c d e f g h i j l m n o p w} (k:ak R a b c d e f g h i j l m n o p w):CA 6 #[ou a b c d e f g h i j l,.slice m n o,.int .i64 p] w R:=cal (n:=ak.an) func6 rfl k (by kernel_rfl)
end Go.Mir
