/- Part of a proof of laws of the seat YtmjlipmapfofmaaGreat: functions' weakest preconditions, each checked by the kernel, contracts out of them, plain lemmas; no conditions. -/
import Derived.Test.YtmjlipmapfofmaaGreatMMA
set_option linter.unusedVariables false
set_option linter.unusedSimpArgs false
set_option linter.unusedSectionVars false
set_option linter.unusedVariables false
set_option maxRecDepth 100000
namespace Go.Mir
open Go Go.E Go.RowKit
open Go.Proofs.Tryz (prog)
open Go.Proofs.Tryz (f3 func3)
namespace bV
def an:An:=An.nil
def g0 (R:VP) (a:ByteArray) (b:OA) (c d:Nat) (e:Int) (f:OA) (g h:Nat) (i:OA) (j k:Nat) (l:OA) (m n:Nat) (o:Int) (p:World):Prop :=
 nw (p.alloc (.cells (mD a b c d e f g h i j k) 26)) fun a =>
 xY a (na p) fun b c d e f g h i j k q =>
 CA 6 #[mf b c d e f g h i j k q] a fun a b =>
 ∃ c d e f g h i j k q r,a=mf c d e f g h i j k q r ∧
 (nw (b.alloc (.cells (mD ⟨#[]⟩ none 0 0 0 none 0 0 none 0 0) 26)) fun a =>
 SQ a (na b) c d e f g h i j k q r fun a =>
 xY a (na b) fun c d e f g h i j k q r =>
 CA 7 #[mf c d e f g h i j k q r,.slice l m n] a fun a c =>
 ∃ d e f g h i j k q,a = .tuple #[jM d e f g h i j k,.int .i64 q] ∧
 (nw (c.alloc (.cells (lq 0 0 none 0 0 none 0 0) 31)) fun a =>
 qj a (na c) d e f g h i j k fun a =>
 xY a (na p) fun d e f g h i j k r s t =>
 CA 8 #[mf d e f g h i j k r s t,.slice l m n] a fun a d =>
 ∃ e f g h i j k l m,a = .tuple #[jM e f g h i j k l,.int .i64 m] ∧
 (nw (d.alloc (.cells (lq 0 0 none 0 0 none 0 0) 31)) fun a =>
 qj a (na d) e f g h i j k l fun a =>
 xY a (na b) fun e f g h i j k l n r s =>
 CA 9 #[mf e f g h i j k l n r s,.int .i64 o] a fun a e =>
 ∃ f g h i j k l n r,a = .tuple #[jM f g h i j k l n,.int .i64 r] ∧
 (nw (e.alloc (.cells (lq 0 0 none 0 0 none 0 0) 31)) fun a =>
 qj a (na e) f g h i j k l n fun a =>
 xY a (na p) fun f g h i j k l n s t u =>
 CA 10 #[mf f g h i j k l n s t u,.int .i64 o] a fun a f =>
 ∃ g h i j k l n o s,a = .tuple #[jM g h i j k l n o,.int .i64 s] ∧
 (nw (f.alloc (.cells (lq 0 0 none 0 0 none 0 0) 31)) fun a =>
 qj a (na f) g h i j k l n o fun a =>
 CA 11 #[] a fun a g =>
 ∃ h,a = .bool h ∧
 (af h
 (lV g (na c) fun a c h i j k l n =>
 lV g (na d) fun d o t u v w x y =>
 CA 12 #[jM a c h i j k l n,jM d o t u v w x y] g fun a c =>
 ∃ d,a = .bool d ∧
 (af d
 (af (q==m)
 (lV c (na e) fun a d e h i j k l =>
 lV c (na f) fun f m n o q t u v =>
 CA 12 #[jM a d e h i j k l,jM f m n o q t u v] c fun a d =>
 ∃ e,a = .bool e ∧
 (af e
 (af (r==s)
 (xY d (na b) fun a b e f h i j k l m n =>
 xY d (na p) fun o p q r s t u v w x y =>
 CA 13 #[mf a b e f h i j k l m n,mf o p q r s t u v w x y] d fun a b =>
 ∃ e,a = .bool e ∧
 (R (.bool e) b))
 (R (.bool false) d))
 (R (.bool false) d)))
 (R (.bool false) c))
 (R (.bool false) c)))
 (R (.bool false) g)))))))
end bV
def bV (R:VP):=bV.g0 R
theorem bV.calls {R a b c d e f g h i j l m n o p w} (k:bV R a b c d e f g h i j l m n o p w):CA 3 #[mf a b c d e f g h i j l,.slice m n o,.int .i64 p] w R:=cal (n:=bV.an) func3 rfl k (by kernel_rfl)
end Go.Mir
