/- Part of a proof of laws of the seat Ytmjlipmapfofmaa: functions' weakest preconditions, each checked by the kernel, contracts out of them, plain lemmas; no conditions. -/
import Derived.Test.YtmjlipmapfofmaaMMA
set_option linter.unusedVariables false
set_option linter.unusedSimpArgs false
set_option linter.unusedSectionVars false
set_option linter.unusedVariables false
set_option maxRecDepth 100000
namespace Go.Mir
open Go Go.E Go.RowKit
open Go.Proofs.Try (prog)
open Go.Proofs.Try (f5 func5)
namespace WH
def an:An:=An.nil
def g0 (R:VP) (a b:Int) (c:OA) (d e:Nat) (f:OA) (g h:Nat) (i j:Int) (k:OA) (l m:Nat) (n:OA) (o p:Nat) (q:World):Prop :=
 nw (q.alloc (.cells (sZ a b c d e f g h) 37)) fun a =>
 nw (a.alloc (.cells (sZ i j k l m n o p) 37)) fun b =>
 ∃ c:Nat→Value→World→Prop,KpF c ∧
 ((∀ d:World,Below b.heap.size b d→CA 11 #[] d fun e f=>∃ g,e = .bool g∧c 0 (.bool g) f∧Below d.heap.size d f) ∧
 (∀ d:Bool,(∃ e,Below b.heap.size b e∧c 0 (.bool d) e) →
 ae d
 (qc b (na q) fun e f g h i j k l =>
 qc b (na a) fun m n o p r s t u =>
 (∀ v:World,Below b.heap.size b v→c 0 (.bool d) v→CA 15 #[mg e f g h i j k l,mg m n o p r s t u] v fun e f=>∃ g,e = .bool g∧c 4 (.bool g) f∧Below v.heap.size v f) ∧
 (∀ e:Bool,(∃ f,Below b.heap.size b f∧c 4 (.bool e) f) →
 qc b (na q) fun f g h i j k l m =>
 qc b (na a) fun a n o p r s t u =>
 (∀ v:World,Below b.heap.size b v→c 0 (.bool d) v→c 4 (.bool e) v→CA 16 #[mg f g h i j k l m,mg a n o p r s t u] v fun a f=>∃ g,a = .bool g∧c 7 (.bool g) f∧Below v.heap.size v f) ∧
 (∀ a:Bool,(∃ f,Below b.heap.size b f∧c 7 (.bool a) f) →
 ae (e==a)
 (qc b (na q) fun f g h i j k l m =>
 qc b (na q) fun n o p r s t u v =>
 (∀ w:World,Below b.heap.size b w→c 0 (.bool d) w→c 4 (.bool e) w→c 7 (.bool a) w→CA 17 #[mg n o p r s t u v] w fun n o=>∃ p r s t u v x y,n=mg p r s t u v x y∧c 13 (mg p r s t u v x y) o∧Below w.heap.size w o) ∧
 (∀ n:Int,∀ o:Int,∀ p:Option Addr,∀ r:Nat,∀ s:Nat,∀ t:Option Addr,∀ u:Nat,∀ v:Nat,(∃ w,Below b.heap.size b w∧c 13 (mg n o p r s t u v) w) →
 (∀ w:World,Below b.heap.size b w→c 0 (.bool d) w→c 4 (.bool e) w→c 7 (.bool a) w→c 13 (mg n o p r s t u v) w→CA 15 #[mg f g h i j k l m,mg n o p r s t u v] w fun f g=>∃ h,f = .bool h∧c 14 (.bool h) g∧Below w.heap.size w g) ∧
 (∀ f:Bool,(∃ g,Below b.heap.size b g∧c 14 (.bool f) g) →
 ae f
 (qc b (na q) fun g h i j k l m w =>
 (∀ x:World,Below b.heap.size b x→c 0 (.bool d) x→c 4 (.bool e) x→c 7 (.bool a) x→c 13 (mg n o p r s t u v) x→c 14 (.bool f) x→CA 18 #[mg g h i j k l m w] x fun g h=>∃ i j k l m w y z,g=mg i j k l m w y z∧c 18 (mg i j k l m w y z) h∧Below x.heap.size x h) ∧
 (∀ g:Int,∀ h:Int,∀ i:Option Addr,∀ j:Nat,∀ k:Nat,∀ l:Option Addr,∀ m:Nat,∀ w:Nat,(∃ x,Below b.heap.size b x∧c 18 (mg g h i j k l m w) x) →
 qc b (na q) fun q x y z A B C D =>
 (∀ E:World,Below b.heap.size b E→c 0 (.bool d) E→c 4 (.bool e) E→c 7 (.bool a) E→c 13 (mg n o p r s t u v) E→c 14 (.bool f) E→c 18 (mg g h i j k l m w) E→CA 16 #[mg g h i j k l m w,mg q x y z A B C D] E fun q x=>∃ y,q = .bool y∧c 20 (.bool y) x∧Below E.heap.size E x) ∧
 (∀ q:Bool,(∃ x,Below b.heap.size b x∧c 20 (.bool q) x) →
 ∀ x:World,Below b.heap.size b x→c 0 (.bool d) x→c 4 (.bool e) x→c 7 (.bool a) x→c 13 (mg n o p r s t u v) x→c 14 (.bool f) x→c 18 (mg g h i j k l m w) x→c 20 (.bool q) x →
 R (.bool q) x)))
 (∀ g:World,Below b.heap.size b g→c 0 (.bool d) g→c 4 (.bool e) g→c 7 (.bool a) g→c 13 (mg n o p r s t u v) g→c 14 (.bool f) g →
 R (.bool false) g))))
 (∀ f:World,Below b.heap.size b f→c 0 (.bool d) f→c 4 (.bool e) f→c 7 (.bool a) f →
 R (.bool false) f))))
 (∀ a:World,Below b.heap.size b a→c 0 (.bool d) a →
 R (.bool false) a)))
end WH
def WH (R:VP):=WH.g0 R
theorem WH.calls {R a b c d e f g h i j l m n o p q w} (k:WH R a b c d e f g h i j l m n o p q w):CA 5 #[mg a b c d e f g h,mg i j l m n o p q] w R:=cal (n:=WH.an) func5 rfl k (by kernel_rfl)
end Go.Mir
