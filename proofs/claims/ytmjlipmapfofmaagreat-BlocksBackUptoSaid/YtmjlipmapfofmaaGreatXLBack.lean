/- Part of a proof; no conditions. -/
import Derived.Test.YtmjlipmapfofmaaGreatMMA
set_option linter.unusedVariables false
set_option linter.unusedSimpArgs false
set_option linter.unusedSectionVars false
set_option maxRecDepth 100000
open Go.Proofs.Tryz (prog f4 func4)
namespace Go.Mir
open Go Go.E Go.RowKit
namespace dh
def an:An:=An.nil
def g0(R:VP)(a b:Int)(c:OA)(d e:Nat)(f:OA)(g h:Nat)(i:World):Prop:=nw (i.alloc (.cells (mr a b c d e f g h) 31)) λa=>mV a (na i) λb c d e f g h j=>CA 14 #[kE b c d e f g h j] a λa b=>∃c d e f g h j k,a=kE c d e f g h j k/\(Q3q b c d e f g h j k λa=>mV a (na b) λc d e f g h j k=>CA 15 #[kE c d e f g h j k] a λa c=>∃d e f g,a=.tuple #[.slice d e f,.int .i64 g]/\(mV c (na i) λa h j k l m n o=>CA 16 #[kE a h j k l m n o] c λa c=>∃h j k l,a=.tuple #[.slice h j k,.int .i64 l]/\(mV c (na b) λa m n o p q r s=>CA 17 #[kE a m n o p q r s] c λa c=>∃m n,a=.tuple #[.int .i64 m,.int .i64 n]/\(mV c (na i) λa o p q r s t u=>CA 18 #[kE a o p q r s t u] c λa c=>∃o p,a=.tuple #[.int .i64 o,.int .i64 p]/\(CA 11 #[] c λa c=>∃q,a=.bool q/\(af q (CA 19 #[.slice d e f,.slice h j k] c λa d=>∃e,a=.bool e/\(af e (af (g==l) (af (m==o) (af (n==p) (mV d (na b) λa b e f g h j k=>mV d (na i) λi l m n o p q r=>CA 12 #[kE a b e f g h j k,kE i l m n o p q r] d λa b=>∃e,a=.bool e/\(R (.bool e) b)) (R (.bool false) d)) (R (.bool false) d)) (R (.bool false) d)) (R (.bool false) d))) (R (.bool false) c)))))))
end dh
def dh(R:VP):=dh.g0 R
theorem dh.calls{R a b c d e f g h w}(k:dh R a b c d e f g h w):CA 4 #[kE a b c d e f g h] w R:=cal (n:=dh.an) func4 rfl k
end Go.Mir
