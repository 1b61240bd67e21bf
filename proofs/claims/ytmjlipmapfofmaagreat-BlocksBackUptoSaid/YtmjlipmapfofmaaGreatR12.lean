/- Part of a proof; no conditions. -/
import Derived.ChangeShapes
import Derived.Laws.Cover2
import Derived.OpenShut
import Derived.ProofKit
import Derived.Test.YtmjlipmapfofmaaGreatEB
import Derived.Test.YtmjlipmapfofmaaGreatRows
set_option linter.unusedVariables false
set_option linter.unusedSimpArgs false
set_option linter.unusedSectionVars false
set_option maxRecDepth 100000
namespace Go.Mir
open Go Go.E Go.RowKit Go.ChangeShapes Go.WideShapes Go.ChangeAt
open Go.Proofs.YtmjlipmapfofmaaGreat (Rows.uptoBulk Rows.uptoBulkAll Rows.uptoSmall)
section
variable{H:Type}
theorem Ru(d:DataW H):1<=Rows.uptoBulk d:=by
 cases d with
 |lit l=>cases l <;> simp[Rows.uptoBulk]
 |nil=>simp[Rows.uptoBulk]
 |ptr d=>simp[Rows.uptoBulk]
 |slice elems spare=>simp[Rows.uptoBulk]
 |agg parts=>simp[Rows.uptoBulk]
 |iface t d=>simp[Rows.uptoBulk]
 |map entries=>simp[Rows.uptoBulk]
 |held h=>simp[Rows.uptoBulk]
theorem uo{d:DataW H}{l:List (DataW H)}(h:d∈l):Rows.uptoBulk d<=Rows.uptoBulkAll l:=by
 induction l with
 |nil=>cases h
 |cons x r ih=>
  simp only[Rows.uptoBulkAll]
  cases zb3.1 h with
  |inl e=>subst e;omega
  |inr e=>have:=ih e;omega
theorem Iw(l:List (DataW H)):l.length<=Rows.uptoBulkAll l:=by
 induction l with
 |nil=>simp[Rows.uptoBulkAll]
 |cons x r ih=>have:=Ru x;simp only[Rows.uptoBulkAll,zc5];omega
theorem meas:Yt (H:=H) Rows.uptoBulk where
 len es sp:=by have:=Iw es;simp only[Rows.uptoBulk];omega
 elem es sp d h:=by have:=uo h;simp only[Rows.uptoBulk];omega
 part ps d h:=by have:=uo h;simp only[Rows.uptoBulk];omega
theorem KE{d:DataW H}{l:List (DataW H)}(hk:Rows.uptoSmall H l=true)(h:d∈l):Rows.uptoBulk d<=1048576:=by
 have h1:Rows.uptoBulkAll l<=1048576:=of_decide_eq_true hk;have:=uo h;omega
end
open Go.Proofs.YtmjlipmapfofmaaGreat (Rows.uptoBulk Rows.uptoBulkAll Rows.uptoSmall)
section
end
end Go.Mir
