/- Part of a proof of laws of the seat Ytmjlipmapfofmaa: functions' weakest preconditions, each checked by the kernel, contracts out of them, plain lemmas; no conditions. -/
import Derived.ChangeShapes
import Derived.Laws.Cover2
import Derived.OpenShut
import Derived.ProofKit
import Derived.Test.YtmjlipmapfofmaaEB
import Derived.Test.YtmjlipmapfofmaaRows
set_option linter.unusedVariables false
set_option linter.unusedSimpArgs false
set_option linter.unusedSectionVars false
set_option maxRecDepth 100000
namespace Go.Mir
open Go Go.E Go.RowKit Go.ChangeShapes Go.WideShapes Go.ChangeAt
open Go.Proofs.Ytmjlipmapfofmaa (Rows.uptoBulk Rows.uptoBulkAll Rows.uptoSmall)
section
variable {H:Type} {enc:TypeId×Value→H} {w:World}
theorem LZ (d:DataW H):1≤Rows.uptoBulk d:=by
 cases d with
 | lit l=>cases l <;> simp [Rows.uptoBulk]
 | nil=>simp [Rows.uptoBulk]
 | ptr d=>simp [Rows.uptoBulk]
 | slice elems spare=>simp [Rows.uptoBulk]
 | agg parts=>simp [Rows.uptoBulk]
 | iface t d=>simp [Rows.uptoBulk]
 | map entries=>simp [Rows.uptoBulk]
 | held h=>simp [Rows.uptoBulk]
theorem uM {d:DataW H} {l:List (DataW H)} (h:d∈l):Rows.uptoBulk d≤Rows.uptoBulkAll l:=by
 induction l with
 | nil=>cases h
 | cons x r ih =>
  simp only [Rows.uptoBulkAll]
  cases List.mem_cons.1 h with
  | inl e=>subst e; omega
  | inr e=>have:=ih e; omega
theorem LM (l:List (DataW H)):l.length≤Rows.uptoBulkAll l:=by
 induction l with
 | nil=>simp [Rows.uptoBulkAll]
 | cons x r ih=>have:=LZ x; simp only [Rows.uptoBulkAll,List.length_cons]; omega
theorem meas:UW (H:=H) Rows.uptoBulk where
 len es sp:=by have:=LM es; simp only [Rows.uptoBulk]; omega
 elem es sp d h:=by have:=uM h; simp only [Rows.uptoBulk]; omega
 part ps d h:=by have:=uM h; simp only [Rows.uptoBulk]; omega
theorem xu {d:DataW H} {l:List (DataW H)} (hk:Rows.uptoSmall H l=true) (h:d∈l):Rows.uptoBulk d≤1048576:=by
 have h1:Rows.uptoBulkAll l≤1048576:=of_decide_eq_true hk
 have:=uM h
 omega
end
end Go.Mir
set_option maxRecDepth 100000
namespace Go.Mir
open Go Go.E Go.RowKit Go.ChangeShapes Go.WideShapes Go.ChangeAt
open Go.Proofs.Ytmjlipmapfofmaa (Rows.uptoBulk Rows.uptoBulkAll Rows.uptoSmall)
section
variable {H:Type} {enc:TypeId×Value→H} {w:World}
end
end Go.Mir
