/- Part of a proof; no conditions. -/
import Derived.Test.YtmjlipmapfofmaaGreatR12
import Derived.Test.YtmjlipmapfofmaaGreatEC
import Derived.Test.YtmjlipmapfofmaaGreatTA
import Derived.Test.YtmjlipmapfofmaaGreatTC
set_option linter.unusedVariables false
set_option linter.unusedSimpArgs false
set_option linter.unusedSectionVars false
set_option maxRecDepth 100000
open Go.Proofs.Tryz (prog)
namespace Go.Mir
open Go Go.E Go.RowKit Go.ChangeShapes Go.WideShapes Go.ChangeAt Go.Tr
open Go.Proofs.YtmjlipmapfofmaaGreat (Rows.uptoBulk Rows.uptoBulkAll Rows.uptoSmall)
section
theorem fld{fs:Array Field}{e:TypeId}{off i:Nat}(h:(fs[i]?).map (λf:Field=>(f.type,f.offset))=some (e,off)):∃f,fs[i]?=some f/\f.type=e/\f.offset=off:=by
 obtain⟨f,h1,h2⟩:=zd7.1 h;simp only[Prod.mk.injEq]at h2;exact⟨f,h1,h2.1,h2.2⟩
theorem jv:prog.underlying 3=some (.int .i64):=by kernel_rfl
theorem wG:prog.underlying 53=some (.slice 3):=by kernel_rfl
theorem Yv{v:Value}{l:List Value}(h:v.cells.toList=l)(hl:l.length≠1):v = .agg l.toArray:=by
 cases v with
 |agg cs=>subst h;simp[Value.cells]
 |_=>subst h;simp[Value.cells]at hl
end
end Go.Mir
namespace Go.Mir
open Go Go.E Go.RowKit Go.Tr
end Go.Mir
namespace Go.Mir
open Go Go.E Go.RowKit Go.ChangeShapes Go.WideShapes Go.ChangeAt Go.Tr
open Go.Proofs.YtmjlipmapfofmaaGreat (Rows.uptoBulk Rows.uptoBulkAll Rows.uptoSmall)
section
end
end Go.Mir
namespace Go.Mir
open Go Go.E Go.RowKit Go.Tr
end Go.Mir
