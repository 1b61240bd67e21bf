/- Part of a proof of laws of the seat Ytmjlipmapfofmaa: functions' weakest preconditions, each checked by the kernel, contracts out of them, plain lemmas; no conditions. -/
import Derived.Test.YtmjlipmapfofmaaR12
import Derived.Test.YtmjlipmapfofmaaEC
import Derived.Test.YtmjlipmapfofmaaTA
import Derived.Test.YtmjlipmapfofmaaTC
set_option linter.unusedVariables false
set_option linter.unusedSimpArgs false
set_option linter.unusedSectionVars false
set_option maxRecDepth 100000
namespace Go.Mir
open Go Go.E Go.RowKit Go.ChangeShapes Go.WideShapes Go.ChangeAt Go.Tr
open Go.Proofs.Ytmjlipmapfofmaa (Rows.uptoBulk Rows.uptoBulkAll Rows.uptoSmall)
section
variable {H:Type} {enc:TypeId×Value→H} {w:World}
theorem fld {fs:Array Field} {e:TypeId} {off i:Nat} (h:(fs[i]?).map (fun f:Field=>(f.type,f.offset))=some (e,off)):∃ f,fs[i]?=some f∧f.type=e∧f.offset=off:=by
 obtain ⟨f,h1,h2⟩:=Option.map_eq_some_iff.1 h
 simp only [Prod.mk.injEq] at h2
 exact ⟨f,h1,h2.1,h2.2⟩
theorem kV:Go.Proofs.Try.prog.underlying 3=some (.int .i64):=by kernel_rfl
theorem He:Go.Proofs.Try.prog.underlying 45=some (.slice 3):=by kernel_rfl
theorem RJ {v:Value} {l:List Value} (h:v.cells.toList=l) (hl:l.length≠1):v = .agg l.toArray:=by
 cases v with
 | agg cs=>subst h; simp [Value.cells]
 | _=>subst h; simp [Value.cells] at hl
end
end Go.Mir
set_option maxRecDepth 100000
namespace Go.Mir
open Go Go.E Go.RowKit Go.Tr
end Go.Mir
set_option maxRecDepth 100000
namespace Go.Mir
open Go Go.E Go.RowKit Go.ChangeShapes Go.WideShapes Go.ChangeAt Go.Tr
open Go.Proofs.Ytmjlipmapfofmaa (Rows.uptoBulk Rows.uptoBulkAll Rows.uptoSmall)
section
variable {H:Type} {enc:TypeId×Value→H} {w:World}
end
end Go.Mir
namespace Go.Mir
open Go Go.E Go.RowKit Go.Tr
end Go.Mir
