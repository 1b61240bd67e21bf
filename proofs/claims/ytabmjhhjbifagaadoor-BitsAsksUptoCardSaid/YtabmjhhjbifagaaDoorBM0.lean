/- Part of a proof of laws of the seat YtabmjhhjbifagaaDoor: functions' weakest preconditions, each checked by the kernel, and contracts out of them; no conditions. -/
import Derived.Test.YtabmjhhjbifagaaDoorE4
import Derived.Test.YtabmjhhjbifagaaDoorProg
import Derived.KernelRfl
set_option linter.unusedVariables false
set_option linter.unusedSimpArgs false
namespace Go.Mir
open Go Go.E Go.RowKit
theorem M_follows : Go.Proofs.Tryd.prog.follows .mixedOrders = true := by kernel_rfl
theorem M_sizes : Go.Proofs.Tryd.prog.types.size + Made.depth ≠ 0 := by decide
end Go.Mir
