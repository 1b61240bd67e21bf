/- Part of a proof of laws of the seat YtmmomijhlmmjpaaDoor: functions' weakest preconditions, each checked by the kernel, contracts out of them, plain lemmas; no conditions. -/
import Derived.KernelRfl
import Derived.Test.YtmmomijhlmmjpaaDoorEA
import Derived.Test.YtmmomijhlmmjpaaDoorProg
set_option linter.unusedVariables false
set_option linter.unusedSimpArgs false
namespace Go.Mir
open Go Go.E Go.RowKit
theorem M_follows : Go.Proofs.Tryd.prog.follows .mixedOrders = true := by kernel_rfl
theorem M_sizes : Go.Proofs.Tryd.prog.types.size + Made.depth ≠ 0 := of_decide_eq_true (by kernel_rfl)
end Go.Mir
