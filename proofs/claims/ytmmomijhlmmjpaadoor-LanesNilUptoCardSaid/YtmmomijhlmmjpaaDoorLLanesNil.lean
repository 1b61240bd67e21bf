/- Part of a proof of laws of the seat YtmmomijhlmmjpaaDoor: functions' weakest preconditions, each checked by the kernel, contracts out of them, plain lemmas; no conditions. -/
import Derived.Laws.Bits64b
import Derived.Lib.TrailingZeros
import Derived.Test.YtmmomijhlmmjpaaDoorN3
import Derived.Test.YtmmomijhlmmjpaaDoorXLLanesNil
set_option linter.unusedVariables false
set_option linter.unusedSimpArgs false
namespace Go.Bi
open Go
def Tab (w : World) : Prop := ∀ j, j < 64 → w.cell? ⟨0, j, none⟩ = some (.int .u8 (Lib.deBruijn64tab.getD j 0 : Nat))
end Go.Bi
namespace Go.Mir
open Go Go.E Go.RowKit
theorem lanesNil_law (a : Option Addr) (n c : Nat) (w : World) : Pure Go.Proofs.Tryd.prog 3 #[.slice a n c] w (.bool true) := by
  refine thicketlaw18_LanesNil.calls (R := fun v' u => v' = _ ∧ Below w.heap.size w u) ?_
  unfold thicketlaw18_LanesNil thicketlaw18_LanesNil.g0
  refine E.CallsD.mono (score_nil a n c w) fun v u1 ⟨hv, k1⟩ => ⟨_, _, _, _, _, hv, ?_⟩
  refine E.CallsD.mono (exits_nil a n c u1) fun v u2 ⟨hv, k2⟩ => ⟨_, _, _, _, _, hv, ?_⟩
  refine E.CallsD.mono (work_nil a n c u2) fun v u3 ⟨hv, k3⟩ => ⟨_, _, _, hv, ?_⟩
  refine E.CallsD.mono (begins u3) fun v u4 ⟨hv, k4⟩ => ⟨_, hv, ?_⟩
  exact ⟨rfl, bthen (bthen (bthen k1 k2) k3) k4⟩
end Go.Mir
