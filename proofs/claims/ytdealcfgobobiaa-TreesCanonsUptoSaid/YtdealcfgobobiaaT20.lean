/- Part of a proof of laws of the seat Ytdealcfgobobiaa: functions' weakest preconditions, each checked by the kernel, contracts out of them, plain lemmas; no conditions. -/
import Derived.Test.YtdealcfgobobiaaTC
import Derived.Test.YtdealcfgobobiaaTM8
set_option linter.unusedVariables false
set_option linter.unusedSimpArgs false
set_option maxRecDepth 100000
namespace Go.Mir
open Go Go.E Go.RowKit Go.Tr
section
variable {w u : World} {x : ND} {a a1 : Option Addr} {n c n1 c1 : Nat} {f : Nat} {o : Int} {F : Nat → Prop} {nodes : List ND} {xs : List Nat}
theorem pq {P : Program} {fn : FuncId} {args : Array Value} {w u : World} {v : Value} (h : Pure P fn args u v) (hu : Kept w u) : E.CallsD P fn args u fun v' u' => v' = v ∧ Below w.heap.size w u' :=
  E.CallsD.mono h fun _ _ ⟨hv, hk⟩ => ⟨hv, Kept.trans hu hk⟩
/-- The law TreesGoes. -/
theorem treesGoes_law (hm : n ≤ 16777216) (hs : Sl enI w a n x.cats) : Pure Go.Proofs.Try.prog 3 #[vN x a n c, .float .f64 f] w (.bool true) := by
  refine thicketlaw07_TreesGoes.calls (R := fun v' u => v' = _ ∧ Below w.heap.size w u) ?_
  unfold thicketlaw07_TreesGoes thicketlaw07_TreesGoes.g0
  refine box8 fun u _ h8 hk => ⟨true, fun u' hu => pq (lives_c u') hu, ob_t (h8.ld ⟨goesP x f, fun u' hu => pq (Goes_c (x := x) hm (hs.keep (Kept.trans hk hu))) hu, h8.ld ⟨goesP x f, fun u' hu => pq (refGoes_c (x := x) hm (hs.keep (Kept.trans hk hu))) hu, fun u' hu => ⟨by simp, Kept.trans hk hu⟩⟩⟩)⟩
end
end Go.Mir
