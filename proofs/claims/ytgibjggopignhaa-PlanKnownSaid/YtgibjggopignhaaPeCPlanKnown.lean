/- PlanKnown takes nothing: the plain reading reckons it out. -/
import Derived.Test.YtgibjggopignhaaPeOk
namespace Go.Proofs.Ytgibjggopignhaa.Pe
open Go.RowKit
set_option maxRecDepth 100000 in
theorem cPlanKnown : (evF T F 100000 60 9 [] []).map (·.1) = some (.c (.b true)) := by kernel_rfl
theorem walkPlanKnown (w : World) : Calls Try.prog 9 #[] w fun e w' => e = .returned (.bool true) ∧ Below w.heap.size w w' := closed_call (callOk 60) cPlanKnown w
end Go.Proofs.Ytgibjggopignhaa.Pe
