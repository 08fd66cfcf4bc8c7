/- ShapeNames takes nothing: the plain reading reckons it out. -/
import Derived.Test.YtiafeogjknilmaaPeOk
namespace Go.Proofs.Ytiafeogjknilmaa.Pe
open Go.RowKit
set_option maxRecDepth 100000 in
theorem cShapeNames : (evF T F 100000 60 8 [] []).map (·.1) = some (.c (.b true)) := by kernel_rfl
theorem walkShapeNames (w : World) : Calls Try.prog 8 #[] w fun e w' => e = .returned (.bool true) ∧ Below w.heap.size w w' := closed_call (callOk 60) cShapeNames w
end Go.Proofs.Ytiafeogjknilmaa.Pe
