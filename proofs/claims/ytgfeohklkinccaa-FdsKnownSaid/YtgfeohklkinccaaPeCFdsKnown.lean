/- FdsKnown takes nothing: the plain reading reckons it out. -/
import Derived.Test.YtgfeohklkinccaaPeOk
namespace Go.Proofs.Ytgfeohklkinccaa.Pe
open Go.RowKit
set_option maxRecDepth 100000 in
theorem cFdsKnown : (evF T F 100000 60 3 [] []).map (·.1) = some (.c (.b true)) := by kernel_rfl
theorem walkFdsKnown (w : World) : Calls Try.prog 3 #[] w fun e w' => e = .returned (.bool true) ∧ Below w.heap.size w w' := closed_call (callOk 60) cFdsKnown w
end Go.Proofs.Ytgfeohklkinccaa.Pe
