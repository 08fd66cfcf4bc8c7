/- NodeKnown takes nothing: the plain reading reckons it out. -/
import Derived.Test.YtfjjkiibolcndaaPeOk
namespace Go.Proofs.Ytfjjkiibolcndaa.Pe
open Go.RowKit
set_option maxRecDepth 100000 in
theorem cNodeKnown : (evF T F 100000 60 6 [] []).map (·.1) = some (.c (.b true)) := by kernel_rfl
theorem walkNodeKnown (w : World) : Calls Try.prog 6 #[] w fun e w' => e = .returned (.bool true) ∧ Below w.heap.size w w' := closed_call (callOk 60) cNodeKnown w
end Go.Proofs.Ytfjjkiibolcndaa.Pe
