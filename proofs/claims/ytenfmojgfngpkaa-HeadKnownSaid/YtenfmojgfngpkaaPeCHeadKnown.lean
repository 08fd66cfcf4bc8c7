/- HeadKnown takes nothing: the plain reading reckons it out, SetU32 by its result. -/
import Derived.Test.YtenfmojgfngpkaaHdEnc2
namespace Go.Proofs.Ytenfmojgfngpkaa.Pe
open Go.RowKit
set_option maxRecDepth 100000 in
theorem cHeadKnown : (evX 60 3 [] []).map (·.1) = some (.c (.b true)) := by kernel_rfl
theorem walkHeadKnown (w : World) : Calls Try.prog 3 #[] w fun e w' => e = .returned (.bool true) ∧ Below w.heap.size w w' := closed_call (evX_ok 60) cHeadKnown w
end Go.Proofs.Ytenfmojgfngpkaa.Pe
