/- EntryNames takes nothing: the plain reading reckons it out. -/
import Derived.Test.YtbnbmeomnpdcfaaPeOk
namespace Go.Proofs.Ytbnbmeomnpdcfaa.Pe
open Go.RowKit
set_option maxRecDepth 100000 in
theorem cEntryNames : (evF T F 100000 60 5 [] []).map (·.1) = some (.c (.b true)) := by kernel_rfl
theorem walkEntryNames (w : World) : Calls Try.prog 5 #[] w fun e w' => e = .returned (.bool true) ∧ Below w.heap.size w w' := closed_call (callOk 60) cEntryNames w
end Go.Proofs.Ytbnbmeomnpdcfaa.Pe
