/- ShapeLayouts: from a row's arguments to the plain reading. -/
import Derived.Test.YtndjhkacebhidaaShpLaw
import Derived.Test.YtndjhkacebhidaaShpOpen
set_option linter.unusedVariables false
namespace Go.Proofs.Ytndjhkacebhidaa.Pe
open Go.RowKit Go.Proofs.Ytndjhkacebhidaa.B
theorem layouts_row {v0 : Value} {z0 : List C} (g0 : All2 LeafC [.int .i64, .int .i64, .int .i64] z0) (c0 : ∀ ρ H, VRel ρ H (.ag 3 z0) v0) (k : Int) (w1 : (Lit.int .i64 k).wf = true) (w : World) : Calls Try.prog 4 #[v0, .int .i64 k] w fun e w' => e = .returned (.bool true) ∧ Below w.heap.size w w' := by
  obtain ⟨b, l, i, rfl, hb, hl, hi⟩ := geo_open g0
  exact open_call (callW 6000 4) (layouts_p [] b l i k (by omega) hb hl hi (bounds_i64 w1)) (hrel_nil (fun _ _ => undef) w) (fun id b hb => by simp at hb) (All2.cons (c0 _ _) (All2.cons rfl All2.nil))
end Go.Proofs.Ytndjhkacebhidaa.Pe
