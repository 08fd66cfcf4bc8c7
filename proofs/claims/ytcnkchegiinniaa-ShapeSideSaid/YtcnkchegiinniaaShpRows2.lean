/- ShapeSide: from a row's arguments to the plain reading. -/
import Derived.Test.YtcnkchegiinniaaShpSide
import Derived.Test.YtcnkchegiinniaaShpOpen
set_option linter.unusedVariables false
namespace Go.Proofs.Ytcnkchegiinniaa.Pe
open Go.RowKit Go.Proofs.Ytcnkchegiinniaa.B
theorem side_row {v0 : Value} {z0 : List C} (g0 : All2 LeafC [.int .i64, .int .i64, .int .i64] z0) (c0 : ∀ ρ H, VRel ρ H (.ag 3 z0) v0) (k : Int) (w1 : (Lit.int .i64 k).wf = true) (w : World) : Calls Try.prog 3 #[v0, .int .i64 k] w fun e w' => e = .returned (.bool true) ∧ Below w.heap.size w w' := by
  obtain ⟨b, l, i, rfl, hb, hl, hi⟩ := geo_open g0
  exact open_call (callW 6000 4) (side_p [] b l i k hb hl hi (bounds_i64 w1)) (hrel_nil (fun _ _ => undef) w) (fun id b hb => by simp at hb) (All2.cons (c0 _ _) (All2.cons rfl All2.nil))
end Go.Proofs.Ytcnkchegiinniaa.Pe
