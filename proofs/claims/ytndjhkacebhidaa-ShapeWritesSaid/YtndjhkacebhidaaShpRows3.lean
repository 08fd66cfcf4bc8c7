/- ShapeWrites: from a row's arguments to the plain reading. -/
import Derived.Test.YtndjhkacebhidaaShpWr
import Derived.Test.YtndjhkacebhidaaShpOpen
set_option linter.unusedVariables false
namespace Go.Proofs.Ytndjhkacebhidaa.Pe
open Go.RowKit Go.Proofs.Ytndjhkacebhidaa.B
theorem writes_row {v0 : Value} {z0 : List C} (g0 : All2 LeafC [.int .i64, .int .i64, .int .i64, .int .i64, .int .i64, .int .i64, .int .i64, .int .i64, .int .i64] z0) (c0 : ∀ ρ H, VRel ρ H (.ag 9 z0) v0) (k : Int) (w1 : (Lit.int .i64 k).wf = true) (w : World) : Calls Try.prog 5 #[v0, .int .i64 k] w fun e w' => e = .returned (.bool true) ∧ Below w.heap.size w w' := by
  obtain ⟨z, zs1, rfl, ⟨a0, rfl, q0⟩, g1⟩ := all2_cons g0
  obtain ⟨z, zs1, rfl, ⟨a1, rfl, q1⟩, g2⟩ := all2_cons g1
  obtain ⟨z, zs1, rfl, ⟨a2, rfl, q2⟩, g3⟩ := all2_cons g2
  obtain ⟨z, zs1, rfl, ⟨a3, rfl, q3⟩, g4⟩ := all2_cons g3
  obtain ⟨z, zs1, rfl, ⟨a4, rfl, q4⟩, g5⟩ := all2_cons g4
  obtain ⟨z, zs1, rfl, ⟨a5, rfl, q5⟩, g6⟩ := all2_cons g5
  obtain ⟨z, zs1, rfl, ⟨a6, rfl, q6⟩, g7⟩ := all2_cons g6
  obtain ⟨z, zs1, rfl, ⟨a7, rfl, q7⟩, g8⟩ := all2_cons g7
  obtain ⟨z, zs1, rfl, ⟨a8, rfl, q8⟩, g9⟩ := all2_cons g8
  obtain rfl := all2_nil g9
  exact open_call (callW 7000 4) (writes_p [] a0 a1 a2 a3 a4 a5 a6 a7 a8 k (bounds_i64 q0) (bounds_i64 q1) (bounds_i64 q2) (bounds_i64 w1) (by omega)) (hrel_nil (fun _ _ => undef) w) (fun id b hb => by simp at hb) (All2.cons (c0 _ _) (All2.cons rfl All2.nil))
end Go.Proofs.Ytndjhkacebhidaa.Pe
