/- Plans: from a row's arguments to the plain reading. -/
import Derived.Test.YtgibjggopignhaaPlnWay
import Derived.Test.YtgibjggopignhaaPlnCov
import Derived.Test.YtgibjggopignhaaLeaf
set_option linter.unusedVariables false
namespace Go.Proofs.Ytgibjggopignhaa.Pe
open Go.RowKit Go.Proofs.Ytgibjggopignhaa.B
theorem ways_row (a b : Int) (w0 : (Lit.int .i64 a).wf = true) (w1 : (Lit.int .i64 b).wf = true) (w : World) : Calls Try.prog 7 #[.int .i64 a, .int .i64 b] w fun e w' => e = .returned (.bool true) ∧ Below w.heap.size w w' :=
  open_call (callW 100000 3) (ways_p [] a b (bounds_i64 w0) (bounds_i64 w1)) (hrel_nil (fun _ _ => undef) w) (fun id b hb => by simp at hb) (All2.cons rfl (All2.cons rfl All2.nil))
theorem covers_row (a b : Int) (w0 : (Lit.int .i64 a).wf = true) (w1 : (Lit.int .i64 b).wf = true) (w : World) : Calls Try.prog 6 #[.int .i64 a, .int .i64 b] w fun e w' => e = .returned (.bool true) ∧ Below w.heap.size w w' :=
  open_call (callW 100000000 3) (covers_p [] a b (by decide) (bounds_i64 w0) (bounds_i64 w1)) (hrel_nil (fun _ _ => undef) w) (fun id b hb => by simp at hb) (All2.cons rfl (All2.cons rfl All2.nil))
end Go.Proofs.Ytgibjggopignhaa.Pe
