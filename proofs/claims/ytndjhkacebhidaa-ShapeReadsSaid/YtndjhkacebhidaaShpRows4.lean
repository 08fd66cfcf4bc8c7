/- ShapeReads: from a row's arguments to the plain reading. -/
import Derived.Test.YtndjhkacebhidaaShpRDec
import Derived.Test.YtndjhkacebhidaaShpOpen
import Derived.Test.YtndjhkacebhidaaWitB
set_option linter.unusedVariables false
namespace Go.Proofs.Ytndjhkacebhidaa.Pe
open Go.RowKit Go.Proofs.Ytndjhkacebhidaa.B
section
variable {H : Type} {enc : TypeId × Value → H} {w : World} {base : Nat} {spare : Nat → Bool} {held : Bool}
theorem leaf_Block : AllLeaf enc Try.prog w base spare held 23 (List.replicate 1024 (PK.int .u8)) := by
  have := leaf_array (enc := enc) (P := Try.prog) (w := w) (base := base) (spare := spare) (held := held) (ks := [PK.int .u8]) (n := 1024) Try.underlying23 (by kernel_rfl) (by kernel_rfl) (by decide) (leaf_int Try.underlying5)
  rw [flat_rep] at this
  exact this
end
theorem reads_row {v0 : Value} {z0 : List C} (g0 : All2 LeafC (List.replicate 1024 (PK.int .u8)) z0) (c0 : ∀ ρ H, VRel ρ H (.ag (List.replicate 1024 (PK.int .u8)).length z0) v0) (n : Int) (w1 : (Lit.int .i64 n).wf = true) (w : World) : Calls Try.prog 3 #[v0, .int .i64 n] w fun e w' => e = .returned (.bool true) ∧ Below w.heap.size w w' := by
  obtain ⟨l, rfl, hl⟩ := leaf_bytes 1024 g0
  rw [List.length_replicate] at c0
  exact open_call (callW 7000 5) (reads_p [] l n hl (bounds_i64 w1) (by omega)) (hrel_nil (fun _ _ => undef) w) (fun id b hb => by simp at hb) (All2.cons (c0 _ _) (All2.cons rfl All2.nil))
end Go.Proofs.Ytndjhkacebhidaa.Pe
