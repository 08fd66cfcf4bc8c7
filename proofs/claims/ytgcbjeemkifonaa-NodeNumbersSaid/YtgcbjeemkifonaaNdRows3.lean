/- NodeNumbers: from a row's arguments to the plain reading. -/
import Derived.Test.YtgcbjeemkifonaaNdNum
import Derived.Test.YtgcbjeemkifonaaNdOpen
set_option linter.unusedVariables false
namespace Go.Proofs.Ytgcbjeemkifonaa.Pe
open Go.RowKit Go.Proofs.Ytgcbjeemkifonaa.B
section
variable {H : Type} {enc : TypeId × Value → H} {w : World} {base : Nat} {spare : Nat → Bool} {held : Bool}
theorem leaf_Geometry : AllLeaf enc Try.prog w base spare held 41 [.int .i64, .int .i64, .int .i64] := by
  refine leaf_struct Try.underlying41 (by kernel_rfl) fun j k hj => ?_
  match j, hj with
  | 0, hj => exact ⟨0, _, [.int .i64], rfl, by kernel_rfl, Nat.zero_le _, hj, leaf_int Try.underlying3⟩
  | 1, hj => exact ⟨1, _, [.int .i64], rfl, by kernel_rfl, Nat.le_refl _, hj, leaf_int Try.underlying3⟩
  | 2, hj => exact ⟨2, _, [.int .i64], rfl, by kernel_rfl, Nat.le_refl _, hj, leaf_int Try.underlying3⟩
  | j + 3, hj => simp at hj
end
theorem geo_open {zs : List C} (g : All2 LeafC [.int .i64, .int .i64, .int .i64] zs) : ∃ b l i, zs = [.i .i64 b, .i .i64 l, .i .i64 i] ∧ lo64 b ∧ lo64 l ∧ lo64 i := by
  obtain ⟨z, zs1, rfl, ⟨b, rfl, hb⟩, g_1⟩ := all2_cons g
  obtain ⟨z, zs1, rfl, ⟨l, rfl, hl⟩, g_2⟩ := all2_cons g_1
  obtain ⟨z, zs1, rfl, ⟨i, rfl, hi⟩, g_3⟩ := all2_cons g_2
  obtain rfl := all2_nil g_3
  exact ⟨b, l, i, rfl, bounds_i64 hb, bounds_i64 hl, bounds_i64 hi⟩
theorem nnum_row {kk v : Int} {v0 v1 : Value} {z0 z1 : List C} {w : World} (g0 : All2 LeafC [.int .i64, .int .i64, .int .i64] z0) (e0 : ∀ ρ H, VRel ρ H (.ag 3 z0) v0) (g1 : All2 LeafC ksNode z1) (e1 : ∀ ρ H, VRel ρ H (.ag 16 z1) v1) (w2 : (Lit.int .i64 kk).wf = true) (w3 : (Lit.int .u32 v).wf = true) : Calls Try.prog 6 #[v0, v1, .int .i64 kk, .int .u32 v] w fun e w' => e = .returned (.bool true) ∧ Below w.heap.size w w' := by
  obtain ⟨b, l, i, rfl, hb, hl, hi⟩ := geo_open g0
  obtain ⟨n, rfl, hn⟩ := nd_open g1
  exact open_call (callW 6000 4) (nnum_p [] b l i n kk v hb hl hi hn (bounds_i64 w2) (by have := bounds_u32 w3; omega) (by omega)) (hrel_nil (fun _ _ => undef) w) (fun id b hb => by simp at hb) (All2.cons (e0 _ _) (All2.cons (e1 _ _) (All2.cons rfl (All2.cons rfl All2.nil))))
end Go.Proofs.Ytgcbjeemkifonaa.Pe
