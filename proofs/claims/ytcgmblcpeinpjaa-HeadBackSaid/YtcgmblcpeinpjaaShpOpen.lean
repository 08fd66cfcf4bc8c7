/- Geometries and layouts among a row's arguments. -/
import Derived.Test.YtcgmblcpeinpjaaNums
import Derived.Test.YtcgmblcpeinpjaaLeaf
set_option linter.unusedVariables false
namespace Go.Proofs.Ytcgmblcpeinpjaa.Pe
open Go.RowKit Go.Proofs.Ytcgmblcpeinpjaa.B
section
variable {H : Type} {enc : TypeId × Value → H} {w : World} {base : Nat} {spare : Nat → Bool} {held : Bool}
theorem leaf_Geometry : AllLeaf enc Try.prog w base spare held 23 [.int .i64, .int .i64, .int .i64] := by
  refine leaf_struct Try.underlying23 (by kernel_rfl) fun j k hj => ?_
  match j, hj with
  | 0, hj => exact ⟨0, _, [.int .i64], rfl, by kernel_rfl, Nat.zero_le _, hj, leaf_int Try.underlying3⟩
  | 1, hj => exact ⟨1, _, [.int .i64], rfl, by kernel_rfl, Nat.le_refl _, hj, leaf_int Try.underlying3⟩
  | 2, hj => exact ⟨2, _, [.int .i64], rfl, by kernel_rfl, Nat.le_refl _, hj, leaf_int Try.underlying3⟩
  | j + 3, hj => simp at hj
theorem leaf_Layout : AllLeaf enc Try.prog w base spare held 26 [.int .i64, .int .i64, .int .i64, .int .i64, .int .i64, .int .i64, .int .i64, .int .i64, .int .i64] := by
  refine leaf_struct Try.underlying26 (by kernel_rfl) fun j k hj => ?_
  match j, hj with
  | 0, hj => exact ⟨0, _, [.int .i64, .int .i64, .int .i64], rfl, by kernel_rfl, Nat.zero_le _, hj, leaf_Geometry⟩
  | 1, hj => exact ⟨0, _, [.int .i64, .int .i64, .int .i64], rfl, by kernel_rfl, Nat.zero_le _, hj, leaf_Geometry⟩
  | 2, hj => exact ⟨0, _, [.int .i64, .int .i64, .int .i64], rfl, by kernel_rfl, Nat.zero_le _, hj, leaf_Geometry⟩
  | 3, hj => exact ⟨1, _, [.int .i64], rfl, by kernel_rfl, Nat.le_refl _, hj, leaf_int Try.underlying3⟩
  | 4, hj => exact ⟨2, _, [.int .i64], rfl, by kernel_rfl, Nat.le_refl _, hj, leaf_int Try.underlying3⟩
  | 5, hj => exact ⟨3, _, [.int .i64], rfl, by kernel_rfl, Nat.le_refl _, hj, leaf_int Try.underlying3⟩
  | 6, hj => exact ⟨4, _, [.int .i64], rfl, by kernel_rfl, Nat.le_refl _, hj, leaf_int Try.underlying3⟩
  | 7, hj => exact ⟨5, _, [.int .i64], rfl, by kernel_rfl, Nat.le_refl _, hj, leaf_int Try.underlying3⟩
  | 8, hj => exact ⟨6, _, [.int .i64], rfl, by kernel_rfl, Nat.le_refl _, hj, leaf_int Try.underlying3⟩
  | j + 9, hj => simp at hj
end
theorem geo_open {zs : List C} (g : All2 LeafC [.int .i64, .int .i64, .int .i64] zs) : ∃ b l i, zs = [.i .i64 b, .i .i64 l, .i .i64 i] ∧ lo64 b ∧ lo64 l ∧ lo64 i := by
  obtain ⟨z, zs1, rfl, ⟨b, rfl, hb⟩, g_1⟩ := all2_cons g
  obtain ⟨z, zs1, rfl, ⟨l, rfl, hl⟩, g_2⟩ := all2_cons g_1
  obtain ⟨z, zs1, rfl, ⟨i, rfl, hi⟩, g_3⟩ := all2_cons g_2
  obtain rfl := all2_nil g_3
  exact ⟨b, l, i, rfl, bounds_i64 hb, bounds_i64 hl, bounds_i64 hi⟩
end Go.Proofs.Ytcgmblcpeinpjaa.Pe
