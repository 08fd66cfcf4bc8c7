/- Geometries and layouts that come in, opened. -/
import Derived.Test.YtiafeogjknilmaaProg
import Derived.Test.YtiafeogjknilmaaOpenAgg
import Derived.Test.YtiafeogjknilmaaPlain
namespace Go.Proofs.Ytiafeogjknilmaa.B
open Go.RowKit
section
variable {H : Type} {enc : TypeId × Value → H} {w : World} {base : Nat} {spare : Nat → Bool} {held : Bool}
theorem cells_Geometry : Try.prog.cellsOf 25 = 3 := by kernel_rfl
theorem cells_Layout : Try.prog.cellsOf 27 = 9 := by kernel_rfl
theorem cells_int : Try.prog.cellsOf 3 = 1 := by kernel_rfl
theorem ai_Geometry : AllInt enc Try.prog w base spare held .i64 25 3 := by
  refine allInt_struct Try.underlying25 cells_Geometry (fun j hj => ?_)
  have hc : j = 0 ∨ j = 1 ∨ j = 2 := by omega
  rcases hc with rfl | rfl | rfl
  · exact ⟨0, _, 1, rfl, cells_int, by decide, by decide, allInt_int Try.underlying3⟩
  · exact ⟨1, _, 1, rfl, cells_int, by decide, by decide, allInt_int Try.underlying3⟩
  · exact ⟨2, _, 1, rfl, cells_int, by decide, by decide, allInt_int Try.underlying3⟩
theorem ai_Layout : AllInt enc Try.prog w base spare held .i64 27 9 := by
  refine allInt_struct Try.underlying27 cells_Layout (fun j hj => ?_)
  have hc : j < 3 ∨ j = 3 ∨ j = 4 ∨ j = 5 ∨ j = 6 ∨ j = 7 ∨ j = 8 := by omega
  rcases hc with h | rfl | rfl | rfl | rfl | rfl | rfl
  · exact ⟨0, _, 3, rfl, cells_Geometry, Nat.zero_le _, by show j < 0 + 3; omega, ai_Geometry⟩
  · exact ⟨1, _, 1, rfl, cells_int, by decide, by decide, allInt_int Try.underlying3⟩
  · exact ⟨2, _, 1, rfl, cells_int, by decide, by decide, allInt_int Try.underlying3⟩
  · exact ⟨3, _, 1, rfl, cells_int, by decide, by decide, allInt_int Try.underlying3⟩
  · exact ⟨4, _, 1, rfl, cells_int, by decide, by decide, allInt_int Try.underlying3⟩
  · exact ⟨5, _, 1, rfl, cells_int, by decide, by decide, allInt_int Try.underlying3⟩
  · exact ⟨6, _, 1, rfl, cells_int, by decide, by decide, allInt_int Try.underlying3⟩
end
theorem byt_wf {f : Nat → Int} (h : ∀ i, (Lit.int .u8 (f i)).wf = true) : Byt f := fun i => by have := bounds_u8 (h i); omega
theorem list3 {l : List Int} (h : l.length = 3) : ∃ a b c, l = [a, b, c] := by
  match l, h with
  | [a, b, c], _ => exact ⟨a, b, c, rfl⟩
theorem list9 {l : List Int} (h : l.length = 9) : ∃ a b c d e f g h i, l = [a, b, c, d, e, f, g, h, i] := by
  match l, h with
  | [a, b, c, d, e, f, g, h, i], _ => exact ⟨a, b, c, d, e, f, g, h, i, rfl⟩
end Go.Proofs.Ytiafeogjknilmaa.B
