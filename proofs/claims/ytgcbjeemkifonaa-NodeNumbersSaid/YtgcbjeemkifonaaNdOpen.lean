/- Inodes among a row's arguments. -/
import Derived.Test.YtgcbjeemkifonaaNdCore
import Derived.Test.YtgcbjeemkifonaaLeaf
set_option linter.unusedVariables false
namespace Go.Proofs.Ytgcbjeemkifonaa.Pe
open Go.RowKit Go.Proofs.Ytgcbjeemkifonaa.B
abbrev ksNode : List PK := [.int .u16, .int .u16, .int .u32, .int .u32, .int .u32, .int .u32, .int .u32, .int .u32, .int .u32, .int .u32, .int .u32, .int .u32, .int .u32, .int .u32, .int .u32, .int .u32]
section
variable {H : Type} {enc : TypeId × Value → H} {w : World} {base : Nat} {spare : Nat → Bool} {held : Bool}
theorem leaf_dir : AllLeaf enc Try.prog w base spare held 25 (List.replicate 10 [PK.int .u32]).flatten :=
  leaf_array Try.underlying25 (by kernel_rfl) (by kernel_rfl) (by decide) (leaf_int Try.underlying24)
theorem leaf_Node : AllLeaf enc Try.prog w base spare held 27 ksNode := by
  refine leaf_struct Try.underlying27 (by kernel_rfl) fun j k hj => ?_
  match j, hj with
  | 0, hj => exact ⟨0, _, [.int .u16], rfl, by kernel_rfl, Nat.le_refl _, hj, leaf_int Try.underlying23⟩
  | 1, hj => exact ⟨1, _, [.int .u16], rfl, by kernel_rfl, Nat.le_refl _, hj, leaf_int Try.underlying22⟩
  | 2, hj => exact ⟨2, _, [.int .u32], rfl, by kernel_rfl, Nat.le_refl _, hj, leaf_int Try.underlying24⟩
  | 3, hj => exact ⟨3, _, [.int .u32], rfl, by kernel_rfl, Nat.le_refl _, hj, leaf_int Try.underlying24⟩
  | 4, hj => exact ⟨4, _, (List.replicate 10 [PK.int .u32]).flatten, rfl, by kernel_rfl, by decide, hj, leaf_dir⟩
  | 5, hj => exact ⟨4, _, (List.replicate 10 [PK.int .u32]).flatten, rfl, by kernel_rfl, by decide, hj, leaf_dir⟩
  | 6, hj => exact ⟨4, _, (List.replicate 10 [PK.int .u32]).flatten, rfl, by kernel_rfl, by decide, hj, leaf_dir⟩
  | 7, hj => exact ⟨4, _, (List.replicate 10 [PK.int .u32]).flatten, rfl, by kernel_rfl, by decide, hj, leaf_dir⟩
  | 8, hj => exact ⟨4, _, (List.replicate 10 [PK.int .u32]).flatten, rfl, by kernel_rfl, by decide, hj, leaf_dir⟩
  | 9, hj => exact ⟨4, _, (List.replicate 10 [PK.int .u32]).flatten, rfl, by kernel_rfl, by decide, hj, leaf_dir⟩
  | 10, hj => exact ⟨4, _, (List.replicate 10 [PK.int .u32]).flatten, rfl, by kernel_rfl, by decide, hj, leaf_dir⟩
  | 11, hj => exact ⟨4, _, (List.replicate 10 [PK.int .u32]).flatten, rfl, by kernel_rfl, by decide, hj, leaf_dir⟩
  | 12, hj => exact ⟨4, _, (List.replicate 10 [PK.int .u32]).flatten, rfl, by kernel_rfl, by decide, hj, leaf_dir⟩
  | 13, hj => exact ⟨4, _, (List.replicate 10 [PK.int .u32]).flatten, rfl, by kernel_rfl, by decide, hj, leaf_dir⟩
  | 14, hj => exact ⟨5, _, [.int .u32], rfl, by kernel_rfl, Nat.le_refl _, hj, leaf_int Try.underlying24⟩
  | 15, hj => exact ⟨6, _, [.int .u32], rfl, by kernel_rfl, Nat.le_refl _, hj, leaf_int Try.underlying24⟩
  | j + 16, hj => simp at hj
end
theorem nd_open {zs : List C} (g : All2 LeafC ksNode zs) : ∃ n : Nd, zs = n.cs ∧ n.Ok := by
  obtain ⟨z, zs1, rfl, ⟨k, rfl, hk⟩, g_1⟩ := all2_cons g
  obtain ⟨z, zs1, rfl, ⟨l, rfl, hl⟩, g_2⟩ := all2_cons g_1
  obtain ⟨z, zs1, rfl, ⟨z, rfl, hz⟩, g_3⟩ := all2_cons g_2
  obtain ⟨z, zs1, rfl, ⟨b, rfl, hb⟩, g_4⟩ := all2_cons g_3
  obtain ⟨z, zs1, rfl, ⟨d0, rfl, hd0⟩, g_5⟩ := all2_cons g_4
  obtain ⟨z, zs1, rfl, ⟨d1, rfl, hd1⟩, g_6⟩ := all2_cons g_5
  obtain ⟨z, zs1, rfl, ⟨d2, rfl, hd2⟩, g_7⟩ := all2_cons g_6
  obtain ⟨z, zs1, rfl, ⟨d3, rfl, hd3⟩, g_8⟩ := all2_cons g_7
  obtain ⟨z, zs1, rfl, ⟨d4, rfl, hd4⟩, g_9⟩ := all2_cons g_8
  obtain ⟨z, zs1, rfl, ⟨d5, rfl, hd5⟩, g_10⟩ := all2_cons g_9
  obtain ⟨z, zs1, rfl, ⟨d6, rfl, hd6⟩, g_11⟩ := all2_cons g_10
  obtain ⟨z, zs1, rfl, ⟨d7, rfl, hd7⟩, g_12⟩ := all2_cons g_11
  obtain ⟨z, zs1, rfl, ⟨d8, rfl, hd8⟩, g_13⟩ := all2_cons g_12
  obtain ⟨z, zs1, rfl, ⟨d9, rfl, hd9⟩, g_14⟩ := all2_cons g_13
  obtain ⟨z, zs1, rfl, ⟨s, rfl, hs⟩, g_15⟩ := all2_cons g_14
  obtain ⟨z, zs1, rfl, ⟨e, rfl, he⟩, g_16⟩ := all2_cons g_15
  obtain rfl := all2_nil g_16
  exact ⟨⟨k, l, z, b, d0, d1, d2, d3, d4, d5, d6, d7, d8, d9, s, e⟩, rfl, ⟨by have := bounds_u16 hk; simp only; omega, by have := bounds_u16 hl; simp only; omega, by have := bounds_u32 hz; simp only; omega, by have := bounds_u32 hb; simp only; omega, by have := bounds_u32 hd0; simp only; omega, by have := bounds_u32 hd1; simp only; omega, by have := bounds_u32 hd2; simp only; omega, by have := bounds_u32 hd3; simp only; omega, by have := bounds_u32 hd4; simp only; omega, by have := bounds_u32 hd5; simp only; omega, by have := bounds_u32 hd6; simp only; omega, by have := bounds_u32 hd7; simp only; omega, by have := bounds_u32 hd8; simp only; omega, by have := bounds_u32 hd9; simp only; omega, by have := bounds_u32 hs; simp only; omega, by have := bounds_u32 he; simp only; omega⟩⟩
end Go.Proofs.Ytgcbjeemkifonaa.Pe
