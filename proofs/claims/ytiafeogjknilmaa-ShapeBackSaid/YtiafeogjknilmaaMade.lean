/- The walk of the program's made: is a layout what Of tells of its geometry? -/
import Derived.Test.YtiafeogjknilmaaOf
import Derived.Test.YtiafeogjknilmaaFlat
set_option linter.unusedVariables false
namespace Go.Proofs.Ytiafeogjknilmaa.B
open Go.RowKit
theorem flat_Layout : flat Try.prog 10000 27 = some [.i64, .i64, .i64, .i64, .i64, .i64, .i64, .i64, .i64] := by kernel_rfl
theorem size_Layout : (Try.prog.info? 27).map (·.size) = some 9 := by kernel_rfl
theorem agg_Layout : isAggT Try.prog 27 = true := by kernel_rfl
theorem eqg_Layout : Try.prog.eqGuardType Try.prog.depth 27 = false := by kernel_rfl
theorem Of_yes (x0 x1 x2 x3 x4 x5 x6 x7 x8 : Int) (w : World) (h : mayBe x0 x1 x2) (he : layL x0 x1 x2 = [x0, x1, x2, x3, x4, x5, x6, x7, x8]) :
    Calls Try.prog 13 #[.agg #[.int .i64 x0, .int .i64 x1, .int .i64 x2]] w fun e w' => e = .returned (.tuple #[.agg #[.int .i64 x0, .int .i64 x1, .int .i64 x2, .int .i64 x3, .int .i64 x4, .int .i64 x5, .int .i64 x6, .int .i64 x7, .int .i64 x8], .int .i64 0]) ∧ Below w.heap.size w w' := by
  refine (Of x0 x1 x2 w).mono ?_
  rintro e w' ⟨rfl, hb⟩
  refine ⟨?_, hb⟩
  unfold ofR
  rw [if_pos h, he]; rfl
theorem Of_no (x0 x1 x2 : Int) (w : World) (h : ¬ mayBe x0 x1 x2) :
    Calls Try.prog 13 #[.agg #[.int .i64 x0, .int .i64 x1, .int .i64 x2]] w fun e w' => e = .returned (.tuple #[.agg #[.int .i64 0, .int .i64 0, .int .i64 0, .int .i64 0, .int .i64 0, .int .i64 0, .int .i64 0, .int .i64 0, .int .i64 0], .int .i64 2]) ∧ Below w.heap.size w w' := by
  refine (Of x0 x1 x2 w).mono ?_
  rintro e w' ⟨rfl, hb⟩
  refine ⟨?_, hb⟩
  unfold ofR
  rw [if_neg h]; rfl
set_option maxHeartbeats 4000000 in
theorem made_yes (x0 x1 x2 x3 x4 x5 x6 x7 x8 : Int) (w : World) (h : mayBe x0 x1 x2) (he : layL x0 x1 x2 = [x0, x1, x2, x3, x4, x5, x6, x7, x8]) :
    Calls Try.prog 22 #[.agg #[.int .i64 x0, .int .i64 x1, .int .i64 x2, .int .i64 x3, .int .i64 x4, .int .i64 x5, .int .i64 x6, .int .i64 x7, .int .i64 x8]] w fun e w' => e = .returned (.bool true) ∧ Below w.heap.size w w' := by
  have HO := fun W => Sd.mk (Of_yes x0 x1 x2 x3 x4 x5 x6 x7 x8 W h he)
  clear h he
  go_enter Try.func22, Try.ntmps22
  go_wp2_with (first | (go_at_call 13; refine (HO _).out.mono ?_; rintro e w' ⟨rfl, hd⟩; have HB := Sd.mk (bthen (b1 w _) (by simp) hd); have HC := Sd.mk (bblk (heap_alloc_new w (.cells #[.int .i64 x0, .int .i64 x1, .int .i64 x2, .int .i64 x3, .int .i64 x4, .int .i64 x5, .int .i64 x6, .int .i64 x7, .int .i64 x8] 27)) hd); clear hd) | (((with_reducible refine gload 27 rfl ?_ ?_); exact rfl); refine ld_row 27 rfl rfl size_Layout agg_Layout rfl (by first | exact HC.out | exact blk_alloc HC.out | exact heap_alloc_new _ _) rfl ?_; simp only [Act.put, List.setIfInBounds_toArray, List.set_cons_zero, List.set_cons_succ]) | (((with_reducible refine gbin .eql 27 rfl ?_ ?_); exact rfl); refine eql_flat 27 rfl rfl ([x0, x1, x2, x3, x4, x5, x6, x7, x8]) ([x0, x1, x2, x3, x4, x5, x6, x7, x8]) flat_Layout agg_Layout eqg_Layout rfl rfl rfl rfl (beq_self_eq_true _) ?_; simp only [Act.put, List.setIfInBounds_toArray, List.set_cons_zero, List.set_cons_succ]))
  go_ret
  exact ⟨rfl, by first | exact HB.out | exact ball HB.out _⟩
set_option maxHeartbeats 4000000 in
theorem made_no (x0 x1 x2 x3 x4 x5 x6 x7 x8 : Int) (w : World) (h : ¬ (mayBe x0 x1 x2 ∧ layL x0 x1 x2 = [x0, x1, x2, x3, x4, x5, x6, x7, x8])) :
    Calls Try.prog 22 #[.agg #[.int .i64 x0, .int .i64 x1, .int .i64 x2, .int .i64 x3, .int .i64 x4, .int .i64 x5, .int .i64 x6, .int .i64 x7, .int .i64 x8]] w fun e w' => e = .returned (.bool false) ∧ Below w.heap.size w w' := by
  by_cases hm : mayBe x0 x1 x2
  · obtain ⟨y3, y4, y5, y6, y7, y8, hy⟩ : ∃ y3 y4 y5 y6 y7 y8, layL x0 x1 x2 = [x0, x1, x2, y3, y4, y5, y6, y7, y8] := ⟨_, _, _, _, _, _, rfl⟩
    have HO := fun W => Sd.mk (Of_yes x0 x1 x2 y3 y4 y5 y6 y7 y8 W hm hy)
    have HE : Sd (([x0, x1, x2, y3, y4, y5, y6, y7, y8] == [x0, x1, x2, x3, x4, x5, x6, x7, x8]) = false) := ⟨by
      cases hq : ([x0, x1, x2, y3, y4, y5, y6, y7, y8] == [x0, x1, x2, x3, x4, x5, x6, x7, x8]) with
      | false => rfl
      | true => exact absurd ⟨hm, by rw [hy]; exact eq_of_beq hq⟩ h⟩
    clear h hm hy
    go_enter Try.func22, Try.ntmps22
    go_wp2_with (first | (go_at_call 13; refine (HO _).out.mono ?_; rintro e w' ⟨rfl, hd⟩; have HB := Sd.mk (bthen (b1 w _) (by simp) hd); have HC := Sd.mk (bblk (heap_alloc_new w (.cells #[.int .i64 x0, .int .i64 x1, .int .i64 x2, .int .i64 x3, .int .i64 x4, .int .i64 x5, .int .i64 x6, .int .i64 x7, .int .i64 x8] 27)) hd); clear hd) | (((with_reducible refine gload 27 rfl ?_ ?_); exact rfl); refine ld_row 27 rfl rfl size_Layout agg_Layout rfl (by first | exact HC.out | exact blk_alloc HC.out | exact heap_alloc_new _ _) rfl ?_; simp only [Act.put, List.setIfInBounds_toArray, List.set_cons_zero, List.set_cons_succ]) | (((with_reducible refine gbin .eql 27 rfl ?_ ?_); exact rfl); refine eql_flat 27 rfl rfl ([x0, x1, x2, y3, y4, y5, y6, y7, y8]) ([x0, x1, x2, x3, x4, x5, x6, x7, x8]) flat_Layout agg_Layout eqg_Layout rfl rfl rfl rfl (HE.out) ?_; simp only [Act.put, List.setIfInBounds_toArray, List.set_cons_zero, List.set_cons_succ]))
    go_ret
    exact ⟨rfl, by first | exact HB.out | exact ball HB.out _⟩

  · have HO := fun W => Sd.mk (Of_no x0 x1 x2 W hm)
    clear h hm
    go_enter Try.func22, Try.ntmps22
    go_wp2_with (first | (go_at_call 13; refine (HO _).out.mono ?_; rintro e w' ⟨rfl, hd⟩; have HB := Sd.mk (bthen (b1 w _) (by simp) hd); have HC := Sd.mk (bblk (heap_alloc_new w (.cells #[.int .i64 x0, .int .i64 x1, .int .i64 x2, .int .i64 x3, .int .i64 x4, .int .i64 x5, .int .i64 x6, .int .i64 x7, .int .i64 x8] 27)) hd); clear hd) | (((with_reducible refine gload 27 rfl ?_ ?_); exact rfl); refine ld_row 27 rfl rfl size_Layout agg_Layout rfl (by first | exact HC.out | exact blk_alloc HC.out | exact heap_alloc_new _ _) rfl ?_; simp only [Act.put, List.setIfInBounds_toArray, List.set_cons_zero, List.set_cons_succ]) | (((with_reducible refine gbin .eql 27 rfl ?_ ?_); exact rfl); refine eql_flat 27 rfl rfl ([x0, x1, x2, x3, x4, x5, x6, x7, x8]) ([x0, x1, x2, x3, x4, x5, x6, x7, x8]) flat_Layout agg_Layout eqg_Layout rfl rfl rfl rfl (rfl) ?_; simp only [Act.put, List.setIfInBounds_toArray, List.set_cons_zero, List.set_cons_succ]))
    go_ret
    exact ⟨rfl, by first | exact HB.out | exact ball HB.out _⟩

end Go.Proofs.Ytiafeogjknilmaa.B
