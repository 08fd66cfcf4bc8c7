/- For every number: as a size it has as many blocks, as an index the same group and the same way, by the program and by the reference. There are no conditions. -/
import Derived.Test.YtgibjggopignhaaPPlanSizesx2
import Derived.OpenShut
namespace Go.Proofs.Ytgibjggopignhaa.Pure
open Go.RowKit Go.Proofs.Ytgibjggopignhaa.PPlanSizes Go.Proofs.YtgibjggopignhaaW.PrintWords Go.Proofs.YtgibjggopignhaaW.PrintLast

theorem w64 {x : Int} (h0 : -9223372036854775808 ≤ x) (h1 : x ≤ 9223372036854775807) : wrap64 x = x := by unfold wrap64; omega
theorem blocks_same (a : Int) (h0 : -9223372036854775808 ≤ a) (h1 : a ≤ 9223372036854775807) : plan_Blocks.f a = undercroftref13_Blocks.f a ∧ ∃ r, plan_Blocks.f a = some r := by
  unfold plan_Blocks.f undercroftref13_Blocks.f
  by_cases h : a < 1
  · rw [if_pos h, if_pos h]; exact ⟨rfl, _, rfl⟩
  · rw [if_neg h, if_neg h]
    rw [w64 (x := a - 1) (by omega) (by omega), Int.tdiv_eq_ediv_of_nonneg (by omega), Int.tdiv_eq_ediv_of_nonneg (by omega), Int.tmod_eq_emod_of_nonneg (by omega)]
    rw [w64 (x := (a - 1) / 1024) (by omega) (by omega), w64 (x := a / 1024) (by omega) (by omega), w64 (x := (a - 1) / 1024 + 1) (by omega) (by omega), w64 (x := a / 1024 + 1) (by omega) (by omega)]
    refine ⟨?_, _, rfl⟩
    by_cases hm : a % 1024 = 0
    · rw [if_pos hm]; congr 1; omega
    · rw [if_neg hm]; congr 1; omega
theorem group_same (a : Int) : plan_Group.f a = undercroftref13_Group.f a ∧ ∃ r, plan_Group.f a = some r := by
  unfold plan_Group.f undercroftref13_Group.f
  refine ⟨rfl, ?_⟩
  split <;> exact ⟨_, rfl⟩
theorem way_same (a : Int) (h0 : -9223372036854775808 ≤ a) (h1 : a ≤ 9223372036854775807) : plan_Way.f 1 a = undercroftref13_Way.f 1 a ∧ ∃ r, plan_Way.f 1 a = some r := by
  unfold plan_Way.f undercroftref13_Way.f
  simp only [plan_Way.j0, undercroftref13_Way.j0]
  by_cases hn : a < 0
  · rw [if_pos hn, if_pos hn]; exact ⟨rfl, _, rfl⟩
  · rw [if_neg hn, if_neg hn]
    by_cases hb : a ≥ 65802
    · rw [decide_eq_true hb]; exact ⟨rfl, _, rfl⟩
    · rw [decide_eq_false hb, if_neg (show ¬ (false = true) by decide), if_neg (show ¬ (false = true) by decide)]
      by_cases h10 : a < 10
      · rw [if_pos h10, if_pos h10]; exact ⟨rfl, _, rfl⟩
      · rw [if_neg h10, if_neg h10, w64 (x := a - 10) (by omega) (by omega)]
        by_cases h266 : a < 266
        · rw [if_pos h266, if_pos (by omega)]; exact ⟨rfl, _, rfl⟩
        · rw [if_neg h266, if_neg (by omega)]; exact ⟨rfl, _, rfl⟩
theorem PlanSizes : undercroftlaw13_PlanSizes.Pure := by
  intro a hw
  have hb := bounds_i64 hw
  obtain ⟨e1, r1, q1⟩ := blocks_same a hb.1 hb.2
  obtain ⟨e2, r2, q2⟩ := group_same a
  obtain ⟨e3, r3, q3⟩ := way_same a hb.1 hb.2
  refine ⟨1, ?_⟩
  unfold undercroftlaw13_PlanSizes.f
  rw [← e1, ← e2, ← e3, q1, q2, q3]
  simp
end Go.Proofs.Ytgibjggopignhaa.Pure
