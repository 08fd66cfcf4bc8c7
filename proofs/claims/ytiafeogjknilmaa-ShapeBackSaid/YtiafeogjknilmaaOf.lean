/- The walk of the program's Of. -/
import Derived.Test.YtiafeogjknilmaaProg
import Derived.Test.YtiafeogjknilmaaOfP
import Derived.Outline
set_option linter.unusedVariables false
namespace Go.Proofs.Ytiafeogjknilmaa.B
open Go.RowKit
set_option maxHeartbeats 4000000 in
theorem Of (b l i : Int) (w : World) :
    Calls Try.prog 13 #[.agg #[.int .i64 b, .int .i64 l, .int .i64 i]] w fun e w' => e = .returned (ofR b l i) ∧ Below w.heap.size w w' := by
  by_cases t1 : l < 32
  · have hr : ofR b l i = .tuple #[.agg (intsV zeros9), .int .i64 2] := by unfold ofR; rw [if_neg (by unfold mayBe; omega)]
    rw [hr]
    go_enter Try.func13, Try.ntmps13
    go_wp2
    refine bodyPost_ret (v := .tuple #[.agg (intsV zeros9), .int .i64 2]) (by simp [results, Try.results13, go_sem, intsV, zeros9]) rfl ⟨rfl, ?_⟩
    first | exact b1 w _ | exact b2 w _ _ | exact b3 w _ _ _
  by_cases t2 : 256 < l
  · have hr : ofR b l i = .tuple #[.agg (intsV zeros9), .int .i64 2] := by unfold ofR; rw [if_neg (by unfold mayBe; omega)]
    rw [hr]
    go_enter Try.func13, Try.ntmps13
    go_wp2
    refine bodyPost_ret (v := .tuple #[.agg (intsV zeros9), .int .i64 2]) (by simp [results, Try.results13, go_sem, intsV, zeros9]) rfl ⟨rfl, ?_⟩
    first | exact b1 w _ | exact b2 w _ _ | exact b3 w _ _ _
  by_cases t3 : i < 1
  · have hr : ofR b l i = .tuple #[.agg (intsV zeros9), .int .i64 2] := by unfold ofR; rw [if_neg (by unfold mayBe; omega)]
    rw [hr]
    go_enter Try.func13, Try.ntmps13
    go_wp2
    refine bodyPost_ret (v := .tuple #[.agg (intsV zeros9), .int .i64 2]) (by simp [results, Try.results13, go_sem, intsV, zeros9]) rfl ⟨rfl, ?_⟩
    first | exact b1 w _ | exact b2 w _ _ | exact b3 w _ _ _
  by_cases t4 : 65535 < i
  · have hr : ofR b l i = .tuple #[.agg (intsV zeros9), .int .i64 2] := by unfold ofR; rw [if_neg (by unfold mayBe; omega)]
    rw [hr]
    go_enter Try.func13, Try.ntmps13
    go_wp2
    refine bodyPost_ret (v := .tuple #[.agg (intsV zeros9), .int .i64 2]) (by simp [results, Try.results13, go_sem, intsV, zeros9]) rfl ⟨rfl, ?_⟩
    first | exact b1 w _ | exact b2 w _ _ | exact b3 w _ _ _
  by_cases t5 : b < 1
  · have hr : ofR b l i = .tuple #[.agg (intsV zeros9), .int .i64 2] := by unfold ofR; rw [if_neg (by unfold mayBe; omega)]
    rw [hr]
    go_enter Try.func13, Try.ntmps13
    go_wp2
    refine bodyPost_ret (v := .tuple #[.agg (intsV zeros9), .int .i64 2]) (by simp [results, Try.results13, go_sem, intsV, zeros9]) rfl ⟨rfl, ?_⟩
    first | exact b1 w _ | exact b2 w _ _ | exact b3 w _ _ _
  by_cases t6 : 1048576 < b
  · have hr : ofR b l i = .tuple #[.agg (intsV zeros9), .int .i64 2] := by unfold ofR; rw [if_neg (by unfold mayBe; omega)]
    rw [hr]
    go_enter Try.func13, Try.ntmps13
    go_wp2
    refine bodyPost_ret (v := .tuple #[.agg (intsV zeros9), .int .i64 2]) (by simp [results, Try.results13, go_sem, intsV, zeros9]) rfl ⟨rfl, ?_⟩
    first | exact b1 w _ | exact b2 w _ _ | exact b3 w _ _ _
  by_cases t7 : 1 + l + (i + 16) / 16 + (b + 8191) / 8192 < b
  · have hr : ofR b l i = .tuple #[.agg (intsV (layL b l i)), .int .i64 0] := by unfold ofR; rw [if_pos (by unfold mayBe dataAtN; omega)]
    rw [hr]
    have e1 : (b + 8192 - 1) / 8192 = (b + 8191) / 8192 := by omega
    go_enter Try.func13, Try.ntmps13
    go_wp2
    refine bodyPost_ret (v := .tuple #[.agg (intsV (layL b l i)), .int .i64 0]) (by simp [results, Try.results13, go_sem, intsV, layL, dataAtN, e1]) rfl ⟨rfl, ?_⟩
    exact b3 w _ _ _
  · have hr : ofR b l i = .tuple #[.agg (intsV zeros9), .int .i64 2] := by unfold ofR; rw [if_neg (by unfold mayBe dataAtN; omega)]
    rw [hr]
    have e1 : (b + 8192 - 1) / 8192 = (b + 8191) / 8192 := by omega
    have t8 : ¬ 1 + l + (i + 16) / 16 + (b + 8192 - 1) / 8192 < b := by omega
    go_enter Try.func13, Try.ntmps13
    go_wp2
    refine bodyPost_ret (v := .tuple #[.agg (intsV zeros9), .int .i64 2]) (by simp [results, Try.results13, go_sem, intsV, zeros9]) rfl ⟨rfl, ?_⟩
    exact b3 w _ _ _
end Go.Proofs.Ytiafeogjknilmaa.B
