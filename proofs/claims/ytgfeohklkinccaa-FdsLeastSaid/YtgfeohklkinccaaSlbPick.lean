/- Pick: what it hands back. -/
import Derived.Test.YtgfeohklkinccaaNums
set_option linter.unusedVariables false
namespace Go.Proofs.Ytgfeohklkinccaa.Pe
set_option maxRecDepth 10000
set_option maxHeartbeats 4000000
theorem pick_v {K d : Nat} (H : Heap) (i n : Int) (hi : lo64 i) (hn : 0 < n ∧ n ≤ 4611686018427387904) : Vc (evW T F K W (d + 1)) 12 [.c (.i .i64 i), .c (.i .i64 n)] H (.c (.i .i64 (i % n)), H) := by
  obtain ⟨i1, i2⟩ := hi
  obtain ⟨n1, n2⟩ := hn
  have h0 := Int.emod_nonneg i (show n ≠ 0 by omega)
  have h1 := Int.emod_lt_of_pos i n1
  have ht : i.tmod n = if 0 ≤ i then i % n else if i % n = 0 then 0 else i % n - n := by
    rw [Int.tmod_eq_emod]
    split
    · rename_i h
      rcases h with h | h
      · rw [if_pos h]; simp
      · have h3 : i % n = 0 := Int.emod_eq_zero_of_dvd h
        rw [h3]; simp
    · rename_i h
      have h2 : ¬ 0 ≤ i := fun e => h (.inl e)
      have h3 : i % n ≠ 0 := fun e => h (.inr (Int.dvd_of_emod_eq_zero e))
      rw [if_neg h2, if_neg h3]
      have : (n.natAbs : Int) = n := by omega
      rw [this]
  refine vfree ?_ rfl
  refine pW_fn rfl rfl rfl rfl rfl ?_
  (repeat' (first | with_reducible refine pS_nil ?_ | ((with_reducible refine c_guard ?_); refine pS_no rfl rfl ?_) | ((with_reducible refine c_move ?_); refine pS_op rfl rfl rfl ?_) | ((with_reducible refine c_assign ?_); refine pS_op rfl rfl rfl ?_) | ((with_reducible refine c_bin ?_); first | refine pS_op rfl (o_remS rfl rfl rfl (by omega)) rfl ?_ | refine pS_op rfl (o_eqb rfl rfl rfl rfl) rfl ?_ | refine pS_op rfl (o_neb rfl rfl rfl rfl) rfl ?_ | refine pS_op rfl (o_add rfl rfl rfl (by omega) (by omega)) rfl ?_ | refine pS_op rfl (o_addK rfl rfl rfl (by omega) (by simp only [maxN]; omega)) rfl ?_ | refine pS_op rfl (o_mulK rfl rfl rfl (by omega) (by simp only [maxN]; omega)) rfl ?_ | refine pS_op rfl (o_sub rfl rfl rfl (by omega) (by omega)) rfl ?_ | refine pS_op rfl (o_mul rfl rfl rfl (by omega) (by omega)) rfl ?_ | refine pS_op rfl (o_quo rfl rfl rfl (by omega) (by omega) (by omega)) rfl ?_ | refine pS_op rfl (o_quoK rfl rfl rfl (by omega) (by simp only [maxN]; omega) (by omega)) rfl ?_ | refine pS_op rfl (o_rem rfl rfl rfl (by omega) (by omega)) rfl ?_ | ((first | refine pS_lss rfl rfl rfl rfl rfl rfl ?_ ?_ | refine pS_leq rfl rfl rfl rfl rfl rfl ?_ ?_ | refine pS_gtr rfl rfl rfl rfl rfl rfl ?_ ?_ | refine pS_geq rfl rfl rfl rfl rfl rfl ?_ ?_ | refine pS_eql rfl rfl rfl rfl rfl rfl ?_ ?_ | refine pS_neq rfl rfl rfl rfl rfl rfl ?_ ?_) <;> intro h_ <;> first | (exfalso; omega) | skip) | (refine pS_eqs rfl rfl rfl rfl rfl rfl ?_ ?_ <;> intro h_) | (refine pS_nes rfl rfl rfl rfl rfl rfl ?_ ?_ <;> intro h_)) | ((with_reducible refine c_ix ?_); refine pS_op rfl rfl rfl ?_) | ((with_reducible refine c_load ?_); first | refine pS_op rfl (o_ldw rfl rfl rfl rfl (getL_own rfl) rfl) rfl ?_ | refine pS_op rfl (a_ldvB rfl rfl rfl rfl (getL_own rfl)) rfl ?_ | refine pS_op rfl (o_ld1 rfl rfl rfl rfl (getL_own rfl) rfl rfl) rfl ?_) | ((with_reducible refine c_store ?_); first | refine pS_op rfl (a_stB rfl rfl rfl rfl rfl (getL_own rfl) (setL_own rfl)) rfl ?_ | refine pS_op rfl (o_stw rfl rfl rfl rfl rfl (getL_own rfl) rfl (setL_own rfl)) rfl ?_) | ((with_reducible refine c_ixa ?_); first | refine pS_op rfl (o_ixa1 rfl rfl rfl rfl rfl rfl (by omega) (by omega)) rfl ?_ | refine pS_op rfl rfl rfl ?_) | ((with_reducible refine c_alloc ?_); first | refine pS_op rfl (a_allocB rfl rfl) rfl ?_ | refine pS_op rfl (a_alloc rfl rfl) rfl ?_) | ((with_reducible refine c_box ?_); refine pS_op rfl (a_box rfl rfl rfl) rfl ?_) | ((with_reducible refine c_extract ?_); refine pS_op rfl rfl rfl ?_) | ((with_reducible refine c_blt ?_); first | refine pS_op rfl (o_max rfl rfl) rfl ?_ | refine pS_op rfl (o_min rfl rfl) rfl ?_ | refine pS_op rfl rfl rfl ?_) | refine pC_seq ?_ | (refine pC_reg ?_) | refine pC_T rfl ?_ | refine pC_F rfl ?_ | ((fail_if_success (refine pC_isloop ?_)); refine pC_block ?_) | refine pC_skip ?_ | refine pC_exit ?_ | refine pC_ret ⟨(fun _ e => nomatch e), _, rfl, ?_⟩ | refine pC_ret ⟨(fun _ e => nomatch e), _, res_of rfl (resVs_cell rfl rfl rfl (getL_own rfl) rfl rfl resVs_nil) rfl, ?_⟩ | refine pC_ret ⟨(fun _ e => nomatch e), _, res_of rfl (resVs_cell rfl rfl rfl (getL_own rfl) rfl rfl (resVs_tmp rfl resVs_nil)) rfl, ?_⟩ | refine pC_ret ⟨(fun _ e => nomatch e), _, res_of rfl (resVs_cell rfl rfl rfl (getL_own rfl) rfl rfl (resVs_cell rfl rfl rfl (getL_own rfl) rfl rfl resVs_nil)) rfl, ?_⟩ | first | (refine pS_op (o := ⟨_, .unOp _ _ _, _, _, _, _⟩) rfl (o_neg rfl rfl (by omega) (by omega)) rfl ?_) | (refine pS_op (o := ⟨_, .build _ _, _, _, _, _⟩) rfl (o_bldZ rfl rfl rfl (by first | exact bytesC_zero _ | rfl)) rfl ?_) | (refine pS_op (o := ⟨_, .unOp _ _ _, _, _, _, _⟩) rfl rfl rfl ?_) | (refine pS_op (o := ⟨_, .buildSlice _ _ _, _, _, _, _⟩) rfl rfl rfl ?_) | (refine pS_op (o := ⟨_, .convert _ _ _, _, _, _, _⟩) rfl rfl rfl ?_) | (refine pS_op (o := ⟨_, .build _ _, _, _, _, _⟩) rfl rfl rfl ?_) | (refine pS_op (o := ⟨_, .field _ _ _, _, _, _, _⟩) rfl rfl rfl ?_) | (refine pS_op (o := ⟨_, .fieldAddr _ _ _, _, _, _, _⟩) rfl rfl rfl ?_) | (refine pS_op (o := ⟨_, .slice _ _ _ _ _, _, _, _, _⟩) rfl rfl rfl ?_) | (refine pS_op (o := ⟨_, .pick _ _ _, _, _, _, _⟩) rfl rfl rfl ?_) | (refine pS_op (o := ⟨_, .sliceToArrayPointer _ _, _, _, _, _⟩) rfl rfl rfl ?_) | (refine pS_op (o := ⟨_, .nilCheck _, _, _, _, _⟩) rfl rfl rfl ?_) | (refine pS_op (o := ⟨_, .makeFunc _ _ _, _, _, _, _⟩) rfl rfl rfl ?_)))
  all_goals exact ⟨c_i (by split at ht <;> (try split at ht) <;> omega), _, rfl⟩
end Go.Proofs.Ytgfeohklkinccaa.Pe
