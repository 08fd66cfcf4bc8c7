/- A table of descriptors: a new one. -/
import Derived.Test.YtgfeohklkinccaaFdWr
import Derived.Test.YtgfeohklkinccaaSlbPick
set_option linter.unusedVariables false
namespace Go.Proofs.Ytgfeohklkinccaa.Pe
set_option maxRecDepth 10000
set_option maxHeartbeats 4000000
theorem vbox {call : CallF} {f : FuncId} {args : List V} {H : Heap} {m : Nat} {cs : List C} (h : pF call f args (freeze H) fun u H' => u = .c (.p (freeze H).length 0) ∧ H' = appL (freeze H) [.var true m cs]) : Vc call f args H (.c (.p H.length 0), appL H [.var true m cs]) := by
  obtain ⟨u, H', e1, rfl, rfl⟩ := h
  refine ⟨?_⟩
  unfold vcall
  rw [e1]
  have hl : (freeze H).length = H.length := freeze_len
  have hfil : (V.c (C.p ((freeze H).length) 0)).refsQ.filter (fun id => Nat.ble H.length id) = [H.length] := by
    rw [V.refsQ_eq]
    have : Nat.ble H.length H.length = true := by rw [ble_eq]; simp
    simp only [V.refs, C.ref, Option.toList, hl, List.filter_cons, this, if_true, List.filter_nil]
  have hd : dropL (appL (freeze H) [.var true m cs]) H.length = [.var true m cs] := by
    rw [← hl]; exact dropL_app0 _ _
  show some (gc H (V.c (C.p ((freeze H).length) 0)) (dropL (appL (freeze H) [.var true m cs]) H.length)) = _
  rw [hd]
  unfold gc
  have hg : getL ([.var true m cs] : Heap) (H.length - H.length) = some (.var true m cs) := by rw [Nat.sub_self]; rfl
  rw [hl] at hfil ⊢
  simp only [hfil, hg]
theorem new_v {K d : Nat} (H : Heap) (m : Int) : Vc (evW T F K W (d + 1)) 11 [.c (.i .i64 m)] H (.c (.p H.length 0), appL H [tabB true (max m 0) 0 .ns]) := by
  refine vbox ?_
  generalize freeze H = H
  refine pW_fn rfl rfl rfl rfl rfl ?_
  (repeat' (first | with_reducible refine pS_nil ?_ | ((with_reducible refine c_guard ?_); refine pS_no rfl rfl ?_) | ((with_reducible refine c_move ?_); refine pS_op rfl rfl rfl ?_) | ((with_reducible refine c_assign ?_); refine pS_op rfl rfl rfl ?_) | ((with_reducible refine c_bin ?_); first | refine pS_op rfl (o_eqb rfl rfl rfl rfl) rfl ?_ | refine pS_op rfl (o_neb rfl rfl rfl rfl) rfl ?_ | refine pS_op rfl (o_add rfl rfl rfl (by omega) (by omega)) rfl ?_ | refine pS_op rfl (o_addK rfl rfl rfl (by omega) (by simp only [maxN]; omega)) rfl ?_ | refine pS_op rfl (o_mulK rfl rfl rfl (by omega) (by simp only [maxN]; omega)) rfl ?_ | refine pS_op rfl (o_sub rfl rfl rfl (by omega) (by omega)) rfl ?_ | refine pS_op rfl (o_mul rfl rfl rfl (by omega) (by omega)) rfl ?_ | refine pS_op rfl (o_quo rfl rfl rfl (by omega) (by omega) (by omega)) rfl ?_ | refine pS_op rfl (o_quoK rfl rfl rfl (by omega) (by simp only [maxN]; omega) (by omega)) rfl ?_ | refine pS_op rfl (o_rem rfl rfl rfl (by omega) (by omega)) rfl ?_ | ((first | refine pS_lss rfl rfl rfl rfl rfl rfl ?_ ?_ | refine pS_leq rfl rfl rfl rfl rfl rfl ?_ ?_ | refine pS_gtr rfl rfl rfl rfl rfl rfl ?_ ?_ | refine pS_geq rfl rfl rfl rfl rfl rfl ?_ ?_ | refine pS_eql rfl rfl rfl rfl rfl rfl ?_ ?_ | refine pS_neq rfl rfl rfl rfl rfl rfl ?_ ?_) <;> intro h_ <;> first | (exfalso; omega) | skip) | (refine pS_eqs rfl rfl rfl rfl rfl rfl ?_ ?_ <;> intro h_) | (refine pS_nes rfl rfl rfl rfl rfl rfl ?_ ?_ <;> intro h_)) | ((with_reducible refine c_ix ?_); refine pS_op rfl rfl rfl ?_) | ((with_reducible refine c_load ?_); first | refine pS_op rfl (o_ldw rfl rfl rfl rfl (getL_own rfl) rfl) rfl ?_ | refine pS_op rfl (a_ldvB rfl rfl rfl rfl (getL_own rfl)) rfl ?_ | refine pS_op rfl (o_ld1 rfl rfl rfl rfl (getL_own rfl) rfl rfl) rfl ?_) | ((with_reducible refine c_store ?_); first | refine pS_op rfl (a_stB rfl rfl rfl rfl rfl (getL_own rfl) (setL_own rfl)) rfl ?_ | refine pS_op rfl (o_stw rfl rfl rfl rfl rfl (getL_own rfl) rfl (setL_own rfl)) rfl ?_) | ((with_reducible refine c_ixa ?_); first | refine pS_op rfl (o_ixa1 rfl rfl rfl rfl rfl rfl (by omega) (by omega)) rfl ?_ | refine pS_op rfl rfl rfl ?_) | ((with_reducible refine c_alloc ?_); first | refine pS_op rfl (a_allocB rfl rfl) rfl ?_ | refine pS_op rfl (a_alloc rfl rfl) rfl ?_) | ((with_reducible refine c_box ?_); refine pS_op rfl (a_box rfl rfl rfl) rfl ?_) | ((with_reducible refine c_extract ?_); refine pS_op rfl rfl rfl ?_) | ((with_reducible refine c_blt ?_); first | refine pS_op rfl (o_max rfl rfl) rfl ?_ | refine pS_op rfl (o_min rfl rfl) rfl ?_ | refine pS_op rfl rfl rfl ?_) | refine pC_seq ?_ | (refine pC_reg ?_) | refine pC_T rfl ?_ | refine pC_F rfl ?_ | ((fail_if_success (refine pC_isloop ?_)); refine pC_block ?_) | refine pC_skip ?_ | refine pC_exit ?_ | refine pC_ret ⟨(fun _ e => nomatch e), _, rfl, ?_⟩ | refine pC_ret ⟨(fun _ e => nomatch e), _, res_of rfl (resVs_cell rfl rfl rfl (getL_own rfl) rfl rfl resVs_nil) rfl, ?_⟩ | refine pC_ret ⟨(fun _ e => nomatch e), _, res_of rfl (resVs_cell rfl rfl rfl (getL_own rfl) rfl rfl (resVs_tmp rfl resVs_nil)) rfl, ?_⟩ | refine pC_ret ⟨(fun _ e => nomatch e), _, res_of rfl (resVs_cell rfl rfl rfl (getL_own rfl) rfl rfl (resVs_cell rfl rfl rfl (getL_own rfl) rfl rfl resVs_nil)) rfl, ?_⟩ | first | (refine pS_op (o := ⟨_, .unOp _ _ _, _, _, _, _⟩) rfl (o_neg rfl rfl (by omega) (by omega)) rfl ?_) | (refine pS_op (o := ⟨_, .build _ _, _, _, _, _⟩) rfl (o_bldZ rfl rfl rfl (by first | exact bytesC_zero _ | rfl)) rfl ?_) | (refine pS_op (o := ⟨_, .unOp _ _ _, _, _, _, _⟩) rfl rfl rfl ?_) | (refine pS_op (o := ⟨_, .buildSlice _ _ _, _, _, _, _⟩) rfl rfl rfl ?_) | (refine pS_op (o := ⟨_, .convert _ _ _, _, _, _, _⟩) rfl rfl rfl ?_) | (refine pS_op (o := ⟨_, .build _ _, _, _, _, _⟩) rfl rfl rfl ?_) | (refine pS_op (o := ⟨_, .field _ _ _, _, _, _, _⟩) rfl rfl rfl ?_) | (refine pS_op (o := ⟨_, .fieldAddr _ _ _, _, _, _, _⟩) rfl rfl rfl ?_) | (refine pS_op (o := ⟨_, .slice _ _ _ _ _, _, _, _, _⟩) rfl rfl rfl ?_) | (refine pS_op (o := ⟨_, .pick _ _ _, _, _, _, _⟩) rfl rfl rfl ?_) | (refine pS_op (o := ⟨_, .sliceToArrayPointer _ _, _, _, _, _⟩) rfl rfl rfl ?_) | (refine pS_op (o := ⟨_, .nilCheck _, _, _, _, _⟩) rfl rfl rfl ?_) | (refine pS_op (o := ⟨_, .makeFunc _ _ _, _, _, _, _⟩) rfl rfl rfl ?_)))
  exact ⟨rfl, rfl⟩
end Go.Proofs.Ytgfeohklkinccaa.Pe
