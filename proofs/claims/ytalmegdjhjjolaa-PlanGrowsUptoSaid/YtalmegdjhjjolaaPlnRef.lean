/- The document's answer for what indices cost: what it hands back. -/
import Derived.Test.YtalmegdjhjjolaaPlnTot2
set_option linter.unusedVariables false
namespace Go.Proofs.Ytalmegdjhjjolaa.Pe
set_option maxRecDepth 10000
set_option maxHeartbeats 4000000
theorem rway_v {K d : Nat} (H : Heap) (i : Int) (hi : lo64 i) : Vc (evW T F K W (d + 1)) 18 [.c (.i .i64 i)] H (wayV i, H) := by
  refine vfree ?_ (way_free i)
  obtain ⟨h1, h2⟩ := hi
  refine pW_fn rfl rfl rfl rfl rfl ?_
  (repeat' (first | with_reducible refine pS_nil ?_ | ((with_reducible refine c_guard ?_); refine pS_no rfl rfl ?_) | ((with_reducible refine c_move ?_); refine pS_op rfl rfl rfl ?_) | ((with_reducible refine c_assign ?_); refine pS_op rfl rfl rfl ?_) | ((with_reducible refine c_bin ?_); first | refine pS_op rfl (o_eqb rfl rfl rfl rfl) rfl ?_ | refine pS_op rfl (o_neb rfl rfl rfl rfl) rfl ?_ | refine pS_op rfl (o_add rfl rfl rfl (by omega) (by omega)) rfl ?_ | refine pS_op rfl (o_addK rfl rfl rfl (by omega) (by simp only [maxN]; omega)) rfl ?_ | refine pS_op rfl (o_mulK rfl rfl rfl (by omega) (by simp only [maxN]; omega)) rfl ?_ | refine pS_op rfl (o_sub rfl rfl rfl (by omega) (by omega)) rfl ?_ | refine pS_op rfl (o_mul rfl rfl rfl (by omega) (by omega)) rfl ?_ | refine pS_op rfl (o_quo rfl rfl rfl (by omega) (by omega) (by omega)) rfl ?_ | refine pS_op rfl (o_quoK rfl rfl rfl (by omega) (by simp only [maxN]; omega) (by omega)) rfl ?_ | refine pS_op rfl (o_rem rfl rfl rfl (by omega) (by omega)) rfl ?_ | ((first | refine pS_lss rfl rfl rfl rfl rfl rfl ?_ ?_ | refine pS_leq rfl rfl rfl rfl rfl rfl ?_ ?_ | refine pS_gtr rfl rfl rfl rfl rfl rfl ?_ ?_ | refine pS_geq rfl rfl rfl rfl rfl rfl ?_ ?_ | refine pS_eql rfl rfl rfl rfl rfl rfl ?_ ?_ | refine pS_neq rfl rfl rfl rfl rfl rfl ?_ ?_) <;> intro h_ <;> first | (exfalso; omega) | skip) | (refine pS_eqs rfl rfl rfl rfl rfl rfl ?_ ?_ <;> intro h_) | (refine pS_nes rfl rfl rfl rfl rfl rfl ?_ ?_ <;> intro h_)) | ((with_reducible refine c_ix ?_); refine pS_op rfl rfl rfl ?_) | ((with_reducible refine c_load ?_); first | refine pS_op rfl (o_ldw rfl rfl rfl rfl (getL_own rfl) rfl) rfl ?_ | refine pS_op rfl (a_ldvB rfl rfl rfl rfl (getL_own rfl)) rfl ?_ | refine pS_op rfl (o_ld1 rfl rfl rfl rfl (getL_own rfl) rfl rfl) rfl ?_) | ((with_reducible refine c_store ?_); first | refine pS_op rfl (a_stB rfl rfl rfl rfl rfl (getL_own rfl) (setL_own rfl)) rfl ?_ | refine pS_op rfl (o_stw rfl rfl rfl rfl rfl (getL_own rfl) rfl (setL_own rfl)) rfl ?_) | ((with_reducible refine c_ixa ?_); first | refine pS_op rfl (o_ixa1 rfl rfl rfl rfl rfl rfl (by omega) (by omega)) rfl ?_ | refine pS_op rfl rfl rfl ?_) | ((with_reducible refine c_alloc ?_); first | refine pS_op rfl (a_allocB rfl rfl) rfl ?_ | refine pS_op rfl (a_alloc rfl rfl) rfl ?_) | ((with_reducible refine c_box ?_); refine pS_op rfl (a_box rfl rfl rfl) rfl ?_) | ((with_reducible refine c_extract ?_); refine pS_op rfl rfl rfl ?_) | ((with_reducible refine c_blt ?_); first | refine pS_op rfl (o_max rfl rfl) rfl ?_ | refine pS_op rfl (o_min rfl rfl) rfl ?_ | refine pS_op rfl rfl rfl ?_) | refine pC_seq ?_ | (refine pC_reg ?_) | refine pC_T rfl ?_ | refine pC_F rfl ?_ | ((fail_if_success (refine pC_isloop ?_)); refine pC_block ?_) | refine pC_skip ?_ | refine pC_exit ?_ | refine pC_ret ⟨(fun _ e => nomatch e), _, rfl, ?_⟩ | refine pC_ret ⟨(fun _ e => nomatch e), _, res_of rfl (resVs_cell rfl rfl rfl (getL_own rfl) rfl rfl resVs_nil) rfl, ?_⟩ | refine pC_ret ⟨(fun _ e => nomatch e), _, res_of rfl (resVs_cell rfl rfl rfl (getL_own rfl) rfl rfl (resVs_tmp rfl resVs_nil)) rfl, ?_⟩ | refine pC_ret ⟨(fun _ e => nomatch e), _, res_of rfl (resVs_cell rfl rfl rfl (getL_own rfl) rfl rfl (resVs_cell rfl rfl rfl (getL_own rfl) rfl rfl resVs_nil)) rfl, ?_⟩ | first | (refine pS_op (o := ⟨_, .unOp _ _ _, _, _, _, _⟩) rfl (o_neg rfl rfl (by omega) (by omega)) rfl ?_) | (refine pS_op (o := ⟨_, .build _ _, _, _, _, _⟩) rfl (o_bldZ rfl rfl rfl (by first | exact bytesC_zero _ | rfl)) rfl ?_) | (refine pS_op (o := ⟨_, .unOp _ _ _, _, _, _, _⟩) rfl rfl rfl ?_) | (refine pS_op (o := ⟨_, .buildSlice _ _ _, _, _, _, _⟩) rfl rfl rfl ?_) | (refine pS_op (o := ⟨_, .convert _ _ _, _, _, _, _⟩) rfl rfl rfl ?_) | (refine pS_op (o := ⟨_, .build _ _, _, _, _, _⟩) rfl rfl rfl ?_) | (refine pS_op (o := ⟨_, .field _ _ _, _, _, _, _⟩) rfl rfl rfl ?_) | (refine pS_op (o := ⟨_, .fieldAddr _ _ _, _, _, _, _⟩) rfl rfl rfl ?_) | (refine pS_op (o := ⟨_, .slice _ _ _ _ _, _, _, _, _⟩) rfl rfl rfl ?_) | (refine pS_op (o := ⟨_, .pick _ _ _, _, _, _, _⟩) rfl rfl rfl ?_) | (refine pS_op (o := ⟨_, .sliceToArrayPointer _ _, _, _, _, _⟩) rfl rfl rfl ?_)))
  all_goals (refine ⟨way_e ?_ ?_ ?_, _, rfl⟩ <;> simp only [wayD, wayF, wayS] <;> (repeat' split) <;> omega)
/-- A list's marks: 1 where a number is in it. -/
def marksC (m : Nat) (S : List Int) : List C := (List.range m).map fun (j : Nat) => C.i .i64 (if ((j : Nat) : Int) ∈ S then 1 else 0)
theorem marksC_len (m : Nat) (S : List Int) : (marksC m S).length = m := by simp [marksC]
theorem marksC_get {m : Nat} {S : List Int} {z : Int} (h0 : 0 ≤ z) (h1 : z < m) : (marksC m S)[z.toNat]? = some (.i .i64 (if z ∈ S then 1 else 0)) := by
  have : z.toNat < m := by omega
  have e : ((z.toNat : Nat) : Int) = z := by omega
  simp [marksC, this, e]
theorem marksC_nil (m : Nat) : marksC m [] = List.replicate m (.i .i64 0) := by
  refine List.ext_getElem (by simp [marksC]) fun j h1 h2 => ?_
  simp [marksC]
theorem marksC_set {m : Nat} {S : List Int} {z : Int} (h0 : 0 ≤ z) (h1 : z < m) : (marksC m S).set z.toNat (.i .i64 1) = marksC m (S ++ [z]) := by
  refine List.ext_getElem (by simp [marksC]) fun j h2 h3 => ?_
  rw [List.getElem_set]
  simp only [marksC, List.getElem_map, List.getElem_range, List.mem_append, List.mem_singleton]
  by_cases e : z.toNat = j
  · rw [if_pos e, if_pos (.inr (by omega))]
  · rw [if_neg e]
    have : ¬ (j : Int) = z := by omega
    simp [this]
theorem marksC_same {m : Nat} {S : List Int} {z : Int} (h0 : 0 ≤ z) (h1 : z < m) (h : z ∈ S) : (marksC m S).set z.toNat (.i .i64 1) = marksC m S := by
  refine List.ext_getElem (by simp [marksC]) fun j h2 h3 => ?_
  rw [List.getElem_set]
  simp only [marksC, List.getElem_map, List.getElem_range]
  by_cases e : z.toNat = j
  · rw [if_pos e, if_pos (by rw [show (j : Int) = z by omega]; exact h)]
  · rw [if_neg e]
/-- How many of the first k are in a list. -/
def cntL (S : List Int) : Nat → Int
  | 0 => 0
  | k + 1 => cntL S k + (if (k : Int) ∈ S then 1 else 0)
theorem cntL_eq {S : List Int} (hn : S.Nodup) (m : Nat) (h : ∀ x ∈ S, 0 ≤ x ∧ x < m) : cntL S m = S.length := by
  have key : ∀ k : Nat, cntL S k = ((List.range k).map (fun j : Nat => (j : Int)) |>.filter (· ∈ S)).length := by
    intro k
    induction k with
    | zero => rfl
    | succ k ih =>
      rw [cntL, ih, List.range_succ, List.map_append, List.filter_append]
      by_cases c : (k : Int) ∈ S <;> simp [c]
  rw [key m]
  congr 1
  refine nodup_eq ?_ hn ?_
  · refine List.Pairwise.filter _ (List.Pairwise.map _ ?_ List.nodup_range)
    intro a b hab e
    exact hab (by omega)
  · intro x
    rw [List.mem_filter]
    constructor
    · rintro ⟨_, h2⟩; simpa using h2
    · intro hx
      obtain ⟨h0, h1⟩ := h x hx
      refine ⟨List.mem_map.2 ⟨x.toNat, ?_, by omega⟩, by simpa using hx⟩
      rw [List.mem_range]; omega
theorem cntL_le (S : List Int) (k : Nat) : 0 ≤ cntL S k ∧ cntL S k ≤ k := by
  induction k with
  | zero => simp [cntL]
  | succ k ih => simp only [cntL]; split <;> omega
theorem wayF_lt {i : Int} (h : wayD i = 3) : 0 ≤ wayF i ∧ wayF i < 256 := by
  unfold wayF wayD at *
  (repeat' split at h) <;> (repeat' split) <;> omega
end Go.Proofs.Ytalmegdjhjjolaa.Pe
