/- slab.inside, slab.span, slab.SetU16, slab.Lay: what they hand back. -/
import Derived.Test.YtcgmblcpeinpjaaNums
set_option linter.unusedVariables false
namespace Go.Proofs.Ytcgmblcpeinpjaa.Pe
set_option maxRecDepth 10000
theorem t_ii {k k2 : IntKind} {a a' b b' : Int} (h1 : a = a') (h2 : b = b') : V.t [.c (.i k a), .c (.i k2 b)] = V.t [.c (.i k a'), .c (.i k2 b')] := by rw [h1, h2]
/-- Where the places from at on, n of them, begin and end inside. -/
def spanF (at_ n : Int) : Int := if n < 1 ∨ 1024 ≤ at_ ∨ (at_ < 0 ∧ n ≤ -(at_ + 1)) then 0 else max at_ 0
def spanT (at_ n : Int) : Int := if n < 1 ∨ 1024 ≤ at_ ∨ (at_ < 0 ∧ n ≤ -(at_ + 1)) then 0 else max (max at_ 0) (if at_ < 0 then min 1024 (at_ + n) else if n < 1024 - at_ then at_ + n else 1024)
theorem span_le (a n : Int) : 0 ≤ spanF a n ∧ spanF a n ≤ spanT a n ∧ spanT a n ≤ 1024 := by
  simp only [spanF, spanT]
  (repeat' split) <;> omega
theorem span_in (a n i : Int) : (spanF a n ≤ i ∧ i < spanT a n) ↔ (0 ≤ i ∧ i < 1024 ∧ a ≤ i ∧ i - a < n) := by
  simp only [spanF, spanT]
  (repeat' split) <;> omega
theorem inside_p {K d : Nat} (H : Heap) (a n : Int) (ha : lo64 a) (hn : 0 ≤ n ∧ n ≤ 1024) : pF (evW T F K W (d + 1)) 35 [.c (.i .i64 a), .c (.i .i64 n)] H (Ret H (.c (.b (decide (0 ≤ a ∧ a ≤ 1024 - n))))) := by
  obtain ⟨ha1, ha2⟩ := ha
  obtain ⟨hn1, hn2⟩ := hn
  refine pW_fn rfl rfl rfl rfl rfl ?_
  (repeat' (first | with_reducible refine pS_nil ?_ | ((with_reducible refine c_guard ?_); refine pS_no rfl rfl ?_) | ((with_reducible refine c_move ?_); refine pS_op rfl rfl rfl ?_) | ((with_reducible refine c_assign ?_); refine pS_op rfl rfl rfl ?_) | ((with_reducible refine c_bin ?_); first | refine pS_op rfl (o_eqb rfl rfl rfl rfl) rfl ?_ | refine pS_op rfl (o_neb rfl rfl rfl rfl) rfl ?_ | refine pS_op rfl (o_add rfl rfl rfl (by omega) (by omega)) rfl ?_ | refine pS_op rfl (o_addK rfl rfl rfl (by omega) (by simp only [maxN]; omega)) rfl ?_ | refine pS_op rfl (o_mulK rfl rfl rfl (by omega) (by simp only [maxN]; omega)) rfl ?_ | refine pS_op rfl (o_sub rfl rfl rfl (by omega) (by omega)) rfl ?_ | refine pS_op rfl (o_mul rfl rfl rfl (by omega) (by omega)) rfl ?_ | refine pS_op rfl (o_quo rfl rfl rfl (by omega) (by omega) (by omega)) rfl ?_ | refine pS_op rfl (o_quoK rfl rfl rfl (by omega) (by simp only [maxN]; omega) (by omega)) rfl ?_ | refine pS_op rfl (o_rem rfl rfl rfl (by omega) (by omega)) rfl ?_ | ((first | refine pS_lss rfl rfl rfl rfl rfl rfl ?_ ?_ | refine pS_leq rfl rfl rfl rfl rfl rfl ?_ ?_ | refine pS_gtr rfl rfl rfl rfl rfl rfl ?_ ?_ | refine pS_geq rfl rfl rfl rfl rfl rfl ?_ ?_ | refine pS_eql rfl rfl rfl rfl rfl rfl ?_ ?_ | refine pS_neq rfl rfl rfl rfl rfl rfl ?_ ?_) <;> intro h_ <;> first | (exfalso; omega) | skip) | (refine pS_eqs rfl rfl rfl rfl rfl rfl ?_ ?_ <;> intro h_) | (refine pS_nes rfl rfl rfl rfl rfl rfl ?_ ?_ <;> intro h_)) | ((with_reducible refine c_ix ?_); refine pS_op rfl rfl rfl ?_) | ((with_reducible refine c_load ?_); first | refine pS_op rfl (o_ldw rfl rfl rfl rfl (getL_own rfl) rfl) rfl ?_ | refine pS_op rfl (a_ldvB rfl rfl rfl rfl (getL_own rfl)) rfl ?_ | refine pS_op rfl (o_ld1 rfl rfl rfl rfl (getL_own rfl) rfl rfl) rfl ?_) | ((with_reducible refine c_store ?_); first | refine pS_op rfl (a_stB rfl rfl rfl rfl rfl (getL_own rfl) (setL_own rfl)) rfl ?_ | refine pS_op rfl (o_stw rfl rfl rfl rfl rfl (getL_own rfl) rfl (setL_own rfl)) rfl ?_) | ((with_reducible refine c_ixa ?_); first | refine pS_op rfl (o_ixa1 rfl rfl rfl rfl rfl rfl (by omega) (by omega)) rfl ?_ | refine pS_op rfl rfl rfl ?_) | ((with_reducible refine c_alloc ?_); first | refine pS_op rfl (a_allocB rfl rfl) rfl ?_ | refine pS_op rfl (a_alloc rfl rfl) rfl ?_) | ((with_reducible refine c_box ?_); refine pS_op rfl (a_box rfl rfl rfl) rfl ?_) | ((with_reducible refine c_extract ?_); refine pS_op rfl rfl rfl ?_) | ((with_reducible refine c_blt ?_); first | refine pS_op rfl (o_max rfl rfl) rfl ?_ | refine pS_op rfl (o_min rfl rfl) rfl ?_ | refine pS_op rfl rfl rfl ?_) | refine pC_seq ?_ | (refine pC_reg ?_) | refine pC_T rfl ?_ | refine pC_F rfl ?_ | ((fail_if_success (refine pC_isloop ?_)); refine pC_block ?_) | refine pC_skip ?_ | refine pC_exit ?_ | refine pC_ret ⟨(fun _ e => nomatch e), _, rfl, ?_⟩ | refine pC_ret ⟨(fun _ e => nomatch e), _, res_of rfl (resVs_cell rfl rfl rfl (getL_own rfl) rfl rfl resVs_nil) rfl, ?_⟩ | refine pC_ret ⟨(fun _ e => nomatch e), _, res_of rfl (resVs_cell rfl rfl rfl (getL_own rfl) rfl rfl (resVs_tmp rfl resVs_nil)) rfl, ?_⟩ | refine pC_ret ⟨(fun _ e => nomatch e), _, res_of rfl (resVs_cell rfl rfl rfl (getL_own rfl) rfl rfl (resVs_cell rfl rfl rfl (getL_own rfl) rfl rfl resVs_nil)) rfl, ?_⟩ | first | (refine pS_op (o := ⟨_, .unOp _ _ _, _, _, _, _⟩) rfl (o_neg rfl rfl (by omega) (by omega)) rfl ?_) | (refine pS_op (o := ⟨_, .build _ _, _, _, _, _⟩) rfl (o_bldZ rfl rfl rfl (by first | exact bytesC_zero _ | rfl)) rfl ?_) | (refine pS_op (o := ⟨_, .unOp _ _ _, _, _, _, _⟩) rfl rfl rfl ?_) | (refine pS_op (o := ⟨_, .buildSlice _ _ _, _, _, _, _⟩) rfl rfl rfl ?_) | (refine pS_op (o := ⟨_, .convert _ _ _, _, _, _, _⟩) rfl rfl rfl ?_) | (refine pS_op (o := ⟨_, .build _ _, _, _, _, _⟩) rfl rfl rfl ?_) | (refine pS_op (o := ⟨_, .field _ _ _, _, _, _, _⟩) rfl rfl rfl ?_) | (refine pS_op (o := ⟨_, .fieldAddr _ _ _, _, _, _, _⟩) rfl rfl rfl ?_) | (refine pS_op (o := ⟨_, .slice _ _ _ _ _, _, _, _, _⟩) rfl rfl rfl ?_) | (refine pS_op (o := ⟨_, .pick _ _ _, _, _, _, _⟩) rfl rfl rfl ?_) | (refine pS_op (o := ⟨_, .sliceToArrayPointer _ _, _, _, _, _⟩) rfl rfl rfl ?_)))
  all_goals (refine ⟨c_b ?_, _, rfl⟩; simp; omega)
theorem inside_v {K d : Nat} (H : Heap) (a n : Int) (ha : lo64 a) (hn : 0 ≤ n ∧ n ≤ 1024) : Vc (evW T F K W (d + 1)) 35 [.c (.i .i64 a), .c (.i .i64 n)] H (.c (.b (decide (0 ≤ a ∧ a ≤ 1024 - n))), H) := vfree (inside_p _ a n ha hn) rfl
/-- A number of two bytes laid at a place that has room. -/
def set16 (b : List UInt8) (i : Nat) (v : Int) : List UInt8 := (b.set i (lo8 v)).set (i + 1) (lo8 (v / 256))
@[simp] theorem set16_len (b : List UInt8) (i : Nat) (v : Int) : (set16 b i v).length = b.length := by simp [set16]
/-! ### Lay -/
/-- Bytes laid from a place on, up to another. -/
def layU (b : List UInt8) (a : Int) (p : List UInt8) (u : Int) : List UInt8 := b.mapIdx fun j c => if a ≤ j ∧ (j : Int) - a < p.length ∧ (j : Int) < u then p.getD ((j : Int) - a).toNat 0 else c
def layL (b : List UInt8) (a : Int) (p : List UInt8) : List UInt8 := layU b a p b.length
@[simp] theorem layU_len (b : List UInt8) (a : Int) (p : List UInt8) (u : Int) : (layU b a p u).length = b.length := by simp [layU]
@[simp] theorem layL_len (b : List UInt8) (a : Int) (p : List UInt8) : (layL b a p).length = b.length := by simp [layL, layU]
theorem layU_same {b : List UInt8} {a : Int} {p : List UInt8} {u u2 : Int} (h : ∀ j : Nat, j < b.length → ((a ≤ j ∧ (j : Int) - a < p.length ∧ (j : Int) < u) ↔ (a ≤ j ∧ (j : Int) - a < p.length ∧ (j : Int) < u2))) : layU b a p u = layU b a p u2 := by
  refine List.ext_getElem (by simp [layU]) fun j h1 h2 => ?_
  have hj : j < b.length := by simpa [layU] using h1
  simp only [layU, List.getElem_mapIdx]
  by_cases c : a ≤ j ∧ (j : Int) - a < p.length ∧ (j : Int) < u
  · rw [if_pos c, if_pos ((h j hj).1 c)]
  · rw [if_neg c, if_neg (fun e => c ((h j hj).2 e))]
theorem layU_none {b : List UInt8} {a : Int} {p : List UInt8} {u : Int} (h : ∀ j : Nat, j < b.length → ¬ (a ≤ j ∧ (j : Int) - a < p.length ∧ (j : Int) < u)) : layU b a p u = b := by
  refine List.ext_getElem (by simp [layU]) fun j h1 h2 => ?_
  simp only [layU, List.getElem_mapIdx]
  rw [if_neg (h j h2)]
theorem layU_step {b : List UInt8} {a : Int} {p : List UInt8} {u : Int} {c : UInt8} (h0 : 0 ≤ u) (h1 : a ≤ u) (hc : p[(u - a).toNat]? = some c) : (layU b a p u).set u.toNat c = layU b a p (u + 1) := by
  have hlt := (List.getElem?_eq_some_iff.1 hc).1
  refine List.ext_getElem (by simp [layU]) fun j h2 h3 => ?_
  rw [List.getElem_set]
  by_cases e : u.toNat = j
  · rw [if_pos e]
    have e2 : (j : Int) = u := by omega
    simp only [layU, List.getElem_mapIdx]
    rw [if_pos (by omega), e2]
    simp [List.getD_eq_getElem?_getD, hc]
  · rw [if_neg e]
    simp only [layU, List.getElem_mapIdx]
    by_cases c : a ≤ j ∧ (j : Int) - a < p.length ∧ (j : Int) < u
    · rw [if_pos c, if_pos (by omega)]
    · rw [if_neg c, if_neg (by omega)]
end Go.Proofs.Ytcgmblcpeinpjaa.Pe
