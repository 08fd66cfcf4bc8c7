/- An inode's cells; its twelve numbers; comparisons of values. -/
import Derived.Test.YtgcbjeemkifonaaNums
set_option linter.unusedVariables false
namespace Go.Proofs.Ytgcbjeemkifonaa.Pe
set_option maxRecDepth 10000
set_option maxHeartbeats 4000000
structure Nd where
  k : Int
  l : Int
  z : Int
  b : Int
  d0 : Int
  d1 : Int
  d2 : Int
  d3 : Int
  d4 : Int
  d5 : Int
  d6 : Int
  d7 : Int
  d8 : Int
  d9 : Int
  s : Int
  e : Int
  deriving DecidableEq
/-- An inode's cells. -/
abbrev Nd.cs (n : Nd) : List C := [.i .u16 n.k, .i .u16 n.l, .i .u32 n.z, .i .u32 n.b, .i .u32 n.d0, .i .u32 n.d1, .i .u32 n.d2, .i .u32 n.d3, .i .u32 n.d4, .i .u32 n.d5, .i .u32 n.d6, .i .u32 n.d7, .i .u32 n.d8, .i .u32 n.d9, .i .u32 n.s, .i .u32 n.e]
/-- Its numbers are of their kinds. -/
structure Nd.Ok (n : Nd) : Prop where
  hk : 0 ≤ n.k ∧ n.k ≤ 65535
  hl : 0 ≤ n.l ∧ n.l ≤ 65535
  hz : 0 ≤ n.z ∧ n.z ≤ 4294967295
  hb : 0 ≤ n.b ∧ n.b ≤ 4294967295
  hd0 : 0 ≤ n.d0 ∧ n.d0 ≤ 4294967295
  hd1 : 0 ≤ n.d1 ∧ n.d1 ≤ 4294967295
  hd2 : 0 ≤ n.d2 ∧ n.d2 ≤ 4294967295
  hd3 : 0 ≤ n.d3 ∧ n.d3 ≤ 4294967295
  hd4 : 0 ≤ n.d4 ∧ n.d4 ≤ 4294967295
  hd5 : 0 ≤ n.d5 ∧ n.d5 ≤ 4294967295
  hd6 : 0 ≤ n.d6 ∧ n.d6 ≤ 4294967295
  hd7 : 0 ≤ n.d7 ∧ n.d7 ≤ 4294967295
  hd8 : 0 ≤ n.d8 ∧ n.d8 ≤ 4294967295
  hd9 : 0 ≤ n.d9 ∧ n.d9 ≤ 4294967295
  hs : 0 ≤ n.s ∧ n.s ≤ 4294967295
  he : 0 ≤ n.e ∧ n.e ≤ 4294967295
def Nd.ds (n : Nd) : List Int := [n.d0, n.d1, n.d2, n.d3, n.d4, n.d5, n.d6, n.d7, n.d8, n.d9]
def Nd.d (n : Nd) (i : Nat) : Int := n.ds.getD i 0
theorem Nd.d_ok {n : Nd} (h : n.Ok) {i : Nat} (hi : i < 10) : 0 ≤ n.d i ∧ n.d i ≤ 4294967295 := by
  match i, hi with
  | 0, _ => exact h.hd0
  | 1, _ => exact h.hd1
  | 2, _ => exact h.hd2
  | 3, _ => exact h.hd3
  | 4, _ => exact h.hd4
  | 5, _ => exact h.hd5
  | 6, _ => exact h.hd6
  | 7, _ => exact h.hd7
  | 8, _ => exact h.hd8
  | 9, _ => exact h.hd9
theorem nd_eq {n m : Nd} : n = m ↔ (n.k = m.k ∧ n.l = m.l ∧ n.z = m.z ∧ n.b = m.b ∧ n.d0 = m.d0 ∧ n.d1 = m.d1 ∧ n.d2 = m.d2 ∧ n.d3 = m.d3 ∧ n.d4 = m.d4 ∧ n.d5 = m.d5 ∧ n.d6 = m.d6 ∧ n.d7 = m.d7 ∧ n.d8 = m.d8 ∧ n.d9 = m.d9 ∧ n.s = m.s ∧ n.e = m.e ∧ True) := by
  constructor
  · rintro rfl; exact ⟨rfl, rfl, rfl, rfl, rfl, rfl, rfl, rfl, rfl, rfl, rfl, rfl, rfl, rfl, rfl, rfl, trivial⟩
  · rintro ⟨q0, q1, q2, q3, q4, q5, q6, q7, q8, q9, q10, q11, q12, q13, q14, q15, _⟩
    cases n; cases m
    simp only [Nd.mk.injEq]
    exact ⟨q0, q1, q2, q3, q4, q5, q6, q7, q8, q9, q10, q11, q12, q13, q14, q15⟩
section
variable {T : Tys} {call : CallF} {op : Op} {tm : List V} {H : Heap} {t e : TypeId} {px : Operand} {a1 a2 : Nat} {a3 : List C} {a4 : List PK} {kd : TK} {zz : List C} {ks : List PK} {sz bb : Nat}
/-- An array's beginning; all of it. -/
theorem o_slAh {hi : Operand} {k : IntKind} {h : Int} {id off m n2 : Nat} (ho : op = .slice t px none (some hi) none) (hx : opnd tm px = some (.c (.p id off))) (hhi : opnd tm hi = some (.c (.i k h))) (ht : tyAt T t = some ⟨.arr m e, a1, a2, a3, a4⟩) (he : tyAt T e = some ⟨kd, sz, bb, zz, ks⟩) (h0 : 0 ≤ h) (h1 : h ≤ m) (hn : h.toNat = n2) : evOp T call op tm H = some (.c (.va id off n2 m), H) := by
  subst ho; subst hn
  have c1 : inN h (m + 1) = true := by rw [inN_eq]; simp; omega
  have hv : vslice T t (.c (.p id off)) none (some (.c (.i k h))) = some (.c (.va id off h.toNat m)) := by
    simp only [vslice, ht, he, bnds, c1, cond_true, Nat.zero_mul, Nat.add_zero, Nat.sub_zero]
  simp only [evOp, hx, opndO, hhi, Option.map_some, hv]
theorem o_slAa {id off m : Nat} (ho : op = .slice t px none none none) (hx : opnd tm px = some (.c (.p id off))) (ht : tyAt T t = some ⟨.arr m e, a1, a2, a3, a4⟩) (he : tyAt T e = some ⟨kd, sz, bb, zz, ks⟩) : evOp T call op tm H = some (.c (.va id off m m), H) := by
  subst ho
  have hv : vslice T t (.c (.p id off)) none none = some (.c (.va id off m m)) := by
    simp only [vslice, ht, he, bnds, Nat.zero_mul, Nat.add_zero, Nat.sub_zero]
  simp only [evOp, hx, opndO, hv, Option.map_some]
end
theorem nd_free (n : Nd) : (V.ag 16 n.cs).isFree := by
  intro c hc
  simp [Nd.cs] at hc
  rcases hc with rfl | rfl | rfl | rfl | rfl | rfl | rfl | rfl | rfl | rfl | rfl | rfl | rfl | rfl | rfl | rfl <;> rfl
def dn (n : Nd) (i j : Nat) : Int := if j < i then n.d j else 0
/-- The twelve numbers, i of them laid. -/
def rnC (n : Nd) (i : Nat) (s e : Int) : List C := [.i .u32 (dn n i 0), .i .u32 (dn n i 1), .i .u32 (dn n i 2), .i .u32 (dn n i 3), .i .u32 (dn n i 4), .i .u32 (dn n i 5), .i .u32 (dn n i 6), .i .u32 (dn n i 7), .i .u32 (dn n i 8), .i .u32 (dn n i 9), .i .u32 s, .i .u32 e]
def Nd.all (n : Nd) : List Int := [n.d0, n.d1, n.d2, n.d3, n.d4, n.d5, n.d6, n.d7, n.d8, n.d9, n.s, n.e]
abbrev Nd.allC (n : Nd) : List C := [.i .u32 n.d0, .i .u32 n.d1, .i .u32 n.d2, .i .u32 n.d3, .i .u32 n.d4, .i .u32 n.d5, .i .u32 n.d6, .i .u32 n.d7, .i .u32 n.d8, .i .u32 n.d9, .i .u32 n.s, .i .u32 n.e]
def Nd.a (n : Nd) (i : Nat) : Int := n.all.getD i 0
theorem rnC_step (n : Nd) {i : Nat} (s e : Int) (h : i < 10) : (rnC n i s e).set i (.i .u32 (n.d i)) = rnC n (i + 1) s e := by
  match i, h with
  | 0, _ => rfl
  | 1, _ => rfl
  | 2, _ => rfl
  | 3, _ => rfl
  | 4, _ => rfl
  | 5, _ => rfl
  | 6, _ => rfl
  | 7, _ => rfl
  | 8, _ => rfl
  | 9, _ => rfl
theorem nd_get (n : Nd) {i : Nat} (h : i < 10) : getL n.cs (4 + i) = some (.i .u32 (n.d i)) := by
  match i, h with
  | 0, _ => rfl
  | 1, _ => rfl
  | 2, _ => rfl
  | 3, _ => rfl
  | 4, _ => rfl
  | 5, _ => rfl
  | 6, _ => rfl
  | 7, _ => rfl
  | 8, _ => rfl
  | 9, _ => rfl
theorem all_get (n : Nd) {i : Nat} (h : i < 12) : getL n.allC i = some (.i .u32 (n.a i)) := by
  match i, h with
  | 0, _ => rfl
  | 1, _ => rfl
  | 2, _ => rfl
  | 3, _ => rfl
  | 4, _ => rfl
  | 5, _ => rfl
  | 6, _ => rfl
  | 7, _ => rfl
  | 8, _ => rfl
  | 9, _ => rfl
  | 10, _ => rfl
  | 11, _ => rfl
theorem Nd.a_ok {n : Nd} (h : n.Ok) {i : Nat} (hi : i < 12) : 0 ≤ n.a i ∧ n.a i ≤ 4294967295 := by
  match i, hi with
  | 0, _ => exact h.hd0
  | 1, _ => exact h.hd1
  | 2, _ => exact h.hd2
  | 3, _ => exact h.hd3
  | 4, _ => exact h.hd4
  | 5, _ => exact h.hd5
  | 6, _ => exact h.hd6
  | 7, _ => exact h.hd7
  | 8, _ => exact h.hd8
  | 9, _ => exact h.hd9
  | 10, _ => exact h.hs
  | 11, _ => exact h.he
theorem all_free (n : Nd) : (V.ag 12 n.allC).isFree := by
  intro c hc
  simp [Nd.allC] at hc
  rcases hc with rfl | rfl | rfl | rfl | rfl | rfl | rfl | rfl | rfl | rfl | rfl | rfl <;> rfl
theorem rnum_v {K d : Nat} (H : Heap) (n : Nd) (hK : 20 < K) : Vc (evW T F K W (d + 1)) 23 [.ag 16 n.cs] H (.ag 12 n.allC, H) := by
  refine vfree ?_ (all_free n)
  generalize freeze H = H
  refine pW_fn rfl rfl rfl rfl rfl ?_
  (repeat' (first | with_reducible refine pS_nil ?_ | ((with_reducible refine c_guard ?_); refine pS_no rfl rfl ?_) | ((with_reducible refine c_move ?_); refine pS_op rfl rfl rfl ?_) | ((with_reducible refine c_assign ?_); refine pS_op rfl rfl rfl ?_) | ((with_reducible refine c_bin ?_); first | refine pS_op rfl (o_eqb rfl rfl rfl rfl) rfl ?_ | refine pS_op rfl (o_neb rfl rfl rfl rfl) rfl ?_ | refine pS_op rfl (o_add rfl rfl rfl (by omega) (by omega)) rfl ?_ | refine pS_op rfl (o_addK rfl rfl rfl (by omega) (by simp only [maxN]; omega)) rfl ?_ | refine pS_op rfl (o_mulK rfl rfl rfl (by omega) (by simp only [maxN]; omega)) rfl ?_ | refine pS_op rfl (o_sub rfl rfl rfl (by omega) (by omega)) rfl ?_ | refine pS_op rfl (o_mul rfl rfl rfl (by omega) (by omega)) rfl ?_ | refine pS_op rfl (o_quo rfl rfl rfl (by omega) (by omega) (by omega)) rfl ?_ | refine pS_op rfl (o_quoK rfl rfl rfl (by omega) (by simp only [maxN]; omega) (by omega)) rfl ?_ | refine pS_op rfl (o_rem rfl rfl rfl (by omega) (by omega)) rfl ?_ | ((first | refine pS_lss rfl rfl rfl rfl rfl rfl ?_ ?_ | refine pS_leq rfl rfl rfl rfl rfl rfl ?_ ?_ | refine pS_gtr rfl rfl rfl rfl rfl rfl ?_ ?_ | refine pS_geq rfl rfl rfl rfl rfl rfl ?_ ?_ | refine pS_eql rfl rfl rfl rfl rfl rfl ?_ ?_ | refine pS_neq rfl rfl rfl rfl rfl rfl ?_ ?_) <;> intro h_ <;> first | (exfalso; omega) | skip) | (refine pS_eqs rfl rfl rfl rfl rfl rfl ?_ ?_ <;> intro h_) | (refine pS_nes rfl rfl rfl rfl rfl rfl ?_ ?_ <;> intro h_)) | ((with_reducible refine c_ix ?_); refine pS_op rfl rfl rfl ?_) | ((with_reducible refine c_load ?_); first | refine pS_op rfl (o_ldw rfl rfl rfl rfl (getL_own rfl) rfl) rfl ?_ | refine pS_op rfl (a_ldvB rfl rfl rfl rfl (getL_own rfl)) rfl ?_ | refine pS_op rfl (o_ld1 rfl rfl rfl rfl (getL_own rfl) rfl rfl) rfl ?_) | ((with_reducible refine c_store ?_); first | refine pS_op rfl (a_stB rfl rfl rfl rfl rfl (getL_own rfl) (setL_own rfl)) rfl ?_ | refine pS_op rfl (o_stw rfl rfl rfl rfl rfl (getL_own rfl) rfl (setL_own rfl)) rfl ?_) | ((with_reducible refine c_ixa ?_); first | refine pS_op rfl (o_ixa1 rfl rfl rfl rfl rfl rfl (by omega) (by omega)) rfl ?_ | refine pS_op rfl rfl rfl ?_) | ((with_reducible refine c_alloc ?_); first | refine pS_op rfl (a_allocB rfl rfl) rfl ?_ | refine pS_op rfl (a_alloc rfl rfl) rfl ?_) | ((with_reducible refine c_box ?_); refine pS_op rfl (a_box rfl rfl rfl) rfl ?_) | ((with_reducible refine c_extract ?_); refine pS_op rfl rfl rfl ?_) | ((with_reducible refine c_blt ?_); first | refine pS_op rfl (o_max rfl rfl) rfl ?_ | refine pS_op rfl (o_min rfl rfl) rfl ?_ | refine pS_op rfl rfl rfl ?_) | refine pC_seq ?_ | (refine pC_reg ?_) | refine pC_T rfl ?_ | refine pC_F rfl ?_ | ((fail_if_success (refine pC_isloop ?_)); refine pC_block ?_) | refine pC_skip ?_ | refine pC_exit ?_ | refine pC_ret ⟨(fun _ e => nomatch e), _, rfl, ?_⟩ | refine pC_ret ⟨(fun _ e => nomatch e), _, res_of rfl (resVs_cell rfl rfl rfl (getL_own rfl) rfl rfl resVs_nil) rfl, ?_⟩ | refine pC_ret ⟨(fun _ e => nomatch e), _, res_of rfl (resVs_cell rfl rfl rfl (getL_own rfl) rfl rfl (resVs_tmp rfl resVs_nil)) rfl, ?_⟩ | refine pC_ret ⟨(fun _ e => nomatch e), _, res_of rfl (resVs_cell rfl rfl rfl (getL_own rfl) rfl rfl (resVs_cell rfl rfl rfl (getL_own rfl) rfl rfl resVs_nil)) rfl, ?_⟩ | first | (refine pS_op (o := ⟨_, .unOp _ _ _, _, _, _, _⟩) rfl (o_neg rfl rfl (by omega) (by omega)) rfl ?_) | (refine pS_op (o := ⟨_, .build _ _, _, _, _, _⟩) rfl (o_bldZ rfl rfl rfl (by first | exact bytesC_zero _ | rfl)) rfl ?_) | (refine pS_op (o := ⟨_, .unOp _ _ _, _, _, _, _⟩) rfl rfl rfl ?_) | (refine pS_op (o := ⟨_, .buildSlice _ _ _, _, _, _, _⟩) rfl rfl rfl ?_) | (refine pS_op (o := ⟨_, .convert _ _ _, _, _, _, _⟩) rfl rfl rfl ?_) | (refine pS_op (o := ⟨_, .build _ _, _, _, _, _⟩) rfl rfl rfl ?_) | (refine pS_op (o := ⟨_, .field _ _ _, _, _, _, _⟩) rfl rfl rfl ?_) | (refine pS_op (o := ⟨_, .fieldAddr _ _ _, _, _, _, _⟩) rfl rfl rfl ?_) | (refine pS_op (o := ⟨_, .slice _ _ _ _ _, _, _, _, _⟩) rfl rfl rfl ?_) | (refine pS_op (o := ⟨_, .pick _ _ _, _, _, _, _⟩) rfl rfl rfl ?_) | (refine pS_op (o := ⟨_, .sliceToArrayPointer _ _, _, _, _, _⟩) rfl rfl rfl ?_)))
  refine pC_until (m := 10) (fun j st => ∃ i : Nat, (∃ J : Nat → V, st = (⟨[J 0, .c (.p (H.length + 0) 0), .c (.p (H.length + 1) 0), .c (.p (H.length + 2) 0), .c (.i .i64 i), J 5, J 6, J 7, J 8, J 9, J 10, J 11, J 12, J 13, J 14, J 15, J 16, J 17, J 18, J 19, J 20, J 21], appL H [.var true 16 n.cs, .var true 12 (rnC n 0 0 0), .var true 12 (rnC n i 0 0)]⟩ : St)) ∧ i + j = 10)
    (fun st => (∃ J : Nat → V, st = (⟨[J 0, .c (.p (H.length + 0) 0), .c (.p (H.length + 1) 0), .c (.p (H.length + 2) 0), J 4, J 5, J 6, J 7, J 8, J 9, J 10, J 11, J 12, J 13, J 14, J 15, J 16, J 17, J 18, J 19, J 20, J 21], appL H [.var true 16 n.cs, .var true 12 (rnC n 0 0 0), .var true 12 (rnC n 10 0 0)]⟩ : St))) ?_ (by omega) ?_ ?_
  · exact ⟨0, jn rfl rfl, by omega⟩
  · rintro j st ⟨i, ⟨J, rfl⟩, h2⟩
    by_cases c : i < 10
    · have hg : getL n.cs (0 + 4 + (i : Int).toNat * 1) = some (.i .u32 (n.d i)) := by rw [show 0 + 4 + (i : Int).toNat * 1 = 4 + i by omega]; exact nd_get n c
      have hst : ∀ B L : Heap, setL L (.var true 12 (rnC n (i + 1) 0 0)) 2 = some B → setL L (.var true 12 ((rnC n i 0 0).set (0 + (i : Int).toNat * 1) (.i .u32 (n.d i)))) 2 = some B := fun B L h => by
        rw [show 0 + (i : Int).toNat * 1 = i by omega, rnC_step n _ _ c]; exact h
      (repeat' (first | with_reducible refine pS_nil ?_ | ((with_reducible refine c_guard ?_); refine pS_no rfl rfl ?_) | ((with_reducible refine c_move ?_); refine pS_op rfl rfl rfl ?_) | ((with_reducible refine c_assign ?_); refine pS_op rfl rfl rfl ?_) | ((with_reducible refine c_bin ?_); first | refine pS_op rfl (o_eqb rfl rfl rfl rfl) rfl ?_ | refine pS_op rfl (o_neb rfl rfl rfl rfl) rfl ?_ | refine pS_op rfl (o_add rfl rfl rfl (by omega) (by omega)) rfl ?_ | refine pS_op rfl (o_addK rfl rfl rfl (by omega) (by simp only [maxN]; omega)) rfl ?_ | refine pS_op rfl (o_mulK rfl rfl rfl (by omega) (by simp only [maxN]; omega)) rfl ?_ | refine pS_op rfl (o_sub rfl rfl rfl (by omega) (by omega)) rfl ?_ | refine pS_op rfl (o_mul rfl rfl rfl (by omega) (by omega)) rfl ?_ | refine pS_op rfl (o_quo rfl rfl rfl (by omega) (by omega) (by omega)) rfl ?_ | refine pS_op rfl (o_quoK rfl rfl rfl (by omega) (by simp only [maxN]; omega) (by omega)) rfl ?_ | refine pS_op rfl (o_rem rfl rfl rfl (by omega) (by omega)) rfl ?_ | ((first | refine pS_lss rfl rfl rfl rfl rfl rfl ?_ ?_ | refine pS_leq rfl rfl rfl rfl rfl rfl ?_ ?_ | refine pS_gtr rfl rfl rfl rfl rfl rfl ?_ ?_ | refine pS_geq rfl rfl rfl rfl rfl rfl ?_ ?_ | refine pS_eql rfl rfl rfl rfl rfl rfl ?_ ?_ | refine pS_neq rfl rfl rfl rfl rfl rfl ?_ ?_) <;> intro h_ <;> first | (exfalso; omega) | skip) | (refine pS_eqs rfl rfl rfl rfl rfl rfl ?_ ?_ <;> intro h_) | (refine pS_nes rfl rfl rfl rfl rfl rfl ?_ ?_ <;> intro h_)) | ((with_reducible refine c_ix ?_); refine pS_op rfl rfl rfl ?_) | ((with_reducible refine c_load ?_); first | refine pS_op rfl (o_ld1 rfl rfl rfl rfl (getL_own rfl) hg rfl) rfl ?_ | refine pS_op rfl (o_ldw rfl rfl rfl rfl (getL_own rfl) rfl) rfl ?_ | refine pS_op rfl (a_ldvB rfl rfl rfl rfl (getL_own rfl)) rfl ?_ | refine pS_op rfl (o_ld1 rfl rfl rfl rfl (getL_own rfl) rfl rfl) rfl ?_) | ((with_reducible refine c_store ?_); first | refine pS_op rfl (o_st1 rfl rfl rfl rfl rfl rfl (getL_own rfl) (by omega) rfl (by omega) (setL_own (hst _ _ rfl))) rfl ?_ | refine pS_op rfl (a_stB rfl rfl rfl rfl rfl (getL_own rfl) (setL_own rfl)) rfl ?_ | refine pS_op rfl (o_stw rfl rfl rfl rfl rfl (getL_own rfl) rfl (setL_own rfl)) rfl ?_) | ((with_reducible refine c_ixa ?_); first | refine pS_op rfl (o_ixa (sz := 1) rfl rfl rfl rfl rfl rfl (by omega) (by omega)) rfl ?_ | refine pS_op rfl (o_ixa1 rfl rfl rfl rfl rfl rfl (by omega) (by omega)) rfl ?_ | refine pS_op rfl rfl rfl ?_) | ((with_reducible refine c_alloc ?_); first | refine pS_op rfl (a_allocB rfl rfl) rfl ?_ | refine pS_op rfl (a_alloc rfl rfl) rfl ?_) | ((with_reducible refine c_box ?_); refine pS_op rfl (a_box rfl rfl rfl) rfl ?_) | ((with_reducible refine c_extract ?_); refine pS_op rfl rfl rfl ?_) | ((with_reducible refine c_blt ?_); first | refine pS_op rfl (o_max rfl rfl) rfl ?_ | refine pS_op rfl (o_min rfl rfl) rfl ?_ | refine pS_op rfl rfl rfl ?_) | refine pC_seq ?_ | (refine pC_reg ?_) | refine pC_T rfl ?_ | refine pC_F rfl ?_ | ((fail_if_success (refine pC_isloop ?_)); refine pC_block ?_) | refine pC_skip ?_ | refine pC_exit ?_ | refine pC_ret ⟨(fun _ e => nomatch e), _, rfl, ?_⟩ | refine pC_ret ⟨(fun _ e => nomatch e), _, res_of rfl (resVs_cell rfl rfl rfl (getL_own rfl) rfl rfl resVs_nil) rfl, ?_⟩ | refine pC_ret ⟨(fun _ e => nomatch e), _, res_of rfl (resVs_cell rfl rfl rfl (getL_own rfl) rfl rfl (resVs_tmp rfl resVs_nil)) rfl, ?_⟩ | refine pC_ret ⟨(fun _ e => nomatch e), _, res_of rfl (resVs_cell rfl rfl rfl (getL_own rfl) rfl rfl (resVs_cell rfl rfl rfl (getL_own rfl) rfl rfl resVs_nil)) rfl, ?_⟩ | first | (refine pS_op (o := ⟨_, .unOp _ _ _, _, _, _, _⟩) rfl (o_neg rfl rfl (by omega) (by omega)) rfl ?_) | (refine pS_op (o := ⟨_, .build _ _, _, _, _, _⟩) rfl (o_bldZ rfl rfl rfl (by first | exact bytesC_zero _ | rfl)) rfl ?_) | (refine pS_op (o := ⟨_, .unOp _ _ _, _, _, _, _⟩) rfl rfl rfl ?_) | (refine pS_op (o := ⟨_, .buildSlice _ _ _, _, _, _, _⟩) rfl rfl rfl ?_) | (refine pS_op (o := ⟨_, .convert _ _ _, _, _, _, _⟩) rfl rfl rfl ?_) | (refine pS_op (o := ⟨_, .build _ _, _, _, _, _⟩) rfl rfl rfl ?_) | (refine pS_op (o := ⟨_, .field _ _ _, _, _, _, _⟩) rfl rfl rfl ?_) | (refine pS_op (o := ⟨_, .fieldAddr _ _ _, _, _, _, _⟩) rfl rfl rfl ?_) | (refine pS_op (o := ⟨_, .slice _ _ _ _ _, _, _, _, _⟩) rfl rfl rfl ?_) | (refine pS_op (o := ⟨_, .pick _ _ _, _, _, _, _⟩) rfl rfl rfl ?_) | (refine pS_op (o := ⟨_, .sliceToArrayPointer _ _, _, _, _, _⟩) rfl rfl rfl ?_)))
      exact ⟨j - 1, by omega, i + 1, jn rfl rfl, by omega⟩
    · have e : i = 10 := by omega
      subst e
      (repeat' (first | with_reducible refine pS_nil ?_ | ((with_reducible refine c_guard ?_); refine pS_no rfl rfl ?_) | ((with_reducible refine c_move ?_); refine pS_op rfl rfl rfl ?_) | ((with_reducible refine c_assign ?_); refine pS_op rfl rfl rfl ?_) | ((with_reducible refine c_bin ?_); first | refine pS_op rfl (o_eqb rfl rfl rfl rfl) rfl ?_ | refine pS_op rfl (o_neb rfl rfl rfl rfl) rfl ?_ | refine pS_op rfl (o_add rfl rfl rfl (by omega) (by omega)) rfl ?_ | refine pS_op rfl (o_addK rfl rfl rfl (by omega) (by simp only [maxN]; omega)) rfl ?_ | refine pS_op rfl (o_mulK rfl rfl rfl (by omega) (by simp only [maxN]; omega)) rfl ?_ | refine pS_op rfl (o_sub rfl rfl rfl (by omega) (by omega)) rfl ?_ | refine pS_op rfl (o_mul rfl rfl rfl (by omega) (by omega)) rfl ?_ | refine pS_op rfl (o_quo rfl rfl rfl (by omega) (by omega) (by omega)) rfl ?_ | refine pS_op rfl (o_quoK rfl rfl rfl (by omega) (by simp only [maxN]; omega) (by omega)) rfl ?_ | refine pS_op rfl (o_rem rfl rfl rfl (by omega) (by omega)) rfl ?_ | ((first | refine pS_lss rfl rfl rfl rfl rfl rfl ?_ ?_ | refine pS_leq rfl rfl rfl rfl rfl rfl ?_ ?_ | refine pS_gtr rfl rfl rfl rfl rfl rfl ?_ ?_ | refine pS_geq rfl rfl rfl rfl rfl rfl ?_ ?_ | refine pS_eql rfl rfl rfl rfl rfl rfl ?_ ?_ | refine pS_neq rfl rfl rfl rfl rfl rfl ?_ ?_) <;> intro h_ <;> first | (exfalso; omega) | skip) | (refine pS_eqs rfl rfl rfl rfl rfl rfl ?_ ?_ <;> intro h_) | (refine pS_nes rfl rfl rfl rfl rfl rfl ?_ ?_ <;> intro h_)) | ((with_reducible refine c_ix ?_); refine pS_op rfl rfl rfl ?_) | ((with_reducible refine c_load ?_); first | refine pS_op rfl (o_ldw rfl rfl rfl rfl (getL_own rfl) rfl) rfl ?_ | refine pS_op rfl (a_ldvB rfl rfl rfl rfl (getL_own rfl)) rfl ?_ | refine pS_op rfl (o_ld1 rfl rfl rfl rfl (getL_own rfl) rfl rfl) rfl ?_) | ((with_reducible refine c_store ?_); first | refine pS_op rfl (a_stB rfl rfl rfl rfl rfl (getL_own rfl) (setL_own rfl)) rfl ?_ | refine pS_op rfl (o_stw rfl rfl rfl rfl rfl (getL_own rfl) rfl (setL_own rfl)) rfl ?_) | ((with_reducible refine c_ixa ?_); first | refine pS_op rfl (o_ixa1 rfl rfl rfl rfl rfl rfl (by omega) (by omega)) rfl ?_ | refine pS_op rfl rfl rfl ?_) | ((with_reducible refine c_alloc ?_); first | refine pS_op rfl (a_allocB rfl rfl) rfl ?_ | refine pS_op rfl (a_alloc rfl rfl) rfl ?_) | ((with_reducible refine c_box ?_); refine pS_op rfl (a_box rfl rfl rfl) rfl ?_) | ((with_reducible refine c_extract ?_); refine pS_op rfl rfl rfl ?_) | ((with_reducible refine c_blt ?_); first | refine pS_op rfl (o_max rfl rfl) rfl ?_ | refine pS_op rfl (o_min rfl rfl) rfl ?_ | refine pS_op rfl rfl rfl ?_) | refine pC_seq ?_ | (refine pC_reg ?_) | refine pC_T rfl ?_ | refine pC_F rfl ?_ | ((fail_if_success (refine pC_isloop ?_)); refine pC_block ?_) | refine pC_skip ?_ | refine pC_exit ?_ | refine pC_ret ⟨(fun _ e => nomatch e), _, rfl, ?_⟩ | refine pC_ret ⟨(fun _ e => nomatch e), _, res_of rfl (resVs_cell rfl rfl rfl (getL_own rfl) rfl rfl resVs_nil) rfl, ?_⟩ | refine pC_ret ⟨(fun _ e => nomatch e), _, res_of rfl (resVs_cell rfl rfl rfl (getL_own rfl) rfl rfl (resVs_tmp rfl resVs_nil)) rfl, ?_⟩ | refine pC_ret ⟨(fun _ e => nomatch e), _, res_of rfl (resVs_cell rfl rfl rfl (getL_own rfl) rfl rfl (resVs_cell rfl rfl rfl (getL_own rfl) rfl rfl resVs_nil)) rfl, ?_⟩ | first | (refine pS_op (o := ⟨_, .unOp _ _ _, _, _, _, _⟩) rfl (o_neg rfl rfl (by omega) (by omega)) rfl ?_) | (refine pS_op (o := ⟨_, .build _ _, _, _, _, _⟩) rfl (o_bldZ rfl rfl rfl (by first | exact bytesC_zero _ | rfl)) rfl ?_) | (refine pS_op (o := ⟨_, .unOp _ _ _, _, _, _, _⟩) rfl rfl rfl ?_) | (refine pS_op (o := ⟨_, .buildSlice _ _ _, _, _, _, _⟩) rfl rfl rfl ?_) | (refine pS_op (o := ⟨_, .convert _ _ _, _, _, _, _⟩) rfl rfl rfl ?_) | (refine pS_op (o := ⟨_, .build _ _, _, _, _, _⟩) rfl rfl rfl ?_) | (refine pS_op (o := ⟨_, .field _ _ _, _, _, _, _⟩) rfl rfl rfl ?_) | (refine pS_op (o := ⟨_, .fieldAddr _ _ _, _, _, _, _⟩) rfl rfl rfl ?_) | (refine pS_op (o := ⟨_, .slice _ _ _ _ _, _, _, _, _⟩) rfl rfl rfl ?_) | (refine pS_op (o := ⟨_, .pick _ _ _, _, _, _, _⟩) rfl rfl rfl ?_) | (refine pS_op (o := ⟨_, .sliceToArrayPointer _ _, _, _, _, _⟩) rfl rfl rfl ?_)))
      exact jn rfl rfl
  · rintro st ⟨J, rfl⟩
    (repeat' (first | with_reducible refine pS_nil ?_ | ((with_reducible refine c_guard ?_); refine pS_no rfl rfl ?_) | ((with_reducible refine c_move ?_); refine pS_op rfl rfl rfl ?_) | ((with_reducible refine c_assign ?_); refine pS_op rfl rfl rfl ?_) | ((with_reducible refine c_bin ?_); first | refine pS_op rfl (o_eqb rfl rfl rfl rfl) rfl ?_ | refine pS_op rfl (o_neb rfl rfl rfl rfl) rfl ?_ | refine pS_op rfl (o_add rfl rfl rfl (by omega) (by omega)) rfl ?_ | refine pS_op rfl (o_addK rfl rfl rfl (by omega) (by simp only [maxN]; omega)) rfl ?_ | refine pS_op rfl (o_mulK rfl rfl rfl (by omega) (by simp only [maxN]; omega)) rfl ?_ | refine pS_op rfl (o_sub rfl rfl rfl (by omega) (by omega)) rfl ?_ | refine pS_op rfl (o_mul rfl rfl rfl (by omega) (by omega)) rfl ?_ | refine pS_op rfl (o_quo rfl rfl rfl (by omega) (by omega) (by omega)) rfl ?_ | refine pS_op rfl (o_quoK rfl rfl rfl (by omega) (by simp only [maxN]; omega) (by omega)) rfl ?_ | refine pS_op rfl (o_rem rfl rfl rfl (by omega) (by omega)) rfl ?_ | ((first | refine pS_lss rfl rfl rfl rfl rfl rfl ?_ ?_ | refine pS_leq rfl rfl rfl rfl rfl rfl ?_ ?_ | refine pS_gtr rfl rfl rfl rfl rfl rfl ?_ ?_ | refine pS_geq rfl rfl rfl rfl rfl rfl ?_ ?_ | refine pS_eql rfl rfl rfl rfl rfl rfl ?_ ?_ | refine pS_neq rfl rfl rfl rfl rfl rfl ?_ ?_) <;> intro h_ <;> first | (exfalso; omega) | skip) | (refine pS_eqs rfl rfl rfl rfl rfl rfl ?_ ?_ <;> intro h_) | (refine pS_nes rfl rfl rfl rfl rfl rfl ?_ ?_ <;> intro h_)) | ((with_reducible refine c_ix ?_); refine pS_op rfl rfl rfl ?_) | ((with_reducible refine c_load ?_); first | refine pS_op rfl (o_ldw rfl rfl rfl rfl (getL_own rfl) rfl) rfl ?_ | refine pS_op rfl (a_ldvB rfl rfl rfl rfl (getL_own rfl)) rfl ?_ | refine pS_op rfl (o_ld1 rfl rfl rfl rfl (getL_own rfl) rfl rfl) rfl ?_ | refine pS_op rfl (o_ldv rfl rfl rfl rfl (getL_own rfl) rfl rfl) rfl ?_) | ((with_reducible refine c_store ?_); first | refine pS_op rfl (a_stB rfl rfl rfl rfl rfl (getL_own rfl) (setL_own rfl)) rfl ?_ | refine pS_op rfl (o_stw rfl rfl rfl rfl rfl (getL_own rfl) rfl (setL_own rfl)) rfl ?_ | refine pS_op rfl (o_stv rfl rfl rfl rfl rfl rfl (getL_own rfl) rfl (setL_own rfl)) rfl ?_) | ((with_reducible refine c_ixa ?_); first | refine pS_op rfl (o_ixa1 rfl rfl rfl rfl rfl rfl (by omega) (by omega)) rfl ?_ | refine pS_op rfl rfl rfl ?_) | ((with_reducible refine c_alloc ?_); first | refine pS_op rfl (a_allocB rfl rfl) rfl ?_ | refine pS_op rfl (a_alloc rfl rfl) rfl ?_) | ((with_reducible refine c_box ?_); refine pS_op rfl (a_box rfl rfl rfl) rfl ?_) | ((with_reducible refine c_extract ?_); refine pS_op rfl rfl rfl ?_) | ((with_reducible refine c_blt ?_); first | refine pS_op rfl (o_max rfl rfl) rfl ?_ | refine pS_op rfl (o_min rfl rfl) rfl ?_ | refine pS_op rfl rfl rfl ?_) | refine pC_seq ?_ | (refine pC_reg ?_) | refine pC_T rfl ?_ | refine pC_F rfl ?_ | ((fail_if_success (refine pC_isloop ?_)); refine pC_block ?_) | refine pC_skip ?_ | refine pC_exit ?_ | refine pC_ret ⟨(fun _ e => nomatch e), _, rfl, ?_⟩ | refine pC_ret ⟨(fun _ e => nomatch e), _, res_of rfl (resVs_cell rfl rfl rfl (getL_own rfl) rfl rfl resVs_nil) rfl, ?_⟩ | refine pC_ret ⟨(fun _ e => nomatch e), _, res_of rfl (resVs_cell rfl rfl rfl (getL_own rfl) rfl rfl (resVs_tmp rfl resVs_nil)) rfl, ?_⟩ | refine pC_ret ⟨(fun _ e => nomatch e), _, res_of rfl (resVs_cell rfl rfl rfl (getL_own rfl) rfl rfl (resVs_cell rfl rfl rfl (getL_own rfl) rfl rfl resVs_nil)) rfl, ?_⟩ | first | (refine pS_op (o := ⟨_, .unOp _ _ _, _, _, _, _⟩) rfl (o_neg rfl rfl (by omega) (by omega)) rfl ?_) | (refine pS_op (o := ⟨_, .build _ _, _, _, _, _⟩) rfl (o_bldZ rfl rfl rfl (by first | exact bytesC_zero _ | rfl)) rfl ?_) | (refine pS_op (o := ⟨_, .unOp _ _ _, _, _, _, _⟩) rfl rfl rfl ?_) | (refine pS_op (o := ⟨_, .buildSlice _ _ _, _, _, _, _⟩) rfl rfl rfl ?_) | (refine pS_op (o := ⟨_, .convert _ _ _, _, _, _, _⟩) rfl rfl rfl ?_) | (refine pS_op (o := ⟨_, .build _ _, _, _, _, _⟩) rfl rfl rfl ?_) | (refine pS_op (o := ⟨_, .field _ _ _, _, _, _, _⟩) rfl rfl rfl ?_) | (refine pS_op (o := ⟨_, .fieldAddr _ _ _, _, _, _, _⟩) rfl rfl rfl ?_) | (refine pS_op (o := ⟨_, .slice _ _ _ _ _, _, _, _, _⟩) rfl rfl rfl ?_) | (refine pS_op (o := ⟨_, .pick _ _ _, _, _, _, _⟩) rfl rfl rfl ?_) | (refine pS_op (o := ⟨_, .sliceToArrayPointer _ _, _, _, _, _⟩) rfl rfl rfl ?_)))
    exact ⟨rfl, _, rfl⟩
section
variable {T : Tys} {call : CallF} {op : Op} {tm : List V} {H : Heap} {t : TypeId} {px py : Operand}
theorem o_eqV {p} {xs ys : List C} {m n : Nat} {ti : TI} {q : Bool} (ho : op = .binOp .eql t px py p) (hx : opnd tm px = some (.ag m xs)) (hy : opnd tm py = some (.ag n ys)) (ht : tyAt T t = some ti) (hk : (ti.agg && !ti.ks.isEmpty && kinds xs ti.ks && kinds ys ti.ks) = true) (hq : ceqs xs ys = q) : evOp T call op tm H = some (.c (.b q), H) := by
  have := o_eqA (call := call) (H := H) (q := q = true) ho hx hy ht hk (by rw [hq]; cases q <;> rfl)
  rw [this]; cases q <;> rfl
theorem o_neV {p} {xs ys : List C} {m n : Nat} {ti : TI} {q : Bool} (ho : op = .binOp .neq t px py p) (hx : opnd tm px = some (.ag m xs)) (hy : opnd tm py = some (.ag n ys)) (ht : tyAt T t = some ti) (hk : (ti.agg && !ti.ks.isEmpty && kinds xs ti.ks && kinds ys ti.ks) = true) (hq : ceqs xs ys = q) : evOp T call op tm H = some (.c (.b (!q)), H) := by
  have := o_neA (call := call) (H := H) (q := q = true) ho hx hy ht hk (by rw [hq]; cases q <;> rfl)
  rw [this]; cases q <;> rfl
theorem o_eqBV {p} {l m : List UInt8} {ti : TI} {z : Nat} {q : Bool} (ho : op = .binOp .eql t px py p) (hx : opnd tm px = some (.ag z (bytesC l))) (hy : opnd tm py = some (.ag z (bytesC m))) (ht : tyAt T t = some ti) (hg : ti.agg = true) (hk : ti.ks = List.replicate z (.int .u8)) (hz : 0 < z) (hl : l.length = z) (hm : m.length = z) (hq : decide (l = m) = q) : evOp T call op tm H = some (.c (.b q), H) := by
  rw [o_eqBd ho hx hy ht hg hk hz hl hm, hq]
theorem o_neBV {p} {l m : List UInt8} {ti : TI} {z : Nat} {q : Bool} (ho : op = .binOp .neq t px py p) (hx : opnd tm px = some (.ag z (bytesC l))) (hy : opnd tm py = some (.ag z (bytesC m))) (ht : tyAt T t = some ti) (hg : ti.agg = true) (hk : ti.ks = List.replicate z (.int .u8)) (hz : 0 < z) (hl : l.length = z) (hm : m.length = z) (hq : decide (¬ l = m) = q) : evOp T call op tm H = some (.c (.b q), H) := by
  rw [o_neBd ho hx hy ht hg hk hz hl hm, hq]
end
theorem ceqs_refl : ∀ (l : List C), (∀ c ∈ l, ∃ k n, c = C.i k n) → ceqs l l = true
  | [], _ => rfl
  | c :: l, h => by
    obtain ⟨k, n, rfl⟩ := h c (by simp)
    have ih := ceqs_refl l (fun d hd => h d (by simp [hd]))
    have := ceqs_i (k := k) (k' := k) (a := n) (b := n) (xs := l) (ys := l) (q := True) (by rw [ih]; rfl)
    rw [this]; simp
theorem nd_ceqs (n m : Nd) : ceqs n.cs m.cs = decide (n = m) := by
  have := ceqs_i (k := .u16) (k' := .u16) (a := n.k) (b := m.k) (ceqs_i (k := .u16) (k' := .u16) (a := n.l) (b := m.l) (ceqs_i (k := .u32) (k' := .u32) (a := n.z) (b := m.z) (ceqs_i (k := .u32) (k' := .u32) (a := n.b) (b := m.b) (ceqs_i (k := .u32) (k' := .u32) (a := n.d0) (b := m.d0) (ceqs_i (k := .u32) (k' := .u32) (a := n.d1) (b := m.d1) (ceqs_i (k := .u32) (k' := .u32) (a := n.d2) (b := m.d2) (ceqs_i (k := .u32) (k' := .u32) (a := n.d3) (b := m.d3) (ceqs_i (k := .u32) (k' := .u32) (a := n.d4) (b := m.d4) (ceqs_i (k := .u32) (k' := .u32) (a := n.d5) (b := m.d5) (ceqs_i (k := .u32) (k' := .u32) (a := n.d6) (b := m.d6) (ceqs_i (k := .u32) (k' := .u32) (a := n.d7) (b := m.d7) (ceqs_i (k := .u32) (k' := .u32) (a := n.d8) (b := m.d8) (ceqs_i (k := .u32) (k' := .u32) (a := n.d9) (b := m.d9) (ceqs_i (k := .u32) (k' := .u32) (a := n.s) (b := m.s) (ceqs_i (k := .u32) (k' := .u32) (a := n.e) (b := m.e) ceqs_nil)))))))))))))))
  show ceqs [_, _, _, _, _, _, _, _, _, _, _, _, _, _, _, _] [_, _, _, _, _, _, _, _, _, _, _, _, _, _, _, _] = _
  rw [this]
  exact decide_eq_decide.2 nd_eq.symm
def nd0 : Nd := ⟨0, 0, 0, 0, 0, 0, 0, 0, 0, 0, 0, 0, 0, 0, 0, 0⟩
theorem nd0_ok : nd0.Ok := by constructor <;> exact ⟨by decide, by decide⟩
end Go.Proofs.Ytgcbjeemkifonaa.Pe
