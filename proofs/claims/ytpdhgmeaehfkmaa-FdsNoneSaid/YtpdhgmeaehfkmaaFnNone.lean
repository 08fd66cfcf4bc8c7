/- FdsNone: the walk. -/
import Derived.Test.YtpdhgmeaehfkmaaFnTab
import Derived.Test.YtpdhgmeaehfkmaaNnWalk
import Derived.Test.YtpdhgmeaehfkmaaLeaf
set_option linter.unusedVariables false
namespace Go.Proofs.Ytpdhgmeaehfkmaa.Pe
open Go.RowKit
set_option maxRecDepth 10000
set_option maxHeartbeats 4000000
noncomputable def hk (f : FuncId) (args : List V) (H : Heap) : Option V := bif Nat.beq f 47 then (match args with
  | [.c (.fv g id), .c .ns, .c .ns, .c (.i .i64 0)] => bif Nat.beq g 57 then (match getL H id with
    | some (.var _ 1 [.ns]) => some (.c (.b true))
    | _ => none) else none
  | _ => none) else none
noncomputable def hookC (call : CallF) : CallF := fun f args H => match hk f args H with
  | some v => some (v, H)
  | none => call f args H
theorem hook_ok {call : CallF} (hc : CallOk Try.prog call) : CallOk Try.prog (hookC call) := by
  intro f args H v H' h
  unfold hookC at h
  split at h
  · rename_i v' hv
    cases h
    unfold hk at hv
    obtain ⟨h1, hv1⟩ := bif_some hv
    clear hv
    have := beq_nat h1
    subst this
    split at hv1
    · rename_i g id
      obtain ⟨h2, hv2⟩ := bif_some hv1
      clear hv1
      have := beq_nat h2
      subst this
      split at hv2
      · rename_i wr hg
        cases hv2
        refine ⟨⟨_, Try.func47, by kernel_rfl, rfl⟩, fun ρ w cargs hH ha => ?_⟩
        obtain ⟨l⟩ := cargs
        obtain ⟨hlen, hrel⟩ := ha
        match l, hlen, hrel with
        | [v0, v1, v2, v3], _, hrel =>
          have r0 := hrel 0 _ _ rfl rfl
          have r1 : v1 = .slice none 0 0 := hrel 1 _ _ rfl rfl
          have r2 : v2 = .slice none 0 0 := hrel 2 _ _ rfl rfl
          have r3 : v3 = .int .i64 0 := hrel 3 _ _ rfl rfl
          obtain ⟨_, ad, e1, r0⟩ := r0
          rw [getL_eq] at hg
          obtain ⟨_, b, ty, cs, e2, e3, e4⟩ := hH.blk id _ hg
          rw [e1] at e2
          cases e2
          obtain ⟨cs⟩ := cs
          have hcs : cs = [.slice none 0 0] := by
            match cs, e4 with
            | [x], e4 =>
              have := (e4.2 0 _ _ rfl rfl).2
              have hx : x = .slice none 0 0 := this
              rw [hx]
            | [], e4 => have := e4.1; simp at this
            | _ :: _ :: _, e4 => have := e4.1; simp at this
          subst hcs
          subst r0 r1 r2 r3
          have hlt : b < w.heap.size := (Array.getElem?_eq_some_iff.1 e3).1
          refine (Nn.walk_calls b w hlt (by simp [World.cell?, e3])).mono ?_
          rintro e w' ⟨rfl, hB⟩
          exact ⟨_, ρ, rfl, rfl, below_step hH hB⟩
      · cases hv2
    · cases hv1
  · exact hc f args H v H' h
theorem vhook {call : CallF} {f : FuncId} {args : List V} {B : Heap} {r : V × Heap} (h : Vc call f args B r) (hn : ∀ H, hk f args H = none) : Vc (hookC call) f args B r := by
  refine ⟨?_⟩
  have := h.out
  have e : ∀ H, hookC call f args H = call f args H := fun H => by unfold hookC; rw [hn H]
  unfold vcall at this ⊢
  rw [e, e]
  exact this
theorem walk_v {call : CallF} {B : Heap} {id : Nat} {wr : Bool} (hg : getL B id = some (.var wr 1 [.ns])) : Vc (hookC call) 47 [.c (.fv 57 id), .c .ns, .c .ns, .c (.i .i64 0)] B (.c (.b true), B) := by
  refine vfree ⟨.c (.b true), freeze B, ?_, rfl, [], by simp [appL_eq]⟩ rfl
  have hf := getL_frz hg
  unfold hookC
  have : hk 47 [.c (.fv 57 id), .c .ns, .c .ns, .c (.i .i64 0)] (freeze B) = some (.c (.b true)) := by
    unfold hk
    simp only [Nat.beq_refl, cond_true, hf]
    rfl
  rw [this]
theorem none_v {K d : Nat} {B : Heap} {t : C} (fd v : Int) (ht : TN B t) : Vc (run1 T F K (hookC (evW T F K W (d + 3)))) 28 [.c t, .c (.i .i64 fd), .c (.i .i64 v)] B (.c (.b true), B) := by
  refine vfree ?_ rfl
  replace ht := ht.frz
  generalize freeze B = B at ht ⊢
  have c1 := vhook (nopen_v (K := K) (d := d + 1) v ht) fun _ => rfl
  have c2 := vhook (nget_v (K := K) (d := d) fd ht) fun _ => rfl
  have c3 := vhook (nclose_v (K := K) (d := d) fd ht) fun _ => rfl
  have c4 := vhook (nset_v (K := K) (d := d) fd v ht) fun _ => rfl
  have c5 := vhook (nlen_v (K := K) (d := d + 1) ht) fun _ => rfl
  have c6 := vhook (nfull_v (K := K) (d := d + 1) ht) fun _ => rfl
  have c7 := vhook (nall_v (K := K) (d := d + 1) ht) fun _ => rfl
  have c8 := walk_v (call := evW T F K W (d + 3)) (B := appL B [.var true 1 [.ns]]) (id := B.length) getL_last
  refine pF_body rfl rfl ?_
  (repeat' (first | with_reducible refine pS_nil ?_ | ((with_reducible refine c_guard ?_); refine pS_no rfl rfl ?_) | ((with_reducible refine c_move ?_); refine pS_op rfl rfl rfl ?_) | ((with_reducible refine c_assign ?_); refine pS_op rfl rfl rfl ?_) | ((with_reducible refine c_bin ?_); first | refine pS_op rfl (o_eqb rfl rfl rfl rfl) rfl ?_ | refine pS_op rfl (o_neb rfl rfl rfl rfl) rfl ?_ | refine pS_op rfl (o_add rfl rfl rfl (by omega) (by omega)) rfl ?_ | refine pS_op rfl (o_addK rfl rfl rfl (by omega) (by simp only [maxN]; omega)) rfl ?_ | refine pS_op rfl (o_mulK rfl rfl rfl (by omega) (by simp only [maxN]; omega)) rfl ?_ | refine pS_op rfl (o_sub rfl rfl rfl (by omega) (by omega)) rfl ?_ | refine pS_op rfl (o_mul rfl rfl rfl (by omega) (by omega)) rfl ?_ | refine pS_op rfl (o_quo rfl rfl rfl (by omega) (by omega) (by omega)) rfl ?_ | refine pS_op rfl (o_quoK rfl rfl rfl (by omega) (by simp only [maxN]; omega) (by omega)) rfl ?_ | refine pS_op rfl (o_rem rfl rfl rfl (by omega) (by omega)) rfl ?_ | ((first | refine pS_lss rfl rfl rfl rfl rfl rfl ?_ ?_ | refine pS_leq rfl rfl rfl rfl rfl rfl ?_ ?_ | refine pS_gtr rfl rfl rfl rfl rfl rfl ?_ ?_ | refine pS_geq rfl rfl rfl rfl rfl rfl ?_ ?_ | refine pS_eql rfl rfl rfl rfl rfl rfl ?_ ?_ | refine pS_neq rfl rfl rfl rfl rfl rfl ?_ ?_) <;> intro h_ <;> first | (exfalso; omega) | skip) | (refine pS_eqs rfl rfl rfl rfl rfl rfl ?_ ?_ <;> intro h_) | (refine pS_nes rfl rfl rfl rfl rfl rfl ?_ ?_ <;> intro h_)) | ((with_reducible refine c_ix ?_); refine pS_op rfl rfl rfl ?_) | ((with_reducible refine c_load ?_); first | refine pS_op rfl (o_ldw rfl rfl rfl rfl (getL_own rfl) rfl) rfl ?_ | refine pS_op rfl (a_ldvB rfl rfl rfl rfl (getL_own rfl)) rfl ?_ | refine pS_op rfl (o_ld1 rfl rfl rfl rfl (getL_own rfl) rfl rfl) rfl ?_) | ((with_reducible refine c_store ?_); first | refine pS_op rfl (a_stB rfl rfl rfl rfl rfl (getL_own rfl) (setL_own rfl)) rfl ?_ | refine pS_op rfl (o_stw rfl rfl rfl rfl rfl (getL_own rfl) rfl (setL_own rfl)) rfl ?_) | ((with_reducible refine c_ixa ?_); first | refine pS_op rfl (o_ixa1 rfl rfl rfl rfl rfl rfl (by omega) (by omega)) rfl ?_ | refine pS_op rfl rfl rfl ?_) | ((with_reducible refine c_alloc ?_); first | refine pS_op rfl (a_allocB rfl rfl) rfl ?_ | refine pS_op rfl (a_alloc rfl rfl) rfl ?_) | ((with_reducible refine c_box ?_); refine pS_op rfl (a_box rfl rfl rfl) rfl ?_) | ((with_reducible refine c_extract ?_); refine pS_op rfl rfl rfl ?_) | ((with_reducible refine c_blt ?_); first | refine pS_op rfl (o_max rfl rfl) rfl ?_ | refine pS_op rfl (o_min rfl rfl) rfl ?_ | refine pS_op rfl rfl rfl ?_) | ((with_reducible refine c_call ?_); first | refine pS_cl rfl rfl rfl (c1) rfl ?_ | refine pS_cl rfl rfl rfl (c2) rfl ?_ | refine pS_cl rfl rfl rfl (c3) rfl ?_ | refine pS_cl rfl rfl rfl (c4) rfl ?_ | refine pS_cl rfl rfl rfl (c5) rfl ?_ | refine pS_cl rfl rfl rfl (c6) rfl ?_ | refine pS_cl rfl rfl rfl (c7) rfl ?_ | refine pS_cl rfl rfl rfl (c8) rfl ?_) | refine pC_seq ?_ | (refine pC_reg ?_) | refine pC_T rfl ?_ | refine pC_F rfl ?_ | ((fail_if_success (refine pC_isloop ?_)); refine pC_block ?_) | refine pC_skip ?_ | refine pC_exit ?_ | refine pC_ret ⟨(fun _ e => nomatch e), _, rfl, ?_⟩ | refine pC_ret ⟨(fun _ e => nomatch e), _, res_of rfl (resVs_cell rfl rfl rfl (getL_own rfl) rfl rfl resVs_nil) rfl, ?_⟩ | refine pC_ret ⟨(fun _ e => nomatch e), _, res_of rfl (resVs_cell rfl rfl rfl (getL_own rfl) rfl rfl (resVs_tmp rfl resVs_nil)) rfl, ?_⟩ | refine pC_ret ⟨(fun _ e => nomatch e), _, res_of rfl (resVs_cell rfl rfl rfl (getL_own rfl) rfl rfl (resVs_cell rfl rfl rfl (getL_own rfl) rfl rfl resVs_nil)) rfl, ?_⟩ | first | (refine pS_op (o := ⟨_, .unOp _ _ _, _, _, _, _⟩) rfl (o_neg rfl rfl (by omega) (by omega)) rfl ?_) | (refine pS_op (o := ⟨_, .build _ _, _, _, _, _⟩) rfl (o_bldZ rfl rfl rfl (by first | exact bytesC_zero _ | rfl)) rfl ?_) | (refine pS_op (o := ⟨_, .unOp _ _ _, _, _, _, _⟩) rfl rfl rfl ?_) | (refine pS_op (o := ⟨_, .buildSlice _ _ _, _, _, _, _⟩) rfl rfl rfl ?_) | (refine pS_op (o := ⟨_, .convert _ _ _, _, _, _, _⟩) rfl rfl rfl ?_) | (refine pS_op (o := ⟨_, .build _ _, _, _, _, _⟩) rfl rfl rfl ?_) | (refine pS_op (o := ⟨_, .field _ _ _, _, _, _, _⟩) rfl rfl rfl ?_) | (refine pS_op (o := ⟨_, .fieldAddr _ _ _, _, _, _, _⟩) rfl rfl rfl ?_) | (refine pS_op (o := ⟨_, .slice _ _ _ _ _, _, _, _, _⟩) rfl rfl rfl ?_) | (refine pS_op (o := ⟨_, .pick _ _ _, _, _, _, _⟩) rfl rfl rfl ?_) | (refine pS_op (o := ⟨_, .sliceToArrayPointer _ _, _, _, _, _⟩) rfl rfl rfl ?_) | (refine pS_op (o := ⟨_, .nilCheck _, _, _, _, _⟩) rfl rfl rfl ?_) | (refine pS_op (o := ⟨_, .makeFunc _ _ _, _, _, _, _⟩) rfl rfl rfl ?_)))
  exact ⟨rfl, _, rfl⟩
noncomputable def call2 (K d : Nat) : CallF := fun f args H => bif Nat.beq f 28 then run1 T F K (hookC (evW T F K W (d + 3))) f args H else evW T F K W (d + 3) f args H
theorem call2_ok (K d : Nat) : CallOk Try.prog (call2 K d) := by
  intro f args H v H' h
  unfold call2 at h
  cases hb : Nat.beq f 28 with
  | true => rw [hb] at h; exact run1_ok tabOk fnsOk mixed (hook_ok (callW K (d + 3))) f args H v H' h
  | false => rw [hb] at h; exact callW K (d + 3) f args H v H' h
theorem v2n {K d : Nat} {args : List V} {B : Heap} {r : V × Heap} (h : Vc (run1 T F K (hookC (evW T F K W (d + 3)))) 28 args B r) : Vc (call2 K d) 28 args B r := ⟨h.out⟩
theorem v2a {K d : Nat} {args : List V} {B : Heap} {r : V × Heap} {f : FuncId} (h : Vc (evW T F K W (d + 3)) f args B r) (hf : Nat.beq f 28 = false) : Vc (call2 K d) f args B r := by
  refine ⟨?_⟩
  have := h.out
  have e : ∀ H, call2 K d f args H = evW T F K W (d + 3) f args H := fun H => by unfold call2; rw [hf]; rfl
  unfold vcall at this ⊢
  rw [e, e]
  exact this
theorem fdsNone_p {K d : Nat} (fd v : Int) (H : Heap) : pF (run1 T F K (call2 K d)) 6 [.c (.i .i64 fd), .c (.i .i64 v)] H (fun v _ => v = .c (.b true)) := by
  refine pF_body rfl rfl ?_
  rw [← show appL H [] = H from app_nil]
  have c0 := v2a (awake_v (K := K) (d := d + 2) (appL H [.var true 4 [.b false, .i .i64 0, .i .i64 0, .ns]])) rfl
  have c1 := v2n (none_v (K := K) (d := d) (B := appL H [.var true 4 [.b false, .i .i64 0, .i .i64 0, .ns]]) (t := .np) fd v (.inl rfl))
  have c2 := v2n (none_v (K := K) (d := d) (B := appL H [.var true 4 [.b false, .i .i64 0, .i .i64 0, .ns]]) (t := .np) 0 v (.inl rfl))
  have c3 := v2n (none_v (K := K) (d := d) (B := appL H [.var true 4 [.b false, .i .i64 0, .i .i64 0, .ns]]) (t := .p (H.length + 0) 0) fd v (.inr ⟨_, _, _, _, _, rfl, getL_own rfl⟩))
  have c4 := v2n (none_v (K := K) (d := d) (B := appL H [.var true 4 [.b false, .i .i64 0, .i .i64 0, .ns]]) (t := .p (H.length + 0) 0) 0 v (.inr ⟨_, _, _, _, _, rfl, getL_own rfl⟩))
  (repeat' (first | with_reducible refine pS_nil ?_ | ((with_reducible refine c_guard ?_); refine pS_no rfl rfl ?_) | ((with_reducible refine c_move ?_); refine pS_op rfl rfl rfl ?_) | ((with_reducible refine c_assign ?_); refine pS_op rfl rfl rfl ?_) | ((with_reducible refine c_bin ?_); first | refine pS_op rfl (o_eqb rfl rfl rfl rfl) rfl ?_ | refine pS_op rfl (o_neb rfl rfl rfl rfl) rfl ?_ | refine pS_op rfl (o_add rfl rfl rfl (by omega) (by omega)) rfl ?_ | refine pS_op rfl (o_addK rfl rfl rfl (by omega) (by simp only [maxN]; omega)) rfl ?_ | refine pS_op rfl (o_mulK rfl rfl rfl (by omega) (by simp only [maxN]; omega)) rfl ?_ | refine pS_op rfl (o_sub rfl rfl rfl (by omega) (by omega)) rfl ?_ | refine pS_op rfl (o_mul rfl rfl rfl (by omega) (by omega)) rfl ?_ | refine pS_op rfl (o_quo rfl rfl rfl (by omega) (by omega) (by omega)) rfl ?_ | refine pS_op rfl (o_quoK rfl rfl rfl (by omega) (by simp only [maxN]; omega) (by omega)) rfl ?_ | refine pS_op rfl (o_rem rfl rfl rfl (by omega) (by omega)) rfl ?_ | ((first | refine pS_lss rfl rfl rfl rfl rfl rfl ?_ ?_ | refine pS_leq rfl rfl rfl rfl rfl rfl ?_ ?_ | refine pS_gtr rfl rfl rfl rfl rfl rfl ?_ ?_ | refine pS_geq rfl rfl rfl rfl rfl rfl ?_ ?_ | refine pS_eql rfl rfl rfl rfl rfl rfl ?_ ?_ | refine pS_neq rfl rfl rfl rfl rfl rfl ?_ ?_) <;> intro h_ <;> first | (exfalso; omega) | skip) | (refine pS_eqs rfl rfl rfl rfl rfl rfl ?_ ?_ <;> intro h_) | (refine pS_nes rfl rfl rfl rfl rfl rfl ?_ ?_ <;> intro h_)) | ((with_reducible refine c_ix ?_); refine pS_op rfl rfl rfl ?_) | ((with_reducible refine c_load ?_); first | refine pS_op rfl (o_ldw rfl rfl rfl rfl (getL_own rfl) rfl) rfl ?_ | refine pS_op rfl (a_ldvB rfl rfl rfl rfl (getL_own rfl)) rfl ?_ | refine pS_op rfl (o_ld1 rfl rfl rfl rfl (getL_own rfl) rfl rfl) rfl ?_) | ((with_reducible refine c_store ?_); first | refine pS_op rfl (a_stB rfl rfl rfl rfl rfl (getL_own rfl) (setL_own rfl)) rfl ?_ | refine pS_op rfl (o_stw rfl rfl rfl rfl rfl (getL_own rfl) rfl (setL_own rfl)) rfl ?_) | ((with_reducible refine c_ixa ?_); first | refine pS_op rfl (o_ixa1 rfl rfl rfl rfl rfl rfl (by omega) (by omega)) rfl ?_ | refine pS_op rfl rfl rfl ?_) | ((with_reducible refine c_alloc ?_); first | refine pS_op rfl (a_allocB rfl rfl) rfl ?_ | refine pS_op rfl (a_alloc rfl rfl) rfl ?_) | ((with_reducible refine c_box ?_); refine pS_op rfl (a_box rfl rfl rfl) rfl ?_) | ((with_reducible refine c_extract ?_); refine pS_op rfl rfl rfl ?_) | ((with_reducible refine c_blt ?_); first | refine pS_op rfl (o_max rfl rfl) rfl ?_ | refine pS_op rfl (o_min rfl rfl) rfl ?_ | refine pS_op rfl rfl rfl ?_) | ((with_reducible refine c_call ?_); first | refine pS_cl rfl rfl rfl (c0) rfl ?_ | refine pS_cl rfl rfl rfl (c1) rfl ?_ | refine pS_cl rfl rfl rfl (c2) rfl ?_ | refine pS_cl rfl rfl rfl (c3) rfl ?_ | refine pS_cl rfl rfl rfl (c4) rfl ?_) | refine pC_seq ?_ | (refine pC_reg ?_) | refine pC_T rfl ?_ | refine pC_F rfl ?_ | ((fail_if_success (refine pC_isloop ?_)); refine pC_block ?_) | refine pC_skip ?_ | refine pC_exit ?_ | refine pC_ret ⟨(fun _ e => nomatch e), _, rfl, ?_⟩ | refine pC_ret ⟨(fun _ e => nomatch e), _, res_of rfl (resVs_cell rfl rfl rfl (getL_own rfl) rfl rfl resVs_nil) rfl, ?_⟩ | refine pC_ret ⟨(fun _ e => nomatch e), _, res_of rfl (resVs_cell rfl rfl rfl (getL_own rfl) rfl rfl (resVs_tmp rfl resVs_nil)) rfl, ?_⟩ | refine pC_ret ⟨(fun _ e => nomatch e), _, res_of rfl (resVs_cell rfl rfl rfl (getL_own rfl) rfl rfl (resVs_cell rfl rfl rfl (getL_own rfl) rfl rfl resVs_nil)) rfl, ?_⟩ | first | (refine pS_op (o := ⟨_, .unOp _ _ _, _, _, _, _⟩) rfl (o_neg rfl rfl (by omega) (by omega)) rfl ?_) | (refine pS_op (o := ⟨_, .build _ _, _, _, _, _⟩) rfl (o_bldZ rfl rfl rfl (by first | exact bytesC_zero _ | rfl)) rfl ?_) | (refine pS_op (o := ⟨_, .unOp _ _ _, _, _, _, _⟩) rfl rfl rfl ?_) | (refine pS_op (o := ⟨_, .buildSlice _ _ _, _, _, _, _⟩) rfl rfl rfl ?_) | (refine pS_op (o := ⟨_, .convert _ _ _, _, _, _, _⟩) rfl rfl rfl ?_) | (refine pS_op (o := ⟨_, .build _ _, _, _, _, _⟩) rfl rfl rfl ?_) | (refine pS_op (o := ⟨_, .field _ _ _, _, _, _, _⟩) rfl rfl rfl ?_) | (refine pS_op (o := ⟨_, .fieldAddr _ _ _, _, _, _, _⟩) rfl rfl rfl ?_) | (refine pS_op (o := ⟨_, .slice _ _ _ _ _, _, _, _, _⟩) rfl rfl rfl ?_) | (refine pS_op (o := ⟨_, .pick _ _ _, _, _, _, _⟩) rfl rfl rfl ?_) | (refine pS_op (o := ⟨_, .sliceToArrayPointer _ _, _, _, _, _⟩) rfl rfl rfl ?_) | (refine pS_op (o := ⟨_, .nilCheck _, _, _, _, _⟩) rfl rfl rfl ?_) | (refine pS_op (o := ⟨_, .makeFunc _ _ _, _, _, _, _⟩) rfl rfl rfl ?_)))
  rfl
theorem none_row {fd v : Int} {w : World} (w0 : (Lit.int .i64 fd).wf = true) (w1 : (Lit.int .i64 v).wf = true) : Calls Try.prog 6 #[.int .i64 fd, .int .i64 v] w fun e w' => e = .returned (.bool true) ∧ Below w.heap.size w w' :=
  open_call (run1_ok tabOk fnsOk mixed (call2_ok 1000 0)) (fdsNone_p fd v []) (hrel_nil (fun _ _ => undef) w) (fun id b hb => by simp at hb) (All2.cons rfl (All2.cons rfl All2.nil))
end Go.Proofs.Ytpdhgmeaehfkmaa.Pe
