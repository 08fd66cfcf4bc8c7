/- The walk of the statement on slab's numbers. -/
import Derived.Test.YtmmhdndglliflaaNumRef
import Derived.Test.YtmmhdndglliflaaBlock
set_option linter.unusedVariables false
namespace Go.Proofs.Ytmmhdndglliflaa.B
open Go.RowKit Go.Proofs.YtmmhdndglliflaaW.PrintWords Go.BigFrame
attribute [local go_sem] cls_const cls_self
set_option maxHeartbeats 2000000 in
theorem SlabNumbers_walk (A : Option Addr) (c : Nat) (l : List Int) (w : World) (hr : Kd.C (Kd.int .u8) w A l.length l) (hc : l.length ≤ c) (hl : BytL l) (at_ v : Int) (hv0 : 0 ≤ v) (hv1 : v < 4294967296) :
    Calls Try.prog 7 #[.slice A l.length c, .int .i64 at_, .int .u32 v] w fun e w' => e = .returned (.bool true) ∧ Below w.heap.size w w' := by
  have HR := Aside0.mk hr
  have HC := Aside0.mk hc
  have HF := Aside0.mk (byt_bytesF hl)
  have hz := zero_Block
  have q1 : 0 ≤ IntKind.u16.wrap v := by rw [IntKind.wrap_u16]; omega
  have q2 : IntKind.u16.wrap v < 65536 := by rw [IntKind.wrap_u16]; omega
  clear hr hc
  go_enter Try.func7, Try.ntmps7
  go_wp2_with (first | (go_at_call 18; refine (block _ _ _ _ HR.out HC.out).mono ?_; rintro e w1 ⟨rfl, hd⟩) | (refine st_arr 34 rfl rfl rfl size_Block rfl rfl (heap_alloc_new _ _) ?_; intro w2 hw2 hgr; have A1 := Aside0.mk hw2; have HB := Aside0.mk (bgrow (hd.alloc hd.size _) (by have := hd.size; simp; omega) hgr hd.size); have HG := Aside0.mk hd.size; clear hw2 hgr hd))
  refine wp_region_cls (by kernel_rfl) (by kernel_rfl) ?_; (repeat (first | go_big_quiet_skip | (go_big_quiet_want; first | (refine q_ld_arr 34 rfl size_Block agg_Block rfl (fun _ hw_ => cls_blk A1.out hw_) ?_; simp only [Act.put, List.setIfInBounds_toArray, List.set_cons_zero, List.set_cons_succ]; go_big_quiet_on) | (refine q_call (f := 33) rfl Try.func33 (by kernel_rfl) rfl (by simp only [List.map_toArray, List.map_cons, List.map_nil]; rfl) (fun w_ hw_ => (U16 _ HF.out _ _).mono (fun _ _ h_ => ⟨h_.1, cls_then hw_ h_.2⟩)) ?_; simp only [Act.put, List.setIfInBounds_toArray, List.set_cons_zero, List.set_cons_succ]; go_big_quiet_on) | (refine q_call (f := 34) rfl Try.func34 (by kernel_rfl) rfl (by simp only [List.map_toArray, List.map_cons, List.map_nil]; rfl) (fun w_ hw_ => (rU16 _ HF.out _ _).mono (fun _ _ h_ => ⟨h_.1, cls_then hw_ h_.2⟩)) ?_; simp only [Act.put, List.setIfInBounds_toArray, List.set_cons_zero, List.set_cons_succ]; go_big_quiet_on) | (refine q_call (f := 35) rfl Try.func35 (by kernel_rfl) rfl (by simp only [List.map_toArray, List.map_cons, List.map_nil]; rfl) (fun w_ hw_ => (U32 _ HF.out _ _).mono (fun _ _ h_ => ⟨h_.1, cls_then hw_ h_.2⟩)) ?_; simp only [Act.put, List.setIfInBounds_toArray, List.set_cons_zero, List.set_cons_succ]; go_big_quiet_on) | (refine q_call (f := 36) rfl Try.func36 (by kernel_rfl) rfl (by simp only [List.map_toArray, List.map_cons, List.map_nil]; rfl) (fun w_ hw_ => (rU32 _ HF.out _ _).mono (fun _ _ h_ => ⟨h_.1, cls_then hw_ h_.2⟩)) ?_; simp only [Act.put, List.setIfInBounds_toArray, List.set_cons_zero, List.set_cons_succ]; go_big_quiet_on) | (go_big_quiet_op; go_big_quiet_on)))); refine wpQuiet_nil ?_; intro wq hq
  have n_A1 := Aside0.mk (cls_blk A1.out hq)
  have n_HB := Aside0.mk (bthen HB.out HB.out.size hq)
  clear A1 HB hq
  have A1 := n_A1
  have HB := n_HB
  clear n_A1 n_HB
  go_wp2
  refine wp_region_cls (by kernel_rfl) (by kernel_rfl) ?_; (repeat (first | go_big_quiet_skip | (go_big_quiet_want; first | (refine q_ld_arr 34 rfl size_Block agg_Block rfl (fun _ hw_ => cls_blk A1.out hw_) ?_; simp only [Act.put, List.setIfInBounds_toArray, List.set_cons_zero, List.set_cons_succ]; go_big_quiet_on) | (refine q_call (f := 37) rfl Try.func37 (by kernel_rfl) rfl (by simp only [List.map_toArray, List.map_cons, List.map_nil]; rfl) (fun w_ hw_ => (SetU16 _ _ _ _ (by omega) (by omega)).mono (fun _ _ h_ => ⟨h_.1, cls_then hw_ h_.2⟩)) ?_; simp only [Act.put, List.setIfInBounds_toArray, List.set_cons_zero, List.set_cons_succ]; go_big_quiet_on) | (refine q_call (f := 38) rfl Try.func38 (by kernel_rfl) rfl (by simp only [List.map_toArray, List.map_cons, List.map_nil]; rfl) (fun w_ hw_ => (rSetU16 _ _ _ _ (by omega) (by omega)).mono (fun _ _ h_ => ⟨h_.1, cls_then hw_ h_.2⟩)) ?_; simp only [Act.put, List.setIfInBounds_toArray, List.set_cons_zero, List.set_cons_succ]; go_big_quiet_on) | (refine q_call (f := 39) rfl Try.func39 (by kernel_rfl) rfl (by simp only [List.map_toArray, List.map_cons, List.map_nil]; rfl) (fun w_ hw_ => (SetU32 _ _ _ _).mono (fun _ _ h_ => ⟨h_.1, cls_then hw_ h_.2⟩)) ?_; simp only [Act.put, List.setIfInBounds_toArray, List.set_cons_zero, List.set_cons_succ]; go_big_quiet_on) | (refine q_call (f := 40) rfl Try.func40 (by kernel_rfl) rfl (by simp only [List.map_toArray, List.map_cons, List.map_nil]; rfl) (fun w_ hw_ => (rSetU32 _ _ _ _ hv0 hv1).mono (fun _ _ h_ => ⟨h_.1, cls_then hw_ h_.2⟩)) ?_; simp only [Act.put, List.setIfInBounds_toArray, List.set_cons_zero, List.set_cons_succ]; go_big_quiet_on) | (refine q_call (f := 18) rfl Try.func18 (by kernel_rfl) rfl (by simp only [List.map_toArray, List.map_cons, List.map_nil]; rfl) (fun w_ hw_ => (block _ _ _ _ (Kd.C_below HR.out (bthen HB.out HB.out.size hw_)) HC.out).mono (fun _ _ h_ => ⟨h_.1, cls_then hw_ h_.2⟩)) ?_; simp only [Act.put, List.setIfInBounds_toArray, List.set_cons_zero, List.set_cons_succ]; go_big_quiet_on) | (refine q_eql_arr 34 rfl flat_Block agg_Block eqg_Block rfl rfl (eqB_refl _ _) ?_; simp only [Act.put, List.setIfInBounds_toArray, List.set_cons_zero, List.set_cons_succ]; go_big_quiet_on) | (go_big_quiet_op; go_big_quiet_on)))); refine wpQuiet_nil ?_; intro wq hq
  go_wp2
  go_ret
  exact ⟨rfl, bthen HB.out HB.out.size hq⟩
end Go.Proofs.Ytmmhdndglliflaa.B
