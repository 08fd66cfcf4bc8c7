/- The walk of the program's Encode. -/
import Derived.Test.YtiafeogjknilmaaMade
import Derived.Test.YtiafeogjknilmaaLay
import Derived.Test.YtiafeogjknilmaaNum
import Derived.Test.YtiafeogjknilmaaEncP
import Derived.Lib.SlBytesConst
set_option linter.unusedVariables false
namespace Go.Proofs.Ytiafeogjknilmaa.B
open Go.RowKit
theorem rd_magic (w : World) (g : Nat) (t : TypeId) (fr : Nat × Nat) (h : w.heap[g]? = some (.cells #[.int .u8 99, .int .u8 114, .int .u8 111, .int .u8 102, .int .u8 116, .int .u8 102, .int .u8 115, .int .u8 49] t fr)) : RdN w .u8 (some ⟨g, 0, none⟩) magicL :=
  ⟨by decide, fun _ => ⟨_, rfl, fun j hj => cell_lits (l := magicL) h j hj⟩⟩
set_option maxHeartbeats 4000000 in
theorem Enc_no (x0 x1 x2 x3 x4 x5 x6 x7 x8 : Int) (w : World) (h : ¬ (mayBe x0 x1 x2 ∧ layL x0 x1 x2 = [x0, x1, x2, x3, x4, x5, x6, x7, x8])) :
    Calls Try.prog 14 #[.agg #[.int .i64 x0, .int .i64 x1, .int .i64 x2, .int .i64 x3, .int .i64 x4, .int .i64 x5, .int .i64 x6, .int .i64 x7, .int .i64 x8]] w fun e w' => e = .returned (.tuple #[.agg (arrV 1024 .u8 zeroF), .int .i64 2]) ∧ Below w.heap.size w w' := by
  have HM := fun W => Sd.mk (made_no x0 x1 x2 x3 x4 x5 x6 x7 x8 W h)
  have hz := zero_Block
  clear h
  go_enter Try.func14, Try.ntmps14
  go_wp2_with (first | (go_at_call 22; refine (HM _).out.mono ?_; rintro e w' ⟨rfl, hd⟩; have A1 := Sd.mk (bblk (heap_alloc2_new w (.cells #[.int .i64 x0, .int .i64 x1, .int .i64 x2, .int .i64 x3, .int .i64 x4, .int .i64 x5, .int .i64 x6, .int .i64 x7, .int .i64 x8] 27) (.cells (arrV 1024 .u8 zeroF) 23)) hd); have HB := Sd.mk (bthen (b2 w (.cells #[.int .i64 x0, .int .i64 x1, .int .i64 x2, .int .i64 x3, .int .i64 x4, .int .i64 x5, .int .i64 x6, .int .i64 x7, .int .i64 x8] 27) (.cells (arrV 1024 .u8 zeroF) 23)) (by simp; omega) hd); clear hd hz) | (((with_reducible refine gbuild 23 rfl ?_ ?_); exact rfl); refine bld0 23 rfl rfl build_Block ?_; simp only [Act.put, List.setIfInBounds_toArray, List.set_cons_zero, List.set_cons_succ]) | (((with_reducible refine gstore 23 rfl ?_ ?_); exact rfl); refine st_arr 23 rfl rfl rfl size_Block rfl rfl A1.out ?_; intro w1 hw1 hgr; have n_A1 := Sd.mk hw1; have n_HB := Sd.mk (bgrow HB.out HB.out.size hgr (by omega)); clear A1 HB hw1 hgr; have A1 := n_A1; have HB := n_HB; clear n_A1 n_HB))
  refine bodyPost_ret (res_ct rfl _ _ rfl A1.out agg_Block size_Block (by first | exact arrV_size _ _ _ | rfl)) rfl ?_
  exact ⟨rfl, HB.out⟩
theorem size_int : (Try.prog.info? 3).map (·.size) = some 1 := by kernel_rfl
theorem u32_in {x : Int} (h0 : 0 ≤ x) (h1 : x < 4294967296) : IntKind.u32.wrap x = x := by rw [IntKind.wrap_u32]; omega
set_option maxHeartbeats 8000000 in
theorem Enc_yes (x0 x1 x2 x3 x4 x5 x6 x7 x8 : Int) (w : World) (h : mayBe x0 x1 x2) (he : layL x0 x1 x2 = [x0, x1, x2, x3, x4, x5, x6, x7, x8]) :
    Calls Try.prog 14 #[.agg #[.int .i64 x0, .int .i64 x1, .int .i64 x2, .int .i64 x3, .int .i64 x4, .int .i64 x5, .int .i64 x6, .int .i64 x7, .int .i64 x8]] w fun e w' => e = .returned (.tuple #[.agg (arrV 1024 .u8 (encF [x0, x1, x2, x3, x4, x5, x6, x7, x8])), .int .i64 0]) ∧ Below w.heap.size w w' := by
  have HM := fun W => Sd.mk (made_yes x0 x1 x2 x3 x4 x5 x6 x7 x8 W h he)
  have hz := zero_Block
  have hbd : ∀ y ∈ [x0, x1, x2, x3, x4, x5, x6, x7, x8], 0 ≤ y ∧ y < 4294967296 := by
    rw [← he]
    obtain ⟨h1, h2, h3, h4, h5, h6, h7⟩ := h
    unfold dataAtN at h7
    simp only [layL, dataAtN, List.mem_cons, List.not_mem_nil, or_false]
    rintro y (rfl | rfl | rfl | rfl | rfl | rfl | rfl | rfl | rfl) <;> omega
  have e0 : IntKind.u32.wrap x0 = x0 := u32_in (hbd x0 (by simp)).1 (hbd x0 (by simp)).2
  have e1 : IntKind.u32.wrap x1 = x1 := u32_in (hbd x1 (by simp)).1 (hbd x1 (by simp)).2
  have e2 : IntKind.u32.wrap x2 = x2 := u32_in (hbd x2 (by simp)).1 (hbd x2 (by simp)).2
  have e3 : IntKind.u32.wrap x3 = x3 := u32_in (hbd x3 (by simp)).1 (hbd x3 (by simp)).2
  have e4 : IntKind.u32.wrap x4 = x4 := u32_in (hbd x4 (by simp)).1 (hbd x4 (by simp)).2
  have e5 : IntKind.u32.wrap x5 = x5 := u32_in (hbd x5 (by simp)).1 (hbd x5 (by simp)).2
  have e6 : IntKind.u32.wrap x6 = x6 := u32_in (hbd x6 (by simp)).1 (hbd x6 (by simp)).2
  have e7 : IntKind.u32.wrap x7 = x7 := u32_in (hbd x7 (by simp)).1 (hbd x7 (by simp)).2
  have e8 : IntKind.u32.wrap x8 = x8 := u32_in (hbd x8 (by simp)).1 (hbd x8 (by simp)).2
  clear h he hbd
  have kc := fun (w : World) (C : Array Value) (n c : Nat) => Lib.run_convert_bytes_const (P := Try.prog) w 50 5 C n c Try.underlying50 Try.underlying5
  go_enter Try.func14, Try.ntmps14
  go_wp2_with (first | (go_at_call 22; refine (HM _).out.mono ?_; rintro e w1 ⟨rfl, hd⟩; have HC := Sd.mk (bblk (heap_alloc2_old w (.cells #[.int .i64 x0, .int .i64 x1, .int .i64 x2, .int .i64 x3, .int .i64 x4, .int .i64 x5, .int .i64 x6, .int .i64 x7, .int .i64 x8] 27) (.cells (arrV 1024 .u8 zeroF) 23)) hd); have A1 := Sd.mk (bblk (heap_alloc2_new w (.cells #[.int .i64 x0, .int .i64 x1, .int .i64 x2, .int .i64 x3, .int .i64 x4, .int .i64 x5, .int .i64 x6, .int .i64 x7, .int .i64 x8] 27) (.cells (arrV 1024 .u8 zeroF) 23)) hd); have HB := Sd.mk (bthen (b2 w (.cells #[.int .i64 x0, .int .i64 x1, .int .i64 x2, .int .i64 x3, .int .i64 x4, .int .i64 x5, .int .i64 x6, .int .i64 x7, .int .i64 x8] 27) (.cells (arrV 1024 .u8 zeroF) 23)) (by simp; omega) hd); clear hd)  | (go_at_call 23; refine (Lay _ _ _ _ magicL _ (by omega) (by omega) (rd_magic _ _ _ _ (heap_alloc_new _ _)) (by decide)).mono ?_; rintro e w2 ⟨rfl, hd⟩; have n_HC := Sd.mk (bblk (blk_alloc HC.out) hd); have n_A1 := Sd.mk (bblk (blk_alloc A1.out) hd); have n_HB := Sd.mk (bthen (ball HB.out _) (ball HB.out _).size hd); clear HC A1 HB hd; have HC := n_HC; have A1 := n_A1; have HB := n_HB; clear n_HC n_A1 n_HB; have HB2 := Sd.mk (lt_blk A1.out))  | (((with_reducible refine gload 27 rfl ?_ ?_); exact rfl); refine ld_row 27 rfl rfl size_Layout agg_Layout rfl (by first | exact HC.out | exact blk_alloc HC.out | exact heap_alloc_new _ _) rfl ?_; simp only [Act.put, List.setIfInBounds_toArray, List.set_cons_zero, List.set_cons_succ]) | (((with_reducible refine gbuild 23 rfl ?_ ?_); exact rfl); refine bld0 23 rfl rfl build_Block ?_; simp only [Act.put, List.setIfInBounds_toArray, List.set_cons_zero, List.set_cons_succ]) | (((with_reducible refine gstore 23 rfl ?_ ?_); exact rfl); refine st_arr 23 rfl rfl rfl size_Block rfl rfl (heap_alloc_new _ _) ?_; intro w1_ hw1 hgr; have n_HC := Sd.mk (pblk_new HC.out hgr); have n_A1 := Sd.mk (pblk_new A1.out hgr); have n_HB := Sd.mk (bgrow_new HB.out HB.out.size hgr); clear HC A1 HB hgr; have HC := n_HC; have A1 := n_A1; have HB := n_HB; clear n_HC n_A1 n_HB; have A2 := Sd.mk hw1; clear hw1; have c0 := (blk_cell HC.out 0).trans rfl; have c1 := (blk_cell HC.out 1).trans rfl; have c2 := (blk_cell HC.out 2).trans rfl) | (((with_reducible refine gload 3 rfl ?_ ?_); exact rfl); refine ld_in 3 rfl rfl Try.underlying3 rfl (by first | exact HC.out | exact blk_alloc HC.out | exact heap_alloc_new _ _ | exact blk_alloc (heap_alloc_new _ _) | exact blk_alloc (blk_alloc HC.out) | exact blk_alloc (blk_alloc (heap_alloc_new _ _))) rfl ?_; simp only [Act.put, List.setIfInBounds_toArray, List.set_cons_zero, List.set_cons_succ]))
  have hlt2 : w.heap.size + 1 < w2.heap.size := HB2.out
  replace A1 := Sd.mk (blk_alloc (blk_alloc A1.out (p := .cells #[.int .i64 x0, .int .i64 x1, .int .i64 x2] 25)) (p := .cells #[.int .i64 x0, .int .i64 x1, .int .i64 x2, .int .i64 x3, .int .i64 x4, .int .i64 x5, .int .i64 x6, .int .i64 x7, .int .i64 x8] 51))
  replace A2 := Sd.mk (blk_alloc (blk_alloc A2.out (p := .cells #[.int .i64 x0, .int .i64 x1, .int .i64 x2] 25)) (p := .cells #[.int .i64 x0, .int .i64 x1, .int .i64 x2, .int .i64 x3, .int .i64 x4, .int .i64 x5, .int .i64 x6, .int .i64 x7, .int .i64 x8] 51))
  replace HB := Sd.mk (ball (ball HB.out (.cells #[.int .i64 x0, .int .i64 x1, .int .i64 x2] 25)) (.cells #[.int .i64 x0, .int .i64 x1, .int .i64 x2, .int .i64 x3, .int .i64 x4, .int .i64 x5, .int .i64 x6, .int .i64 x7, .int .i64 x8] 51))
  clear HC c0 c1 c2 HM hz kc HB2
  generalize w2.heap.size = g2 at *
  go_loopw [39, 7, 8] (fun i _ _ wr => ∃ k : Nat, ∃ z : Int, k ≤ 9 ∧ z = k ∧ i = .int .i64 z ∧ Sd (wr.heap[w.heap.size+1]? = some (.cells (arrV 1024 .u8 zeroF) 23 (0,0))) ∧ Sd (wr.heap[g2]? = some (.cells (arrV 1024 .u8 (encP [x0, x1, x2, x3, x4, x5, x6, x7, x8] k)) 23 (0,0))) ∧ Sd (Below w.heap.size w wr)) (fun i _ _ _ => 9 - (intOf i).toNat)
  case atStart => exact ⟨0, 0, by omega, rfl, rfl, A1, A2, HB⟩
  case round =>
    clear A1 A2 HB
    obtain ⟨k, z, hk, hz, rfl, A1, A2, HB⟩ := hrel
    by_cases hlt : k < 9
    · have hv : (#[.int .i64 x0, .int .i64 x1, .int .i64 x2, .int .i64 x3, .int .i64 x4, .int .i64 x5, .int .i64 x6, .int .i64 x7, .int .i64 x8] : Array Value)[(z).toNat]? = some (.int .i64 ([x0, x1, x2, x3, x4, x5, x6, x7, x8].getD k 0)) := by
        subst hz
        have := nums_get .i64 [x0, x1, x2, x3, x4, x5, x6, x7, x8] k hlt
        simpa [nums] using this
      have HV := Sd.mk hv
      have hw : IntKind.u32.wrap ([x0, x1, x2, x3, x4, x5, x6, x7, x8].getD k 0) = [x0, x1, x2, x3, x4, x5, x6, x7, x8].getD k 0 := by
        have hc : k = 0 ∨ k = 1 ∨ k = 2 ∨ k = 3 ∨ k = 4 ∨ k = 5 ∨ k = 6 ∨ k = 7 ∨ k = 8 := by omega
        rcases hc with rfl | rfl | rfl | rfl | rfl | rfl | rfl | rfl | rfl <;> assumption
      have HN := Sd.mk (show encP [x0, x1, x2, x3, x4, x5, x6, x7, x8] (k + 1) = set32 (encP [x0, x1, x2, x3, x4, x5, x6, x7, x8] k) (8 + 4 * k) ([x0, x1, x2, x3, x4, x5, x6, x7, x8].getD k 0) from rfl)
      clear hv e0 e1 e2 e3 e4 e5 e6 e7 e8
      generalize [x0, x1, x2, x3, x4, x5, x6, x7, x8].getD k 0 = y at *
      generalize encP [x0, x1, x2, x3, x4, x5, x6, x7, x8] k = f at *
      have p1 : z < 9 := by omega
      have p2 : 0 ≤ z := by omega
      have m1 : IntKind.i64.wrap (4 * z) = 4 * z := IntWalk.i64_in _ (by omega)
      have m2 : IntKind.i64.wrap (8 + 4 * z) = 8 + 4 * z := IntWalk.i64_in _ (by omega)
      go_wp2_with (first | (go_at_call 24; refine (SetU32 _ _ _ _).mono ?_; rintro e w' ⟨rfl, hd⟩; have n_A1 := Sd.mk (bblk A1.out hd); have n_A2 := Sd.mk (bblk A2.out hd); have n_HB := Sd.mk (bthen HB.out HB.out.size hd); clear A1 A2 HB hd; have A1 := n_A1; have A2 := n_A2; have HB := n_HB; clear n_A1 n_A2 n_HB) | (((with_reducible refine gload 23 rfl ?_ ?_); exact rfl); refine ld_arr 23 rfl rfl size_Block agg_Block rfl A2.out ?_; simp only [Act.put, List.setIfInBounds_toArray, List.set_cons_zero, List.set_cons_succ]) | (((with_reducible refine gstore 23 rfl ?_ ?_); exact rfl); refine st_arr 23 rfl rfl rfl size_Block rfl rfl A2.out ?_; intro w1 hw1 hgr; have n_A2 := Sd.mk hw1; have n_A1 := Sd.mk (pblk A1.out hgr (by omega)); have n_HB := Sd.mk (bgrow HB.out HB.out.size hgr (by omega)); clear A2 A1 HB hw1 hgr; have A2 := n_A2; have A1 := n_A1; have HB := n_HB; clear n_A2 n_A1 n_HB) | (((with_reducible refine gindex 51 rfl ?_ ?_); exact rfl); refine idx_in 51 3 rfl rfl Try.underlying51 Try.underlying3 size_int rfl rfl (by omega) (by omega) HV.out ?_; simp only [Act.put, List.setIfInBounds_toArray, List.set_cons_zero, List.set_cons_succ]))
      go_roundw
      case rel => exact ⟨k + 1, z + 1, by omega, by omega, by go_num, A1, ⟨by rw [HN.out]; exact A2.out⟩, HB⟩
      case measure => simp [intOf]; omega
    · have HK := Sd.mk (show k = 9 by omega)
      obtain rfl : z = 9 := by omega
      replace A2 := Sd.mk (by have := A2.out; rw [HK.out] at this; exact this)
      go_wp2_with (first | (((with_reducible refine gload 23 rfl ?_ ?_); exact rfl); refine ld_arr 23 rfl rfl size_Block agg_Block rfl A2.out ?_; simp only [Act.put, List.setIfInBounds_toArray, List.set_cons_zero, List.set_cons_succ]) | (((with_reducible refine gstore 23 rfl ?_ ?_); exact rfl); refine st_arr 23 rfl rfl rfl size_Block rfl rfl A1.out ?_; intro w1 hw1 hgr; have n_A1 := Sd.mk hw1; have n_HB := Sd.mk (bgrow HB.out HB.out.size hgr (by omega)); clear A1 HB hw1 hgr; have A1 := n_A1; have HB := n_HB; clear n_A1 n_HB))
      refine bodyPost_ret (res_ct rfl _ _ rfl A1.out agg_Block size_Block (by first | exact arrV_size _ _ _ | rfl)) rfl ?_
      exact ⟨rfl, HB.out⟩
end Go.Proofs.Ytiafeogjknilmaa.B
