/- The walks of the program's numbers: what is read of a block and what is laid into it. -/
import Derived.Test.YtiafeogjknilmaaFacts
import Derived.Test.YtiafeogjknilmaaPlain
import Derived.Test.YtiafeogjknilmaaSmall
import Derived.Outline
set_option linter.unusedVariables false
namespace Go.Proofs.Ytiafeogjknilmaa.B
open Go.RowKit
set_option maxHeartbeats 2000000 in
theorem U32 (f : Nat → Int) (hf : Byt f) (at_ : Int) (w : World) :
    Calls Try.prog 21 #[.agg (arrV 1024 .u8 f), .int .i64 at_] w fun e w' => e = .returned (.int .u32 (u32 f at_)) ∧ Below w.heap.size w w' := by
  by_cases hin : 0 ≤ at_ ∧ at_ ≤ 1020
  · obtain ⟨h0, h1⟩ := hin
    have hr : u32 f at_ = f at_.toNat + 256 * (f (at_.toNat + 1) + 256 * (f (at_.toNat + 2) + 256 * f (at_.toNat + 3))) := by unfold u32; rw [if_pos ⟨h0, h1⟩]; simp only [num, Nat.add_assoc, Nat.reduceAdd]; omega
    rw [hr]; clear hr
    have hx := hf at_.toNat
    have hy := hf (at_.toNat + 1)
    have hz := hf (at_.toNat + 2)
    have ht := hf (at_.toNat + 3)
    go_enter Try.func21, Try.ntmps21
    go_wp2_with (first | (go_at_call 27; refine (inside_yes _ _ _ (by omega) (by omega) (by omega) (by omega)).mono ?_; rintro e w' ⟨rfl, hd⟩))
    have hblk : w'.heap[w.heap.size]? = some (.cells (arrV 1024 .u8 f) 23 (0,0)) := bblk (heap_alloc_new w _) hd
    have HB := Lib.hid (bthen (b1 w _) (by simp) hd)
    have c1 : w'.cell? ⟨w.heap.size, at_.toNat, none⟩ = some (.int .u8 (f at_.toNat)) := (blk_cell hblk _).trans (arrV_get _ _ _ _ (by omega))
    have c2 : w'.cell? ⟨w.heap.size, (at_+1).toNat, none⟩ = some (.int .u8 (f (at_.toNat + 1))) := (blk_cell hblk _).trans (by rw [show (at_ + 1).toNat = at_.toNat + 1 by omega]; exact arrV_get _ _ _ _ (by omega))
    have c3 : w'.cell? ⟨w.heap.size, (at_+2).toNat, none⟩ = some (.int .u8 (f (at_.toNat + 2))) := (blk_cell hblk _).trans (by rw [show (at_ + 2).toNat = at_.toNat + 2 by omega]; exact arrV_get _ _ _ _ (by omega))
    have c4 : w'.cell? ⟨w.heap.size, (at_+3).toNat, none⟩ = some (.int .u8 (f (at_.toNat + 3))) := (blk_cell hblk _).trans (by rw [show (at_ + 3).toNat = at_.toNat + 3 by omega]; exact arrV_get _ _ _ _ (by omega))
    have e1 : IntKind.i64.wrap (at_ + 1) = at_ + 1 := IntWalk.i64_in _ (by omega)
    have e2 : IntKind.i64.wrap (at_ + 2) = at_ + 2 := IntWalk.i64_in _ (by omega)
    have e3 : IntKind.i64.wrap (at_ + 3) = at_ + 3 := IntWalk.i64_in _ (by omega)
    clear hblk hd
    have p1 : 0 ≤ at_ + 1 := by omega
    have p2 : at_ + 1 < 1024 := by omega
    have p3 : at_ < 1024 := by omega
    have p4 : 0 ≤ at_ + 2 := by omega
    have p5 : at_ + 2 < 1024 := by omega
    have p6 : 0 ≤ at_ + 3 := by omega
    have p7 : at_ + 3 < 1024 := by omega
    generalize hX : f at_.toNat = x at *
    generalize hY : f (at_.toNat + 1) = y at *
    generalize hZ : f (at_.toNat + 2) = z at *
    generalize hT : f (at_.toNat + 3) = t at *
    have HX := Lib.hid hX
    have HY := Lib.hid hY
    have HZ := Lib.hid hZ
    have HT := Lib.hid hT
    clear hX hY hZ hT hf
    obtain ⟨hx0, hx1⟩ := hx
    obtain ⟨hy0, hy1⟩ := hy
    obtain ⟨hz0, hz1⟩ := hz
    obtain ⟨ht0, ht1⟩ := ht
    go_quiet (fail)
    go_wp2
    go_ret
    exact ⟨by rw [or32_4 x y z t ⟨hx0, hx1⟩ ⟨hy0, hy1⟩ ⟨hz0, hz1⟩ ⟨ht0, ht1⟩, HX.out, HY.out, HZ.out, HT.out]; rfl, bdrewN HB.out _⟩
  · have hr : u32 f at_ = 0 := by unfold u32; rw [if_neg hin]
    rw [hr]; clear hr
    go_enter Try.func21, Try.ntmps21
    go_wp2_with (first | (go_at_call 27; refine (inside_no _ _ _ (by omega) (by omega) (by omega)).mono ?_; rintro e w' ⟨rfl, hd⟩))
    go_ret
    exact ⟨rfl, bthen (b1 w _) (by simp) hd⟩
set_option maxHeartbeats 1000000 in
theorem SetU32 (f : Nat → Int) (at_ v : Int) (w : World) :
    Calls Try.prog 24 #[.agg (arrV 1024 .u8 f), .int .i64 at_, .int .u32 v] w fun e w' => e = .returned (.agg (arrV 1024 .u8 (set32 f at_ v))) ∧ Below w.heap.size w w' := by
  have hz := zero_Block
  by_cases hin : 0 ≤ at_ ∧ at_ ≤ 1020
  · obtain ⟨h0, h1⟩ := hin
    have hr : set32 f at_ v = layN f at_.toNat v 4 := by unfold set32; rw [if_pos ⟨h0, h1⟩]
    rw [hr]; clear hr
    go_enter Try.func24, Try.ntmps24
    go_wp2_with fail
    have A1 := Sd.mk (heap_alloc2_old w (.cells (arrV 1024 .u8 f) 23) (.cells (arrV 1024 .u8 zeroF) 23))
    have A2 := Sd.mk (heap_alloc2_new w (.cells (arrV 1024 .u8 f) 23) (.cells (arrV 1024 .u8 zeroF) 23))
    have HB := Sd.mk (b2 w (.cells (arrV 1024 .u8 f) 23) (.cells (arrV 1024 .u8 zeroF) 23))
    clear hz
    go_wp2_with (go_at_call 27; refine (inside_yes _ _ _ (by omega) (by omega) (by omega) (by omega)).mono ?_; rintro e w' ⟨rfl, hd⟩; have n_A1 := Sd.mk (bblk A1.out hd); have n_A2 := Sd.mk (bblk A2.out hd); have n_HB := Sd.mk (bthen HB.out HB.out.size hd); clear A1 A2 HB hd; have A1 := n_A1; have A2 := n_A2; have HB := n_HB; clear n_A1 n_A2 n_HB)
    go_loopw [10] (fun t wr => ∃ k : Nat, k ≤ 4 ∧ t = .int .i64 k ∧ Sd (wr.heap[w.heap.size]? = some (.cells (arrV 1024 .u8 (layN f at_.toNat v k)) 23 (0,0))) ∧ Sd (wr.heap[w.heap.size+1]? = some (.cells (arrV 1024 .u8 zeroF) 23 (0,0))) ∧ Sd (Below w.heap.size w wr)) (fun t _ => 4 - (intOf t).toNat)
    case atStart => exact ⟨0, by omega, rfl, ⟨by rw [layN_zero]; exact A1.out⟩, A2, HB⟩
    case round =>
      clear A1 A2 HB
      obtain ⟨k, hk, rfl, A1, A2, HB⟩ := hrel
      by_cases hlt : k < 4
      · have e0 : IntKind.i64.wrap (at_ + k) = at_ + k := IntWalk.i64_in _ (by omega)
        have HL := Lib.hid (layN_succ f at_.toNat v k)
        have p1 : 0 ≤ at_ + (k : Int) := by omega
        have p2 : at_ + (k : Int) < 1024 := by omega
        have P3 := Lib.hid (show (at_ + (k : Int)).toNat = at_.toNat + k by omega)
        go_wp2_with (((with_reducible refine gstore 5 rfl ?_ ?_); exact rfl); refine st_cell 5 rfl rfl rfl size_u8 rfl rfl A1.out (by omega) ?_; intro w1 hw1 hgr; have n_A1 := Sd.mk hw1; have n_A2 := Sd.mk (pblk A2.out hgr (by omega)); have n_HB := Sd.mk (bgrow HB.out HB.out.size hgr (by omega)); clear A1 A2 HB hw1 hgr; have A1 := n_A1; have A2 := n_A2; have HB := n_HB; clear n_A1 n_A2 n_HB)
        go_roundw
        case rel => exact ⟨k + 1, by omega, by go_num, ⟨by rw [HL.out, ← P3.out, show ((2 ^ (8 * k) : Nat) : Int) = (2 : Int) ^ (8 * k) by simp]; exact A1.out⟩, A2, HB⟩
        case measure => simp [intOf]; omega
      · obtain rfl : k = 4 := by omega
        go_wp2_with (first | (((with_reducible refine gload 23 rfl ?_ ?_); exact rfl); refine ld_arr 23 rfl rfl size_Block agg_Block rfl A1.out ?_; simp only [Act.put, List.setIfInBounds_toArray, List.set_cons_zero, List.set_cons_succ]) | (((with_reducible refine gstore 23 rfl ?_ ?_); exact rfl); refine st_arr 23 rfl rfl rfl size_Block rfl rfl A2.out ?_; intro w1 hw1 hgr; have n_A2 := Sd.mk hw1; have n_HB := Sd.mk (bgrow HB.out HB.out.size hgr (by omega)); clear A2 HB hw1 hgr; have A2 := n_A2; have HB := n_HB; clear n_A2 n_HB))
        refine bodyPost_ret (results_cell_row rfl _ _ _ 23 _ (0, 0) _ rfl A2.out Try.underlying23 rfl (by rw [arrV_size]; exact size_Block)) rfl ?_
        exact ⟨rfl, HB.out⟩
  · have hr : set32 f at_ v = f := by unfold set32; rw [if_neg hin]
    rw [hr]; clear hr
    go_enter Try.func24, Try.ntmps24
    go_wp2_with fail
    have A1 := Sd.mk (heap_alloc2_old w (.cells (arrV 1024 .u8 f) 23) (.cells (arrV 1024 .u8 zeroF) 23))
    have A2 := Sd.mk (heap_alloc2_new w (.cells (arrV 1024 .u8 f) 23) (.cells (arrV 1024 .u8 zeroF) 23))
    have HB := Sd.mk (b2 w (.cells (arrV 1024 .u8 f) 23) (.cells (arrV 1024 .u8 zeroF) 23))
    clear hz
    go_wp2_with (first | (go_at_call 27; refine (inside_no _ _ _ (by omega) (by omega) (by omega)).mono ?_; rintro e w' ⟨rfl, hd⟩; have n_A1 := Sd.mk (bblk A1.out hd); have n_A2 := Sd.mk (bblk A2.out hd); have n_HB := Sd.mk (bthen HB.out HB.out.size hd); clear A1 A2 HB hd; have A1 := n_A1; have A2 := n_A2; have HB := n_HB; clear n_A1 n_A2 n_HB) | (((with_reducible refine gload 23 rfl ?_ ?_); exact rfl); refine ld_arr 23 rfl rfl size_Block agg_Block rfl A1.out ?_; simp only [Act.put, List.setIfInBounds_toArray, List.set_cons_zero, List.set_cons_succ]) | (((with_reducible refine gstore 23 rfl ?_ ?_); exact rfl); refine st_arr 23 rfl rfl rfl size_Block rfl rfl A2.out ?_; intro w1 hw1 hgr; have n_A2 := Sd.mk hw1; have n_HB := Sd.mk (bgrow HB.out HB.out.size hgr (by omega)); clear A2 HB hw1 hgr; have A2 := n_A2; have HB := n_HB; clear n_A2 n_HB))
    refine bodyPost_ret (results_cell_row rfl _ _ _ 23 _ (0, 0) _ rfl A2.out Try.underlying23 rfl (by rw [arrV_size]; exact size_Block)) rfl ?_
    exact ⟨rfl, HB.out⟩
end Go.Proofs.Ytiafeogjknilmaa.B
