/- The walks of the program's numbers: what is read of a block and what is laid into it. -/
import Derived.Test.YtmmhdndglliflaaFacts
import Derived.Test.YtmmhdndglliflaaPlain
import Derived.Test.YtmmhdndglliflaaPSlabNumbersx1
import Derived.Outline
set_option linter.unusedVariables false
namespace Go.Proofs.Ytmmhdndglliflaa.B
open Go.RowKit Go.Proofs.YtmmhdndglliflaaW.PrintWords
open Go.Proofs.Ytmmhdndglliflaa.PSlabNumbers
theorem inside_yes (at_ n : Int) (w : World) (h : 0 ≤ at_) (hn : 0 ≤ n) (hn2 : n ≤ 8) (h2 : at_ ≤ 1024 - n) :
    Calls Try.prog 46 #[.int .i64 at_, .int .i64 n] w fun e w' => e = .returned (.bool true) ∧ Drawn0 w w' :=
  slab_inside.calls at_ n true w (by unfold slab_inside.f; rw [if_pos h]; simp; unfold wrap64; omega)
theorem inside_no (at_ n : Int) (w : World) (hn : 0 ≤ n) (hn2 : n ≤ 8) (h2 : ¬ (0 ≤ at_ ∧ at_ ≤ 1024 - n)) :
    Calls Try.prog 46 #[.int .i64 at_, .int .i64 n] w fun e w' => e = .returned (.bool false) ∧ Drawn0 w w' :=
  slab_inside.calls at_ n false w (by
    unfold slab_inside.f
    by_cases h : at_ ≥ 0
    · rw [if_pos h]; simp; unfold wrap64; omega
    · rw [if_neg h])
set_option maxHeartbeats 1000000 in
theorem U16 (f : Nat → Int) (hf : Byt f) (at_ : Int) (w : World) :
    Calls Try.prog 33 #[.agg (arrV 1024 .u8 f), .int .i64 at_] w fun e w' => e = .returned (.int .u16 (u16 f at_)) ∧ Below w.heap.size w w' := by
  by_cases hin : 0 ≤ at_ ∧ at_ ≤ 1022
  · obtain ⟨h0, h1⟩ := hin
    have hr : u16 f at_ = f at_.toNat + 256 * f (at_.toNat + 1) := by unfold u16; rw [if_pos ⟨h0, h1⟩]; simp only [num]; omega
    rw [hr]; clear hr
    have hx := hf at_.toNat
    have hy := hf (at_.toNat + 1)
    go_enter Try.func33, Try.ntmps33
    go_wp2_with (first | (go_at_call 46; refine (inside_yes _ _ _ (by omega) (by omega) (by omega) (by omega)).mono ?_; rintro e w' ⟨rfl, hd⟩))
    have hblk : w'.heap[w.heap.size]? = some (.cells (arrV 1024 .u8 f) 34 (0,0)) := bblk (heap_alloc_new w _) hd.below
    have HB := Lib.hid (bthen (b1 w _) (by simp) hd.below)
    have c1 : w'.cell? ⟨w.heap.size, at_.toNat, none⟩ = some (.int .u8 (f at_.toNat)) := (blk_cell hblk _).trans (arrV_get _ _ _ _ (by omega))
    have c2 : w'.cell? ⟨w.heap.size, (at_+1).toNat, none⟩ = some (.int .u8 (f (at_.toNat + 1))) := (blk_cell hblk _).trans (by rw [show (at_ + 1).toNat = at_.toNat + 1 by omega]; exact arrV_get _ _ _ _ (by omega))
    have e1 : IntKind.i64.wrap (at_ + 1) = at_ + 1 := IntWalk.i64_in _ (by omega)
    clear hblk hd
    have p1 : 0 ≤ at_ + 1 := by omega
    have p2 : at_ + 1 < 1024 := by omega
    have p3 : at_ < 1024 := by omega
    generalize hX : f at_.toNat = x at *
    generalize hY : f (at_.toNat + 1) = y at *
    have HX := Lib.hid hX
    have HY := Lib.hid hY
    clear hX hY hf
    obtain ⟨hx0, hx1⟩ := hx
    obtain ⟨hy0, hy1⟩ := hy
    go_quiet (fail)
    go_wp2
    go_ret
    exact ⟨by rw [or16 x y hx0 hx1 hy0 hy1, HX.out, HY.out]; rfl, bdrewN HB.out _⟩
  · have hr : u16 f at_ = 0 := by unfold u16; rw [if_neg hin]
    rw [hr]; clear hr
    go_enter Try.func33, Try.ntmps33
    go_wp2_with (first | (go_at_call 46; refine (inside_no _ _ _ (by omega) (by omega) (by omega)).mono ?_; rintro e w' ⟨rfl, hd⟩))
    go_ret
    exact ⟨rfl, bthen (b1 w _) (by simp) hd.below⟩
set_option maxHeartbeats 2000000 in
theorem U32 (f : Nat → Int) (hf : Byt f) (at_ : Int) (w : World) :
    Calls Try.prog 35 #[.agg (arrV 1024 .u8 f), .int .i64 at_] w fun e w' => e = .returned (.int .u32 (u32 f at_)) ∧ Below w.heap.size w w' := by
  by_cases hin : 0 ≤ at_ ∧ at_ ≤ 1020
  · obtain ⟨h0, h1⟩ := hin
    have hr : u32 f at_ = f at_.toNat + 256 * (f (at_.toNat + 1) + 256 * (f (at_.toNat + 2) + 256 * f (at_.toNat + 3))) := by unfold u32; rw [if_pos ⟨h0, h1⟩]; simp only [num, Nat.add_assoc, Nat.reduceAdd]; omega
    rw [hr]; clear hr
    have hx := hf at_.toNat
    have hy := hf (at_.toNat + 1)
    have hz := hf (at_.toNat + 2)
    have ht := hf (at_.toNat + 3)
    go_enter Try.func35, Try.ntmps35
    go_wp2_with (first | (go_at_call 46; refine (inside_yes _ _ _ (by omega) (by omega) (by omega) (by omega)).mono ?_; rintro e w' ⟨rfl, hd⟩))
    have hblk : w'.heap[w.heap.size]? = some (.cells (arrV 1024 .u8 f) 34 (0,0)) := bblk (heap_alloc_new w _) hd.below
    have HB := Lib.hid (bthen (b1 w _) (by simp) hd.below)
    have c1 : w'.cell? ⟨w.heap.size, at_.toNat, none⟩ = some (.int .u8 (f at_.toNat)) := (blk_cell hblk _).trans (arrV_get _ _ _ _ (by omega))
    have c2 : w'.cell? ⟨w.heap.size, (at_+1).toNat, none⟩ = some (.int .u8 (f (at_.toNat + 1))) := (blk_cell hblk _).trans (by rw [show (at_ + 1).toNat = at_.toNat + 1 by omega]; exact arrV_get _ _ _ _ (by omega))
    have c3 : w'.cell? ⟨w.heap.size, (at_+2).toNat, none⟩ = some (.int .u8 (f (at_.toNat + 2))) := (blk_cell hblk _).trans (by rw [show (at_ + 2).toNat = at_.toNat + 2 by omega]; exact arrV_get _ _ _ _ (by omega))
    have c4 : w'.cell? ⟨w.heap.size, (at_+3).toNat, none⟩ = some (.int .u8 (f (at_.toNat + 3))) := (blk_cell hblk _).trans (by rw [show (at_ + 3).toNat = at_.toNat + 3 by omega]; exact arrV_get _ _ _ _ (by omega))
    have e1 : IntKind.i64.wrap (at_ + 1) = at_ + 1 := IntWalk.i64_in _ (by omega)
    have e2 : IntKind.i64.wrap (at_ + 2) = at_ + 2 := IntWalk.i64_in _ (by omega)
    have e3 : IntKind.i64.wrap (at_ + 3) = at_ + 3 := IntWalk.i64_in _ (by omega)
    clear hblk hd
    have p1 : 0 ≤ at_ + 1 := by omega
    have p2 : at_ + 1 < 1024 := by omega
    have p3 : at_ < 1024 := by omega
    have p4 : 0 ≤ at_ + 2 := by omega
    have p5 : at_ + 2 < 1024 := by omega
    have p6 : 0 ≤ at_ + 3 := by omega
    have p7 : at_ + 3 < 1024 := by omega
    generalize hX : f at_.toNat = x at *
    generalize hY : f (at_.toNat + 1) = y at *
    generalize hZ : f (at_.toNat + 2) = z at *
    generalize hT : f (at_.toNat + 3) = t at *
    have HX := Lib.hid hX
    have HY := Lib.hid hY
    have HZ := Lib.hid hZ
    have HT := Lib.hid hT
    clear hX hY hZ hT hf
    obtain ⟨hx0, hx1⟩ := hx
    obtain ⟨hy0, hy1⟩ := hy
    obtain ⟨hz0, hz1⟩ := hz
    obtain ⟨ht0, ht1⟩ := ht
    go_quiet (fail)
    go_wp2
    go_ret
    exact ⟨by rw [or32_4 x y z t ⟨hx0, hx1⟩ ⟨hy0, hy1⟩ ⟨hz0, hz1⟩ ⟨ht0, ht1⟩, HX.out, HY.out, HZ.out, HT.out]; rfl, bdrewN HB.out _⟩
  · have hr : u32 f at_ = 0 := by unfold u32; rw [if_neg hin]
    rw [hr]; clear hr
    go_enter Try.func35, Try.ntmps35
    go_wp2_with (first | (go_at_call 46; refine (inside_no _ _ _ (by omega) (by omega) (by omega)).mono ?_; rintro e w' ⟨rfl, hd⟩))
    go_ret
    exact ⟨rfl, bthen (b1 w _) (by simp) hd.below⟩
set_option maxHeartbeats 1000000 in
theorem SetU16 (f : Nat → Int) (at_ v : Int) (w : World) (hv0 : 0 ≤ v) (hv1 : v < 65536) :
    Calls Try.prog 37 #[.agg (arrV 1024 .u8 f), .int .i64 at_, .int .u16 v] w fun e w' => e = .returned (.agg (arrV 1024 .u8 (set16 f at_ v))) ∧ Below w.heap.size w w' := by
  have hz := zero_Block
  by_cases hin : 0 ≤ at_ ∧ at_ ≤ 1022
  · obtain ⟨h0, h1⟩ := hin
    have hr : set16 f at_ v = upd (upd f at_.toNat (v % 256)) (at_ + 1).toNat (v / 256) := by
      unfold set16; rw [if_pos ⟨h0, h1⟩, layN_succ, layN_succ, layN_zero, show (at_ + 1).toNat = at_.toNat + 1 by omega, show v / 256 = v / (2 ^ (8 * 1) : Nat) % 256 by simp; omega]
      simp
    rw [hr]; clear hr
    go_enter Try.func37, Try.ntmps37
    go_wp2_with (first | (go_at_call 46; refine (inside_yes _ _ _ (by omega) (by omega) (by omega) (by omega)).mono ?_; rintro e w' ⟨rfl, hd⟩;  have A1 := Aside0.mk (bblk (heap_alloc2_old w (.cells (arrV 1024 .u8 f) 34) (.cells (arrV 1024 .u8 zeroF) 34)) hd.below);  have A2 := Aside0.mk (bblk (heap_alloc2_new w (.cells (arrV 1024 .u8 f) 34) (.cells (arrV 1024 .u8 zeroF) 34)) hd.below);  have HB := Aside0.mk (bthen (b2 w _ _) (by simp; omega) hd.below); clear hd; clear hz) | (refine st_cell 5 rfl rfl rfl size_u8 rfl rfl A1.out (by omega) ?_; intro w1 hw1 hgr; have B1 := Aside0.mk hw1; have B2 := Aside0.mk (pblk A2.out hgr (by omega)); have C1 := Aside0.mk (bgrow HB.out HB.out.size hgr (by omega)); clear hw1 hgr; clear A1 A2 HB; have A1 := B1; have A2 := B2; have HB := C1; clear B1 B2 C1)  | refine ld_arr 34 rfl rfl size_Block agg_Block rfl A1.out (?_ : wpList _ _ _ _ _ _) | (refine st_arr 34 rfl rfl rfl size_Block rfl rfl A2.out ?_; intro w1 hw1 hgr; have B2 := Aside0.mk hw1; have C1 := Aside0.mk (bgrow HB.out HB.out.size hgr (by omega)); clear hw1 hgr; clear A2 HB))
    refine bodyPost_ret (results_cell_row rfl _ _ (w.heap.size+1) 34 _ (0, 0) _ rfl B2.out Try.underlying34 rfl (by rw [arrV_size]; exact size_Block)) rfl ?_
    exact ⟨rfl, C1.out⟩
  · have hr : set16 f at_ v = f := by unfold set16; rw [if_neg hin]
    rw [hr]; clear hr
    go_enter Try.func37, Try.ntmps37
    go_wp2_with (first | (go_at_call 46; refine (inside_no _ _ _ (by omega) (by omega) (by omega)).mono ?_; rintro e w' ⟨rfl, hd⟩;  have A1 := Aside0.mk (bblk (heap_alloc2_old w (.cells (arrV 1024 .u8 f) 34) (.cells (arrV 1024 .u8 zeroF) 34)) hd.below);  have A2 := Aside0.mk (bblk (heap_alloc2_new w (.cells (arrV 1024 .u8 f) 34) (.cells (arrV 1024 .u8 zeroF) 34)) hd.below);  have HB := Aside0.mk (bthen (b2 w _ _) (by simp; omega) hd.below); clear hd; clear hz)  | refine ld_arr 34 rfl rfl size_Block agg_Block rfl A1.out (?_ : wpList _ _ _ _ _ _) | (refine st_arr 34 rfl rfl rfl size_Block rfl rfl A2.out ?_; intro w1 hw1 hgr; have B2 := Aside0.mk hw1; have C1 := Aside0.mk (bgrow HB.out HB.out.size hgr (by omega)); clear hw1 hgr; clear A2 HB))
    refine bodyPost_ret (results_cell_row rfl _ _ (w.heap.size+1) 34 _ (0, 0) _ rfl B2.out Try.underlying34 rfl (by rw [arrV_size]; exact size_Block)) rfl ?_
    exact ⟨rfl, C1.out⟩
set_option maxHeartbeats 1000000 in
theorem SetU32 (f : Nat → Int) (at_ v : Int) (w : World) :
    Calls Try.prog 39 #[.agg (arrV 1024 .u8 f), .int .i64 at_, .int .u32 v] w fun e w' => e = .returned (.agg (arrV 1024 .u8 (set32 f at_ v))) ∧ Below w.heap.size w w' := by
  have hz := zero_Block
  by_cases hin : 0 ≤ at_ ∧ at_ ≤ 1020
  · obtain ⟨h0, h1⟩ := hin
    have hr : set32 f at_ v = layN f at_.toNat v 4 := by unfold set32; rw [if_pos ⟨h0, h1⟩]
    rw [hr]; clear hr
    go_enter Try.func39, Try.ntmps39
    go_wp2_with fail
    have A1 := Aside0.mk (heap_alloc2_old w (.cells (arrV 1024 .u8 f) 34) (.cells (arrV 1024 .u8 zeroF) 34))
    have A2 := Aside0.mk (heap_alloc2_new w (.cells (arrV 1024 .u8 f) 34) (.cells (arrV 1024 .u8 zeroF) 34))
    have HB := Aside0.mk (b2 w (.cells (arrV 1024 .u8 f) 34) (.cells (arrV 1024 .u8 zeroF) 34))
    clear hz
    go_wp2_with (go_at_call 46; refine (inside_yes _ _ _ (by omega) (by omega) (by omega) (by omega)).mono ?_; rintro e w' ⟨rfl, hd⟩; replace hd := hd.below; have n_A1 := Aside0.mk (bblk A1.out hd); have n_A2 := Aside0.mk (bblk A2.out hd); have n_HB := Aside0.mk (bthen HB.out HB.out.size hd); clear A1 A2 HB hd; have A1 := n_A1; have A2 := n_A2; have HB := n_HB; clear n_A1 n_A2 n_HB)
    go_loopw [10] (fun t wr => ∃ k : Nat, k ≤ 4 ∧ t = .int .i64 k ∧ Aside0 (wr.heap[w.heap.size]? = some (.cells (arrV 1024 .u8 (layN f at_.toNat v k)) 34 (0,0))) ∧ Aside0 (wr.heap[w.heap.size+1]? = some (.cells (arrV 1024 .u8 zeroF) 34 (0,0))) ∧ Aside0 (Below w.heap.size w wr)) (fun t _ => 4 - (intOf t).toNat)
    case atStart => exact ⟨0, by omega, rfl, ⟨by rw [layN_zero]; exact A1.out⟩, A2, HB⟩
    case round =>
      clear A1 A2 HB
      obtain ⟨k, hk, rfl, A1, A2, HB⟩ := hrel
      by_cases hlt : k < 4
      · have e0 : IntKind.i64.wrap (at_ + k) = at_ + k := IntWalk.i64_in _ (by omega)
        have HL := Lib.hid (layN_succ f at_.toNat v k)
        have p1 : 0 ≤ at_ + (k : Int) := by omega
        have p2 : at_ + (k : Int) < 1024 := by omega
        have P3 := Lib.hid (show (at_ + (k : Int)).toNat = at_.toNat + k by omega)
        go_wp2_with (refine st_cell 5 rfl rfl rfl size_u8 rfl rfl A1.out (by omega) ?_; intro w1 hw1 hgr; have n_A1 := Aside0.mk hw1; have n_A2 := Aside0.mk (pblk A2.out hgr (by omega)); have n_HB := Aside0.mk (bgrow HB.out HB.out.size hgr (by omega)); clear A1 A2 HB hw1 hgr; have A1 := n_A1; have A2 := n_A2; have HB := n_HB; clear n_A1 n_A2 n_HB)
        go_roundw
        case rel => exact ⟨k + 1, by omega, by go_num, ⟨by rw [HL.out, ← P3.out, show ((2 ^ (8 * k) : Nat) : Int) = (2 : Int) ^ (8 * k) by simp]; exact A1.out⟩, A2, HB⟩
        case measure => simp [intOf]; omega
      · obtain rfl : k = 4 := by omega
        go_wp2_with (first | refine ld_arr 34 rfl rfl size_Block agg_Block rfl A1.out (?_ : wpList _ _ _ _ _ _) | (refine st_arr 34 rfl rfl rfl size_Block rfl rfl A2.out ?_; intro w1 hw1 hgr; have n_A2 := Aside0.mk hw1; have n_HB := Aside0.mk (bgrow HB.out HB.out.size hgr (by omega)); clear A2 HB hw1 hgr; have A2 := n_A2; have HB := n_HB; clear n_A2 n_HB))
        refine bodyPost_ret (results_cell_row rfl _ _ _ 34 _ (0, 0) _ rfl A2.out Try.underlying34 rfl (by rw [arrV_size]; exact size_Block)) rfl ?_
        exact ⟨rfl, HB.out⟩
  · have hr : set32 f at_ v = f := by unfold set32; rw [if_neg hin]
    rw [hr]; clear hr
    go_enter Try.func39, Try.ntmps39
    go_wp2_with fail
    have A1 := Aside0.mk (heap_alloc2_old w (.cells (arrV 1024 .u8 f) 34) (.cells (arrV 1024 .u8 zeroF) 34))
    have A2 := Aside0.mk (heap_alloc2_new w (.cells (arrV 1024 .u8 f) 34) (.cells (arrV 1024 .u8 zeroF) 34))
    have HB := Aside0.mk (b2 w (.cells (arrV 1024 .u8 f) 34) (.cells (arrV 1024 .u8 zeroF) 34))
    clear hz
    go_wp2_with (first | (go_at_call 46; refine (inside_no _ _ _ (by omega) (by omega) (by omega)).mono ?_; rintro e w' ⟨rfl, hd⟩; replace hd := hd.below; have n_A1 := Aside0.mk (bblk A1.out hd); have n_A2 := Aside0.mk (bblk A2.out hd); have n_HB := Aside0.mk (bthen HB.out HB.out.size hd); clear A1 A2 HB hd; have A1 := n_A1; have A2 := n_A2; have HB := n_HB; clear n_A1 n_A2 n_HB) | refine ld_arr 34 rfl rfl size_Block agg_Block rfl A1.out (?_ : wpList _ _ _ _ _ _) | (refine st_arr 34 rfl rfl rfl size_Block rfl rfl A2.out ?_; intro w1 hw1 hgr; have n_A2 := Aside0.mk hw1; have n_HB := Aside0.mk (bgrow HB.out HB.out.size hgr (by omega)); clear A2 HB hw1 hgr; have A2 := n_A2; have HB := n_HB; clear n_A2 n_HB))
    refine bodyPost_ret (results_cell_row rfl _ _ _ 34 _ (0, 0) _ rfl A2.out Try.underlying34 rfl (by rw [arrV_size]; exact size_Block)) rfl ?_
    exact ⟨rfl, HB.out⟩
end Go.Proofs.Ytmmhdndglliflaa.B
