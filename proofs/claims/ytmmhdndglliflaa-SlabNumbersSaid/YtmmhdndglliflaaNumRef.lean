/- The walks of the reference's numbers: what is read of a block and what is laid into it. -/
import Derived.Test.YtmmhdndglliflaaNum
import Derived.Deep.RegionWith
set_option linter.unusedVariables false
namespace Go.Proofs.Ytmmhdndglliflaa.B
open Go.RowKit Go.Proofs.YtmmhdndglliflaaW.PrintWords
open Go.Proofs.Ytmmhdndglliflaa.PSlabNumbers
theorem rinside_yes (at_ : Int) (w : World) (h : 0 ≤ at_) (h2 : at_ < 1024) :
    Calls Try.prog 50 #[.int .i64 at_] w fun e w' => e = .returned (.bool true) ∧ Drawn0 w w' :=
  undercroftref01_inside.calls at_ true w (by unfold undercroftref01_inside.f; rw [if_pos h]; simp; omega)
theorem rinside_no (at_ : Int) (w : World) (h2 : ¬ (0 ≤ at_ ∧ at_ < 1024)) :
    Calls Try.prog 50 #[.int .i64 at_] w fun e w' => e = .returned (.bool false) ∧ Drawn0 w w' :=
  undercroftref01_inside.calls at_ false w (by
    unfold undercroftref01_inside.f
    by_cases h : at_ ≥ 0
    · rw [if_pos h]; simp; omega
    · rw [if_neg h])
/-- What a number of two or four bytes is. -/
def rnum (f : Nat → Int) (at_ : Int) (n : Nat) : Int := if 0 ≤ at_ ∧ at_ ≤ 1024 - n then num f at_.toNat n else 0
theorem rnum_16 (f at_) : rnum f at_ 2 = u16 f at_ := rfl
theorem rnum_32 (f at_) : rnum f at_ 4 = u32 f at_ := rfl
set_option maxHeartbeats 1000000 in
theorem number_yes (f : Nat → Int) (hf : Byt f) (at_ : Int) (n : Nat) (hn : 2 ≤ n) (hn4 : n ≤ 4) (w : World) (h0 : 0 ≤ at_) (h1 : at_ ≤ 1024 - n) :
    Calls Try.prog 47 #[.agg (arrV 1024 .u8 f), .int .i64 at_, .int .i64 n] w fun e w' => e = .returned (.int .u32 (num f at_.toNat n)) ∧ Below w.heap.size w w' := by
  have HF := Lib.hid hf
  clear hf
  go_enter Try.func47, Try.ntmps47
  go_wp2_with fail
  have A1 := Aside0.mk (heap_alloc_new w (.cells (arrV 1024 .u8 f) 34))
  have HB := Aside0.mk (b1 w (.cells (arrV 1024 .u8 f) 34))
  go_wp2_with (go_at_call 50; refine (rinside_yes _ _ (by omega) (by omega)).mono ?_; rintro e w' ⟨rfl, hd⟩; replace hd := hd.below; have n_A1 := Aside0.mk (bblk A1.out hd); have n_HB := Aside0.mk (bthen HB.out HB.out.size hd); clear A1 HB hd; have A1 := n_A1; have HB := n_HB; clear n_A1 n_HB)
  go_loop [7, 8] (fun x i => ∃ j : Nat, j ≤ n ∧ i = .int .i64 ((j : Int) - 1) ∧ x = .int .u32 (num f (at_.toNat + j) (n - j))) (fun _ i => (intOf i + 1).toNat)
  case atStart => exact ⟨n, Nat.le_refl _, rfl, by rw [Nat.sub_self]; rfl⟩
  case round =>
    obtain ⟨j, hj, rfl, rfl⟩ := hrel
    by_cases hlt : 1 ≤ j
    · have e0 : IntKind.i64.wrap (at_ + ((j : Int) - 1)) = at_ + ((j : Int) - 1) := IntWalk.i64_in _ (by omega)
      have hb1 := num_lt HF.out (n - j) (at_.toNat + j) 3 (by omega)
      have hb2 := HF.out (at_.toNat + (j - 1))
      have hs : num f (at_.toNat + j) (n - j) * 256 + f (at_.toNat + (j - 1)) = num f (at_.toNat + (j - 1)) (n - (j - 1)) := by
        rw [show n - (j - 1) = (n - j) + 1 by omega, num, show at_.toNat + (j - 1) + 1 = at_.toNat + j by omega]; omega
      have HS := Lib.hid hs
      clear hs
      have hi : (at_ + ((j : Int) - 1)).toNat = at_.toNat + (j - 1) := by omega
      have c1 : w'.cell? ⟨w.heap.size, (at_ + ((j : Int) - 1)).toNat, none⟩ = some (.int .u8 (f (at_.toNat + (j - 1)))) := by rw [hi]; exact (blk_cell A1.out _).trans (arrV_get _ _ _ _ (by omega))
      clear hi
      generalize f (at_.toNat + (j - 1)) = y at *
      generalize num f (at_.toNat + j) (n - j) = z at *
      obtain ⟨a1, a2⟩ := hb1
      obtain ⟨a3, a4⟩ := hb2
      have p1 : 0 ≤ at_ + ((j : Int) - 1) := by omega
      have p2 : at_ + ((j : Int) - 1) < 1024 := by omega
      have p3 : 0 ≤ (j : Int) - 1 := by omega
      go_wp2
      go_round
      case rel => exact ⟨j - 1, by omega, by go_num, by rw [← HS.out]⟩
      case measure => simp [intOf]; omega
    · obtain rfl : j = 0 := by omega
      go_wp2
      go_ret
      exact ⟨rfl, HB.out⟩
set_option maxHeartbeats 1000000 in
theorem number_no (f : Nat → Int) (at_ : Int) (n : Nat) (hn : 2 ≤ n) (hn4 : n ≤ 4) (w : World) (hin : ¬ (0 ≤ at_ ∧ at_ ≤ 1024 - n)) :
    Calls Try.prog 47 #[.agg (arrV 1024 .u8 f), .int .i64 at_, .int .i64 n] w fun e w' => e = .returned (.int .u32 0) ∧ Below w.heap.size w w' := by
  by_cases h0 : 0 ≤ at_ ∧ at_ < 1024
  · go_enter Try.func47, Try.ntmps47
    go_wp2_with fail
    have A1 := Aside0.mk (heap_alloc_new w (.cells (arrV 1024 .u8 f) 34))
    have HB := Aside0.mk (b1 w (.cells (arrV 1024 .u8 f) 34))
    go_wp2_with (first | (go_at_call_of 50 (at_); refine (rinside_yes _ _ (by omega) (by omega)).mono ?_; rintro e w' ⟨rfl, hd⟩; replace hd := hd.below; have n_A1 := Aside0.mk (bblk A1.out hd); have n_HB := Aside0.mk (bthen HB.out HB.out.size hd); clear A1 HB hd; have A1 := n_A1; have HB := n_HB; clear n_A1 n_HB) | (go_at_call 50; refine (rinside_no _ _ (by omega)).mono ?_; rintro e w' ⟨rfl, hd⟩; replace hd := hd.below; have n_A1 := Aside0.mk (bblk A1.out hd); have n_HB := Aside0.mk (bthen HB.out HB.out.size hd); clear A1 HB hd; have A1 := n_A1; have HB := n_HB; clear n_A1 n_HB))
    go_ret
    exact ⟨rfl, HB.out⟩
  · go_enter Try.func47, Try.ntmps47
    go_wp2_with fail
    have A1 := Aside0.mk (heap_alloc_new w (.cells (arrV 1024 .u8 f) 34))
    have HB := Aside0.mk (b1 w (.cells (arrV 1024 .u8 f) 34))
    go_wp2_with (go_at_call 50; refine (rinside_no _ _ (by omega)).mono ?_; rintro e w' ⟨rfl, hd⟩; replace hd := hd.below; have n_A1 := Aside0.mk (bblk A1.out hd); have n_HB := Aside0.mk (bthen HB.out HB.out.size hd); clear A1 HB hd; have A1 := n_A1; have HB := n_HB; clear n_A1 n_HB)
    go_ret
    exact ⟨rfl, HB.out⟩
theorem number_any (f : Nat → Int) (hf : Byt f) (at_ : Int) (n : Nat) (hn : 2 ≤ n) (hn4 : n ≤ 4) (w : World) :
    Calls Try.prog 47 #[.agg (arrV 1024 .u8 f), .int .i64 at_, .int .i64 n] w fun e w' => e = .returned (.int .u32 (rnum f at_ n)) ∧ Below w.heap.size w w' := by
  unfold rnum
  by_cases h : 0 ≤ at_ ∧ at_ ≤ 1024 - n
  · rw [if_pos h]; exact number_yes f hf at_ n hn hn4 w h.1 h.2
  · rw [if_neg h]; exact number_no f at_ n hn hn4 w h
theorem u16_bd {f} (hf : Byt f) (at_ : Int) : 0 ≤ u16 f at_ ∧ u16 f at_ < 65536 := by
  unfold u16; split
  · exact num_lt hf 2 _ 2 (by omega)
  · omega
theorem u32_bd {f} (hf : Byt f) (at_ : Int) : 0 ≤ u32 f at_ ∧ u32 f at_ < 4294967296 := by
  unfold u32; split
  · exact num_lt hf 4 _ 4 (by omega)
  · omega
set_option maxHeartbeats 1000000 in
theorem rU16 (f : Nat → Int) (hf : Byt f) (at_ : Int) (w : World) :
    Calls Try.prog 34 #[.agg (arrV 1024 .u8 f), .int .i64 at_] w fun e w' => e = .returned (.int .u16 (u16 f at_)) ∧ Below w.heap.size w w' := by
  obtain ⟨hb0, hb1⟩ := u16_bd hf at_
  have hc := fun W => Lib.hid (rnum_16 f at_ ▸ number_any f hf at_ 2 (by omega) (by omega) W)
  clear hf
  generalize u16 f at_ = x at *
  go_enter Try.func34, Try.ntmps34
  go_wp2_with (refine ld_arr 34 rfl rfl size_Block agg_Block rfl (Aside0.mk (heap_alloc_new w _)).out (?_ : wpList _ _ _ _ _ _))
  refine ((hc _).out).mono ?_
  rintro e w' ⟨rfl, hd⟩
  go_wp2
  go_ret
  exact ⟨rfl, bthen (b1 w _) (by simp) hd⟩
set_option maxHeartbeats 1000000 in
theorem rU32 (f : Nat → Int) (hf : Byt f) (at_ : Int) (w : World) :
    Calls Try.prog 36 #[.agg (arrV 1024 .u8 f), .int .i64 at_] w fun e w' => e = .returned (.int .u32 (u32 f at_)) ∧ Below w.heap.size w w' := by
  have hc := fun W => Lib.hid (rnum_32 f at_ ▸ number_any f hf at_ 4 (by omega) (by omega) W)
  clear hf
  go_enter Try.func36, Try.ntmps36
  go_wp2_with (refine ld_arr 34 rfl rfl size_Block agg_Block rfl (Aside0.mk (heap_alloc_new w _)).out (?_ : wpList _ _ _ _ _ _))
  refine ((hc _).out).mono ?_
  rintro e w' ⟨rfl, hd⟩
  go_wp2
  go_ret
  exact ⟨rfl, bthen (b1 w _) (by simp) hd⟩
/-- What laying a number of two or four bytes leaves. -/
def rset (f : Nat → Int) (at_ : Int) (n : Nat) (v : Int) : Nat → Int := if 0 ≤ at_ ∧ at_ ≤ 1024 - n then layN f at_.toNat v n else f
theorem shift_more (v : Int) (k : Nat) : v / ((2 ^ (8 * k) : Nat) : Int) / 256 = v / ((2 ^ (8 * (k + 1)) : Nat) : Int) := by
  rw [Int.ediv_ediv_of_nonneg (Int.natCast_nonneg _), Nat.mul_succ, Nat.pow_add, Int.natCast_mul]
  rfl
set_option maxHeartbeats 1000000 in
theorem set_yes (f : Nat → Int) (at_ : Int) (n : Nat) (v : Int) (hn : 2 ≤ n) (hn4 : n ≤ 4) (hv0 : 0 ≤ v) (hv1 : v < 4294967296) (w : World) (h0 : 0 ≤ at_) (h1 : at_ ≤ 1024 - n) :
    Calls Try.prog 48 #[.agg (arrV 1024 .u8 f), .int .i64 at_, .int .i64 n, .int .u32 v] w fun e w' => e = .returned (.agg (arrV 1024 .u8 (layN f at_.toNat v n))) ∧ Below w.heap.size w w' := by
  have hz := zero_Block
  go_enter Try.func48, Try.ntmps48
  go_wp2_with fail
  have A1 := Aside0.mk (heap_alloc2_old w (.cells (arrV 1024 .u8 f) 34) (.cells (arrV 1024 .u8 zeroF) 34))
  have A2 := Aside0.mk (heap_alloc2_new w (.cells (arrV 1024 .u8 f) 34) (.cells (arrV 1024 .u8 zeroF) 34))
  have HB := Aside0.mk (b2 w (.cells (arrV 1024 .u8 f) 34) (.cells (arrV 1024 .u8 zeroF) 34))
  clear hz
  go_wp2_with (go_at_call 50; refine (rinside_yes _ _ (by omega) (by omega)).mono ?_; rintro e w' ⟨rfl, hd⟩; replace hd := hd.below; have n_A1 := Aside0.mk (bblk A1.out hd); have n_A2 := Aside0.mk (bblk A2.out hd); have n_HB := Aside0.mk (bthen HB.out HB.out.size hd); clear A1 A2 HB hd; have A1 := n_A1; have A2 := n_A2; have HB := n_HB; clear n_A1 n_A2 n_HB)
  go_loopw [3, 9] (fun x i wr => ∃ j : Nat, j ≤ n ∧ i = .int .i64 j ∧ x = .int .u32 (v / ((2 ^ (8 * j) : Nat) : Int)) ∧ Aside0 (wr.heap[w.heap.size]? = some (.cells (arrV 1024 .u8 (layN f at_.toNat v j)) 34 (0,0))) ∧ Aside0 (wr.heap[w.heap.size+1]? = some (.cells (arrV 1024 .u8 zeroF) 34 (0,0))) ∧ Aside0 (Below w.heap.size w wr)) (fun _ i _ => n - (intOf i).toNat)
  case atStart => exact ⟨0, by omega, rfl, by simp, ⟨by rw [layN_zero]; exact A1.out⟩, A2, HB⟩
  case round =>
    clear A1 A2 HB
    obtain ⟨j, hj, rfl, rfl, A1, A2, HB⟩ := hrel
    by_cases hlt : j < n
    · have e0 : IntKind.i64.wrap (at_ + (j : Int)) = at_ + j := IntWalk.i64_in _ (by omega)
      have hs := shift_more v j
      have hq : 0 ≤ v / ((2 ^ (8 * j) : Nat) : Int) ∧ v / ((2 ^ (8 * j) : Nat) : Int) < 4294967296 := by
        refine ⟨Int.ediv_nonneg hv0 (Int.natCast_nonneg _), ?_⟩
        have := Int.ediv_le_self ((2 ^ (8 * j) : Nat) : Int) hv0
        omega
      have hl := layN_succ f at_.toNat v j
      have HS := Lib.hid hs
      have HL := Lib.hid hl
      clear hs hl
      generalize v / ((2 ^ (8 * j) : Nat) : Int) = z at *
      obtain ⟨a1, a2⟩ := hq
      have p1 : 0 ≤ at_ + (j : Int) := by omega
      have p2 : at_ + (j : Int) < 1024 := by omega
      have p3 : (at_ + (j : Int)).toNat = at_.toNat + j := by omega
      have P3 := Lib.hid p3
      clear p3
      go_wp2_with (refine st_cell 5 rfl rfl rfl size_u8 rfl rfl A1.out (by omega) ?_; intro w1 hw1 hgr; have n_A1 := Aside0.mk hw1; have n_A2 := Aside0.mk (pblk A2.out hgr (by omega)); have n_HB := Aside0.mk (bgrow HB.out HB.out.size hgr (by omega)); clear hw1 hgr A1 A2 HB)
      go_roundw
      case rel => exact ⟨j + 1, by omega, by go_num, by rw [← HS.out], ⟨by rw [HL.out, ← P3.out]; exact n_A1.out⟩, n_A2, n_HB⟩
      case measure => simp [intOf]; omega
    · obtain rfl : j = n := by omega
      go_wp2_with (first | refine ld_arr 34 rfl rfl size_Block agg_Block rfl A1.out (?_ : wpList _ _ _ _ _ _) | (refine st_arr 34 rfl rfl rfl size_Block rfl rfl A2.out ?_; intro w1 hw1 hgr; have n_A2 := Aside0.mk hw1; have n_HB := Aside0.mk (bgrow HB.out HB.out.size hgr (by omega)); clear A2 HB hw1 hgr; have A2 := n_A2; have HB := n_HB; clear n_A2 n_HB))
      refine bodyPost_ret (results_cell_row rfl _ _ _ 34 _ (0, 0) _ rfl A2.out Try.underlying34 rfl (by rw [arrV_size]; exact size_Block)) rfl ?_
      exact ⟨rfl, HB.out⟩
set_option maxHeartbeats 1000000 in
theorem set_no (f : Nat → Int) (at_ : Int) (n : Nat) (v : Int) (hn : 2 ≤ n) (hn4 : n ≤ 4) (w : World) (hin : ¬ (0 ≤ at_ ∧ at_ ≤ 1024 - n)) :
    Calls Try.prog 48 #[.agg (arrV 1024 .u8 f), .int .i64 at_, .int .i64 n, .int .u32 v] w fun e w' => e = .returned (.agg (arrV 1024 .u8 f)) ∧ Below w.heap.size w w' := by
  have hz := zero_Block
  by_cases h0 : 0 ≤ at_ ∧ at_ < 1024
  · go_enter Try.func48, Try.ntmps48
    go_wp2_with fail
    have A1 := Aside0.mk (heap_alloc2_old w (.cells (arrV 1024 .u8 f) 34) (.cells (arrV 1024 .u8 zeroF) 34))
    have A2 := Aside0.mk (heap_alloc2_new w (.cells (arrV 1024 .u8 f) 34) (.cells (arrV 1024 .u8 zeroF) 34))
    have HB := Aside0.mk (b2 w (.cells (arrV 1024 .u8 f) 34) (.cells (arrV 1024 .u8 zeroF) 34))
    clear hz
    go_wp2_with (first | (go_at_call_of 50 (at_); refine (rinside_yes _ _ (by omega) (by omega)).mono ?_; rintro e w' ⟨rfl, hd⟩; replace hd := hd.below; have n_A1 := Aside0.mk (bblk A1.out hd); have n_A2 := Aside0.mk (bblk A2.out hd); have n_HB := Aside0.mk (bthen HB.out HB.out.size hd); clear A1 A2 HB hd; have A1 := n_A1; have A2 := n_A2; have HB := n_HB; clear n_A1 n_A2 n_HB) | (go_at_call 50; refine (rinside_no _ _ (by omega)).mono ?_; rintro e w' ⟨rfl, hd⟩; replace hd := hd.below; have n_A1 := Aside0.mk (bblk A1.out hd); have n_A2 := Aside0.mk (bblk A2.out hd); have n_HB := Aside0.mk (bthen HB.out HB.out.size hd); clear A1 A2 HB hd; have A1 := n_A1; have A2 := n_A2; have HB := n_HB; clear n_A1 n_A2 n_HB) | refine ld_arr 34 rfl rfl size_Block agg_Block rfl A1.out (?_ : wpList _ _ _ _ _ _) | (refine st_arr 34 rfl rfl rfl size_Block rfl rfl A2.out ?_; intro w1 hw1 hgr; have n_A2 := Aside0.mk hw1; have n_HB := Aside0.mk (bgrow HB.out HB.out.size hgr (by omega)); clear A2 HB hw1 hgr; have A2 := n_A2; have HB := n_HB; clear n_A2 n_HB))
    refine bodyPost_ret (results_cell_row rfl _ _ _ 34 _ (0, 0) _ rfl A2.out Try.underlying34 rfl (by rw [arrV_size]; exact size_Block)) rfl ?_
    exact ⟨rfl, HB.out⟩
  · go_enter Try.func48, Try.ntmps48
    go_wp2_with fail
    have A1 := Aside0.mk (heap_alloc2_old w (.cells (arrV 1024 .u8 f) 34) (.cells (arrV 1024 .u8 zeroF) 34))
    have A2 := Aside0.mk (heap_alloc2_new w (.cells (arrV 1024 .u8 f) 34) (.cells (arrV 1024 .u8 zeroF) 34))
    have HB := Aside0.mk (b2 w (.cells (arrV 1024 .u8 f) 34) (.cells (arrV 1024 .u8 zeroF) 34))
    clear hz
    go_wp2_with (first | (go_at_call 50; refine (rinside_no _ _ (by omega)).mono ?_; rintro e w' ⟨rfl, hd⟩; replace hd := hd.below; have n_A1 := Aside0.mk (bblk A1.out hd); have n_A2 := Aside0.mk (bblk A2.out hd); have n_HB := Aside0.mk (bthen HB.out HB.out.size hd); clear A1 A2 HB hd; have A1 := n_A1; have A2 := n_A2; have HB := n_HB; clear n_A1 n_A2 n_HB) | refine ld_arr 34 rfl rfl size_Block agg_Block rfl A1.out (?_ : wpList _ _ _ _ _ _) | (refine st_arr 34 rfl rfl rfl size_Block rfl rfl A2.out ?_; intro w1 hw1 hgr; have n_A2 := Aside0.mk hw1; have n_HB := Aside0.mk (bgrow HB.out HB.out.size hgr (by omega)); clear A2 HB hw1 hgr; have A2 := n_A2; have HB := n_HB; clear n_A2 n_HB))
    refine bodyPost_ret (results_cell_row rfl _ _ _ 34 _ (0, 0) _ rfl A2.out Try.underlying34 rfl (by rw [arrV_size]; exact size_Block)) rfl ?_
    exact ⟨rfl, HB.out⟩
theorem set_any (f : Nat → Int) (at_ : Int) (n : Nat) (v : Int) (hn : 2 ≤ n) (hn4 : n ≤ 4) (hv0 : 0 ≤ v) (hv1 : v < 4294967296) (w : World) :
    Calls Try.prog 48 #[.agg (arrV 1024 .u8 f), .int .i64 at_, .int .i64 n, .int .u32 v] w fun e w' => e = .returned (.agg (arrV 1024 .u8 (rset f at_ n v))) ∧ Below w.heap.size w w' := by
  unfold rset
  by_cases h : 0 ≤ at_ ∧ at_ ≤ 1024 - n
  · rw [if_pos h]; exact set_yes f at_ n v hn hn4 hv0 hv1 w h.1 h.2
  · rw [if_neg h]; exact set_no f at_ n v hn hn4 w h
theorem rset_16 (f at_ v) : rset f at_ 2 v = set16 f at_ v := rfl
theorem rset_32 (f at_ v) : rset f at_ 4 v = set32 f at_ v := rfl
set_option maxHeartbeats 1000000 in
theorem rSetU16 (f : Nat → Int) (at_ v : Int) (w : World) (hv0 : 0 ≤ v) (hv1 : v < 65536) :
    Calls Try.prog 38 #[.agg (arrV 1024 .u8 f), .int .i64 at_, .int .u16 v] w fun e w' => e = .returned (.agg (arrV 1024 .u8 (set16 f at_ v))) ∧ Below w.heap.size w w' := by
  have hz := zero_Block
  have hc := fun W => Lib.hid (rset_16 f at_ v ▸ set_any f at_ 2 v (by omega) (by omega) hv0 (by omega) W)
  generalize set16 f at_ v = f' at *
  go_enter Try.func38, Try.ntmps38
  go_wp2_with (refine ld_arr 34 rfl rfl size_Block agg_Block rfl (Aside0.mk (heap_alloc2_old w _ _)).out (?_ : wpList _ _ _ _ _ _))
  have A1 := Aside0.mk (heap_alloc2_old w (.cells (arrV 1024 .u8 f) 34) (.cells (arrV 1024 .u8 zeroF) 34))
  have A2 := Aside0.mk (heap_alloc2_new w (.cells (arrV 1024 .u8 f) 34) (.cells (arrV 1024 .u8 zeroF) 34))
  have HB := Aside0.mk (b2 w (.cells (arrV 1024 .u8 f) 34) (.cells (arrV 1024 .u8 zeroF) 34))
  clear hz
  go_wp2_with (first | refine ld_arr 34 rfl rfl size_Block agg_Block rfl A1.out (?_ : wpList _ _ _ _ _ _) | (go_at_call 48; refine ((hc _).out).mono ?_; rintro e w' ⟨rfl, hd⟩; have n_A1 := Aside0.mk (bblk A1.out hd); have n_A2 := Aside0.mk (bblk A2.out hd); have n_HB := Aside0.mk (bthen HB.out HB.out.size hd); clear A1 A2 HB hd; have A1 := n_A1; have A2 := n_A2; have HB := n_HB; clear n_A1 n_A2 n_HB) | (refine st_arr 34 rfl rfl rfl size_Block rfl rfl A2.out ?_; intro w1 hw1 hgr; have n_A2 := Aside0.mk hw1; have n_HB := Aside0.mk (bgrow HB.out HB.out.size hgr (by omega)); clear A2 HB hw1 hgr; have A2 := n_A2; have HB := n_HB; clear n_A2 n_HB))
  refine bodyPost_ret (results_cell_row rfl _ _ _ 34 _ (0, 0) _ rfl A2.out Try.underlying34 rfl (by rw [arrV_size]; exact size_Block)) rfl ?_
  exact ⟨rfl, HB.out⟩
set_option maxHeartbeats 1000000 in
theorem rSetU32 (f : Nat → Int) (at_ v : Int) (w : World) (hv0 : 0 ≤ v) (hv1 : v < 4294967296) :
    Calls Try.prog 40 #[.agg (arrV 1024 .u8 f), .int .i64 at_, .int .u32 v] w fun e w' => e = .returned (.agg (arrV 1024 .u8 (set32 f at_ v))) ∧ Below w.heap.size w w' := by
  have hz := zero_Block
  have hc := fun W => Lib.hid (rset_32 f at_ v ▸ set_any f at_ 4 v (by omega) (by omega) hv0 hv1 W)
  generalize set32 f at_ v = f' at *
  go_enter Try.func40, Try.ntmps40
  go_wp2_with (refine ld_arr 34 rfl rfl size_Block agg_Block rfl (Aside0.mk (heap_alloc2_old w _ _)).out (?_ : wpList _ _ _ _ _ _))
  have A1 := Aside0.mk (heap_alloc2_old w (.cells (arrV 1024 .u8 f) 34) (.cells (arrV 1024 .u8 zeroF) 34))
  have A2 := Aside0.mk (heap_alloc2_new w (.cells (arrV 1024 .u8 f) 34) (.cells (arrV 1024 .u8 zeroF) 34))
  have HB := Aside0.mk (b2 w (.cells (arrV 1024 .u8 f) 34) (.cells (arrV 1024 .u8 zeroF) 34))
  clear hz
  go_wp2_with (first | refine ld_arr 34 rfl rfl size_Block agg_Block rfl A1.out (?_ : wpList _ _ _ _ _ _) | (go_at_call 48; refine ((hc _).out).mono ?_; rintro e w' ⟨rfl, hd⟩; have n_A1 := Aside0.mk (bblk A1.out hd); have n_A2 := Aside0.mk (bblk A2.out hd); have n_HB := Aside0.mk (bthen HB.out HB.out.size hd); clear A1 A2 HB hd; have A1 := n_A1; have A2 := n_A2; have HB := n_HB; clear n_A1 n_A2 n_HB) | (refine st_arr 34 rfl rfl rfl size_Block rfl rfl A2.out ?_; intro w1 hw1 hgr; have n_A2 := Aside0.mk hw1; have n_HB := Aside0.mk (bgrow HB.out HB.out.size hgr (by omega)); clear A2 HB hw1 hgr; have A2 := n_A2; have HB := n_HB; clear n_A2 n_HB))
  refine bodyPost_ret (results_cell_row rfl _ _ _ 34 _ (0, 0) _ rfl A2.out Try.underlying34 rfl (by rw [arrV_size]; exact size_Block)) rfl ?_
  exact ⟨rfl, HB.out⟩
end Go.Proofs.Ytmmhdndglliflaa.B
