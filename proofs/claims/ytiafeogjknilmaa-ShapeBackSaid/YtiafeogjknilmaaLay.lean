/- The walk of the program's Lay. -/
import Derived.Test.YtiafeogjknilmaaSmall
import Derived.Test.YtiafeogjknilmaaOwn
import Derived.Test.YtiafeogjknilmaaLayP
import Derived.Outline
set_option linter.unusedVariables false
namespace Go.Proofs.Ytiafeogjknilmaa.B
open Go.RowKit
set_option maxHeartbeats 1000000 in
theorem Lay (f : Nat → Int) (at_ : Int) (A : Option Addr) (c : Nat) (l : List Int) (w : World) (h0 : -9223372036854775808 ≤ at_) (h1 : at_ ≤ 9223372036854775807) (hr : RdN w .u8 A l) (hc : l.length ≤ c) :
    Calls Try.prog 23 #[.agg (arrV 1024 .u8 f), .int .i64 at_, .slice A l.length c] w fun e w' => e = .returned (.agg (arrV 1024 .u8 (layF f at_ l))) ∧ Below w.heap.size w w' := by
  have hmx : l.length ≤ 9223372036854775807 := hr.1
  have hs := fun W => Lib.hid (span at_ (l.length : Int) W h0 h1 (by omega) (by omega))
  have HR := Sd.mk hr
  have hlo := loP_lt at_ l.length
  have hhi := hiP_le at_ l.length
  have HI := Sd.mk (inP at_ l.length)
  have hz := zero_Block
  clear hr hc
  have HST : Sd (arrV 1024 .u8 (layP f at_ l (loP at_ l.length)) = arrV 1024 .u8 f) := ⟨layP_start f at_ l _ 1024 (fun i hi hh => by have := (inP at_ l.length i).2 ⟨by omega, hh⟩; omega)⟩
  have HEN : Sd (arrV 1024 .u8 (layP f at_ l (hiP at_ l.length)) = arrV 1024 .u8 (layF f at_ l)) := ⟨layP_end f at_ l _ 1024 (fun i hi hk hh => by have := (inP at_ l.length i).2 ⟨hi, hh⟩; omega)⟩
  generalize loP at_ l.length = p at *
  generalize hiP at_ l.length = q at *
  obtain ⟨hhi, hhi2⟩ := hhi
  go_enter Try.func23, Try.ntmps23
  go_wp2_with (go_at_call 28; refine ((hs _).out).mono ?_; rintro e w' ⟨rfl, hd⟩; have A1 := Sd.mk (bblk (heap_alloc2_old w (.cells (arrV 1024 .u8 f) 23) (.cells (arrV 1024 .u8 zeroF) 23)) hd); have A2 := Sd.mk (bblk (heap_alloc2_new w (.cells (arrV 1024 .u8 f) 23) (.cells (arrV 1024 .u8 zeroF) 23)) hd); have HB := Sd.mk (bthen (b2 w (.cells (arrV 1024 .u8 f) 23) (.cells (arrV 1024 .u8 zeroF) 23)) (by simp; omega) hd); clear hd hz)
  go_loopw [9] (fun i wr => ∃ k : Nat, p ≤ k ∧ k ≤ q ∧ i = .int .i64 k ∧ Sd (wr.heap[w.heap.size]? = some (.cells (arrV 1024 .u8 (layP f at_ l k)) 23 (0,0))) ∧ Sd (wr.heap[w.heap.size+1]? = some (.cells (arrV 1024 .u8 zeroF) 23 (0,0))) ∧ Sd (Below w.heap.size w wr)) (fun i _ => q - (intOf i).toNat)
  case atStart => exact ⟨p, by omega, hhi, rfl, ⟨by rw [HST.out]; exact A1.out⟩, A2, HB⟩
  case round =>
    clear A1 A2 HB
    obtain ⟨k, hk0, hk, rfl, A1, A2, HB⟩ := hrel
    by_cases hlt : k < q
    · have hin := (HI.out k).1 ⟨hk0, hlt⟩
      obtain ⟨hin0, hin1, hin2⟩ := hin
      obtain ⟨ad, rfl, hcell⟩ := RdN.at_ HR.out ((k : Int) - at_) (by omega) (by omega)
      have hcell2 : wr.cell? (ad.add ((k : Int) - at_).toNat) = some (.int .u8 (rd l ((k : Int) - at_))) := (HB.out.cell (World.block_lt_of_cell? w _ hcell)).trans hcell
      have HL := Sd.mk (layP_in f at_ l k ⟨hin1, hin2⟩)
      have e0 : IntKind.i64.wrap ((k : Int) - at_) = (k : Int) - at_ := IntWalk.i64_in _ (by omega)
      have p1 : 0 ≤ (k : Int) - at_ := by omega
      have p2 : (k : Int) - at_ < l.length := by omega
      have p3 : (k : Int) < q := by omega
      have p4 : (k : Int) < 1024 := by omega
      clear hcell
      have HX := Sd.mk (show rd l ((k : Int) - at_) = l.getD ((k : Int) - at_).toNat 0 from rfl)
      generalize rd l ((k : Int) - at_) = x at *
      go_wp2_with (((with_reducible refine gstore 5 rfl ?_ ?_); exact rfl); refine st_cell 5 rfl rfl rfl size_u8 rfl rfl A1.out (by omega) ?_; intro w1 hw1 hgr; have n_A1 := Sd.mk hw1; have n_A2 := Sd.mk (pblk A2.out hgr (by omega)); have n_HB := Sd.mk (bgrow HB.out HB.out.size hgr (by omega)); clear A1 A2 HB hw1 hgr; have A1 := n_A1; have A2 := n_A2; have HB := n_HB; clear n_A1 n_A2 n_HB)
      go_roundw
      case rel => exact ⟨k + 1, by omega, by omega, by go_num, ⟨by rw [← HL.out, ← HX.out]; exact A1.out⟩, A2, HB⟩
      case measure => simp [intOf]; omega
    · have HK := Sd.mk (show k = q by omega)
      have p3 : ¬ (k : Int) < q := by omega
      replace A1 := Sd.mk (by have := A1.out; rw [HK.out, HEN.out] at this; exact this)
      go_wp2_with (first | (((with_reducible refine gload 23 rfl ?_ ?_); exact rfl); refine ld_arr 23 rfl rfl size_Block agg_Block rfl A1.out ?_; simp only [Act.put, List.setIfInBounds_toArray, List.set_cons_zero, List.set_cons_succ]) | (((with_reducible refine gstore 23 rfl ?_ ?_); exact rfl); refine st_arr 23 rfl rfl rfl size_Block rfl rfl A2.out ?_; intro w1 hw1 hgr; have n_A2 := Sd.mk hw1; have n_HB := Sd.mk (bgrow HB.out HB.out.size hgr (by omega)); clear A2 HB hw1 hgr; have A2 := n_A2; have HB := n_HB; clear n_A2 n_HB))
      refine bodyPost_ret (results_cell_row rfl _ _ _ 23 _ (0, 0) _ rfl A2.out Try.underlying23 rfl (by rw [arrV_size]; exact size_Block)) rfl ?_
      exact ⟨rfl, HB.out⟩
end Go.Proofs.Ytiafeogjknilmaa.B
