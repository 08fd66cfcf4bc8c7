/- A block that begins with some bytes, as the statements make it. -/
import Derived.Test.YtmmhdndglliflaaFacts
import Derived.Test.YtmmhdndglliflaaPlain
import Derived.Test.YtmmhdndglliflaaWMore
import Derived.Outline
set_option linter.unusedVariables false
namespace Go.Proofs.Ytmmhdndglliflaa.B
open Go.RowKit Go.Proofs.YtmmhdndglliflaaW.PrintWords
def bytesF (l : List Int) : Nat → Int := fun i => l.getD i 0
def BytL (l : List Int) : Prop := ∀ x ∈ l, 0 ≤ x ∧ x < 256
theorem byt_bytesF {l} (h : BytL l) : Byt (bytesF l) := by
  intro i
  unfold bytesF
  rw [List.getD_eq_getElem?_getD]
  by_cases hi : i < l.length
  · rw [List.getElem?_eq_getElem hi]; exact h _ (List.getElem_mem hi)
  · rw [List.getElem?_eq_none (by omega)]; exact ⟨by simp, by simp⟩
def headF (l : List Int) (k : Nat) : Nat → Int := fun j => if j < k then l.getD j 0 else 0
theorem headF_zero (l) : headF l 0 = zeroF := by funext j; simp [headF, zeroF]
theorem headF_succ (l k) : upd (headF l k) k (rd l k) = headF l (k + 1) := by
  funext j
  simp only [upd, headF]
  by_cases h : j = k
  · subst h; rw [if_pos rfl, if_pos (by omega)]; simp [rd]
  · rw [if_neg h]
    by_cases h2 : j < k
    · rw [if_pos h2, if_pos (by omega)]
    · rw [if_neg h2, if_neg (by omega)]
set_option maxHeartbeats 1000000 in
theorem block (A : Option Addr) (c : Nat) (l : List Int) (w : World) (hr : Kd.C (Kd.int .u8) w A l.length l) (hc : l.length ≤ c) :
    Calls Try.prog 18 #[.slice A l.length c] w fun e w' => e = .returned (.agg (arrV 1024 .u8 (bytesF l))) ∧ Below w.heap.size w w' := by
  have hz := zero_Block
  have HR := Aside0.mk hr
  have hmx : l.length ≤ 9223372036854775807 := Kd.C_max hr
  clear hr hc
  go_enter Try.func18, Try.ntmps18
  go_wp2_with fail
  have A1 := Aside0.mk (heap_alloc2_old w (.cells (arrV 1024 .u8 zeroF) 34) (.cells (arrV 1024 .u8 zeroF) 34))
  have A2 := Aside0.mk (heap_alloc2_new w (.cells (arrV 1024 .u8 zeroF) 34) (.cells (arrV 1024 .u8 zeroF) 34))
  have HB := Aside0.mk (b2 w (.cells (arrV 1024 .u8 zeroF) 34) (.cells (arrV 1024 .u8 zeroF) 34))
  clear hz
  go_loopw [4] (fun i wr => ∃ k : Nat, k ≤ l.length ∧ k ≤ 1024 ∧ i = .int .i64 k ∧ Aside0 (wr.heap[w.heap.size]? = some (.cells (arrV 1024 .u8 zeroF) 34 (0,0))) ∧ Aside0 (wr.heap[w.heap.size+1]? = some (.cells (arrV 1024 .u8 (headF l k)) 34 (0,0))) ∧ Aside0 (Below w.heap.size w wr)) (fun i _ => 1024 - (intOf i).toNat)
  case atStart => exact ⟨0, by omega, by omega, rfl, A1, ⟨by rw [headF_zero]; exact A2.out⟩, HB⟩
  case round =>
    clear A1 A2 HB
    obtain ⟨k, hk, hk2, rfl, A1, A2, HB⟩ := hrel
    by_cases hlt : k < l.length
    · by_cases hlt2 : k < 1024
      · obtain ⟨ad, rfl, hcell⟩ := Kd.at_int HR.out (k : Int) (by omega) (by omega)
        rw [Int.toNat_natCast] at hcell
        have hcell2 : wr.cell? (ad.add k) = some (.int .u8 (rd l k)) := (HB.out.cell (World.block_lt_of_cell? w _ hcell)).trans hcell
        have HL := Lib.hid (headF_succ l k)
        have p1 : (k : Int) < l.length := by omega
        have p2 : (k : Int) < 1024 := by omega
        generalize rd l k = x at *
        go_wp2_with (refine st_cell 5 rfl rfl rfl size_u8 rfl rfl A2.out (by omega) ?_; intro w1 hw1 hgr; have n_A2 := Aside0.mk hw1; have n_A1 := Aside0.mk (pblk A1.out hgr (by omega)); have n_HB := Aside0.mk (bgrow HB.out HB.out.size hgr (by omega)); clear A2 A1 HB hw1 hgr; have A2 := n_A2; have A1 := n_A1; have HB := n_HB; clear n_A2 n_A1 n_HB)
        go_roundw
        case rel => exact ⟨k + 1, by omega, by omega, by go_num, A1, ⟨by rw [← HL.out]; exact A2.out⟩, HB⟩
        case measure => simp [intOf]; omega
      · have he : arrV 1024 .u8 (headF l k) = arrV 1024 .u8 (bytesF l) := arrV_ext (fun i hi => by simp only [headF, bytesF]; rw [if_pos (by omega)])
        have p2 : ¬ (k : Int) < 1024 := by omega
        rw [he] at A2
        go_wp2_with (first | refine ld_arr 34 rfl rfl size_Block agg_Block rfl A2.out (?_ : wpList _ _ _ _ _ _) | (refine st_arr 34 rfl rfl rfl size_Block rfl rfl A1.out ?_; intro w1 hw1 hgr; have n_A1 := Aside0.mk hw1; have n_HB := Aside0.mk (bgrow HB.out HB.out.size hgr (by omega)); clear A1 HB hw1 hgr; have A1 := n_A1; have HB := n_HB; clear n_A1 n_HB))
        refine bodyPost_ret (results_cell_row rfl _ _ _ 34 _ (0, 0) _ rfl A1.out Try.underlying34 rfl (by rw [arrV_size]; exact size_Block)) rfl ?_
        exact ⟨rfl, HB.out⟩
    · have p2 : ¬ (k : Int) < l.length := by omega
      have he : arrV 1024 .u8 (headF l k) = arrV 1024 .u8 (bytesF l) := arrV_ext (fun i hi => by
        simp only [headF, bytesF]
        by_cases h : i < k
        · rw [if_pos h]
        · rw [if_neg h, List.getD_eq_getElem?_getD, List.getElem?_eq_none (by omega)]; rfl)
      rw [he] at A2
      go_wp2_with (first | refine ld_arr 34 rfl rfl size_Block agg_Block rfl A2.out (?_ : wpList _ _ _ _ _ _) | (refine st_arr 34 rfl rfl rfl size_Block rfl rfl A1.out ?_; intro w1 hw1 hgr; have n_A1 := Aside0.mk hw1; have n_HB := Aside0.mk (bgrow HB.out HB.out.size hgr (by omega)); clear A1 HB hw1 hgr; have A1 := n_A1; have HB := n_HB; clear n_A1 n_HB))
      refine bodyPost_ret (results_cell_row rfl _ _ _ 34 _ (0, 0) _ rfl A1.out Try.underlying34 rfl (by rw [arrV_size]; exact size_Block)) rfl ?_
      exact ⟨rfl, HB.out⟩
end Go.Proofs.Ytmmhdndglliflaa.B
