/- FdsNone: the walk over an iterator that tells nothing. -/
import Derived.RangeFuncNested
import Derived.RangeFuncBound
import Derived.RangeFuncCalls
import Derived.RangeFuncLeaves
import Derived.RangeFuncFrom
import Derived.Shelf.Abstract
import Derived.Shelf.RegionOpen
import Derived.WalkKit
import Derived.OwnWalkIn
import Derived.TacticsInMore
import Derived.LoopNIn
import Derived.LoopIn
import Derived.Test.YtpdhgmeaehfkmaaProg
set_option linter.unusedVariables false
namespace Go.Proofs.Ytpdhgmeaehfkmaa.Nn
open Go.RowKit Go.Shelf
attribute [local go_sem] Oper.semAt_some
set_option maxRecDepth 10000
set_option maxHeartbeats 4000000
theorem run_eqlF1 (d : Nat) (w : World) (fn : Fn) (a b : Array Value) : (Op.equalIn (d + 1) 87 (.func fn a b) .nilFunc).run Try.prog w = .ok false w := by simp [Op.equalIn, run_underlying Try.underlying87]
theorem run_eqlF2 (w : World) (fn : Fn) (a b : Array Value) : (Op.equal 87 (.func fn a b) .nilFunc).run Try.prog w = .ok false w := run_eqlF1 9999 w fn a b
theorem run_eqlF (w : World) (fn : Fn) (a b : Array Value) : (binOp .eql 87 (.func fn a b) .nilFunc).run Try.prog w = .ok (.bool false) w := by
  simp only [binOp, Sem.run_bind, run_eqlF2, Result.andThen_ok, Sem.run_pure]
attribute [local go_sem] run_eqlF
theorem cell_of_box_l {W : World} {B : Nat} {v : Value} {t : TypeId} (h : W.heap[B]? = some (.cells #[v] t (0, 0))) : W.cell? ⟨B, 0, none⟩ = some v ∧ W.frozen? ⟨B, 0, none⟩ = false := by
  constructor <;> simp [World.cell?, World.frozen?, h]
theorem cell_new_l (W : World) (v : Value) (t : TypeId) : (W.alloc (.cells #[v] t)).cell? ⟨W.heap.size, 0, none⟩ = some v ∧ (W.alloc (.cells #[v] t)).frozen? ⟨W.heap.size, 0, none⟩ = false :=
  cell_of_box_l (World.alloc_heap_new W _)
theorem cell_alloc_l {W : World} {a : Addr} {v : Value} (o : Obj) (h : W.cell? a = some v) : (W.alloc o).cell? a = some v := cell_kept h (World.grownBy_alloc W o none) (fun r e => by cases e)
theorem frozen_alloc_l {W : World} {a : Addr} {v : Value} (o : Obj) (h : W.cell? a = some v) (hf : W.frozen? a = false) : (W.alloc o).frozen? a = false := (frozen_kept h (World.grownBy_alloc W o none) (fun r e => by cases e)).trans hf
/-- The iterator of a table that holds nothing. -/
theorem all1_stops (F : Fence) (n : Nat) (h57 : F.fn 57) (hro : F.round = none) (hn : 1 ≤ n) (Bn : Nat) (w : World) (hlt : Bn < w.heap.size) (hBn : w.cell? ⟨Bn, 0, none⟩ = some (.slice none 0 0)) :
    SeqStopsK F n Try.prog 57 #[.pointer (some ⟨Bn, 0, none⟩)] (fun x : Empty => x.elim) (Below w.heap.size) (fun xs => xs = []) (fun _ => False) 0 w := by
  intro l J Jx W hW hJ hJx hY h0
  have hb : W.cell? ⟨Bn, 0, none⟩ = some (.slice none 0 0) := (hW.cell (p := ⟨Bn, 0, none⟩) hlt).trans hBn
  refine callsIn_of_wp Try.func57 rfl h57 ?_ hro
  simp only [Try.ntmps57, List.size_toArray, List.length_cons, List.length_nil, Nat.reduceAdd, Nat.reduceSub, Array.replicate_succ, Array.replicate_zero, List.push_toArray, List.append_toArray, List.nil_append, List.cons_append]
  gi_wp2
  gi_loopw [7] (fun p wr => p = .int .i64 0 ∧ J [] wr) (fun _ _ => 0)
  case atStart => exact ⟨rfl, h0⟩
  case round =>
    obtain ⟨rfl, hJs⟩ := hrel
    gi_wp2
    go_end0
    exact ⟨⟨_, rfl⟩, .inl ⟨[], rfl, hJs⟩⟩
theorem walk_in (F : Fence) (n : Nat) (h47 : F.fn 47) (h57 : F.fn 57) (hro : F.round = none) (hn : 3 ≤ n) (Bn : Nat) (w : World) (hlt : Bn < w.heap.size) (hBn : w.cell? ⟨Bn, 0, none⟩ = some (.slice none 0 0)) :
    CallsIn F n Try.prog 47 #[.func (.func 57) #[] #[.pointer (some ⟨Bn, 0, none⟩)], .slice none 0 0, .slice none 0 0, .int .i64 0] w fun e w' => e = .returned (.bool true) ∧ Below w.heap.size w w' := by
  have h1 : 1 ≤ n := by omega
  refine callsIn_of_wp_marks Try.func47 rfl h47 ?_ hro
  simp only [Try.ntmps47, List.size_toArray, List.length_cons, List.length_nil, Nat.reduceAdd, Nat.reduceSub, Array.replicate_succ, Array.replicate_zero, List.push_toArray, List.append_toArray, List.nil_append, List.cons_append]
  gi_wp2
  have c5 := cell_new_l w (.slice none 0 0) 82
  have c8 := cell_new_l (((w.alloc (.cells #[.slice none 0 0] 82)).alloc (.cells #[.slice none 0 0] 82)).alloc (.cells #[.int .i64 0] 3)) (.bool false) 4
  have c9 := cell_new_l ((((w.alloc (.cells #[.slice none 0 0] 82)).alloc (.cells #[.slice none 0 0] 82)).alloc (.cells #[.int .i64 0] 3)).alloc (.cells #[.bool false] 4)) (.int .i64 0) 3
  simp only [World.size_alloc] at c8 c9
  have hbel : Below w.heap.size w (((((w.alloc (.cells #[.slice none 0 0] 82)).alloc (.cells #[.slice none 0 0] 82)).alloc (.cells #[.int .i64 0] 3)).alloc (.cells #[.bool false] 4)).alloc (.cells #[.int .i64 0] 3)) := (((((Below.refl _ w).alloc (Nat.le_refl _) _).alloc (by simp) _).alloc (by simp; omega) _).alloc (by simp; omega) _).alloc (by simp; omega) _
  have hsz : (((((w.alloc (.cells #[.slice none 0 0] 82)).alloc (.cells #[.slice none 0 0] 82)).alloc (.cells #[.int .i64 0] 3)).alloc (.cells #[.bool false] 4)).alloc (.cells #[.int .i64 0] 3)).heap.size = w.heap.size + 5 := by simp
  have d5 := cell_alloc_l (.cells #[.int .i64 0] 3) (cell_alloc_l (.cells #[.bool false] 4) (cell_alloc_l (.cells #[.int .i64 0] 3) (cell_alloc_l (.cells #[.slice none 0 0] 82) c5.1)))
  have d8 := cell_alloc_l (.cells #[.int .i64 0] 3) c8.1
  have f8 := frozen_alloc_l (.cells #[.int .i64 0] 3) c8.1 c8.2
  have d9 := c9.1
  have hbn := (hbel.cell (p := ⟨Bn, 0, none⟩) hlt).trans hBn
  clear c5 c8 c9
  generalize ((((w.alloc (.cells #[.slice none 0 0] 82)).alloc (.cells #[.slice none 0 0] 82)).alloc (.cells #[.int .i64 0] 3)).alloc (.cells #[.bool false] 4)).alloc (.cells #[.int .i64 0] 3) = W0 at *
  refine wpIn_rangeFunc_ownF hro h1 (gf := 57) (lb := #[.pointer (some ⟨Bn, 0, none⟩)]) rfl h57 (enters_of Try.func57 (by kernel_rfl) rfl)
    (all1_stops F (n - 1) h57 hro (by omega) Bn W0 (by omega) hbn) belowK_t (belowK_b (Nat.le_refl _)) (Below.refl _ _) (fun x => x.elim)
    (fun _ W => (W.cell? ⟨w.heap.size, 0, none⟩ = some (.slice none 0 0) ∧ W.cell? ⟨w.heap.size + 1 + 1 + 1 + 1, 0, none⟩ = some (.int .i64 0) ∧ W.cell? ⟨w.heap.size + 1 + 1 + 1, 0, none⟩ = some (.bool false) ∧ W.frozen? ⟨w.heap.size + 1 + 1 + 1, 0, none⟩ = false) ∧ Below w.heap.size w W)
    (fun _ _ _ => False)
    (OwnFrom.and (Own.from (fun s A B row hs hg hr => ⟨cell_kept hs.1 hg hr, cell_kept hs.2.1 hg hr, cell_kept hs.2.2.1 hg hr, (frozen_kept hs.2.2.1 hg hr).trans hs.2.2.2⟩) _) (ownFrom_below (by omega) (by omega)))
    (fun _ _ _ _ _ hs _ _ => hs)
    ⟨⟨d5, d9, d8, f8⟩, hbel⟩ (fun x => x.elim) (fun _ x => x.elim) (fun _ _ x => x.elim) ?done ?stop
  case done =>
    rintro D ys W hD rfl ⟨⟨e5, e9, e8, g8⟩, hB⟩ hK
    gi_wp2
    have hK2 : (W.setCell ⟨w.heap.size + 1 + 1 + 1, 0, none⟩ (.bool true)).heap[D]? = some (.deferred (some [])) := (KeepsOthers.setCell _ _ _).same D _ hK rfl
    have hc2 : (W.setCell ⟨w.heap.size + 1 + 1 + 1, 0, none⟩ (.bool true)).cell? ⟨w.heap.size + 1 + 1 + 1, 0, none⟩ = some (.bool true) := World.cell?_setCell_same' _ _ _ (by rw [e8]; rfl)
    have hc3 := cell_kept hc2 (grownBy_putObj' _ D (.deferred none)) (fun r e => by cases e; exact ⟨_, hK2, rfl⟩)
    have hB2 : Below w.heap.size w (W.setCell ⟨w.heap.size + 1 + 1 + 1, 0, none⟩ (.bool true)) := hB.setCell (p := ⟨w.heap.size + 1 + 1 + 1, 0, none⟩) (by simp; omega) _
    refine ⟨by simp, .inl ⟨_, _, rfl, run_takeDeferred hK2, ?_⟩⟩
    refine ⟨_, ?_, rfl, hB2.trans (belowK_b (w := w) (Nat.le_refl _) _ D _ _ (by omega) hK2 rfl rfl)⟩
    simp [results, Try.f47, go_sem, hc3]
  case stop =>
    rintro D c pre W _ _ h _
    exact h.elim
theorem walk_calls (Bn : Nat) (w : World) (hlt : Bn < w.heap.size) (hBn : w.cell? ⟨Bn, 0, none⟩ = some (.slice none 0 0)) :
    Calls Try.prog 47 #[.func (.func 57) #[] #[.pointer (some ⟨Bn, 0, none⟩)], .slice none 0 0, .slice none 0 0, .int .i64 0] w fun e w' => e = .returned (.bool true) ∧ Below w.heap.size w w' :=
  (callsIn_wide (n := 3)).1 (walk_in Fence.wide 3 trivial trivial rfl (by omega) Bn w hlt hBn)
end Go.Proofs.Ytpdhgmeaehfkmaa.Nn
