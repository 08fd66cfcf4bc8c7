/- FdsScript: the walk over a table's iterator. -/
import Derived.RangeFuncNested
import Derived.RangeFuncBound
import Derived.RangeFuncCalls
import Derived.RangeFuncLeaves
import Derived.RangeFuncFrom
import Derived.Shelf.Abstract
import Derived.Shelf.RegionOpen
import Derived.WalkKit
import Derived.OwnWalkIn
import Derived.TacticsInMore
import Derived.LoopNIn
import Derived.LoopIn
import Derived.Test.YtgbdjeofbeibiaaProg
set_option linter.unusedVariables false
namespace Go.Proofs.Ytgbdjeofbeibiaa.Fc
open Go.RowKit Go.Shelf
attribute [local go_sem] Oper.semAt_some
set_option maxRecDepth 10000
set_option maxHeartbeats 4000000
theorem all1_in (F : Fence) (n : Nat) (h39 : F.fn 39) (hro : F.round = none) (hn : 1 ≤ n) (l Bs n₀ b off len cap : Nat) (bs : Nat → Bool) (vs : Nat → Int) (hreach : len * 16 ≤ 140737488351232) (hb : b < n₀)
    (E : Nat → List (Nat × Int)) (hE0 : E 0 = []) (hE1 : ∀ k, k < len → E (k + 1) = if bs k then E k ++ [(k, vs k)] else E k)
    (J Jx : List (Nat × Int) → World → Prop)
    (W : World) (hn₀ : n₀ ≤ W.heap.size) (hJ : AbidesFrom W.heap.size J)
    (hY : ∀ pre x W, J pre W → pre.length < (E len).length → YieldAt F (n - 1) Try.prog l #[.int .i64 (x.1 : Int), .int .i64 x.2] W fun e W' =>
      (e = .returned (.bool true) ∧ J (pre ++ [x]) W' ∧ Below n₀ W W') ∨ (e = .returned (.bool false) ∧ Jx (pre ++ [x]) W'))
    (hlen : ∀ k, k < len → bs k = true → (E k).length < (E len).length)
    (hBs : W.cell? ⟨Bs, 0, none⟩ = some (.slice (some ⟨b, off, none⟩) len cap)) (hc : ∀ j, j < len → W.cell? ⟨b, off + j * 2, none⟩ = some (.bool (bs j)) ∧ W.cell? ⟨b, off + j * 2 + 1, none⟩ = some (.int .i64 (vs j))) (h0 : J [] W) :
    CallsIn F n Try.prog 39 #[.func (.yield l) #[] #[], .pointer (some ⟨Bs, 0, none⟩)] W fun e W' => (∃ v, e = .returned v) ∧
      ((∃ ys, ys = E len ∧ J ys W') ∨ (∃ pre, (∃ k, k < len ∧ pre = E (k + 1)) ∧ Jx pre W')) := by
  refine callsIn_of_wp Try.func39 rfl h39 ?_ hro
  simp only [Try.ntmps39, List.size_toArray, List.length_cons, List.length_nil, Nat.reduceAdd, Nat.reduceSub, Array.replicate_succ, Array.replicate_zero, List.push_toArray, List.append_toArray, List.nil_append, List.cons_append]
  gi_wp2
  gi_loopw [7] (fun i wr => ∃ k : Nat, k ≤ len ∧ i = .int .i64 k ∧ J (E k) wr ∧ Below n₀ W wr)
    (fun i _ => len - (intOf i).toNat)
  case atStart => exact ⟨0, Nat.zero_le _, rfl, hE0 ▸ h0, Below.refl _ _⟩
  case round =>
    obtain ⟨k, hk, rfl, hJs, hnx⟩ := hrel
    by_cases hlt : k < len
    · have c1 := (hnx.cell (p := ⟨b, off + k * 2, none⟩) hb).trans (hc k hlt).1
      have c2 := (hnx.cell (p := ⟨b, off + k * 2 + 1, none⟩) hb).trans (hc k hlt).2
      cases hbk : bs k with
      | false =>
        rw [hbk] at c1
        have hJn : J (E k) (wr.alloc (.cells #[.bool false, .int .i64 (vs k)] 75)) := hJ _ _ _ none hJs (World.grownBy_alloc _ _ none) (fun r e => by cases e)
        have hBn : Below n₀ W (wr.alloc (.cells #[.bool false, .int .i64 (vs k)] 75)) := hnx.alloc (Nat.le_trans hn₀ hnx.size) _
        gi_wp2
        refine ⟨fun _ h => (by cases h), ?_⟩
        gi_wp2
        go_roundw
        case rel => exact ⟨k + 1, by omega, by simp, by rw [hE1 k hlt, hbk]; exact hJn, hBn⟩
        case measure => simp [intOf]; omega
      | true =>
        rw [hbk] at c1
        have hJn : J (E k) (wr.alloc (.cells #[.bool true, .int .i64 (vs k)] 75)) := hJ _ _ _ none hJs (World.grownBy_alloc _ _ none) (fun r e => by cases e)
        have hBn : Below n₀ W (wr.alloc (.cells #[.bool true, .int .i64 (vs k)] 75)) := hnx.alloc (Nat.le_trans hn₀ hnx.size) _
        have hE2 : E (k + 1) = E k ++ [(k, vs k)] := by rw [hE1 k hlt, hbk]; rfl
        obtain ⟨fn, tmps, assign, body, hy, hR⟩ := hY _ (k, vs k) _ hJn (hlen k hlt hbk)
        dsimp only at hy
        gi_wp2
        refine hR.mono ?_
        rintro e W3 (⟨rfl, hJ3, hk3⟩ | ⟨rfl, hJx3⟩)
        · gi_wp2
          go_roundw
          case rel => exact ⟨k + 1, by omega, by simp, by rw [hE2]; exact hJ3, hBn.trans hk3⟩
          case measure => simp [intOf]; omega
        · gi_wp2
          refine bodyPost_ret (results_none rfl _ _ _) rfl ?_
          exact ⟨⟨_, rfl⟩, .inr ⟨_, ⟨k, hlt, hE2.symm⟩, hJx3⟩⟩
    · obtain rfl : k = len := by omega
      gi_wp2
      go_end0
      exact ⟨⟨_, rfl⟩, .inl ⟨_, rfl, hJs⟩⟩
/-- The pairs of the first k cells: those that are open. -/
def ents {α : Type} (bs : Nat → Bool) (vs : Nat → α) : Nat → List (Nat × α)
  | 0 => []
  | k + 1 => if bs k then ents bs vs k ++ [(k, vs k)] else ents bs vs k
theorem ents_len {α : Type} (bs : Nat → Bool) (vs : Nat → α) : ∀ k j, k ≤ j → ents bs vs k <+: ents bs vs j
  | k, 0, h => by obtain rfl : k = 0 := by omega
                  exact List.prefix_refl _
  | k, j + 1, h => by
    by_cases e : k = j + 1
    · subst e; exact List.prefix_refl _
    · have := ents_len bs vs k j (by omega)
      show ents bs vs k <+: (if bs j then ents bs vs j ++ [(j, vs j)] else ents bs vs j)
      split
      · exact this.trans (List.prefix_append _ _)
      · exact this
theorem ents_lt {α : Type} (bs : Nat → Bool) (vs : Nat → α) {k len : Nat} (h : k < len) (hb : bs k = true) : (ents bs vs k).length < (ents bs vs len).length := by
  have h1 := (ents_len bs vs (k + 1) len h).length_le
  have h2 : (ents bs vs (k + 1)).length = (ents bs vs k).length + 1 := by
    show (if bs k then _ else _ : List (Nat × α)).length = _
    rw [hb, if_pos rfl]; simp
  omega
/-- .. of a table that holds no cells. -/
theorem all1_nil (F : Fence) (n : Nat) (h39 : F.fn 39) (hro : F.round = none) (l Bs cap : Nat) (A : Option Addr) (J : List (Nat × Int) → World → Prop) (W : World) (hBs : W.cell? ⟨Bs, 0, none⟩ = some (.slice A 0 cap)) (h0 : J [] W) :
    CallsIn F n Try.prog 39 #[.func (.yield l) #[] #[], .pointer (some ⟨Bs, 0, none⟩)] W fun e W' => (∃ v, e = .returned v) ∧ J [] W' := by
  refine callsIn_of_wp Try.func39 rfl h39 ?_ hro
  simp only [Try.ntmps39, List.size_toArray, List.length_cons, List.length_nil, Nat.reduceAdd, Nat.reduceSub, Array.replicate_succ, Array.replicate_zero, List.push_toArray, List.append_toArray, List.nil_append, List.cons_append]
  gi_wp2
  gi_loopw [7] (fun i wr => i = .int .i64 0 ∧ J [] wr) (fun _ _ => 0)
  case atStart => exact ⟨rfl, h0⟩
  case round =>
    obtain ⟨rfl, hJs⟩ := hrel
    gi_wp2
    go_end0
    exact ⟨⟨_, rfl⟩, hJs⟩
theorem all_stops (F : Fence) (n : Nat) (h39 : F.fn 39) (hro : F.round = none) (hn : 1 ≤ n) (Bs n₀ len cap : Nat) (A : Option Addr) (bs : Nat → Bool) (vs : Nat → Int) (hreach : len * 16 ≤ 140737488351232) (w : World) (hBs : Bs < w.heap.size) (hn₀ : n₀ ≤ w.heap.size)
    (hc : w.cell? ⟨Bs, 0, none⟩ = some (.slice A len cap)) (hI : len = 0 ∨ ∃ b off, A = some ⟨b, off, none⟩ ∧ b < n₀ ∧ ∀ j, j < len → w.cell? ⟨b, off + j * 2, none⟩ = some (.bool (bs j)) ∧ w.cell? ⟨b, off + j * 2 + 1, none⟩ = some (.int .i64 (vs j))) :
    SeqStopsK F n Try.prog 39 #[.pointer (some ⟨Bs, 0, none⟩)] (fun x : Nat × Int => #[Value.int .i64 (x.1 : Int), Value.int .i64 x.2]) (Below n₀) (fun ys => ys = ents bs vs len)
      (fun pre => pre <+: ents bs vs len) (ents bs vs len).length w := fun l J Jx W hW hJ _ hY h0 => by
  have hc' := (hW.cell (p := ⟨Bs, 0, none⟩) hBs).trans hc
  rcases hI with rfl | ⟨b, off, rfl, hb, hcs⟩
  · exact (all1_nil F n h39 hro l Bs cap A J W hc' h0).mono fun e W' ⟨he, hj⟩ => ⟨he, .inl ⟨_, rfl, hj⟩⟩
  · refine (all1_in F n h39 hro hn l Bs n₀ b off len cap bs vs hreach hb (ents bs vs) rfl (fun k _ => rfl) J Jx W (Nat.le_trans hn₀ hW.size) hJ hY (fun k hk hbk => ents_lt bs vs hk hbk) hc' (fun j hj => ⟨(hW.cell (p := ⟨b, off + j * 2, none⟩) (by simp only; omega)).trans (hcs j hj).1, (hW.cell (p := ⟨b, off + j * 2 + 1, none⟩) (by simp only; omega)).trans (hcs j hj).2⟩) h0).mono ?_
    rintro e W' ⟨he, ⟨ys, rfl, hj⟩ | ⟨pre, ⟨k, hk, rfl⟩, hj⟩⟩
    · exact ⟨he, .inl ⟨_, rfl, hj⟩⟩
    · exact ⟨he, .inr ⟨_, ents_len bs vs _ _ hk, hj⟩⟩
theorem run_eqlF1 (d : Nat) (w : World) (fn : Fn) (a b : Array Value) : (Op.equalIn (d + 1) 58 (.func fn a b) .nilFunc).run Try.prog w = .ok false w := by simp [Op.equalIn, run_underlying Try.underlying58]
theorem run_eqlF2 (w : World) (fn : Fn) (a b : Array Value) : (Op.equal 58 (.func fn a b) .nilFunc).run Try.prog w = .ok false w := run_eqlF1 9999 w fn a b
theorem run_eqlF (w : World) (fn : Fn) (a b : Array Value) : (binOp .eql 58 (.func fn a b) .nilFunc).run Try.prog w = .ok (.bool false) w := by
  simp only [binOp, Sem.run_bind, run_eqlF2, Result.andThen_ok, Sem.run_pure]
attribute [local go_sem] run_eqlF
theorem cell_of_box_l {W : World} {B : Nat} {v : Value} {t : TypeId} (h : W.heap[B]? = some (.cells #[v] t (0, 0))) : W.cell? ⟨B, 0, none⟩ = some v ∧ W.frozen? ⟨B, 0, none⟩ = false := by
  constructor <;> simp [World.cell?, World.frozen?, h]
theorem cell_new_l (W : World) (v : Value) (t : TypeId) : (W.alloc (.cells #[v] t)).cell? ⟨W.heap.size, 0, none⟩ = some v ∧ (W.alloc (.cells #[v] t)).frozen? ⟨W.heap.size, 0, none⟩ = false :=
  cell_of_box_l (World.alloc_heap_new W _)
theorem cell_alloc_l {W : World} {a : Addr} {v : Value} (o : Obj) (h : W.cell? a = some v) : (W.alloc o).cell? a = some v := cell_kept h (World.grownBy_alloc W o none) (fun r e => by cases e)
theorem frozen_alloc_l {W : World} {a : Addr} {v : Value} (o : Obj) (h : W.cell? a = some v) (hf : W.frozen? a = false) : (W.alloc o).frozen? a = false := (frozen_kept h (World.grownBy_alloc W o none) (fun r e => by cases e)).trans hf
theorem pre_at {α : Type} {pre E : List α} {x p : α} (h : E[pre.length]? = some p) (hp : pre ++ [x] <+: E) : x = p := by
  obtain ⟨t, rfl⟩ := hp
  rw [List.append_assoc, List.getElem?_append_right (Nat.le_refl _), Nat.sub_self] at h
  simpa using h
theorem pre_more {α : Type} {pre E : List α} {p : α} (h : E[pre.length]? = some p) (hp : pre <+: E) : pre ++ [p] <+: E := by
  obtain ⟨t, rfl⟩ := hp
  rw [List.getElem?_append_right (Nat.le_refl _), Nat.sub_self] at h
  cases t with
  | nil => simp at h
  | cons y t => simp at h; subst h; exact ⟨t, by simp⟩
theorem walk_in (F : Fence) (n : Nat) (h25 : F.fn 25) (h39 : F.fn 39) (hro : F.round = none) (hn : 3 ≤ n) (Bn len cap : Nat) (A : Option Addr) (bs : Nat → Bool) (vs : Nat → Int) (hreach : len * 16 ≤ 140737488351232) (w : World) (hlt : Bn < w.heap.size) (hBn : w.cell? ⟨Bn, 0, none⟩ = some (.slice A len cap))
    (hI : len = 0 ∨ ∃ b off, A = some ⟨b, off, none⟩ ∧ b < w.heap.size ∧ ∀ j, j < len → w.cell? ⟨b, off + j * 2, none⟩ = some (.bool (bs j)) ∧ w.cell? ⟨b, off + j * 2 + 1, none⟩ = some (.int .i64 (vs j)))
    (E : List (Nat × Int)) (hE : E = ents bs vs len) (A1 A2 : Option Addr) (c1 c2 : Nat) (most : Int)
    (h1 : E.length = 0 ∨ ∃ b off, A1 = some ⟨b, off, none⟩ ∧ b < w.heap.size ∧ ∀ (j : Nat) p, E[j]? = some p → w.cell? ⟨b, off + j, none⟩ = some (.int .i64 (p.1 : Int)))
    (h2 : E.length = 0 ∨ ∃ b off, A2 = some ⟨b, off, none⟩ ∧ b < w.heap.size ∧ ∀ (j : Nat) p, E[j]? = some p → w.cell? ⟨b, off + j, none⟩ = some (.int .i64 p.2)) :
    CallsIn F n Try.prog 25 #[.func (.func 39) #[] #[.pointer (some ⟨Bn, 0, none⟩)], .slice A1 E.length c1, .slice A2 E.length c2, .int .i64 most] w fun e w' => e = .returned (.bool true) ∧ Below w.heap.size w w' := by
  have hn1 : 1 ≤ n := by omega
  have hseq : ∀ W0 : World, Below w.heap.size w W0 → w.heap.size ≤ W0.heap.size → SeqStopsK F (n - 1) Try.prog 39 #[.pointer (some ⟨Bn, 0, none⟩)] (fun x : Nat × Int => #[Value.int .i64 (x.1 : Int), Value.int .i64 x.2]) (Below w.heap.size) (fun ys => ys = E) (fun pre => pre <+: E) E.length W0 := fun W0 hB hs => by
    have := all_stops F (n - 1) h39 hro (by omega) Bn w.heap.size len cap A bs vs hreach W0 (by omega) hs ((hB.cell (p := ⟨Bn, 0, none⟩) hlt).trans hBn) (by
      rcases hI with h | ⟨b, off, h3, h4, h5⟩
      · exact .inl h
      · exact .inr ⟨b, off, h3, h4, fun j hj => ⟨(hB.cell (p := ⟨b, off + j * 2, none⟩) h4).trans (h5 j hj).1, (hB.cell (p := ⟨b, off + j * 2 + 1, none⟩) h4).trans (h5 j hj).2⟩⟩)
    rw [← hE] at this
    exact this
  have hEl : E.length ≤ 140737488351232 := by
    have h5 : ∀ k, (ents bs vs k).length ≤ k := fun k => by
      induction k with
      | zero => exact Nat.le_refl _
      | succ k ih =>
        show (if bs k then ents bs vs k ++ [(k, vs k)] else ents bs vs k).length ≤ k + 1
        split
        · simp; omega
        · omega
    have := h5 len
    rw [hE]; omega
  clear hE hI hBn
  have g1 : ∀ (j : Nat) p, E[j]? = some p → ∃ b off, A1 = some ⟨b, off, none⟩ ∧ b < w.heap.size ∧ w.cell? ⟨b, off + j, none⟩ = some (.int .i64 (p.1 : Int)) := fun j p hj => by
    rcases h1 with h | ⟨b, off, h3, h4, h5⟩
    · have := (List.getElem?_eq_some_iff.1 hj).1; omega
    · exact ⟨b, off, h3, h4, h5 j p hj⟩
  have g2 : ∀ (j : Nat) p, E[j]? = some p → ∃ b off, A2 = some ⟨b, off, none⟩ ∧ b < w.heap.size ∧ w.cell? ⟨b, off + j, none⟩ = some (.int .i64 p.2) := fun j p hj => by
    rcases h2 with h | ⟨b, off, h3, h4, h5⟩
    · have := (List.getElem?_eq_some_iff.1 hj).1; omega
    · exact ⟨b, off, h3, h4, h5 j p hj⟩
  clear h1 h2
  refine callsIn_of_wp_marks Try.func25 rfl h25 ?_ hro
  simp only [Try.ntmps25, List.size_toArray, List.length_cons, List.length_nil, Nat.reduceAdd, Nat.reduceSub, Array.replicate_succ, Array.replicate_zero, List.push_toArray, List.append_toArray, List.nil_append, List.cons_append]
  gi_wp2
  have b5 := cell_new_l w (.slice A1 E.length c1) 49
  have b6 := cell_new_l (w.alloc (.cells #[.slice A1 E.length c1] 49)) (.slice A2 E.length c2) 49
  have b7 := cell_new_l ((w.alloc (.cells #[.slice A1 E.length c1] 49)).alloc (.cells #[.slice A2 E.length c2] 49)) (.int .i64 most) 3
  have b8 := cell_new_l (((w.alloc (.cells #[.slice A1 E.length c1] 49)).alloc (.cells #[.slice A2 E.length c2] 49)).alloc (.cells #[.int .i64 most] 3)) (.bool false) 4
  have b9 := cell_new_l ((((w.alloc (.cells #[.slice A1 E.length c1] 49)).alloc (.cells #[.slice A2 E.length c2] 49)).alloc (.cells #[.int .i64 most] 3)).alloc (.cells #[.bool false] 4)) (.int .i64 0) 3
  simp only [World.size_alloc] at b6 b7 b8 b9
  have hbel : Below w.heap.size w (((((w.alloc (.cells #[.slice A1 E.length c1] 49)).alloc (.cells #[.slice A2 E.length c2] 49)).alloc (.cells #[.int .i64 most] 3)).alloc (.cells #[.bool false] 4)).alloc (.cells #[.int .i64 0] 3)) := (((((Below.refl _ w).alloc (Nat.le_refl _) _).alloc (by simp) _).alloc (by simp; omega) _).alloc (by simp; omega) _).alloc (by simp; omega) _
  have hsz : (((((w.alloc (.cells #[.slice A1 E.length c1] 49)).alloc (.cells #[.slice A2 E.length c2] 49)).alloc (.cells #[.int .i64 most] 3)).alloc (.cells #[.bool false] 4)).alloc (.cells #[.int .i64 0] 3)).heap.size = w.heap.size + 5 := by simp
  have d5 := cell_alloc_l (.cells #[.int .i64 0] 3) (cell_alloc_l (.cells #[.bool false] 4) (cell_alloc_l (.cells #[.int .i64 most] 3) (cell_alloc_l (.cells #[.slice A2 E.length c2] 49) b5.1)))
  have d6 := cell_alloc_l (.cells #[.int .i64 0] 3) (cell_alloc_l (.cells #[.bool false] 4) (cell_alloc_l (.cells #[.int .i64 most] 3) b6.1))
  have d7 := cell_alloc_l (.cells #[.int .i64 0] 3) (cell_alloc_l (.cells #[.bool false] 4) b7.1)
  have d8 := cell_alloc_l (.cells #[.int .i64 0] 3) b8.1
  have f8 := frozen_alloc_l (.cells #[.int .i64 0] 3) b8.1 b8.2
  have d9 := b9.1
  have f9 := b9.2
  clear b5 b6 b7 b8 b9
  generalize ((((w.alloc (.cells #[.slice A1 E.length c1] 49)).alloc (.cells #[.slice A2 E.length c2] 49)).alloc (.cells #[.int .i64 most] 3)).alloc (.cells #[.bool false] 4)).alloc (.cells #[.int .i64 0] 3) = W0 at *
  refine wpIn_rangeFunc_ownF hro hn1 (gf := 39) (lb := #[.pointer (some ⟨Bn, 0, none⟩)]) rfl h39 (enters_of Try.func39 (by kernel_rfl) rfl)
    (hseq W0 hbel (by omega)) belowK_t (belowK_b (by omega)) (Below.refl _ _) (fun _ => rfl)
    (fun pre W => (pre <+: E ∧ W.cell? ⟨w.heap.size, 0, none⟩ = some (.slice A1 E.length c1) ∧ W.cell? ⟨w.heap.size + 1, 0, none⟩ = some (.slice A2 E.length c2) ∧ W.cell? ⟨w.heap.size + 1 + 1, 0, none⟩ = some (.int .i64 most) ∧ W.cell? ⟨w.heap.size + 1 + 1 + 1, 0, none⟩ = some (.bool false) ∧ W.frozen? ⟨w.heap.size + 1 + 1 + 1, 0, none⟩ = false ∧ W.cell? ⟨w.heap.size + 1 + 1 + 1 + 1, 0, none⟩ = some (.int .i64 (pre.length : Int)) ∧ W.frozen? ⟨w.heap.size + 1 + 1 + 1 + 1, 0, none⟩ = false) ∧ Below w.heap.size w W)
    (fun c pre W => (c = .ret ∧ (pre <+: E → W.cell? ⟨w.heap.size + 1 + 1 + 1, 0, none⟩ = some (.bool true))) ∧ Below w.heap.size w W)
    (OwnFrom.and (Own.from (fun s A B row hs hg hr => ⟨hs.1, cell_kept hs.2.1 hg hr, cell_kept hs.2.2.1 hg hr, cell_kept hs.2.2.2.1 hg hr, cell_kept hs.2.2.2.2.1 hg hr, (frozen_kept hs.2.2.2.2.1 hg hr).trans hs.2.2.2.2.2.1, cell_kept hs.2.2.2.2.2.2.1 hg hr, (frozen_kept hs.2.2.2.2.2.2.1 hg hr).trans hs.2.2.2.2.2.2.2⟩) _) (ownFrom_below (by omega) (by omega)))
    (fun c => OwnFrom.and (Own.from (fun s A B row hs hg hr => ⟨hs.1, fun hp => cell_kept (hs.2 hp) hg hr⟩) _) (ownFrom_below (by omega) (by omega)))
    ⟨⟨List.nil_prefix, d5, d6, d7, d8, f8, d9, f9⟩, hbel⟩
    (fun x => { tmps := #[.func (.func 39) #[] #[.pointer (some ⟨Bn, 0, none⟩)], .slice A1 E.length c1, .slice A2 E.length c2, .int .i64 most, undef,
          .pointer (some ⟨w.heap.size, 0, none⟩), .pointer (some ⟨w.heap.size + 1, 0, none⟩), .pointer (some ⟨w.heap.size + 1 + 1, 0, none⟩), .pointer (some ⟨w.heap.size + 1 + 1 + 1, 0, none⟩), .pointer (some ⟨w.heap.size + 1 + 1 + 1 + 1, 0, none⟩), .int .i64 (x.1 : Int), .int .i64 x.2,
          .func (.func 39) #[] #[.pointer (some ⟨Bn, 0, none⟩)], .bool false, .func (.func 39) #[] #[.pointer (some ⟨Bn, 0, none⟩)], .int .i64 (x.1 : Int), .int .i64 x.2, undef, undef,
          undef, undef, undef, undef, undef, undef, undef, undef, undef, undef, undef, undef, undef, undef, undef,
          undef, undef, undef, undef, undef, undef, undef, undef, undef, undef, undef, undef], defers := [] }) ?assign ?body ?done ?stop
  case assign =>
    intro l x W K hK
    gi_wp2
    exact hK
  case body =>
    rintro l pre x W ⟨⟨hp, e5, e6, e7, e8, k8, e9, k9⟩, hB⟩ hl
    obtain ⟨p, hE⟩ : ∃ p, E[pre.length]? = some p := ⟨E[pre.length], List.getElem?_eq_getElem hl⟩
    obtain ⟨b1, o1, rfl, l1, v1⟩ := g1 _ p hE
    obtain ⟨b2, o2, rfl, l2, v2⟩ := g2 _ p hE
    have v1 := (hB.cell (p := ⟨b1, o1 + pre.length, none⟩) l1).trans v1
    have v2 := (hB.cell (p := ⟨b2, o2 + pre.length, none⟩) l2).trans v2
    have hw : x = p ∨ (x.1 : Int) ≠ p.1 ∨ ((x.1 : Int) = p.1 ∧ x.2 ≠ p.2) := by
      rcases Classical.em ((x.1 : Int) = p.1) with h | h
      · rcases Classical.em (x.2 = p.2) with h' | h'
        · exact .inl (Prod.ext (by omega) h')
        · exact .inr (.inr ⟨h, h'⟩)
      · exact .inr (.inl h)
    have hwr : wrap64 ((pre.length : Int) + 1) = (pre.length : Int) + 1 := by unfold wrap64; omega
    have hne : ¬ x = p → ¬ pre ++ [x] <+: E := fun h h' => h (pre_at hE h')
    have out : ∀ W1 : World, KeepsOthers W W1 → Below w.heap.size w W1 → ¬ x = p → KeepsOthers W W1 ∧ ((pre ++ [x] <+: E → W1.cell? ⟨w.heap.size + 1 + 1 + 1, 0, none⟩ = some (.bool true)) ∧ Below w.heap.size w W1) := fun W1 hk hb h => ⟨hk, fun h' => absurd h' (hne h), hb⟩
    have hF := hB.setCell (p := ⟨w.heap.size + 1 + 1 + 1, 0, none⟩) (by simp; omega) (.bool false)
    have hN := hB.setCell (p := ⟨w.heap.size + 1 + 1 + 1 + 1, 0, none⟩) (by simp; omega) (.int .i64 ((pre.length : Int) + 1))
    have hN2 := (Below.refl w.heap.size W).setCell (p := ⟨w.heap.size + 1 + 1 + 1 + 1, 0, none⟩) (by simp; omega) (.int .i64 ((pre.length : Int) + 1))
    have hT := hN.setCell (p := ⟨w.heap.size + 1 + 1 + 1, 0, none⟩) (by simp; omega) (.bool true)
    have oth : ∀ (a : Addr) (u : Value), W.cell? a = some u → a.block ≠ w.heap.size + 1 + 1 + 1 + 1 → (W.setCell ⟨w.heap.size + 1 + 1 + 1 + 1, 0, none⟩ (.int .i64 ((pre.length : Int) + 1))).cell? a = some u := fun a u h hne => (World.cell?_setCell_other _ _ _ _ (fun e => hne (by rw [← e]))).trans h
    rcases hw with rfl | hw | ⟨hw, hw2⟩
    · gi_wp2
      · refine ⟨(KeepsOthers.setCell _ _ _).trans (KeepsOthers.setCell _ _ _), ⟨rfl, fun _ => ?_⟩, hT⟩
        exact World.cell?_setCell_same' _ _ _ (by rw [oth _ _ e8 (by simp only; omega)]; rfl)
      · refine ⟨KeepsOthers.setCell _ _ _, hN2, ⟨pre_more hE hp, ?_, ?_, ?_, ?_, ?_, ?_, ?_⟩, hN⟩
        · exact oth _ _ e5 (by simp only; omega)
        · exact oth _ _ e6 (by simp only; omega)
        · exact oth _ _ e7 (by simp only; omega)
        · exact oth _ _ e8 (by simp only; omega)
        · rw [World.frozen?_setCell]; exact k8
        · rw [List.length_append]
          exact World.cell?_setCell_same' _ _ _ (by rw [e9]; rfl)
        · rw [World.frozen?_setCell]; exact k9
    · gi_wp2
      obtain ⟨q1, q2, q3⟩ := out _ (KeepsOthers.setCell _ _ _) hF (fun e => hw (by rw [e]))
      exact ⟨q1, ⟨rfl, q2⟩, q3⟩
    · gi_wp2
      · obtain ⟨q1, q2, q3⟩ := out _ (KeepsOthers.setCell _ _ _) hF (fun e => hw2 (by rw [e]))
        exact ⟨q1, ⟨rfl, q2⟩, q3⟩
      all_goals (exfalso; rename_i h_ h2_; revert h_; simp [hw2])
  case done =>
    rintro D ys W hD rfl ⟨⟨hp, e5, e6, e7, e8, k8, e9, k9⟩, hB⟩ hK
    gi_wp2
    have hK2 : (W.setCell ⟨w.heap.size + 1 + 1 + 1, 0, none⟩ (.bool true)).heap[D]? = some (.deferred (some [])) := (KeepsOthers.setCell _ _ _).same D _ hK rfl
    have hc2 : (W.setCell ⟨w.heap.size + 1 + 1 + 1, 0, none⟩ (.bool true)).cell? ⟨w.heap.size + 1 + 1 + 1, 0, none⟩ = some (.bool true) := World.cell?_setCell_same' _ _ _ (by rw [e8]; rfl)
    have hc3 := cell_kept hc2 (grownBy_putObj' _ D (.deferred none)) (fun r e => by cases e; exact ⟨_, hK2, rfl⟩)
    have hB2 : Below w.heap.size w (W.setCell ⟨w.heap.size + 1 + 1 + 1, 0, none⟩ (.bool true)) := hB.setCell (p := ⟨w.heap.size + 1 + 1 + 1, 0, none⟩) (by simp; omega) _
    refine ⟨by simp, .inl ⟨_, _, rfl, run_takeDeferred hK2, ?_⟩⟩
    refine ⟨_, ?_, rfl, hB2.trans (belowK_b (w := w) (Nat.le_refl _) _ D _ _ (by omega) hK2 rfl rfl)⟩
    simp [results, Try.f25, go_sem, hc3]
  case stop =>
    rintro D c pre W hD hpre ⟨⟨rfl, hc⟩, hB⟩ hK
    gi_wp2
    have hc3 := cell_kept (hc hpre) (grownBy_putObj' _ D (.deferred none)) (fun r e => by cases e; exact ⟨_, hK, rfl⟩)
    refine ⟨by simp, .inl ⟨_, _, rfl, run_takeDeferred hK, ?_⟩⟩
    refine ⟨_, ?_, rfl, hB.trans (belowK_b (w := w) (Nat.le_refl _) _ D _ _ (by omega) hK rfl rfl)⟩
    simp [results, Try.f25, go_sem, hc3]
theorem walk_calls (Bn len cap : Nat) (A : Option Addr) (bs : Nat → Bool) (vs : Nat → Int) (hreach : len * 16 ≤ 140737488351232) (w : World) (hlt : Bn < w.heap.size) (hBn : w.cell? ⟨Bn, 0, none⟩ = some (.slice A len cap))
    (hI : len = 0 ∨ ∃ b off, A = some ⟨b, off, none⟩ ∧ b < w.heap.size ∧ ∀ j, j < len → w.cell? ⟨b, off + j * 2, none⟩ = some (.bool (bs j)) ∧ w.cell? ⟨b, off + j * 2 + 1, none⟩ = some (.int .i64 (vs j)))
    (E : List (Nat × Int)) (hE : E = ents bs vs len) (A1 A2 : Option Addr) (c1 c2 : Nat) (most : Int)
    (h1 : E.length = 0 ∨ ∃ b off, A1 = some ⟨b, off, none⟩ ∧ b < w.heap.size ∧ ∀ (j : Nat) p, E[j]? = some p → w.cell? ⟨b, off + j, none⟩ = some (.int .i64 (p.1 : Int)))
    (h2 : E.length = 0 ∨ ∃ b off, A2 = some ⟨b, off, none⟩ ∧ b < w.heap.size ∧ ∀ (j : Nat) p, E[j]? = some p → w.cell? ⟨b, off + j, none⟩ = some (.int .i64 p.2)) :
    Calls Try.prog 25 #[.func (.func 39) #[] #[.pointer (some ⟨Bn, 0, none⟩)], .slice A1 E.length c1, .slice A2 E.length c2, .int .i64 most] w fun e w' => e = .returned (.bool true) ∧ Below w.heap.size w w' :=
  (callsIn_wide (n := 3)).1 (walk_in Fence.wide 3 trivial trivial rfl (by omega) Bn len cap A bs vs hreach w hlt hBn hI E hE A1 A2 c1 c2 most h1 h2)
end Go.Proofs.Ytgbdjeofbeibiaa.Fc
