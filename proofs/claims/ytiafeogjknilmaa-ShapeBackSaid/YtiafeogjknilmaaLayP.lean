/- Bytes laid into a block: which places they come to; no walk in sight. -/
import Derived.Test.YtiafeogjknilmaaPieceP
namespace Go.Proofs.Ytiafeogjknilmaa.B
/-- The bytes l laid from a place on, those that come to lie inside. -/
def layF (f : Nat → Int) (at_ : Int) (l : List Int) : Nat → Int := fun j => if at_ ≤ j ∧ (j : Int) < at_ + l.length then l.getD ((j : Int) - at_).toNat 0 else f j
/-- The same, those below k alone. -/
def layP (f : Nat → Int) (at_ : Int) (l : List Int) (k : Nat) : Nat → Int := fun j => if j < k then layF f at_ l j else f j
theorem layP_end (f : Nat → Int) (at_ : Int) (l : List Int) (k : Nat) (n : Nat) (h : ∀ i, i < n → k ≤ i → ¬ (at_ ≤ i ∧ (i : Int) < at_ + l.length)) : arrV n .u8 (layP f at_ l k) = arrV n .u8 (layF f at_ l) := by
  refine arrV_ext (fun i hi => ?_)
  simp only [layP]
  split
  · rfl
  · unfold layF; rw [if_neg (h i hi (by omega))]
theorem layP_start (f : Nat → Int) (at_ : Int) (l : List Int) (k : Nat) (n : Nat) (h : ∀ i, i < k → ¬ (at_ ≤ i ∧ (i : Int) < at_ + l.length)) : arrV n .u8 (layP f at_ l k) = arrV n .u8 f := by
  refine arrV_ext (fun i hi => ?_)
  simp only [layP]
  split
  · rename_i hk; unfold layF; rw [if_neg (h i hk)]
  · rfl
theorem layP_in (f : Nat → Int) (at_ : Int) (l : List Int) (k : Nat) (h : at_ ≤ k ∧ (k : Int) < at_ + l.length) : upd (layP f at_ l k) k (l.getD ((k : Int) - at_).toNat 0) = layP f at_ l (k + 1) := by
  funext j
  simp only [upd, layP]
  by_cases hj : j = k
  · subst hj; rw [if_pos rfl, if_pos (by omega)]; unfold layF; rw [if_pos h]
  · rw [if_neg hj]
    by_cases h2 : j < k
    · rw [if_pos h2, if_pos (by omega)]
    · rw [if_neg h2, if_neg (by omega)]
theorem layP_out (f : Nat → Int) (at_ : Int) (l : List Int) (k : Nat) (h : ¬ (at_ ≤ k ∧ (k : Int) < at_ + l.length)) : layP f at_ l (k + 1) = layP f at_ l k := by
  funext j
  simp only [layP]
  by_cases hj : j = k
  · subst hj; rw [if_pos (by omega), if_neg (by omega)]; unfold layF; rw [if_neg h]
  · by_cases h2 : j < k
    · rw [if_pos h2, if_pos (by omega)]
    · rw [if_neg h2, if_neg (by omega)]
theorem byt_layF {f : Nat → Int} {at_ : Int} {l : List Int} (h : Byt f) (hl : ∀ x ∈ l, 0 ≤ x ∧ x < 256) : Byt (layF f at_ l) := by
  intro j
  unfold layF
  split
  · rename_i hj
    rw [List.getD_eq_getElem?_getD]
    have : ((j : Int) - at_).toNat < l.length := by omega
    rw [List.getElem?_eq_getElem this]
    exact hl _ (List.getElem_mem this)
  · exact h j
end Go.Proofs.Ytiafeogjknilmaa.B
