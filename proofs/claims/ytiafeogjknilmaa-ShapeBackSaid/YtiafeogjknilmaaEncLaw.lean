/- A superblock's numbers are read as they were laid; no walk in sight. -/
import Derived.Test.YtiafeogjknilmaaDecP
namespace Go.Proofs.Ytiafeogjknilmaa.B
theorem num4 (f : Nat → Int) (p : Nat) : num f p 4 = f p + 256 * (f (p + 1) + 256 * (f (p + 2) + 256 * f (p + 3))) := by
  simp only [num, Nat.add_assoc, Nat.reduceAdd, Int.mul_zero, Int.add_zero]
theorem num_same (f : Nat → Int) (p : Nat) (v : Int) (h0 : 0 ≤ v) (h1 : v < 4294967296) : num (layN f p v 4) p 4 = v := by
  rw [num4]
  simp only [layN]
  rw [if_pos (by omega), if_pos (by omega), if_pos (by omega), if_pos (by omega)]
  rw [show p - p = 0 by omega, show p + 1 - p = 1 by omega, show p + 2 - p = 2 by omega, show p + 3 - p = 3 by omega]
  simp
  omega
theorem num_far (f : Nat → Int) (p q : Nat) (v : Int) (h : p + 4 ≤ q ∨ q + 4 ≤ p) : num (layN f q v 4) p 4 = num f p 4 := by
  rw [num4, num4]
  simp only [layN]
  rw [if_neg (by omega), if_neg (by omega), if_neg (by omega), if_neg (by omega)]
theorem encP_get (l : List Int) (hl : ∀ j, j < 9 → 0 ≤ l.getD j 0 ∧ l.getD j 0 < 4294967296) : ∀ k, k ≤ 9 → ∀ j, j < k → num (encP l k) (8 + 4 * j) 4 = l.getD j 0
  | 0, _, j, hj => by omega
  | k + 1, hk, j, hj => by
    have e : encP l (k + 1) = layN (encP l k) (8 + 4 * k) (l.getD k 0) 4 := by
      show set32 (encP l k) (8 + 4 * k) (l.getD k 0) = _
      unfold set32
      rw [if_pos (by omega), show (8 + 4 * (k : Int)).toNat = 8 + 4 * k by omega]
    rw [e]
    by_cases h : j = k
    · subst h; exact num_same _ _ _ (hl j (by omega)).1 (hl j (by omega)).2
    · rw [num_far _ _ _ _ (by omega)]
      exact encP_get l hl k (by omega) j (by omega)
theorem encF_u32 (l : List Int) (hl : ∀ j, j < 9 → 0 ≤ l.getD j 0 ∧ l.getD j 0 < 4294967296) (j : Nat) (hj : j < 9) : u32 (encF l) (8 + 4 * j) = l.getD j 0 := by
  unfold u32
  rw [if_pos (by omega), show (8 + 4 * (j : Int)).toNat = 8 + 4 * j by omega]
  exact encP_get l hl 9 (by omega) j hj
theorem layL_bd {b l i : Int} (h : mayBe b l i) : ∀ j, j < 9 → 0 ≤ (layL b l i).getD j 0 ∧ (layL b l i).getD j 0 < 4294967296 := by
  obtain ⟨h1, h2, h3, h4, h5, h6, h7⟩ := h
  unfold dataAtN at h7
  intro j hj
  have hc : j = 0 ∨ j = 1 ∨ j = 2 ∨ j = 3 ∨ j = 4 ∨ j = 5 ∨ j = 6 ∨ j = 7 ∨ j = 8 := by omega
  rcases hc with rfl | rfl | rfl | rfl | rfl | rfl | rfl | rfl | rfl <;> simp [layL, dataAtN] <;> omega
/-- What was written of a geometry is read as it was, of a disk that is large enough. -/
theorem good_enc {b l i n : Int} (h : mayBe b l i) (hn : b ≤ n) : goodD (encF (layL b l i)) n := by
  have u0 : u32 (encF (layL b l i)) 8 = b := encF_u32 _ (layL_bd h) 0 (by omega)
  have u1 : u32 (encF (layL b l i)) 12 = l := encF_u32 _ (layL_bd h) 1 (by omega)
  have u2 : u32 (encF (layL b l i)) 16 = i := encF_u32 _ (layL_bd h) 2 (by omega)
  unfold goodD
  rw [u0, u1, u2]
  exact ⟨h, hn, eqB_refl _ _⟩
theorem dec_enc {b l i n : Int} (h : mayBe b l i) (hn : b ≤ n) : decR (encF (layL b l i)) n = .tuple #[.agg (intsV (layL b l i)), .int .i64 0] := by
  have u0 : u32 (encF (layL b l i)) 8 = b := encF_u32 _ (layL_bd h) 0 (by omega)
  have u1 : u32 (encF (layL b l i)) 12 = l := encF_u32 _ (layL_bd h) 1 (by omega)
  have u2 : u32 (encF (layL b l i)) 16 = i := encF_u32 _ (layL_bd h) 2 (by omega)
  unfold decR
  rw [if_pos (good_enc h hn), u0, u1, u2]
theorem not_good_enc {b l i n : Int} (h : mayBe b l i) (hn : ¬ b ≤ n) : decR (encF (layL b l i)) n = badD := by
  have u0 : u32 (encF (layL b l i)) 8 = b := encF_u32 _ (layL_bd h) 0 (by omega)
  unfold decR
  rw [if_neg]
  intro hg
  rw [goodD, u0] at hg
  exact hn hg.2.1
theorem byt_encF (l) : Byt (encF l) := byt_encP l 9
theorem awake_bytes : encF [400, 32, 60, 1, 33, 4, 37, 1, 38] 8 = 144 ∧ encF [400, 32, 60, 1, 33, 4, 37, 1, 38] 9 = 1 := by decide +kernel
end Go.Proofs.Ytiafeogjknilmaa.B
