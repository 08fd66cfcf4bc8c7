/- Plain words on blocks: numbers read, numbers laid, bytes laid; no program in sight. -/
import Derived.Test.YtiafeogjknilmaaBase
import Derived.Laws.BitsAllLaws
namespace Go.Proofs.Ytiafeogjknilmaa.B
def Byt (f : Nat → Int) : Prop := ∀ i, 0 ≤ f i ∧ f i < 256
theorem byt_zero : Byt zeroF := fun _ => ⟨by simp [zeroF], by simp [zeroF]⟩
theorem byt_upd {f i x} (h : Byt f) (h0 : 0 ≤ x) (h1 : x < 256) : Byt (upd f i x) := by
  intro j; simp only [upd]; split
  · exact ⟨h0, h1⟩
  · exact h j
/-- The number of n bytes from a place on, the lowest first. -/
def num (f : Nat → Int) (p : Nat) : Nat → Int
  | 0 => 0
  | n + 1 => f p + 256 * num f (p + 1) n
theorem num_bd {f} (h : Byt f) : ∀ n p, 0 ≤ num f p n ∧ num f p n < 256 ^ n
  | 0, _ => by simp only [num, Int.pow_zero]; omega
  | n + 1, p => by
    have h1 := num_bd h n (p + 1)
    have h2 := h p
    simp only [num]
    rw [Int.pow_succ]
    omega
theorem num_lt {f} (h : Byt f) (n p m : Nat) (hm : n ≤ m) : 0 ≤ num f p n ∧ num f p n < 256 ^ m := by
  have := num_bd h n p
  have h2 : (256 : Int) ^ n ≤ 256 ^ m := by
    have h3 : (256 : Nat) ^ n ≤ 256 ^ m := Nat.pow_le_pow_right (by omega) hm
    rw [show (256 : Int) = ((256 : Nat) : Int) from rfl, ← Int.natCast_pow, ← Int.natCast_pow]
    exact Int.ofNat_le.2 h3
  omega
/-- k bytes of v laid from a place on. -/
def layN (f : Nat → Int) (at_ : Nat) (v : Int) (k : Nat) : Nat → Int := fun j => if at_ ≤ j ∧ j < at_ + k then v / (2 ^ (8 * (j - at_)) : Nat) % 256 else f j
theorem layN_zero (f at_ v) : layN f at_ v 0 = f := by funext j; simp only [layN]; rw [if_neg (by omega)]
theorem layN_succ (f at_ v k) : layN f at_ v (k+1) = upd (layN f at_ v k) (at_ + k) (v / (2 ^ (8 * k) : Nat) % 256) := by
  funext j
  simp only [layN, upd]
  by_cases h : j = at_ + k
  · subst h; rw [if_pos (by omega), if_pos rfl, Nat.add_sub_cancel_left]
  · rw [if_neg h]
    by_cases h2 : at_ ≤ j ∧ j < at_ + k
    · rw [if_pos h2, if_pos (by omega)]
    · rw [if_neg h2, if_neg (by omega)]
theorem byt_layN {f} (h : Byt f) (at_ v k) : Byt (layN f at_ v k) := by
  intro j; simp only [layN]; split
  · omega
  · exact h j
def u16 (f : Nat → Int) (at_ : Int) : Int := if 0 ≤ at_ ∧ at_ ≤ 1022 then num f at_.toNat 2 else 0
def u32 (f : Nat → Int) (at_ : Int) : Int := if 0 ≤ at_ ∧ at_ ≤ 1020 then num f at_.toNat 4 else 0
def set16 (f : Nat → Int) (at_ : Int) (v : Int) : Nat → Int := if 0 ≤ at_ ∧ at_ ≤ 1022 then layN f at_.toNat v 2 else f
def set32 (f : Nat → Int) (at_ : Int) (v : Int) : Nat → Int := if 0 ≤ at_ ∧ at_ ≤ 1020 then layN f at_.toNat v 4 else f
theorem byt_set16 {f} (h : Byt f) (at_ v) : Byt (set16 f at_ v) := by unfold set16; split <;> first | exact byt_layN h _ _ _ | exact h
theorem byt_set32 {f} (h : Byt f) (at_ v) : Byt (set32 f at_ v) := by unfold set32; split <;> first | exact byt_layN h _ _ _ | exact h
theorem or16 (x y : Int) (hx : 0 ≤ x) (hx1 : x < 256) (hy : 0 ≤ y) (hy1 : y < 256) : bits .or .u16 x (y * 256) = x + 256 * y := by
  rw [u16_or _ _ hx (by omega) (by omega) (by omega), Nat.or_comm, nat_join 8 _ _ (by omega) (by omega)]
  omega
theorem or32 (i : Nat) (x y : Int) (hx : 0 ≤ x) (hx1 : x < 2 ^ i) (hy : 0 ≤ y) (hy1 : y < 4294967296) (hi : y % 2 ^ i = 0) (hx2 : x < 4294967296) : bits .or .u32 x y = x + y := by
  have h1 : x.toNat < 2 ^ i := by
    have : (x.toNat : Int) < ((2 ^ i : Nat) : Int) := by rw [Int.toNat_of_nonneg hx]; exact_mod_cast hx1
    exact_mod_cast this
  have h2 : y.toNat % 2 ^ i = 0 := by
    have : ((y.toNat % 2 ^ i : Nat) : Int) = 0 := by
      push_cast
      rw [Int.toNat_of_nonneg hy]
      exact hi
    exact_mod_cast this
  rw [u32_or _ _ hx hx2 hy hy1, Nat.or_comm, nat_join i _ _ h2 h1]
  push_cast
  rw [Int.toNat_of_nonneg hx, Int.toNat_of_nonneg hy]
  omega
theorem or32_4 (a b c d : Int) (ha : 0 ≤ a ∧ a < 256) (hb : 0 ≤ b ∧ b < 256) (hc : 0 ≤ c ∧ c < 256) (hd : 0 ≤ d ∧ d < 256) :
    bits .or .u32 (bits .or .u32 (bits .or .u32 a (b * 256)) (c * 65536)) (d * 16777216) = a + 256 * (b + 256 * (c + 256 * d)) := by
  rw [or32 8 a (b * 256) (by omega) (by simp; omega) (by omega) (by omega) (by simp) (by omega),
    or32 16 (a + b * 256) (c * 65536) (by omega) (by simp; omega) (by omega) (by omega) (by simp) (by omega),
    or32 24 (a + b * 256 + c * 65536) (d * 16777216) (by omega) (by simp; omega) (by omega) (by omega) (by simp) (by omega)]
  omega
end Go.Proofs.Ytiafeogjknilmaa.B
