/- Some bytes of a block: which places are meant; no walk in sight. -/
import Derived.Test.YtiafeogjknilmaaPlain
namespace Go.Proofs.Ytiafeogjknilmaa.B
open Go.RowKit
/-- The first place, and the one behind the last, of n from a place on that are inside. -/
def loP (at_ n : Int) : Nat := if n < 1 ∨ 1024 ≤ at_ ∨ at_ + n ≤ 0 then 0 else at_.toNat
def hiP (at_ n : Int) : Nat := if n < 1 ∨ 1024 ≤ at_ ∨ at_ + n ≤ 0 then 0 else min 1024 (at_ + n).toNat
theorem loP_lt (at_ n : Int) : loP at_ n < 1024 := by unfold loP; split <;> omega
theorem hiP_le (at_ n : Int) : loP at_ n ≤ hiP at_ n ∧ hiP at_ n ≤ 1024 := by unfold loP hiP; split <;> omega
theorem inP (at_ n : Int) (i : Nat) : (loP at_ n ≤ i ∧ i < hiP at_ n) ↔ (i < 1024 ∧ at_ ≤ i ∧ (i : Int) < at_ + n) := by
  unfold loP hiP; split <;> omega
def pieceL (f : Nat → Int) (at_ n : Int) : List Int := (List.range' (loP at_ n) (hiP at_ n - loP at_ n)).map f
theorem pieceL_len (f at_ n) : (pieceL f at_ n).length = hiP at_ n - loP at_ n := by simp [pieceL]
theorem pieceL_get (f at_ n) (i : Nat) (h : i < hiP at_ n - loP at_ n) : (pieceL f at_ n).getD i 0 = f (loP at_ n + i) := by
  simp [pieceL, List.getD_eq_getElem?_getD, List.getElem?_map, List.getElem?_range' h]
end Go.Proofs.Ytiafeogjknilmaa.B
