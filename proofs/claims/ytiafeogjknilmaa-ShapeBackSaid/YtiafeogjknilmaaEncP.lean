/- A superblock's bytes; no walk in sight. -/
import Derived.Test.YtiafeogjknilmaaOfP
import Derived.Test.YtiafeogjknilmaaLayP
namespace Go.Proofs.Ytiafeogjknilmaa.B
def magicL : List Int := [99, 114, 111, 102, 116, 102, 115, 49]
/-- The bytes behind k numbers. -/
def encP (l : List Int) : Nat → Nat → Int
  | 0 => layF zeroF 0 magicL
  | k + 1 => set32 (encP l k) (8 + 4 * k) (l.getD k 0)
def encF (l : List Int) : Nat → Int := encP l 9
theorem byt_encP (l k) : Byt (encP l k) := by
  induction k with
  | zero => exact byt_layF byt_zero (by decide)
  | succ k ih => exact byt_set32 ih _ _
end Go.Proofs.Ytiafeogjknilmaa.B
