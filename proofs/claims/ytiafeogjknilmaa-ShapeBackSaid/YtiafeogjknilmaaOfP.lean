/- Where the regions of a geometry lie, as numbers alone. -/
import Derived.Test.YtiafeogjknilmaaBase
namespace Go.Proofs.Ytiafeogjknilmaa.B
def dataAtN (b l i : Int) : Int := 1 + l + (i + 16) / 16 + (b + 8191) / 8192
def mayBe (b l i : Int) : Prop := 32 ≤ l ∧ l ≤ 256 ∧ 1 ≤ i ∧ i ≤ 65535 ∧ 1 ≤ b ∧ b ≤ 1048576 ∧ dataAtN b l i < b
instance (b l i : Int) : Decidable (mayBe b l i) := by unfold mayBe; infer_instance
/-- A layout's nine numbers. -/
def layL (b l i : Int) : List Int := [b, l, i, 1, 1 + l, (i + 16) / 16, 1 + l + (i + 16) / 16, (b + 8191) / 8192, dataAtN b l i]
def intsV (l : List Int) : Array Value := (l.map (Value.int .i64)).toArray
def zeros9 : List Int := [0, 0, 0, 0, 0, 0, 0, 0, 0]
/-- What Of answers. -/
def ofR (b l i : Int) : Value := if mayBe b l i then .tuple #[.agg (intsV (layL b l i)), .int .i64 0] else .tuple #[.agg (intsV zeros9), .int .i64 2]
def InI (x : Int) : Prop := -9223372036854775808 ≤ x ∧ x ≤ 9223372036854775807
end Go.Proofs.Ytiafeogjknilmaa.B
