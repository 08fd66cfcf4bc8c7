/- What Decode answers; no walk in sight. -/
import Derived.Test.YtiafeogjknilmaaEncP
namespace Go.Proofs.Ytiafeogjknilmaa.B
def badD : Value := .tuple #[.agg #[.int .i64 0, .int .i64 0, .int .i64 0, .int .i64 0, .int .i64 0, .int .i64 0, .int .i64 0, .int .i64 0, .int .i64 0], .int .i64 4]
def goodD (f : Nat → Int) (n : Int) : Prop := mayBe (u32 f 8) (u32 f 12) (u32 f 16) ∧ u32 f 8 ≤ n ∧ eqB 1024 (encF (layL (u32 f 8) (u32 f 12) (u32 f 16))) f = true
instance (f : Nat → Int) (n : Int) : Decidable (goodD f n) := by unfold goodD; infer_instance
def decR (f : Nat → Int) (n : Int) : Value := if goodD f n then .tuple #[.agg (intsV (layL (u32 f 8) (u32 f 12) (u32 f 16))), .int .i64 0] else badD
theorem u32_bd {f} (h : Byt f) (at_ : Int) : 0 ≤ u32 f at_ ∧ u32 f at_ < 4294967296 := by
  unfold u32
  split
  · have := num_bd h 4 at_.toNat
    simpa using this
  · omega
end Go.Proofs.Ytiafeogjknilmaa.B
