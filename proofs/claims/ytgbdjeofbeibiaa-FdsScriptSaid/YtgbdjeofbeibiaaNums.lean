/- Small things about numbers. -/
import Derived.Test.YtgbdjeofbeibiaaEnv
import Derived.Test.YtgbdjeofbeibiaaPeO
import Derived.KernelRfl
set_option linter.unusedVariables false
namespace Go.Proofs.Ytgbdjeofbeibiaa.Pe
set_option maxRecDepth 10000
set_option maxHeartbeats 4000000
abbrev lo64 (a : Int) : Prop := -9223372036854775808 ≤ a ∧ a ≤ 9223372036854775807
theorem c_b {a b : Bool} (h : a = b) : V.c (.b a) = V.c (.b b) := by rw [h]
theorem c_i {k : IntKind} {a b : Int} (h : a = b) : V.c (.i k a) = V.c (.i k b) := by rw [h]
end Go.Proofs.Ytgbdjeofbeibiaa.Pe
