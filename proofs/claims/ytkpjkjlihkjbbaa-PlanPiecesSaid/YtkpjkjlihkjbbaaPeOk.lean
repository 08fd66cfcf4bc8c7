/- The tables of this seat hold; a call's plain reading is what it hands back. -/
import Derived.Test.YtkpjkjlihkjbbaaPeTab
import Derived.Test.YtkpjkjlihkjbbaaPeTabOk
import Derived.KernelRfl
namespace Go.Proofs.Ytkpjkjlihkjbbaa.Pe
set_option maxRecDepth 100000 in
theorem tabOk : TabOk Try.prog T := tabOk_of <|
  rowsOk_cons (tyOk (by kernel_rfl) (by kernel_rfl) (by kernel_rfl) (.inl rfl)) <|
  rowsOk_cons (tyOk (by kernel_rfl) (by kernel_rfl) (by kernel_rfl) (.inl rfl)) <|
  rowsOk_cons (tyOk (by kernel_rfl) (by kernel_rfl) (by kernel_rfl) (.inr (by kernel_rfl))) <|
  rowsOk_nil
theorem fnsOk : FnsOk Try.prog F :=
  fnsOk_cons Try.func3 (by kernel_rfl) <|
  fnsOk_cons Try.func4 (by kernel_rfl) <|
  fnsOk_cons Try.func5 (by kernel_rfl) <|
  fnsOk_cons Try.func6 (by kernel_rfl) <|
  fnsOk_cons Try.func7 (by kernel_rfl) <|
  fnsOk_nil
theorem mixed : Try.prog.follows .mixedOrders = true := by kernel_rfl
theorem callOk (d : Nat) : CallOk Try.prog (evF T F 100000 d) := evF_ok tabOk fnsOk mixed d
end Go.Proofs.Ytkpjkjlihkjbbaa.Pe
