/- The tables of this seat hold; a call's plain reading is what it hands back. -/
import Derived.Test.YtgbdjeofbeibiaaPeTab
import Derived.Test.YtgbdjeofbeibiaaPeTabOk
import Derived.KernelRfl
namespace Go.Proofs.Ytgbdjeofbeibiaa.Pe
set_option maxRecDepth 100000 in
theorem tabOk : TabOk Try.prog T := tabOk_of <|
  rowsOk_cons (tyOk (by kernel_rfl) (by kernel_rfl) (by kernel_rfl) (.inl rfl)) <|
  rowsOk_cons (tyOk (by kernel_rfl) (by kernel_rfl) (by kernel_rfl) (.inl rfl)) <|
  rowsOk_cons (tyOk (by kernel_rfl) (by kernel_rfl) (by kernel_rfl) (.inl rfl)) <|
  rowsOk_cons (tyOk (by kernel_rfl) (by kernel_rfl) (by kernel_rfl) (.inl rfl)) <|
  rowsOk_cons (tyOk (by kernel_rfl) (by kernel_rfl) (by kernel_rfl) (.inl rfl)) <|
  rowsOk_cons (tyOk (by kernel_rfl) (by kernel_rfl) (by kernel_rfl) (.inl rfl)) <|
  rowsOk_cons (tyOk (by kernel_rfl) (by kernel_rfl) (by kernel_rfl) (.inl rfl)) <|
  rowsOk_cons (tyOk (by kernel_rfl) (by kernel_rfl) (by kernel_rfl) (.inl rfl)) <|
  rowsOk_cons (tyOk (by kernel_rfl) (by kernel_rfl) (by kernel_rfl) (.inl rfl)) <|
  rowsOk_cons (tyOk (by kernel_rfl) (by kernel_rfl) (by kernel_rfl) (.inl rfl)) <|
  rowsOk_cons (tyOk (by kernel_rfl) (by kernel_rfl) (by kernel_rfl) (.inl rfl)) <|
  rowsOk_cons (tyOk (by kernel_rfl) (by kernel_rfl) (by kernel_rfl) (.inr (by kernel_rfl))) <|
  rowsOk_cons (tyOk (by kernel_rfl) (by kernel_rfl) (by kernel_rfl) (.inl rfl)) <|
  rowsOk_cons (tyOk (by kernel_rfl) (by kernel_rfl) (by kernel_rfl) (.inl rfl)) <|
  rowsOk_cons (tyOk (by kernel_rfl) (by kernel_rfl) (by kernel_rfl) (.inl rfl)) <|
  rowsOk_cons (tyOk (by kernel_rfl) (by kernel_rfl) (by kernel_rfl) (.inl rfl)) <|
  rowsOk_cons (tyOk (by kernel_rfl) (by kernel_rfl) (by kernel_rfl) (.inl rfl)) <|
  rowsOk_cons (tyOk (by kernel_rfl) (by kernel_rfl) (by kernel_rfl) (.inl rfl)) <|
  rowsOk_cons (tyOk (by kernel_rfl) (by kernel_rfl) (by kernel_rfl) (.inl rfl)) <|
  rowsOk_cons (tyOk (by kernel_rfl) (by kernel_rfl) (by kernel_rfl) (.inl rfl)) <|
  rowsOk_cons (tyOk (by kernel_rfl) (by kernel_rfl) (by kernel_rfl) (.inl rfl)) <|
  rowsOk_cons (tyOk (by kernel_rfl) (by kernel_rfl) (by kernel_rfl) (.inl rfl)) <|
  rowsOk_cons (tyOk (by kernel_rfl) (by kernel_rfl) (by kernel_rfl) (.inr (by kernel_rfl))) <|
  rowsOk_cons (tyOk (by kernel_rfl) (by kernel_rfl) (by kernel_rfl) (.inr (by kernel_rfl))) <|
  rowsOk_nil
theorem fnsOk : FnsOk Try.prog F :=
  fnsOk_cons Try.func3 (by kernel_rfl) <|
  fnsOk_cons Try.func4 (by kernel_rfl) <|
  fnsOk_cons Try.func5 (by kernel_rfl) <|
  fnsOk_cons Try.func6 (by kernel_rfl) <|
  fnsOk_cons Try.func7 (by kernel_rfl) <|
  fnsOk_cons Try.func8 (by kernel_rfl) <|
  fnsOk_cons Try.func9 (by kernel_rfl) <|
  fnsOk_cons Try.func10 (by kernel_rfl) <|
  fnsOk_cons Try.func11 (by kernel_rfl) <|
  fnsOk_cons Try.func12 (by kernel_rfl) <|
  fnsOk_cons Try.func13 (by kernel_rfl) <|
  fnsOk_cons Try.func14 (by kernel_rfl) <|
  fnsOk_cons Try.func15 (by kernel_rfl) <|
  fnsOk_cons Try.func16 (by kernel_rfl) <|
  fnsOk_cons Try.func17 (by kernel_rfl) <|
  fnsOk_cons Try.func18 (by kernel_rfl) <|
  fnsOk_cons Try.func19 (by kernel_rfl) <|
  fnsOk_cons Try.func20 (by kernel_rfl) <|
  fnsOk_cons Try.func21 (by kernel_rfl) <|
  fnsOk_cons Try.func22 (by kernel_rfl) <|
  fnsOk_cons Try.func23 (by kernel_rfl) <|
  fnsOk_cons Try.func24 (by kernel_rfl) <|
  fnsOk_cons Try.func25 (by kernel_rfl) <|
  fnsOk_cons Try.func26 (by kernel_rfl) <|
  fnsOk_cons Try.func27 (by kernel_rfl) <|
  fnsOk_cons Try.func28 (by kernel_rfl) <|
  fnsOk_cons Try.func29 (by kernel_rfl) <|
  fnsOk_cons Try.func30 (by kernel_rfl) <|
  fnsOk_cons Try.func31 (by kernel_rfl) <|
  fnsOk_cons Try.func32 (by kernel_rfl) <|
  fnsOk_cons Try.func33 (by kernel_rfl) <|
  fnsOk_cons Try.func34 (by kernel_rfl) <|
  fnsOk_cons Try.func35 (by kernel_rfl) <|
  fnsOk_cons Try.func36 (by kernel_rfl) <|
  fnsOk_cons Try.func37 (by kernel_rfl) <|
  fnsOk_cons Try.func38 (by kernel_rfl) <|
  fnsOk_cons Try.func39 (by kernel_rfl) <|
  fnsOk_cons Try.func40 (by kernel_rfl) <|
  fnsOk_cons Try.func41 (by kernel_rfl) <|
  fnsOk_cons Try.func42 (by kernel_rfl) <|
  fnsOk_nil
theorem mixed : Try.prog.follows .mixedOrders = true := by kernel_rfl
theorem callOk (d : Nat) : CallOk Try.prog (evF T F 100000 d) := evF_ok tabOk fnsOk mixed d
end Go.Proofs.Ytgbdjeofbeibiaa.Pe
