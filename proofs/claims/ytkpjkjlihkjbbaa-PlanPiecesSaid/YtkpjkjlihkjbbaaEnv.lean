/- What this seat's evaluator knows ahead: the functions that write what they are handed, and a closed function's result. -/
import Derived.Test.YtkpjkjlihkjbbaaPeOk
import Derived.Test.YtkpjkjlihkjbbaaPeG
import Derived.KernelRfl
set_option linter.unusedVariables false
namespace Go.Proofs.Ytkpjkjlihkjbbaa.Pe
def wrW (f : FuncId) : Bool :=
  bif Nat.beq f 7 then true else
  false
noncomputable def call0 : CallF := evF T F 100000 60
def gW : Pure := fun _ _ => none
theorem gW_ok : PureOk gW call0 := fun f args v h => by cases h
noncomputable def W : Env := ⟨wrW, gW⟩
theorem callW (K d : Nat) : CallOk Try.prog (evW T F K W d) := evW_ok tabOk fnsOk mixed (callOk 60) gW_ok d
end Go.Proofs.Ytkpjkjlihkjbbaa.Pe
