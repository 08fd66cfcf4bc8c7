/- What this seat's evaluator knows ahead: the functions that write what they are handed, and a closed function's result. -/
import Derived.Test.YtgbdjeofbeibiaaPeOk
import Derived.Test.YtgbdjeofbeibiaaPeG
import Derived.Test.YtgbdjeofbeibiaaFcHook
import Derived.KernelRfl
set_option linter.unusedVariables false
namespace Go.Proofs.Ytgbdjeofbeibiaa.Pe
def wrW (f : FuncId) : Bool :=
  bif Nat.beq f 11 then true else
  bif Nat.beq f 17 then true else
  bif Nat.beq f 15 then true else
  bif Nat.beq f 26 then true else
  bif Nat.beq f 30 then true else
  bif Nat.beq f 29 then true else
  bif Nat.beq f 12 then true else
  bif Nat.beq f 18 then true else
  bif Nat.beq f 16 then true else
  bif Nat.beq f 8 then true else
  bif Nat.beq f 9 then true else
  false
noncomputable def call0 : CallF := evF T F 100000 60
def gW : Pure := fun _ _ => none
theorem gW_ok : PureOk gW call0 := fun f args v h => by cases h
noncomputable def W : Env := ⟨wrW, gW, hk⟩
theorem callW (K d : Nat) : CallOk Try.prog (evW T F K W d) := evW_ok tabOk fnsOk mixed (callOk 60) gW_ok hk_ok d
theorem vhk {K d : Nat} {f : FuncId} {args : List V} {B : Heap} {v : V} (hW : W.wr f = false) (h : hk f args (freeze B) = some v) (hv : v.isFree) : Vc (evW T F K W (d + 1)) f args B (v, B) := by
  refine vfree ⟨v, freeze B, ?_, rfl, [], by simp [appL_eq]⟩ hv
  show guardW W.wr (hookW W.hook (ext W.pure (run1 T F K (evW T F K W d)))) f args (freeze B) = _
  unfold guardW hookW
  rw [hW, show W.hook f args (freeze B) = some v from h]
  rfl
theorem walkI_v {K d : Nat} {B : Heap} {id : Nat} {x y : C} {m : Int} (h : WalkOk VI B id x y) : Vc (evW T F K W (d + 1)) 25 [.c (.fv 39 id), .c x, .c y, .c (.i .i64 m)] B (.c (.b true), B) := by
  exact vhk rfl (hk_I h.frz) rfl
theorem walkS_v {K d : Nat} {B : Heap} {id : Nat} {x y : C} {m : Int} (h : WalkOk VS B id x y) : Vc (evW T F K W (d + 1)) 35 [.c (.fv 42 id), .c x, .c y, .c (.i .i64 m)] B (.c (.b true), B) := by
  exact vhk rfl (hk_S h.frz) rfl
end Go.Proofs.Ytgbdjeofbeibiaa.Pe
