/- What this seat's evaluator knows ahead: the functions that write what they are handed, and a closed function's result. -/
import Derived.Test.YtgfeohklkinccaaPeOk
import Derived.Test.YtgfeohklkinccaaPeG
import Derived.KernelRfl
set_option linter.unusedVariables false
namespace Go.Proofs.Ytgfeohklkinccaa.Pe
def wrW (f : FuncId) : Bool :=
  bif Nat.beq f 13 then true else
  bif Nat.beq f 15 then true else
  bif Nat.beq f 17 then true else
  bif Nat.beq f 6 then true else
  bif Nat.beq f 47 then true else
  bif Nat.beq f 48 then true else
  bif Nat.beq f 24 then true else
  bif Nat.beq f 25 then true else
  bif Nat.beq f 51 then true else
  false
noncomputable def call0 : CallF := evF T F 100000 60
def gAwake (args : List V) : Option V := match args with
  | [] => some (.c (.b true))
  | _ => none
def awF : FuncId := 8
set_option maxRecDepth 100000 in
theorem cAwake : (call0 awF [] []).map (·.1) = some (.c (.b true)) := by kernel_rfl
noncomputable def gW : Pure := fun f args => bif Nat.beq f awF then gAwake args else none
theorem gW_ok : PureOk gW call0 := fun f args v h => by
  unfold gW at h
  obtain ⟨h1, h2⟩ := bif_some h
  have := beq_nat h1
  subst this
  unfold gAwake at h2
  split at h2
  · cases h2
    obtain ⟨⟨v, H'⟩, e1, e2⟩ := map_some cAwake
    have e2 : v = .c (.b true) := e2
    subst e2
    exact ⟨rfl, (fun x hx => by cases hx), H', e1⟩
  · cases h2
noncomputable def W : Env := ⟨wrW, gW, fun _ _ _ => none⟩
theorem callW (K d : Nat) : CallOk Try.prog (evW T F K W d) := evW_ok tabOk fnsOk mixed (callOk 60) gW_ok noHook d
theorem awake_v {K d : Nat} (H : Heap) : Vc (evW T F K W (d + 1)) awF [] H (.c (.b true), H) := vtab rfl rfl rfl
end Go.Proofs.Ytgfeohklkinccaa.Pe
