/- The table with awake in it. -/
import Derived.Test.YtenfmojgfngpkaaHdTab
set_option linter.unusedVariables false
namespace Go.Proofs.Ytenfmojgfngpkaa.Pe
set_option maxRecDepth 100000 in
theorem cAwake : (evG T F 100000 g25 60 8 [] []).map (·.1) = some (.c (.b true)) := by kernel_rfl
noncomputable def gAw (args : List V) : Option V := match args with
  | [] => some (.c (.b true))
  | _ => none
noncomputable def g3 : Pure := fun f args => bif Nat.beq f 14 then gIn args else bif Nat.beq f 12 then gSet args else bif Nat.beq f 8 then gAw args else none
theorem g3_ok : PureOk g3 (evG T F 100000 g25 60) := fun f args v h => by
  unfold g3 at h
  cases hf : Nat.beq f 14 with
  | true =>
    rw [hf] at h
    have := beq_nat hf
    subst this
    exact gIn_ok (call := ext g25 (evG T F 100000 g25 59)) h
  | false =>
    rw [hf] at h
    cases hf2 : Nat.beq f 12 with
    | true =>
      rw [hf2] at h
      have := beq_nat hf2
      subst this
      exact gSet_ok (call := ext g25 (evG T F 100000 g25 59)) (fun a H => vcall_pure (v := .c (.b (leI 0 a && leI a 1020))) rfl rfl H) h
    | false =>
      rw [hf2] at h
      obtain ⟨h1, h2⟩ := bif_some h
      have := beq_nat h1
      subst this
      unfold gAw at h2
      split at h2
      · cases h2
        obtain ⟨⟨v, H'⟩, e1, e2⟩ := map_some cAwake
        have e2 : v = .c (.b true) := e2
        subst e2
        exact ⟨rfl, (fun x hx => by cases hx), H', e1⟩
      · cases h2
theorem callH_ok (d : Nat) : CallOk Try.prog (evG T F 100000 g3 d) := evG_ok tabOk fnsOk mixed (callG_ok 60) g3_ok d
end Go.Proofs.Ytenfmojgfngpkaa.Pe
