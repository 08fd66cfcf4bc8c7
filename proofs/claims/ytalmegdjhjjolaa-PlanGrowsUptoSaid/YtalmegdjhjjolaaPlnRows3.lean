/- PlanGrows: from a row's arguments to the plain reading. -/
import Derived.Test.YtalmegdjhjjolaaPlnGrow
import Derived.Test.YtalmegdjhjjolaaRowSl
set_option linter.unusedVariables false
namespace Go.Proofs.Ytalmegdjhjjolaa.Pe
open Go.RowKit Go.Proofs.Ytalmegdjhjjolaa.B
theorem grows_row {l0 : List Int} {A0 : Option Addr} {c0 : Nat} {w : World} (v : Int) (h0 : RdN w .i64 A0 l0) (k0 : l0.length ≤ c0) (w0 : ∀ x ∈ l0, (Lit.int .i64 x).wf = true) (m0 : l0.length ≤ 1048576) (w1 : (Lit.int .i64 v).wf = true) : Calls Try.prog 5 #[.slice A0 l0.length c0, .int .i64 v] w fun e w' => e = .returned (.bool true) ∧ Below w.heap.size w w' := by
  obtain ⟨hH, hno⟩ := hrel_one (ρ := rhoL [.slice A0 l0.length c0]) (brel_ror h0 k0 (by omega) rfl) rfl
  have hv := vrel_sl (ρ := rhoL [.slice A0 l0.length c0]) (H := [.ror (l0.map (C.i .i64)) l0.length 1]) (id := 0) h0 rfl k0 rfl
  exact open_call (callW 5000000 4) (grows_p [.ror (intsC l0) l0.length 1] (.sl 0 0 l0.length l0.length) l0.length l0 v (Rows.ror rfl (by rw [intsC_len, Nat.mul_one])) rfl (fun z hz => bounds_i64 (w0 z hz)) (bounds_i64 w1) m0 (by omega)) hH hno (All2.cons hv (All2.cons rfl All2.nil))
end Go.Proofs.Ytalmegdjhjjolaa.Pe
