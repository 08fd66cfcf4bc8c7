/- SlabCuts: from a row's arguments to the plain reading. -/
import Derived.Test.YtbfepedjnlcgkaaSlbCts
import Derived.Test.YtbfepedjnlcgkaaRowSl
set_option linter.unusedVariables false
namespace Go.Proofs.Ytbfepedjnlcgkaa.Pe
open Go.RowKit Go.Proofs.Ytbfepedjnlcgkaa.B
theorem cuts_row {l0 : List Int} {A0 : Option Addr} {c0 : Nat} {w : World} (h0 : RdN w .u8 A0 l0) (k0 : l0.length ≤ c0) (w0 : ∀ x ∈ l0, (Lit.int .u8 x).wf = true) (m0 : l0.length ≤ 1048576) :
    Calls Try.prog 3 #[.slice A0 l0.length c0] w fun e w' => e = .returned (.bool true) ∧ Below w.heap.size w w' := by
  obtain ⟨p, sp⟩ := sl8_of h0 k0 w0 (by omega)
  obtain ⟨hH, hno⟩ := hrel_one (ρ := rhoL [.slice A0 l0.length c0]) (sp.rel _ _ 0 rfl) rfl
  exact open_call (callW (3000 + l0.length) 4) (cuts_p [.ror (bytesC p) l0.length 1] (.sl 0 0 l0.length l0.length) l0.length p (Rows.ror rfl (by rw [bytesC_len, sp.len, Nat.mul_one])) sp.len (by omega) (by omega)) hH hno (All2.cons (sp.val _ _ 0 rfl rfl) All2.nil)
end Go.Proofs.Ytbfepedjnlcgkaa.Pe
