/- SlabPieces: from a row's arguments to the plain reading. -/
import Derived.Test.YtbfepedjnlcgkaaSlbPcs2
import Derived.Test.YtbfepedjnlcgkaaRowSl
set_option linter.unusedVariables false
namespace Go.Proofs.Ytbfepedjnlcgkaa.Pe
open Go.RowKit Go.Proofs.Ytbfepedjnlcgkaa.B
theorem pieces_row {l0 : List Int} {A0 : Option Addr} {c0 : Nat} {w : World} (a k : Int) (h0 : RdN w .u8 A0 l0) (k0 : l0.length ≤ c0) (w0 : ∀ x ∈ l0, (Lit.int .u8 x).wf = true) (m0 : l0.length * 1 ≤ 140737488351232) (w1 : (Lit.int .i64 a).wf = true) (w2 : (Lit.int .i64 k).wf = true) :
    Calls Try.prog 5 #[.slice A0 l0.length c0, .int .i64 a, .int .i64 k] w fun e w' => e = .returned (.bool true) ∧ Below w.heap.size w w' := by
  obtain ⟨p, sp⟩ := sl8_of h0 k0 w0 m0
  obtain ⟨hH, hno⟩ := hrel_one (ρ := rhoL [.slice A0 l0.length c0]) (sp.rel _ _ 0 rfl) rfl
  have lp := sp.lim
  exact open_call (callW 3000 3) (pieces_p [.ror (bytesC p) l0.length 1] (.sl 0 0 l0.length l0.length) l0.length p a k (Rows.ror rfl (by rw [bytesC_len, sp.len, Nat.mul_one])) sp.len (bounds_i64 w1) (bounds_i64 w2) (by omega) (by omega)) hH hno (All2.cons (sp.val _ _ 0 rfl rfl) (All2.cons rfl (All2.cons rfl All2.nil)))
end Go.Proofs.Ytbfepedjnlcgkaa.Pe
