/- SlabBack: from a row's arguments to the plain reading. -/
import Derived.Test.YtbfepedjnlcgkaaSlbBk3
import Derived.Test.YtbfepedjnlcgkaaRowSl
set_option linter.unusedVariables false
namespace Go.Proofs.Ytbfepedjnlcgkaa.Pe
open Go.RowKit Go.Proofs.Ytbfepedjnlcgkaa.B
theorem back_row {l0 l3 : List Int} {A0 A3 : Option Addr} {c0 c3 : Nat} {w : World} (a v : Int) (h0 : RdN w .u8 A0 l0) (k0 : l0.length ≤ c0) (w0 : ∀ x ∈ l0, (Lit.int .u8 x).wf = true) (m0 : l0.length * 1 ≤ 140737488351232) (w1 : (Lit.int .i64 a).wf = true) (w2 : (Lit.int .u32 v).wf = true) (h3 : RdN w .u8 A3 l3) (k3 : l3.length ≤ c3) (w3 : ∀ x ∈ l3, (Lit.int .u8 x).wf = true) (m3 : l3.length * 1 ≤ 140737488351232) :
    Calls Try.prog 6 #[.slice A0 l0.length c0, .int .i64 a, .int .u32 v, .slice A3 l3.length c3] w fun e w' => e = .returned (.bool true) ∧ Below w.heap.size w w' := by
  obtain ⟨p, sp⟩ := sl8_of h0 k0 w0 m0
  obtain ⟨q, sq⟩ := sl8_of h3 k3 w3 m3
  obtain ⟨hH, hno⟩ := hrel_two (ρ := rhoL [.slice A0 l0.length c0, .slice A3 l3.length c3]) (sp.rel _ _ 0 rfl) (sq.rel _ _ 1 rfl) rfl rfl
  have lp := sp.lim
  have lq := sq.lim
  have hv := bounds_u32 w2
  exact open_call (callW (4000 + l0.length + l3.length) 4) (back_p [.ror (bytesC p) l0.length 1, .ror (bytesC q) l3.length 1] (.sl 0 0 l0.length l0.length) 1 l0.length l3.length p q a v (Rows.ror rfl (by rw [bytesC_len, sp.len, Nat.mul_one])) rfl sp.len sq.len (bounds_i64 w1) (by omega) (by omega) (by omega) (by omega) (by omega)) hH hno (All2.cons (sp.val _ _ 0 rfl rfl) (All2.cons rfl (All2.cons rfl (All2.cons (sq.val _ _ 1 rfl rfl) All2.nil))))
end Go.Proofs.Ytbfepedjnlcgkaa.Pe
