/- Slabs: from a row's arguments to the plain reading. -/
import Derived.Test.YtmmhdndglliflaaSlbLays
import Derived.Test.YtmmhdndglliflaaRowSl
set_option linter.unusedVariables false
namespace Go.Proofs.Ytmmhdndglliflaa.Pe
open Go.RowKit Go.Proofs.Ytmmhdndglliflaa.B
theorem lays_row {l0 l2 : List Int} {A0 A2 : Option Addr} {c0 c2 : Nat} {w : World} (a : Int) (h0 : RdN w .u8 A0 l0) (k0 : l0.length ≤ c0) (w0 : ∀ x ∈ l0, (Lit.int .u8 x).wf = true) (m0 : l0.length * 1 ≤ 140737488351232) (w1 : (Lit.int .i64 a).wf = true) (h2 : RdN w .u8 A2 l2) (k2 : l2.length ≤ c2) (w2 : ∀ x ∈ l2, (Lit.int .u8 x).wf = true) (m2 : l2.length * 1 ≤ 140737488351232) :
    Calls Try.prog 6 #[.slice A0 l0.length c0, .int .i64 a, .slice A2 l2.length c2] w fun e w' => e = .returned (.bool true) ∧ Below w.heap.size w w' := by
  obtain ⟨p, sp⟩ := sl8_of h0 k0 w0 m0
  obtain ⟨q, sq⟩ := sl8_of h2 k2 w2 m2
  obtain ⟨hH, hno⟩ := hrel_two (ρ := rhoL [.slice A0 l0.length c0, .slice A2 l2.length c2]) (sp.rel _ _ 0 rfl) (sq.rel _ _ 1 rfl) rfl rfl
  have lp := sp.lim
  have lq := sq.lim
  exact open_call (callW (3000 + l0.length + l2.length) 5) (lays_p [.ror (bytesC p) l0.length 1, .ror (bytesC q) l2.length 1] (.sl 0 0 l0.length l0.length) (.sl 1 0 l2.length l2.length) l0.length l2.length p q a (Rows.ror rfl (by rw [bytesC_len, sp.len, Nat.mul_one])) (Rows.ror rfl (by rw [bytesC_len, sq.len, Nat.mul_one])) sp.len sq.len (bounds_i64 w1) (by omega) (by omega) (by omega)) hH hno (All2.cons (sp.val _ _ 0 rfl rfl) (All2.cons rfl (All2.cons (sq.val _ _ 1 rfl rfl) All2.nil)))
end Go.Proofs.Ytmmhdndglliflaa.Pe
