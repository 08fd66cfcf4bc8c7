/- SlabJoins: from a row's arguments to the plain reading. -/
import Derived.Test.YtbfepedjnlcgkaaSlbJns
import Derived.Test.YtbfepedjnlcgkaaRowBB
set_option linter.unusedVariables false
namespace Go.Proofs.Ytbfepedjnlcgkaa.Pe
open Go.RowKit Go.Proofs.Ytbfepedjnlcgkaa.B
theorem joins_row {a : Option Addr} {len cap : Nat} {A : Nat → Option Addr} {L C : Nat → Nat} {Z : Nat → List Int} {w : World} (n : Int) (h : RowsBB w a len cap A L C Z) (w1 : (Lit.int .i64 n).wf = true) : Calls Try.prog 4 #[.slice a len cap, .int .i64 n] w fun e w' => e = .returned (.bool true) ∧ Below w.heap.size w w' := by
  obtain ⟨p, hpl, hH, hno, hv⟩ := bb_rel h
  refine open_call (callW 60100 5) (joins_p (bbHeap L p len) (.sl 0 0 len len) len (bbCells L len) p L n (Rows.ror (by rw [getL_eq]; exact bb_get0) (by simp [bbCells])) (fun j hj => ⟨.sl (j + 1) 0 (L j) (L j), by simp [bbCells, hj], Rows.ror (by rw [getL_eq]; exact bb_get hj) (by rw [bytesC_len, hpl j hj, Nat.mul_one]), hpl j hj, by have := (h.rd j hj).2.2.2.2; omega⟩) (bounds_i64 w1) (by omega)) hH hno (All2.cons hv (All2.cons rfl All2.nil))
end Go.Proofs.Ytbfepedjnlcgkaa.Pe
