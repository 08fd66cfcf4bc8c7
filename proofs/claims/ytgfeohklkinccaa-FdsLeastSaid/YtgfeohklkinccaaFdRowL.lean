/- FdsLeast: from a row's arguments to the plain reading. -/
import Derived.Test.YtgfeohklkinccaaFdLst
import Derived.Test.YtgfeohklkinccaaRowAct
set_option linter.unusedVariables false
namespace Go.Proofs.Ytgfeohklkinccaa.Pe
open Go.RowKit Go.Proofs.Ytgfeohklkinccaa.B
theorem least_row {m : Int} {a : Option Addr} {len cap : Nat} {p : List Act} {w : World} (w0 : (Lit.int .i64 m).wf = true) (hp : p.length = len) (hw : ∀ x ∈ p, lo64 x.2.1 ∧ lo64 x.2.2.1) (hH : HRel (rhoL [.slice a len cap]) [.ror (actsC p) len 4] w) (hv : VRel (rhoL [.slice a len cap]) [.ror (actsC p) len 4] (.c (.sl 0 0 len len)) (.slice a len cap)) : Calls Try.prog 4 #[.int .i64 m, .slice a len cap] w fun e w' => e = .returned (.bool true) ∧ Below w.heap.size w w' := by
  subst hp
  refine open_call (callW 2000001 4) (least_p [.ror (actsC p) p.length 4] (.sl 0 0 p.length p.length) p m (Rows.ror rfl (actsC_len p)) hw (bounds_i64 w0) (by omega)) hH (fun id b hb => ?_) (All2.cons rfl (All2.cons hv All2.nil))
  match id, hb with
  | 0, hb => simp at hb; subst hb; rfl
  | k + 1, hb => simp at hb
end Go.Proofs.Ytgfeohklkinccaa.Pe
