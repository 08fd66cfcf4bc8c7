/-
  No cell of these rows narrows 'for every input' (looked for: loops, veiled, ifaces, maps, wideKeys, modest, calm, conditions, laid).
  DERIVED. THE GIVEN ROWS OF THIS SEAT. 3 by the template 'for every input the law returns true; each argument reads behind the call as it read before'; 0 by the template 'total and deterministic' (their statements: YtalmegdjhjjolaaTotals.lean).
  GIVEN WITH THE SEED: the statements are not yours to turn. If you find one false, say at which input.
  Laid BY PROGRAM, IN A SANDBOX (cutbox-rows.mjs): the forced cells as the released guide's own fill.sh prints them over the translation 27d7259b6fe66cd7… (all of the seat's roots in one cut). By AI agents, Wed Nov 11 2026. No macro, syntax, notation, axiom, sorry.
-/
import Derived.Test.YtalmegdjhjjolaaChecked
import GoSem.Claim
import GoSem.ClaimJoined
import GoSem.ClaimMapViews
import Derived.JoinedTies
import Derived.KernelRfl
namespace Go.Proofs.Ytalmegdjhjjolaa
/- THE CELL 'sum', in the pinned program and in every row, IS THE sha256 OF THE DUMP (.gsa) THAT YtalmegdjhjjolaaProg.lean LOADS. Nothing in Lean hashes anything: it is a label: what it is worth is what the hold of that sum in a sandbox is worth. -/
noncomputable def Try.pinned : Pinned := { name := "ytalmegdjhjjolaa", sum := "27d7259b6fe66cd739a305939b1daed08e463403629440fa92009b6a134ea504", checked := Try.checked }
namespace Rows
def none {H : Type} : Left H := { results := [], args := [] }

/-- 'undercroftlaw13.PlanPieces': WHATEVER THE INPUT: true; the input reads as it did. -/
def planPiecesSpec : ChangeSpec := { name := "planPieces", fn := fun _ => fun
  | [d1, d2] => { results := [.lit (.bool true)], args := [d1, d2] }
  | _ => none }
def planPiecesRow : OpenClaim := { program := "ytalmegdjhjjolaa", sum := "27d7259b6fe66cd739a305939b1daed08e463403629440fa92009b6a134ea504", func := "undercroft/undercroftlaw13.PlanPieces", spec := "planPieces", apart := false }
def PlanPiecesSaid : Prop := planPiecesRow.holds Try.pinned (OpenSpec.ofChange planPiecesSpec)

/-- ITS FALSE NEIGHBOUR: 'it returns false'. Refute it at one input. -/
def planPiecesWrong : ChangeSpec := { name := "planPieces", fn := fun _ => fun
  | [d1, d2] => { results := [.lit (.bool false)], args := [d1, d2] }
  | _ => none }
def PlanPiecesWrongFalsely : Prop := planPiecesRow.holds Try.pinned (OpenSpec.ofChange planPiecesWrong)

/-- 'undercroftlaw13.PlanTotal': WHATEVER THE INPUT: true; the input reads as it did. -/
def planTotalSpec : ChangeSpec := { name := "planTotal", fn := fun _ => fun
  | [d1, d2] => { results := [.lit (.bool true)], args := [d1, d2] }
  | _ => none }
def planTotalRow : OpenClaim := { program := "ytalmegdjhjjolaa", sum := "27d7259b6fe66cd739a305939b1daed08e463403629440fa92009b6a134ea504", func := "undercroft/undercroftlaw13.PlanTotal", spec := "planTotal", apart := false }
def PlanTotalSaid : Prop := planTotalRow.holds Try.pinned (OpenSpec.ofChange planTotalSpec)

/-- ITS FALSE NEIGHBOUR: 'it returns false'. Refute it at one input. -/
def planTotalWrong : ChangeSpec := { name := "planTotal", fn := fun _ => fun
  | [d1, d2] => { results := [.lit (.bool false)], args := [d1, d2] }
  | _ => none }
def PlanTotalWrongFalsely : Prop := planTotalRow.holds Try.pinned (OpenSpec.ofChange planTotalWrong)

/-- 'undercroftlaw13.PlanGrows': WHATEVER THE INPUT: true; the input reads as it did. -/
def planGrowsSpec : ChangeSpec := { name := "planGrows", fn := fun _ => fun
  | [d1, d2] => { results := [.lit (.bool true)], args := [d1, d2] }
  | _ => none }
def planGrowsRow : OpenClaim := { program := "ytalmegdjhjjolaa", sum := "27d7259b6fe66cd739a305939b1daed08e463403629440fa92009b6a134ea504", func := "undercroft/undercroftlaw13.PlanGrows", spec := "planGrows", apart := false }
def PlanGrowsSaid : Prop := planGrowsRow.holds Try.pinned (OpenSpec.ofChange planGrowsSpec)

/-- ITS FALSE NEIGHBOUR: 'it returns false'. Refute it at one input. -/
def planGrowsWrong : ChangeSpec := { name := "planGrows", fn := fun _ => fun
  | [d1, d2] => { results := [.lit (.bool false)], args := [d1, d2] }
  | _ => none }
def PlanGrowsWrongFalsely : Prop := planGrowsRow.holds Try.pinned (OpenSpec.ofChange planGrowsWrong)

/- THE SECOND FORM. 'bulk': how many values and letters a reading holds, each counted each time it is reached (what is shared counts as often as it is met; a slice's spare places count too). A statement '..UptoSaid' is the law's where the arguments, and the package variables that the reading takes, are together of bulk at most 1048576: NARROWER than '..Said'. Prove '..Said' where nothing that the law and all that it calls make is longer than what came in: it says more and counts as full. Else prove '..UptoSaid'. A law counts once. -/
mutual
def uptoBulk {H : Type} : DataW H → Nat
  | .lit (.string bytes) => bytes.length + 1
  | .lit _ => 1
  | .nil => 1
  | .ptr d => uptoBulk d + 1
  | .slice elems spare => uptoBulkAll elems + uptoBulkAll spare + 1
  | .agg parts => uptoBulkAll parts + 1
  | .iface _ d => uptoBulk d + 1
  | .map entries => uptoBulkEntries entries + 1
  | .held _ => 1
def uptoBulkAll {H : Type} : List (DataW H) → Nat
  | [] => 0
  | d :: r => uptoBulk d + uptoBulkAll r
def uptoBulkEntries {H : Type} : List (Lit × DataW H) → Nat
  | [] => 0
  | x :: r => uptoBulkEntry x + uptoBulkEntries r
def uptoBulkEntry {H : Type} : Lit × DataW H → Nat
  | (.string bytes, d) => bytes.length + uptoBulk d + 1
  | (_, d) => uptoBulk d + 1
 end
def uptoSmall : (H : Type) → List (DataW H) → Bool := fun _ ds => decide (uptoBulkAll ds ≤ 1048576)
def OpenSpec.upto (s : _root_.Go.ChangeSpec) : _root_.Go.OpenSpec := { _root_.Go.OpenSpec.ofChange s with cond := some uptoSmall }

/-- 'undercroftlaw13.PlanPieces', WHERE WHAT IT READS IS OF BULK AT MOST 1048576: true; the input reads as it did. -/
def planPiecesUptoRow : OpenClaim := { program := "ytalmegdjhjjolaa", sum := "27d7259b6fe66cd739a305939b1daed08e463403629440fa92009b6a134ea504", func := "undercroft/undercroftlaw13.PlanPieces", spec := "planPieces", apart := false, narrowed := true }
def PlanPiecesUptoSaid : Prop := planPiecesUptoRow.holds Try.pinned (OpenSpec.upto planPiecesSpec)

/-- 'undercroftlaw13.PlanTotal', WHERE WHAT IT READS IS OF BULK AT MOST 1048576: true; the input reads as it did. -/
def planTotalUptoRow : OpenClaim := { program := "ytalmegdjhjjolaa", sum := "27d7259b6fe66cd739a305939b1daed08e463403629440fa92009b6a134ea504", func := "undercroft/undercroftlaw13.PlanTotal", spec := "planTotal", apart := false, narrowed := true }
def PlanTotalUptoSaid : Prop := planTotalUptoRow.holds Try.pinned (OpenSpec.upto planTotalSpec)

/-- 'undercroftlaw13.PlanGrows', WHERE WHAT IT READS IS OF BULK AT MOST 1048576: true; the input reads as it did. -/
def planGrowsUptoRow : OpenClaim := { program := "ytalmegdjhjjolaa", sum := "27d7259b6fe66cd739a305939b1daed08e463403629440fa92009b6a134ea504", func := "undercroft/undercroftlaw13.PlanGrows", spec := "planGrows", apart := false, narrowed := true }
def PlanGrowsUptoSaid : Prop := planGrowsUptoRow.holds Try.pinned (OpenSpec.upto planGrowsSpec)

end Rows
end Go.Proofs.Ytalmegdjhjjolaa
