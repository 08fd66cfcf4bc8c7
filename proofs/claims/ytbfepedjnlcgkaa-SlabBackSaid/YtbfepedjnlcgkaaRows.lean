/-
  No cell of these rows narrows 'for every input' (looked for: loops, veiled, ifaces, maps, wideKeys, modest, calm, conditions, laid).
  DERIVED. THE GIVEN ROWS OF THIS SEAT. 4 by the template 'for every input the law returns true; each argument reads behind the call as it read before'; 0 by the template 'total and deterministic' (their statements: YtbfepedjnlcgkaaTotals.lean).
  GIVEN WITH THE SEED: the statements are not yours to turn. If you find one false, say at which input.
  Laid BY PROGRAM, IN A SANDBOX (cutbox-rows.mjs): the forced cells as the released guide's own fill.sh prints them over the translation af2fde8d57795cd9… (all of the seat's roots in one cut). By AI agents, Wed Nov 11 2026. No macro, syntax, notation, axiom, sorry.
-/
import Derived.Test.YtbfepedjnlcgkaaChecked
import GoSem.Claim
import GoSem.ClaimJoined
import GoSem.ClaimMapViews
import Derived.JoinedTies
import Derived.KernelRfl
namespace Go.Proofs.Ytbfepedjnlcgkaa
/- THE CELL 'sum', in the pinned program and in every row, IS THE sha256 OF THE DUMP (.gsa) THAT YtbfepedjnlcgkaaProg.lean LOADS. Nothing in Lean hashes anything: it is a label: what it is worth is what the hold of that sum in a sandbox is worth. -/
noncomputable def Try.pinned : Pinned := { name := "ytbfepedjnlcgkaa", sum := "af2fde8d57795cd995f624508da2b99a5155758770d0d660603503b14f734ea3", checked := Try.checked }
namespace Rows
def none {H : Type} : Left H := { results := [], args := [] }

/-- 'undercroftlaw01.SlabCuts': WHATEVER THE INPUT: true; the input reads as it did. -/
def slabCutsSpec : ChangeSpec := { name := "slabCuts", fn := fun _ => fun
  | [d] => { results := [.lit (.bool true)], args := [d] }
  | _ => none }
def slabCutsRow : OpenClaim := { program := "ytbfepedjnlcgkaa", sum := "af2fde8d57795cd995f624508da2b99a5155758770d0d660603503b14f734ea3", func := "undercroft/undercroftlaw01.SlabCuts", spec := "slabCuts", apart := false }
def SlabCutsSaid : Prop := slabCutsRow.holds Try.pinned (OpenSpec.ofChange slabCutsSpec)

/-- ITS FALSE NEIGHBOUR: 'it returns false'. Refute it at one input. -/
def slabCutsWrong : ChangeSpec := { name := "slabCuts", fn := fun _ => fun
  | [d] => { results := [.lit (.bool false)], args := [d] }
  | _ => none }
def SlabCutsWrongFalsely : Prop := slabCutsRow.holds Try.pinned (OpenSpec.ofChange slabCutsWrong)

/-- 'undercroftlaw01.SlabJoins': WHATEVER THE INPUT: true; the input reads as it did. -/
def slabJoinsSpec : ChangeSpec := { name := "slabJoins", fn := fun _ => fun
  | [d1, d2] => { results := [.lit (.bool true)], args := [d1, d2] }
  | _ => none }
def slabJoinsRow : OpenClaim := { program := "ytbfepedjnlcgkaa", sum := "af2fde8d57795cd995f624508da2b99a5155758770d0d660603503b14f734ea3", func := "undercroft/undercroftlaw01.SlabJoins", spec := "slabJoins", apart := false }
def SlabJoinsSaid : Prop := slabJoinsRow.holds Try.pinned (OpenSpec.ofChange slabJoinsSpec)

/-- ITS FALSE NEIGHBOUR: 'it returns false'. Refute it at one input. -/
def slabJoinsWrong : ChangeSpec := { name := "slabJoins", fn := fun _ => fun
  | [d1, d2] => { results := [.lit (.bool false)], args := [d1, d2] }
  | _ => none }
def SlabJoinsWrongFalsely : Prop := slabJoinsRow.holds Try.pinned (OpenSpec.ofChange slabJoinsWrong)

/-- 'undercroftlaw01.SlabPieces': WHATEVER THE INPUT: true; the input reads as it did. -/
def slabPiecesSpec : ChangeSpec := { name := "slabPieces", fn := fun _ => fun
  | [d1, d2, d3] => { results := [.lit (.bool true)], args := [d1, d2, d3] }
  | _ => none }
def slabPiecesRow : OpenClaim := { program := "ytbfepedjnlcgkaa", sum := "af2fde8d57795cd995f624508da2b99a5155758770d0d660603503b14f734ea3", func := "undercroft/undercroftlaw01.SlabPieces", spec := "slabPieces", apart := false }
def SlabPiecesSaid : Prop := slabPiecesRow.holds Try.pinned (OpenSpec.ofChange slabPiecesSpec)

/-- ITS FALSE NEIGHBOUR: 'it returns false'. Refute it at one input. -/
def slabPiecesWrong : ChangeSpec := { name := "slabPieces", fn := fun _ => fun
  | [d1, d2, d3] => { results := [.lit (.bool false)], args := [d1, d2, d3] }
  | _ => none }
def SlabPiecesWrongFalsely : Prop := slabPiecesRow.holds Try.pinned (OpenSpec.ofChange slabPiecesWrong)

/-- 'undercroftlaw01.SlabBack': WHATEVER THE INPUT: true; the input reads as it did. -/
def slabBackSpec : ChangeSpec := { name := "slabBack", fn := fun _ => fun
  | [d1, d2, d3, d4] => { results := [.lit (.bool true)], args := [d1, d2, d3, d4] }
  | _ => none }
def slabBackRow : OpenClaim := { program := "ytbfepedjnlcgkaa", sum := "af2fde8d57795cd995f624508da2b99a5155758770d0d660603503b14f734ea3", func := "undercroft/undercroftlaw01.SlabBack", spec := "slabBack", apart := false }
def SlabBackSaid : Prop := slabBackRow.holds Try.pinned (OpenSpec.ofChange slabBackSpec)

/-- ITS FALSE NEIGHBOUR: 'it returns false'. Refute it at one input. -/
def slabBackWrong : ChangeSpec := { name := "slabBack", fn := fun _ => fun
  | [d1, d2, d3, d4] => { results := [.lit (.bool false)], args := [d1, d2, d3, d4] }
  | _ => none }
def SlabBackWrongFalsely : Prop := slabBackRow.holds Try.pinned (OpenSpec.ofChange slabBackWrong)

/- THE SECOND FORM. 'bulk': how many values and letters a reading holds, each counted each time it is reached (what is shared counts as often as it is met; a slice's spare places count too). A statement '..UptoSaid' is the law's where the arguments, and the package variables that the reading takes, are together of bulk at most 1048576: NARROWER than '..Said'. Prove '..Said' where nothing that the law and all that it calls make is longer than what came in: it says more and counts as full. Else prove '..UptoSaid'. A law counts once. -/
mutual
def uptoBulk {H : Type} : DataW H → Nat
  | .lit (.string bytes) => bytes.length + 1
  | .lit _ => 1
  | .nil => 1
  | .ptr d => uptoBulk d + 1
  | .slice elems spare => uptoBulkAll elems + uptoBulkAll spare + 1
  | .agg parts => uptoBulkAll parts + 1
  | .iface _ d => uptoBulk d + 1
  | .map entries => uptoBulkEntries entries + 1
  | .held _ => 1
def uptoBulkAll {H : Type} : List (DataW H) → Nat
  | [] => 0
  | d :: r => uptoBulk d + uptoBulkAll r
def uptoBulkEntries {H : Type} : List (Lit × DataW H) → Nat
  | [] => 0
  | x :: r => uptoBulkEntry x + uptoBulkEntries r
def uptoBulkEntry {H : Type} : Lit × DataW H → Nat
  | (.string bytes, d) => bytes.length + uptoBulk d + 1
  | (_, d) => uptoBulk d + 1
 end
def uptoSmall : (H : Type) → List (DataW H) → Bool := fun _ ds => decide (uptoBulkAll ds ≤ 1048576)
def OpenSpec.upto (s : _root_.Go.ChangeSpec) : _root_.Go.OpenSpec := { _root_.Go.OpenSpec.ofChange s with cond := some uptoSmall }

/-- 'undercroftlaw01.SlabCuts', WHERE WHAT IT READS IS OF BULK AT MOST 1048576: true; the input reads as it did. -/
def slabCutsUptoRow : OpenClaim := { program := "ytbfepedjnlcgkaa", sum := "af2fde8d57795cd995f624508da2b99a5155758770d0d660603503b14f734ea3", func := "undercroft/undercroftlaw01.SlabCuts", spec := "slabCuts", apart := false, narrowed := true }
def SlabCutsUptoSaid : Prop := slabCutsUptoRow.holds Try.pinned (OpenSpec.upto slabCutsSpec)

/-- 'undercroftlaw01.SlabJoins', WHERE WHAT IT READS IS OF BULK AT MOST 1048576: true; the input reads as it did. -/
def slabJoinsUptoRow : OpenClaim := { program := "ytbfepedjnlcgkaa", sum := "af2fde8d57795cd995f624508da2b99a5155758770d0d660603503b14f734ea3", func := "undercroft/undercroftlaw01.SlabJoins", spec := "slabJoins", apart := false, narrowed := true }
def SlabJoinsUptoSaid : Prop := slabJoinsUptoRow.holds Try.pinned (OpenSpec.upto slabJoinsSpec)

/-- 'undercroftlaw01.SlabPieces', WHERE WHAT IT READS IS OF BULK AT MOST 1048576: true; the input reads as it did. -/
def slabPiecesUptoRow : OpenClaim := { program := "ytbfepedjnlcgkaa", sum := "af2fde8d57795cd995f624508da2b99a5155758770d0d660603503b14f734ea3", func := "undercroft/undercroftlaw01.SlabPieces", spec := "slabPieces", apart := false, narrowed := true }
def SlabPiecesUptoSaid : Prop := slabPiecesUptoRow.holds Try.pinned (OpenSpec.upto slabPiecesSpec)

/-- 'undercroftlaw01.SlabBack', WHERE WHAT IT READS IS OF BULK AT MOST 1048576: true; the input reads as it did. -/
def slabBackUptoRow : OpenClaim := { program := "ytbfepedjnlcgkaa", sum := "af2fde8d57795cd995f624508da2b99a5155758770d0d660603503b14f734ea3", func := "undercroft/undercroftlaw01.SlabBack", spec := "slabBack", apart := false, narrowed := true }
def SlabBackUptoSaid : Prop := slabBackUptoRow.holds Try.pinned (OpenSpec.upto slabBackSpec)

end Rows
end Go.Proofs.Ytbfepedjnlcgkaa
