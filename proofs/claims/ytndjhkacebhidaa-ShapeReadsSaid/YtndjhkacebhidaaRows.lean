/-
  No cell of these rows narrows 'for every input' (looked for: loops, veiled, ifaces, maps, wideKeys, modest, calm, conditions, laid).
  DERIVED. THE GIVEN ROWS OF THIS SEAT. 3 by the template 'for every input the law returns true; each argument reads behind the call as it read before'; 0 by the template 'total and deterministic' (their statements: YtndjhkacebhidaaTotals.lean).
  GIVEN WITH THE SEED: the statements are not yours to turn. If you find one false, say at which input.
  Laid BY PROGRAM, IN A SANDBOX (cutbox-rows.mjs): the forced cells as the released guide's own fill.sh prints them over the translation 38a550fe217bdf93… (all of the seat's roots in one cut). By AI agents, Wed Nov 11 2026. No macro, syntax, notation, axiom, sorry.
-/
import Derived.Test.YtndjhkacebhidaaChecked
import GoSem.Claim
import GoSem.ClaimJoined
import GoSem.ClaimMapViews
import Derived.JoinedTies
import Derived.KernelRfl
namespace Go.Proofs.Ytndjhkacebhidaa
/- THE CELL 'sum', in the pinned program and in every row, IS THE sha256 OF THE DUMP (.gsa) THAT YtndjhkacebhidaaProg.lean LOADS. Nothing in Lean hashes anything: it is a label: what it is worth is what the hold of that sum in a sandbox is worth. -/
noncomputable def Try.pinned : Pinned := { name := "ytndjhkacebhidaa", sum := "38a550fe217bdf93ffe2c5a934e4972a90a8bdb2e16e346eadb5bebf5bdec8d3", checked := Try.checked }
namespace Rows
def none {H : Type} : Left H := { results := [], args := [] }

/-- 'undercroftlaw03.ShapeReads': WHATEVER THE INPUT: true; the input reads as it did. -/
def shapeReadsSpec : ChangeSpec := { name := "shapeReads", fn := fun _ => fun
  | [d1, d2] => { results := [.lit (.bool true)], args := [d1, d2] }
  | _ => none }
def shapeReadsRow : OpenClaim := { program := "ytndjhkacebhidaa", sum := "38a550fe217bdf93ffe2c5a934e4972a90a8bdb2e16e346eadb5bebf5bdec8d3", func := "undercroft/undercroftlaw03.ShapeReads", spec := "shapeReads", apart := false }
def ShapeReadsSaid : Prop := shapeReadsRow.holds Try.pinned (OpenSpec.ofChange shapeReadsSpec)

/-- ITS FALSE NEIGHBOUR: 'it returns false'. Refute it at one input. -/
def shapeReadsWrong : ChangeSpec := { name := "shapeReads", fn := fun _ => fun
  | [d1, d2] => { results := [.lit (.bool false)], args := [d1, d2] }
  | _ => none }
def ShapeReadsWrongFalsely : Prop := shapeReadsRow.holds Try.pinned (OpenSpec.ofChange shapeReadsWrong)

/-- 'undercroftlaw03.ShapeLayouts': WHATEVER THE INPUT: true; the input reads as it did. -/
def shapeLayoutsSpec : ChangeSpec := { name := "shapeLayouts", fn := fun _ => fun
  | [d1, d2] => { results := [.lit (.bool true)], args := [d1, d2] }
  | _ => none }
def shapeLayoutsRow : OpenClaim := { program := "ytndjhkacebhidaa", sum := "38a550fe217bdf93ffe2c5a934e4972a90a8bdb2e16e346eadb5bebf5bdec8d3", func := "undercroft/undercroftlaw03.ShapeLayouts", spec := "shapeLayouts", apart := false }
def ShapeLayoutsSaid : Prop := shapeLayoutsRow.holds Try.pinned (OpenSpec.ofChange shapeLayoutsSpec)

/-- ITS FALSE NEIGHBOUR: 'it returns false'. Refute it at one input. -/
def shapeLayoutsWrong : ChangeSpec := { name := "shapeLayouts", fn := fun _ => fun
  | [d1, d2] => { results := [.lit (.bool false)], args := [d1, d2] }
  | _ => none }
def ShapeLayoutsWrongFalsely : Prop := shapeLayoutsRow.holds Try.pinned (OpenSpec.ofChange shapeLayoutsWrong)

/-- 'undercroftlaw03.ShapeWrites': WHATEVER THE INPUT: true; the input reads as it did. -/
def shapeWritesSpec : ChangeSpec := { name := "shapeWrites", fn := fun _ => fun
  | [d1, d2] => { results := [.lit (.bool true)], args := [d1, d2] }
  | _ => none }
def shapeWritesRow : OpenClaim := { program := "ytndjhkacebhidaa", sum := "38a550fe217bdf93ffe2c5a934e4972a90a8bdb2e16e346eadb5bebf5bdec8d3", func := "undercroft/undercroftlaw03.ShapeWrites", spec := "shapeWrites", apart := false }
def ShapeWritesSaid : Prop := shapeWritesRow.holds Try.pinned (OpenSpec.ofChange shapeWritesSpec)

/-- ITS FALSE NEIGHBOUR: 'it returns false'. Refute it at one input. -/
def shapeWritesWrong : ChangeSpec := { name := "shapeWrites", fn := fun _ => fun
  | [d1, d2] => { results := [.lit (.bool false)], args := [d1, d2] }
  | _ => none }
def ShapeWritesWrongFalsely : Prop := shapeWritesRow.holds Try.pinned (OpenSpec.ofChange shapeWritesWrong)

/- THE SECOND FORM. 'bulk': how many values and letters a reading holds, each counted each time it is reached (what is shared counts as often as it is met; a slice's spare places count too). A statement '..UptoSaid' is the law's where the arguments, and the package variables that the reading takes, are together of bulk at most 1048576: NARROWER than '..Said'. Prove '..Said' where nothing that the law and all that it calls make is longer than what came in: it says more and counts as full. Else prove '..UptoSaid'. A law counts once. -/
mutual
def uptoBulk {H : Type} : DataW H → Nat
  | .lit (.string bytes) => bytes.length + 1
  | .lit _ => 1
  | .nil => 1
  | .ptr d => uptoBulk d + 1
  | .slice elems spare => uptoBulkAll elems + uptoBulkAll spare + 1
  | .agg parts => uptoBulkAll parts + 1
  | .iface _ d => uptoBulk d + 1
  | .map entries => uptoBulkEntries entries + 1
  | .held _ => 1
def uptoBulkAll {H : Type} : List (DataW H) → Nat
  | [] => 0
  | d :: r => uptoBulk d + uptoBulkAll r
def uptoBulkEntries {H : Type} : List (Lit × DataW H) → Nat
  | [] => 0
  | x :: r => uptoBulkEntry x + uptoBulkEntries r
def uptoBulkEntry {H : Type} : Lit × DataW H → Nat
  | (.string bytes, d) => bytes.length + uptoBulk d + 1
  | (_, d) => uptoBulk d + 1
 end
def uptoSmall : (H : Type) → List (DataW H) → Bool := fun _ ds => decide (uptoBulkAll ds ≤ 1048576)
def OpenSpec.upto (s : _root_.Go.ChangeSpec) : _root_.Go.OpenSpec := { _root_.Go.OpenSpec.ofChange s with cond := some uptoSmall }

/-- 'undercroftlaw03.ShapeReads', WHERE WHAT IT READS IS OF BULK AT MOST 1048576: true; the input reads as it did. -/
def shapeReadsUptoRow : OpenClaim := { program := "ytndjhkacebhidaa", sum := "38a550fe217bdf93ffe2c5a934e4972a90a8bdb2e16e346eadb5bebf5bdec8d3", func := "undercroft/undercroftlaw03.ShapeReads", spec := "shapeReads", apart := false, narrowed := true }
def ShapeReadsUptoSaid : Prop := shapeReadsUptoRow.holds Try.pinned (OpenSpec.upto shapeReadsSpec)

/-- 'undercroftlaw03.ShapeLayouts', WHERE WHAT IT READS IS OF BULK AT MOST 1048576: true; the input reads as it did. -/
def shapeLayoutsUptoRow : OpenClaim := { program := "ytndjhkacebhidaa", sum := "38a550fe217bdf93ffe2c5a934e4972a90a8bdb2e16e346eadb5bebf5bdec8d3", func := "undercroft/undercroftlaw03.ShapeLayouts", spec := "shapeLayouts", apart := false, narrowed := true }
def ShapeLayoutsUptoSaid : Prop := shapeLayoutsUptoRow.holds Try.pinned (OpenSpec.upto shapeLayoutsSpec)

/-- 'undercroftlaw03.ShapeWrites', WHERE WHAT IT READS IS OF BULK AT MOST 1048576: true; the input reads as it did. -/
def shapeWritesUptoRow : OpenClaim := { program := "ytndjhkacebhidaa", sum := "38a550fe217bdf93ffe2c5a934e4972a90a8bdb2e16e346eadb5bebf5bdec8d3", func := "undercroft/undercroftlaw03.ShapeWrites", spec := "shapeWrites", apart := false, narrowed := true }
def ShapeWritesUptoSaid : Prop := shapeWritesUptoRow.holds Try.pinned (OpenSpec.upto shapeWritesSpec)

end Rows
end Go.Proofs.Ytndjhkacebhidaa
