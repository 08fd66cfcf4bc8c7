/-
  No cell of these rows narrows 'for every input' (looked for: loops, veiled, ifaces, maps, wideKeys, modest, calm, conditions, laid).
  DERIVED. THE GIVEN ROWS OF THIS SEAT. 7 by the template 'for every input the law returns true; each argument reads behind the call as it read before'; 0 by the template 'total and deterministic' (their statements: YtiafeogjknilmaaTotals.lean).
  GIVEN WITH THE SEED: the statements are not yours to turn. If you find one false, say at which input.
  Laid BY PROGRAM, IN A SANDBOX (cutbox-rows.mjs): the forced cells as the released guide's own fill.sh prints them over the translation 53408174fd995172… (all of the seat's roots in one cut). By AI agents, Wed Nov 11 2026. No macro, syntax, notation, axiom, sorry.
-/
import Derived.Test.YtiafeogjknilmaaChecked
import GoSem.Claim
import GoSem.ClaimJoined
import GoSem.ClaimMapViews
import Derived.JoinedTies
import Derived.KernelRfl
namespace Go.Proofs.Ytiafeogjknilmaa
/- THE CELL 'sum', in the pinned program and in every row, IS THE sha256 OF THE DUMP (.gsa) THAT YtiafeogjknilmaaProg.lean LOADS. Nothing in Lean hashes anything: it is a label: what it is worth is what the hold of that sum in a sandbox is worth. -/
noncomputable def Try.pinned : Pinned := { name := "ytiafeogjknilmaa", sum := "53408174fd9951721a87d3c9fd55dfd9fe4f4ef0dfbcbeeae48a46ec86290a96", checked := Try.checked }
namespace Rows
def none {H : Type} : Left H := { results := [], args := [] }

/-- 'undercroftlaw03.ShapeReads': WHATEVER THE INPUT: true; the input reads as it did. -/
def shapeReadsSpec : ChangeSpec := { name := "shapeReads", fn := fun _ => fun
  | [d1, d2] => { results := [.lit (.bool true)], args := [d1, d2] }
  | _ => none }
def shapeReadsRow : OpenClaim := { program := "ytiafeogjknilmaa", sum := "53408174fd9951721a87d3c9fd55dfd9fe4f4ef0dfbcbeeae48a46ec86290a96", func := "undercroft/undercroftlaw03.ShapeReads", spec := "shapeReads", apart := false }
def ShapeReadsSaid : Prop := shapeReadsRow.holds Try.pinned (OpenSpec.ofChange shapeReadsSpec)

/-- ITS FALSE NEIGHBOUR: 'it returns false'. Refute it at one input. -/
def shapeReadsWrong : ChangeSpec := { name := "shapeReads", fn := fun _ => fun
  | [d1, d2] => { results := [.lit (.bool false)], args := [d1, d2] }
  | _ => none }
def ShapeReadsWrongFalsely : Prop := shapeReadsRow.holds Try.pinned (OpenSpec.ofChange shapeReadsWrong)

/-- 'undercroftlaw03.ShapeBack': WHATEVER THE INPUT: true; the input reads as it did. -/
def shapeBackSpec : ChangeSpec := { name := "shapeBack", fn := fun _ => fun
  | [d1, d2, d3] => { results := [.lit (.bool true)], args := [d1, d2, d3] }
  | _ => none }
def shapeBackRow : OpenClaim := { program := "ytiafeogjknilmaa", sum := "53408174fd9951721a87d3c9fd55dfd9fe4f4ef0dfbcbeeae48a46ec86290a96", func := "undercroft/undercroftlaw03.ShapeBack", spec := "shapeBack", apart := false }
def ShapeBackSaid : Prop := shapeBackRow.holds Try.pinned (OpenSpec.ofChange shapeBackSpec)

/-- ITS FALSE NEIGHBOUR: 'it returns false'. Refute it at one input. -/
def shapeBackWrong : ChangeSpec := { name := "shapeBack", fn := fun _ => fun
  | [d1, d2, d3] => { results := [.lit (.bool false)], args := [d1, d2, d3] }
  | _ => none }
def ShapeBackWrongFalsely : Prop := shapeBackRow.holds Try.pinned (OpenSpec.ofChange shapeBackWrong)

/-- 'undercroftlaw03.ShapeOne': WHATEVER THE INPUT: true; the input reads as it did. -/
def shapeOneSpec : ChangeSpec := { name := "shapeOne", fn := fun _ => fun
  | [d1, d2] => { results := [.lit (.bool true)], args := [d1, d2] }
  | _ => none }
def shapeOneRow : OpenClaim := { program := "ytiafeogjknilmaa", sum := "53408174fd9951721a87d3c9fd55dfd9fe4f4ef0dfbcbeeae48a46ec86290a96", func := "undercroft/undercroftlaw03.ShapeOne", spec := "shapeOne", apart := false }
def ShapeOneSaid : Prop := shapeOneRow.holds Try.pinned (OpenSpec.ofChange shapeOneSpec)

/-- ITS FALSE NEIGHBOUR: 'it returns false'. Refute it at one input. -/
def shapeOneWrong : ChangeSpec := { name := "shapeOne", fn := fun _ => fun
  | [d1, d2] => { results := [.lit (.bool false)], args := [d1, d2] }
  | _ => none }
def ShapeOneWrongFalsely : Prop := shapeOneRow.holds Try.pinned (OpenSpec.ofChange shapeOneWrong)

/-- 'undercroftlaw03.ShapeLayouts': WHATEVER THE INPUT: true; the input reads as it did. -/
def shapeLayoutsSpec : ChangeSpec := { name := "shapeLayouts", fn := fun _ => fun
  | [d1, d2] => { results := [.lit (.bool true)], args := [d1, d2] }
  | _ => none }
def shapeLayoutsRow : OpenClaim := { program := "ytiafeogjknilmaa", sum := "53408174fd9951721a87d3c9fd55dfd9fe4f4ef0dfbcbeeae48a46ec86290a96", func := "undercroft/undercroftlaw03.ShapeLayouts", spec := "shapeLayouts", apart := false }
def ShapeLayoutsSaid : Prop := shapeLayoutsRow.holds Try.pinned (OpenSpec.ofChange shapeLayoutsSpec)

/-- ITS FALSE NEIGHBOUR: 'it returns false'. Refute it at one input. -/
def shapeLayoutsWrong : ChangeSpec := { name := "shapeLayouts", fn := fun _ => fun
  | [d1, d2] => { results := [.lit (.bool false)], args := [d1, d2] }
  | _ => none }
def ShapeLayoutsWrongFalsely : Prop := shapeLayoutsRow.holds Try.pinned (OpenSpec.ofChange shapeLayoutsWrong)

/-- 'undercroftlaw03.ShapeWrites': WHATEVER THE INPUT: true; the input reads as it did. -/
def shapeWritesSpec : ChangeSpec := { name := "shapeWrites", fn := fun _ => fun
  | [d1, d2] => { results := [.lit (.bool true)], args := [d1, d2] }
  | _ => none }
def shapeWritesRow : OpenClaim := { program := "ytiafeogjknilmaa", sum := "53408174fd9951721a87d3c9fd55dfd9fe4f4ef0dfbcbeeae48a46ec86290a96", func := "undercroft/undercroftlaw03.ShapeWrites", spec := "shapeWrites", apart := false }
def ShapeWritesSaid : Prop := shapeWritesRow.holds Try.pinned (OpenSpec.ofChange shapeWritesSpec)

/-- ITS FALSE NEIGHBOUR: 'it returns false'. Refute it at one input. -/
def shapeWritesWrong : ChangeSpec := { name := "shapeWrites", fn := fun _ => fun
  | [d1, d2] => { results := [.lit (.bool false)], args := [d1, d2] }
  | _ => none }
def ShapeWritesWrongFalsely : Prop := shapeWritesRow.holds Try.pinned (OpenSpec.ofChange shapeWritesWrong)

/-- 'undercroftlaw03.ShapeNames': WHATEVER THE INPUT: true; the input reads as it did. -/
def shapeNamesSpec : ChangeSpec := { name := "shapeNames", fn := fun _ => fun
  | [] => { results := [.lit (.bool true)], args := [] }
  | _ => none }
def shapeNamesRow : OpenClaim := { program := "ytiafeogjknilmaa", sum := "53408174fd9951721a87d3c9fd55dfd9fe4f4ef0dfbcbeeae48a46ec86290a96", func := "undercroft/undercroftlaw03.ShapeNames", spec := "shapeNames", apart := false }
def ShapeNamesSaid : Prop := shapeNamesRow.holds Try.pinned (OpenSpec.ofChange shapeNamesSpec)

/-- ITS FALSE NEIGHBOUR: 'it returns false'. Refute it at one input. -/
def shapeNamesWrong : ChangeSpec := { name := "shapeNames", fn := fun _ => fun
  | [] => { results := [.lit (.bool false)], args := [] }
  | _ => none }
def ShapeNamesWrongFalsely : Prop := shapeNamesRow.holds Try.pinned (OpenSpec.ofChange shapeNamesWrong)

/-- 'undercroftlaw03.ShapeSide': WHATEVER THE INPUT: true; the input reads as it did. -/
def shapeSideSpec : ChangeSpec := { name := "shapeSide", fn := fun _ => fun
  | [d1, d2] => { results := [.lit (.bool true)], args := [d1, d2] }
  | _ => none }
def shapeSideRow : OpenClaim := { program := "ytiafeogjknilmaa", sum := "53408174fd9951721a87d3c9fd55dfd9fe4f4ef0dfbcbeeae48a46ec86290a96", func := "undercroft/undercroftlaw03.ShapeSide", spec := "shapeSide", apart := false }
def ShapeSideSaid : Prop := shapeSideRow.holds Try.pinned (OpenSpec.ofChange shapeSideSpec)

/-- ITS FALSE NEIGHBOUR: 'it returns false'. Refute it at one input. -/
def shapeSideWrong : ChangeSpec := { name := "shapeSide", fn := fun _ => fun
  | [d1, d2] => { results := [.lit (.bool false)], args := [d1, d2] }
  | _ => none }
def ShapeSideWrongFalsely : Prop := shapeSideRow.holds Try.pinned (OpenSpec.ofChange shapeSideWrong)

/- THE SECOND FORM. 'bulk': how many values and letters a reading holds, each counted each time it is reached (what is shared counts as often as it is met; a slice's spare places count too). A statement '..UptoSaid' is the law's where the arguments, and the package variables that the reading takes, are together of bulk at most 1048576: NARROWER than '..Said'. Prove '..Said' where nothing that the law and all that it calls make is longer than what came in: it says more and counts as full. Else prove '..UptoSaid'. A law counts once. -/
mutual
def uptoBulk {H : Type} : DataW H → Nat
  | .lit (.string bytes) => bytes.length + 1
  | .lit _ => 1
  | .nil => 1
  | .ptr d => uptoBulk d + 1
  | .slice elems spare => uptoBulkAll elems + uptoBulkAll spare + 1
  | .agg parts => uptoBulkAll parts + 1
  | .iface _ d => uptoBulk d + 1
  | .map entries => uptoBulkEntries entries + 1
  | .held _ => 1
def uptoBulkAll {H : Type} : List (DataW H) → Nat
  | [] => 0
  | d :: r => uptoBulk d + uptoBulkAll r
def uptoBulkEntries {H : Type} : List (Lit × DataW H) → Nat
  | [] => 0
  | x :: r => uptoBulkEntry x + uptoBulkEntries r
def uptoBulkEntry {H : Type} : Lit × DataW H → Nat
  | (.string bytes, d) => bytes.length + uptoBulk d + 1
  | (_, d) => uptoBulk d + 1
 end
def uptoSmall : (H : Type) → List (DataW H) → Bool := fun _ ds => decide (uptoBulkAll ds ≤ 1048576)
def OpenSpec.upto (s : _root_.Go.ChangeSpec) : _root_.Go.OpenSpec := { _root_.Go.OpenSpec.ofChange s with cond := some uptoSmall }

/-- 'undercroftlaw03.ShapeReads', WHERE WHAT IT READS IS OF BULK AT MOST 1048576: true; the input reads as it did. -/
def shapeReadsUptoRow : OpenClaim := { program := "ytiafeogjknilmaa", sum := "53408174fd9951721a87d3c9fd55dfd9fe4f4ef0dfbcbeeae48a46ec86290a96", func := "undercroft/undercroftlaw03.ShapeReads", spec := "shapeReads", apart := false, narrowed := true }
def ShapeReadsUptoSaid : Prop := shapeReadsUptoRow.holds Try.pinned (OpenSpec.upto shapeReadsSpec)

/-- 'undercroftlaw03.ShapeBack', WHERE WHAT IT READS IS OF BULK AT MOST 1048576: true; the input reads as it did. -/
def shapeBackUptoRow : OpenClaim := { program := "ytiafeogjknilmaa", sum := "53408174fd9951721a87d3c9fd55dfd9fe4f4ef0dfbcbeeae48a46ec86290a96", func := "undercroft/undercroftlaw03.ShapeBack", spec := "shapeBack", apart := false, narrowed := true }
def ShapeBackUptoSaid : Prop := shapeBackUptoRow.holds Try.pinned (OpenSpec.upto shapeBackSpec)

/-- 'undercroftlaw03.ShapeOne', WHERE WHAT IT READS IS OF BULK AT MOST 1048576: true; the input reads as it did. -/
def shapeOneUptoRow : OpenClaim := { program := "ytiafeogjknilmaa", sum := "53408174fd9951721a87d3c9fd55dfd9fe4f4ef0dfbcbeeae48a46ec86290a96", func := "undercroft/undercroftlaw03.ShapeOne", spec := "shapeOne", apart := false, narrowed := true }
def ShapeOneUptoSaid : Prop := shapeOneUptoRow.holds Try.pinned (OpenSpec.upto shapeOneSpec)

/-- 'undercroftlaw03.ShapeLayouts', WHERE WHAT IT READS IS OF BULK AT MOST 1048576: true; the input reads as it did. -/
def shapeLayoutsUptoRow : OpenClaim := { program := "ytiafeogjknilmaa", sum := "53408174fd9951721a87d3c9fd55dfd9fe4f4ef0dfbcbeeae48a46ec86290a96", func := "undercroft/undercroftlaw03.ShapeLayouts", spec := "shapeLayouts", apart := false, narrowed := true }
def ShapeLayoutsUptoSaid : Prop := shapeLayoutsUptoRow.holds Try.pinned (OpenSpec.upto shapeLayoutsSpec)

/-- 'undercroftlaw03.ShapeWrites', WHERE WHAT IT READS IS OF BULK AT MOST 1048576: true; the input reads as it did. -/
def shapeWritesUptoRow : OpenClaim := { program := "ytiafeogjknilmaa", sum := "53408174fd9951721a87d3c9fd55dfd9fe4f4ef0dfbcbeeae48a46ec86290a96", func := "undercroft/undercroftlaw03.ShapeWrites", spec := "shapeWrites", apart := false, narrowed := true }
def ShapeWritesUptoSaid : Prop := shapeWritesUptoRow.holds Try.pinned (OpenSpec.upto shapeWritesSpec)

/-- 'undercroftlaw03.ShapeNames', WHERE WHAT IT READS IS OF BULK AT MOST 1048576: true; the input reads as it did. -/
def shapeNamesUptoRow : OpenClaim := { program := "ytiafeogjknilmaa", sum := "53408174fd9951721a87d3c9fd55dfd9fe4f4ef0dfbcbeeae48a46ec86290a96", func := "undercroft/undercroftlaw03.ShapeNames", spec := "shapeNames", apart := false, narrowed := true }
def ShapeNamesUptoSaid : Prop := shapeNamesUptoRow.holds Try.pinned (OpenSpec.upto shapeNamesSpec)

/-- 'undercroftlaw03.ShapeSide', WHERE WHAT IT READS IS OF BULK AT MOST 1048576: true; the input reads as it did. -/
def shapeSideUptoRow : OpenClaim := { program := "ytiafeogjknilmaa", sum := "53408174fd9951721a87d3c9fd55dfd9fe4f4ef0dfbcbeeae48a46ec86290a96", func := "undercroft/undercroftlaw03.ShapeSide", spec := "shapeSide", apart := false, narrowed := true }
def ShapeSideUptoSaid : Prop := shapeSideUptoRow.holds Try.pinned (OpenSpec.upto shapeSideSpec)

end Rows
end Go.Proofs.Ytiafeogjknilmaa
