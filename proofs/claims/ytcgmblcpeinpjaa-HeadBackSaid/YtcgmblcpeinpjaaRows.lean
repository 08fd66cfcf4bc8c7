/-
  No cell of these rows narrows 'for every input' (looked for: loops, veiled, ifaces, maps, wideKeys, modest, calm, conditions, laid).
  DERIVED. THE GIVEN ROWS OF THIS SEAT. 4 by the template 'for every input the law returns true; each argument reads behind the call as it read before'; 0 by the template 'total and deterministic' (their statements: YtcgmblcpeinpjaaTotals.lean).
  GIVEN WITH THE SEED: the statements are not yours to turn. If you find one false, say at which input.
  Laid BY PROGRAM, IN A SANDBOX (cutbox-rows.mjs): the forced cells as the released guide's own fill.sh prints them over the translation 52480435249b3ec7… (all of the seat's roots in one cut). By AI agents, Wed Nov 11 2026. No macro, syntax, notation, axiom, sorry.
-/
import Derived.Test.YtcgmblcpeinpjaaChecked
import GoSem.Claim
import GoSem.ClaimJoined
import GoSem.ClaimMapViews
import Derived.JoinedTies
import Derived.KernelRfl
namespace Go.Proofs.Ytcgmblcpeinpjaa
/- THE CELL 'sum', in the pinned program and in every row, IS THE sha256 OF THE DUMP (.gsa) THAT YtcgmblcpeinpjaaProg.lean LOADS. Nothing in Lean hashes anything: it is a label: what it is worth is what the hold of that sum in a sandbox is worth. -/
noncomputable def Try.pinned : Pinned := { name := "ytcgmblcpeinpjaa", sum := "52480435249b3ec7f2d54e452919aeaf5862549be27d1b01c99ee34fac72666f", checked := Try.checked }
namespace Rows
def none {H : Type} : Left H := { results := [], args := [] }

/-- 'undercroftlaw07.HeadEncodes': WHATEVER THE INPUT: true; the input reads as it did. -/
def headEncodesSpec : ChangeSpec := { name := "headEncodes", fn := fun _ => fun
  | [d1, d2, d3] => { results := [.lit (.bool true)], args := [d1, d2, d3] }
  | _ => none }
def headEncodesRow : OpenClaim := { program := "ytcgmblcpeinpjaa", sum := "52480435249b3ec7f2d54e452919aeaf5862549be27d1b01c99ee34fac72666f", func := "undercroft/undercroftlaw07.HeadEncodes", spec := "headEncodes", apart := false }
def HeadEncodesSaid : Prop := headEncodesRow.holds Try.pinned (OpenSpec.ofChange headEncodesSpec)

/-- ITS FALSE NEIGHBOUR: 'it returns false'. Refute it at one input. -/
def headEncodesWrong : ChangeSpec := { name := "headEncodes", fn := fun _ => fun
  | [d1, d2, d3] => { results := [.lit (.bool false)], args := [d1, d2, d3] }
  | _ => none }
def HeadEncodesWrongFalsely : Prop := headEncodesRow.holds Try.pinned (OpenSpec.ofChange headEncodesWrong)

/-- 'undercroftlaw07.HeadDecodes': WHATEVER THE INPUT: true; the input reads as it did. -/
def headDecodesSpec : ChangeSpec := { name := "headDecodes", fn := fun _ => fun
  | [d1, d2, d3] => { results := [.lit (.bool true)], args := [d1, d2, d3] }
  | _ => none }
def headDecodesRow : OpenClaim := { program := "ytcgmblcpeinpjaa", sum := "52480435249b3ec7f2d54e452919aeaf5862549be27d1b01c99ee34fac72666f", func := "undercroft/undercroftlaw07.HeadDecodes", spec := "headDecodes", apart := false }
def HeadDecodesSaid : Prop := headDecodesRow.holds Try.pinned (OpenSpec.ofChange headDecodesSpec)

/-- ITS FALSE NEIGHBOUR: 'it returns false'. Refute it at one input. -/
def headDecodesWrong : ChangeSpec := { name := "headDecodes", fn := fun _ => fun
  | [d1, d2, d3] => { results := [.lit (.bool false)], args := [d1, d2, d3] }
  | _ => none }
def HeadDecodesWrongFalsely : Prop := headDecodesRow.holds Try.pinned (OpenSpec.ofChange headDecodesWrong)

/-- 'undercroftlaw07.HeadBack': WHATEVER THE INPUT: true; the input reads as it did. -/
def headBackSpec : ChangeSpec := { name := "headBack", fn := fun _ => fun
  | [d1, d2, d3] => { results := [.lit (.bool true)], args := [d1, d2, d3] }
  | _ => none }
def headBackRow : OpenClaim := { program := "ytcgmblcpeinpjaa", sum := "52480435249b3ec7f2d54e452919aeaf5862549be27d1b01c99ee34fac72666f", func := "undercroft/undercroftlaw07.HeadBack", spec := "headBack", apart := false }
def HeadBackSaid : Prop := headBackRow.holds Try.pinned (OpenSpec.ofChange headBackSpec)

/-- ITS FALSE NEIGHBOUR: 'it returns false'. Refute it at one input. -/
def headBackWrong : ChangeSpec := { name := "headBack", fn := fun _ => fun
  | [d1, d2, d3] => { results := [.lit (.bool false)], args := [d1, d2, d3] }
  | _ => none }
def HeadBackWrongFalsely : Prop := headBackRow.holds Try.pinned (OpenSpec.ofChange headBackWrong)

/-- 'undercroftlaw07.HeadRegions': WHATEVER THE INPUT: true; the input reads as it did. -/
def headRegionsSpec : ChangeSpec := { name := "headRegions", fn := fun _ => fun
  | [d1, d2] => { results := [.lit (.bool true)], args := [d1, d2] }
  | _ => none }
def headRegionsRow : OpenClaim := { program := "ytcgmblcpeinpjaa", sum := "52480435249b3ec7f2d54e452919aeaf5862549be27d1b01c99ee34fac72666f", func := "undercroft/undercroftlaw07.HeadRegions", spec := "headRegions", apart := false }
def HeadRegionsSaid : Prop := headRegionsRow.holds Try.pinned (OpenSpec.ofChange headRegionsSpec)

/-- ITS FALSE NEIGHBOUR: 'it returns false'. Refute it at one input. -/
def headRegionsWrong : ChangeSpec := { name := "headRegions", fn := fun _ => fun
  | [d1, d2] => { results := [.lit (.bool false)], args := [d1, d2] }
  | _ => none }
def HeadRegionsWrongFalsely : Prop := headRegionsRow.holds Try.pinned (OpenSpec.ofChange headRegionsWrong)

/- THE SECOND FORM. 'bulk': how many values and letters a reading holds, each counted each time it is reached (what is shared counts as often as it is met; a slice's spare places count too). A statement '..UptoSaid' is the law's where the arguments, and the package variables that the reading takes, are together of bulk at most 1048576: NARROWER than '..Said'. Prove '..Said' where nothing that the law and all that it calls make is longer than what came in: it says more and counts as full. Else prove '..UptoSaid'. A law counts once. -/
mutual
def uptoBulk {H : Type} : DataW H → Nat
  | .lit (.string bytes) => bytes.length + 1
  | .lit _ => 1
  | .nil => 1
  | .ptr d => uptoBulk d + 1
  | .slice elems spare => uptoBulkAll elems + uptoBulkAll spare + 1
  | .agg parts => uptoBulkAll parts + 1
  | .iface _ d => uptoBulk d + 1
  | .map entries => uptoBulkEntries entries + 1
  | .held _ => 1
def uptoBulkAll {H : Type} : List (DataW H) → Nat
  | [] => 0
  | d :: r => uptoBulk d + uptoBulkAll r
def uptoBulkEntries {H : Type} : List (Lit × DataW H) → Nat
  | [] => 0
  | x :: r => uptoBulkEntry x + uptoBulkEntries r
def uptoBulkEntry {H : Type} : Lit × DataW H → Nat
  | (.string bytes, d) => bytes.length + uptoBulk d + 1
  | (_, d) => uptoBulk d + 1
 end
def uptoSmall : (H : Type) → List (DataW H) → Bool := fun _ ds => decide (uptoBulkAll ds ≤ 1048576)
def OpenSpec.upto (s : _root_.Go.ChangeSpec) : _root_.Go.OpenSpec := { _root_.Go.OpenSpec.ofChange s with cond := some uptoSmall }

/-- 'undercroftlaw07.HeadEncodes', WHERE WHAT IT READS IS OF BULK AT MOST 1048576: true; the input reads as it did. -/
def headEncodesUptoRow : OpenClaim := { program := "ytcgmblcpeinpjaa", sum := "52480435249b3ec7f2d54e452919aeaf5862549be27d1b01c99ee34fac72666f", func := "undercroft/undercroftlaw07.HeadEncodes", spec := "headEncodes", apart := false, narrowed := true }
def HeadEncodesUptoSaid : Prop := headEncodesUptoRow.holds Try.pinned (OpenSpec.upto headEncodesSpec)

/-- 'undercroftlaw07.HeadDecodes', WHERE WHAT IT READS IS OF BULK AT MOST 1048576: true; the input reads as it did. -/
def headDecodesUptoRow : OpenClaim := { program := "ytcgmblcpeinpjaa", sum := "52480435249b3ec7f2d54e452919aeaf5862549be27d1b01c99ee34fac72666f", func := "undercroft/undercroftlaw07.HeadDecodes", spec := "headDecodes", apart := false, narrowed := true }
def HeadDecodesUptoSaid : Prop := headDecodesUptoRow.holds Try.pinned (OpenSpec.upto headDecodesSpec)

/-- 'undercroftlaw07.HeadBack', WHERE WHAT IT READS IS OF BULK AT MOST 1048576: true; the input reads as it did. -/
def headBackUptoRow : OpenClaim := { program := "ytcgmblcpeinpjaa", sum := "52480435249b3ec7f2d54e452919aeaf5862549be27d1b01c99ee34fac72666f", func := "undercroft/undercroftlaw07.HeadBack", spec := "headBack", apart := false, narrowed := true }
def HeadBackUptoSaid : Prop := headBackUptoRow.holds Try.pinned (OpenSpec.upto headBackSpec)

/-- 'undercroftlaw07.HeadRegions', WHERE WHAT IT READS IS OF BULK AT MOST 1048576: true; the input reads as it did. -/
def headRegionsUptoRow : OpenClaim := { program := "ytcgmblcpeinpjaa", sum := "52480435249b3ec7f2d54e452919aeaf5862549be27d1b01c99ee34fac72666f", func := "undercroft/undercroftlaw07.HeadRegions", spec := "headRegions", apart := false, narrowed := true }
def HeadRegionsUptoSaid : Prop := headRegionsUptoRow.holds Try.pinned (OpenSpec.upto headRegionsSpec)

end Rows
end Go.Proofs.Ytcgmblcpeinpjaa
