/-
  No cell of these rows narrows 'for every input' (looked for: loops, veiled, ifaces, maps, wideKeys, modest, calm, conditions, laid).
  DERIVED. THE GIVEN ROWS OF THIS SEAT. 4 by the template 'for every input the law returns true; each argument reads behind the call as it read before'; 0 by the template 'total and deterministic' (their statements: YtpdhgmeaehfkmaaTotals.lean).
  GIVEN WITH THE SEED: the statements are not yours to turn. If you find one false, say at which input.
  Laid BY PROGRAM, IN A SANDBOX (cutbox-rows.mjs): the forced cells as the released guide's own fill.sh prints them over the translation c46380e2acf91d2d… (all of the seat's roots in one cut). By AI agents, Wed Nov 11 2026. No macro, syntax, notation, axiom, sorry.
-/
import Derived.Test.YtpdhgmeaehfkmaaChecked
import GoSem.Claim
import GoSem.ClaimJoined
import GoSem.ClaimMapViews
import Derived.JoinedTies
import Derived.KernelRfl
namespace Go.Proofs.Ytpdhgmeaehfkmaa
/- THE CELL 'sum', in the pinned program and in every row, IS THE sha256 OF THE DUMP (.gsa) THAT YtpdhgmeaehfkmaaProg.lean LOADS. Nothing in Lean hashes anything: it is a label: what it is worth is what the hold of that sum in a sandbox is worth. -/
noncomputable def Try.pinned : Pinned := { name := "ytpdhgmeaehfkmaa", sum := "c46380e2acf91d2d8d188b2ca9f59c0731f83f0258bdb0f75556a396d44fbfef", checked := Try.checked }
namespace Rows
def none {H : Type} : Left H := { results := [], args := [] }

/-- 'undercroftlaw25.FdsKnown': WHATEVER THE INPUT: true; the input reads as it did. -/
def fdsKnownSpec : ChangeSpec := { name := "fdsKnown", fn := fun _ => fun
  | [] => { results := [.lit (.bool true)], args := [] }
  | _ => none }
def fdsKnownRow : OpenClaim := { program := "ytpdhgmeaehfkmaa", sum := "c46380e2acf91d2d8d188b2ca9f59c0731f83f0258bdb0f75556a396d44fbfef", func := "undercroft/undercroftlaw25.FdsKnown", spec := "fdsKnown", apart := false }
def FdsKnownSaid : Prop := fdsKnownRow.holds Try.pinned (OpenSpec.ofChange fdsKnownSpec)

/-- ITS FALSE NEIGHBOUR: 'it returns false'. Refute it at one input. -/
def fdsKnownWrong : ChangeSpec := { name := "fdsKnown", fn := fun _ => fun
  | [] => { results := [.lit (.bool false)], args := [] }
  | _ => none }
def FdsKnownWrongFalsely : Prop := fdsKnownRow.holds Try.pinned (OpenSpec.ofChange fdsKnownWrong)

/-- 'undercroftlaw25.FdsLeast': WHATEVER THE INPUT: true; the input reads as it did. -/
def fdsLeastSpec : ChangeSpec := { name := "fdsLeast", fn := fun _ => fun
  | [d1, d2] => { results := [.lit (.bool true)], args := [d1, d2] }
  | _ => none }
def fdsLeastRow : OpenClaim := { program := "ytpdhgmeaehfkmaa", sum := "c46380e2acf91d2d8d188b2ca9f59c0731f83f0258bdb0f75556a396d44fbfef", func := "undercroft/undercroftlaw25.FdsLeast", spec := "fdsLeast", apart := false }
def FdsLeastSaid : Prop := fdsLeastRow.holds Try.pinned (OpenSpec.ofChange fdsLeastSpec)

/-- ITS FALSE NEIGHBOUR: 'it returns false'. Refute it at one input. -/
def fdsLeastWrong : ChangeSpec := { name := "fdsLeast", fn := fun _ => fun
  | [d1, d2] => { results := [.lit (.bool false)], args := [d1, d2] }
  | _ => none }
def FdsLeastWrongFalsely : Prop := fdsLeastRow.holds Try.pinned (OpenSpec.ofChange fdsLeastWrong)

/-- 'undercroftlaw25.FdsScript': WHATEVER THE INPUT: true; the input reads as it did. -/
def fdsScriptSpec : ChangeSpec := { name := "fdsScript", fn := fun _ => fun
  | [d1, d2, d3] => { results := [.lit (.bool true)], args := [d1, d2, d3] }
  | _ => none }
def fdsScriptRow : OpenClaim := { program := "ytpdhgmeaehfkmaa", sum := "c46380e2acf91d2d8d188b2ca9f59c0731f83f0258bdb0f75556a396d44fbfef", func := "undercroft/undercroftlaw25.FdsScript", spec := "fdsScript", unfollowed := true, recurses := true, apart := false }
def FdsScriptSaid : Prop := fdsScriptRow.holds Try.pinned (OpenSpec.ofChange fdsScriptSpec)

/-- ITS FALSE NEIGHBOUR: 'it returns false'. Refute it at one input. -/
def fdsScriptWrong : ChangeSpec := { name := "fdsScript", fn := fun _ => fun
  | [d1, d2, d3] => { results := [.lit (.bool false)], args := [d1, d2, d3] }
  | _ => none }
def FdsScriptWrongFalsely : Prop := fdsScriptRow.holds Try.pinned (OpenSpec.ofChange fdsScriptWrong)

/-- 'undercroftlaw25.FdsNone': WHATEVER THE INPUT: true; the input reads as it did. -/
def fdsNoneSpec : ChangeSpec := { name := "fdsNone", fn := fun _ => fun
  | [d1, d2] => { results := [.lit (.bool true)], args := [d1, d2] }
  | _ => none }
def fdsNoneRow : OpenClaim := { program := "ytpdhgmeaehfkmaa", sum := "c46380e2acf91d2d8d188b2ca9f59c0731f83f0258bdb0f75556a396d44fbfef", func := "undercroft/undercroftlaw25.FdsNone", spec := "fdsNone", unfollowed := true, recurses := true, apart := false }
def FdsNoneSaid : Prop := fdsNoneRow.holds Try.pinned (OpenSpec.ofChange fdsNoneSpec)

/-- ITS FALSE NEIGHBOUR: 'it returns false'. Refute it at one input. -/
def fdsNoneWrong : ChangeSpec := { name := "fdsNone", fn := fun _ => fun
  | [d1, d2] => { results := [.lit (.bool false)], args := [d1, d2] }
  | _ => none }
def FdsNoneWrongFalsely : Prop := fdsNoneRow.holds Try.pinned (OpenSpec.ofChange fdsNoneWrong)

/- THE SECOND FORM. 'bulk': how many values and letters a reading holds, each counted each time it is reached (what is shared counts as often as it is met; a slice's spare places count too). A statement '..UptoSaid' is the law's where the arguments, and the package variables that the reading takes, are together of bulk at most 1048576: NARROWER than '..Said'. Prove '..Said' where nothing that the law and all that it calls make is longer than what came in: it says more and counts as full. Else prove '..UptoSaid'. A law counts once. -/
mutual
def uptoBulk {H : Type} : DataW H → Nat
  | .lit (.string bytes) => bytes.length + 1
  | .lit _ => 1
  | .nil => 1
  | .ptr d => uptoBulk d + 1
  | .slice elems spare => uptoBulkAll elems + uptoBulkAll spare + 1
  | .agg parts => uptoBulkAll parts + 1
  | .iface _ d => uptoBulk d + 1
  | .map entries => uptoBulkEntries entries + 1
  | .held _ => 1
def uptoBulkAll {H : Type} : List (DataW H) → Nat
  | [] => 0
  | d :: r => uptoBulk d + uptoBulkAll r
def uptoBulkEntries {H : Type} : List (Lit × DataW H) → Nat
  | [] => 0
  | x :: r => uptoBulkEntry x + uptoBulkEntries r
def uptoBulkEntry {H : Type} : Lit × DataW H → Nat
  | (.string bytes, d) => bytes.length + uptoBulk d + 1
  | (_, d) => uptoBulk d + 1
 end
def uptoSmall : (H : Type) → List (DataW H) → Bool := fun _ ds => decide (uptoBulkAll ds ≤ 1048576)
def OpenSpec.upto (s : _root_.Go.ChangeSpec) : _root_.Go.OpenSpec := { _root_.Go.OpenSpec.ofChange s with cond := some uptoSmall }

/-- 'undercroftlaw25.FdsKnown', WHERE WHAT IT READS IS OF BULK AT MOST 1048576: true; the input reads as it did. -/
def fdsKnownUptoRow : OpenClaim := { program := "ytpdhgmeaehfkmaa", sum := "c46380e2acf91d2d8d188b2ca9f59c0731f83f0258bdb0f75556a396d44fbfef", func := "undercroft/undercroftlaw25.FdsKnown", spec := "fdsKnown", apart := false, narrowed := true }
def FdsKnownUptoSaid : Prop := fdsKnownUptoRow.holds Try.pinned (OpenSpec.upto fdsKnownSpec)

/-- 'undercroftlaw25.FdsLeast', WHERE WHAT IT READS IS OF BULK AT MOST 1048576: true; the input reads as it did. -/
def fdsLeastUptoRow : OpenClaim := { program := "ytpdhgmeaehfkmaa", sum := "c46380e2acf91d2d8d188b2ca9f59c0731f83f0258bdb0f75556a396d44fbfef", func := "undercroft/undercroftlaw25.FdsLeast", spec := "fdsLeast", apart := false, narrowed := true }
def FdsLeastUptoSaid : Prop := fdsLeastUptoRow.holds Try.pinned (OpenSpec.upto fdsLeastSpec)

/-- 'undercroftlaw25.FdsScript', WHERE WHAT IT READS IS OF BULK AT MOST 1048576: true; the input reads as it did. -/
def fdsScriptUptoRow : OpenClaim := { program := "ytpdhgmeaehfkmaa", sum := "c46380e2acf91d2d8d188b2ca9f59c0731f83f0258bdb0f75556a396d44fbfef", func := "undercroft/undercroftlaw25.FdsScript", spec := "fdsScript", unfollowed := true, recurses := true, apart := false, narrowed := true }
def FdsScriptUptoSaid : Prop := fdsScriptUptoRow.holds Try.pinned (OpenSpec.upto fdsScriptSpec)

/-- 'undercroftlaw25.FdsNone', WHERE WHAT IT READS IS OF BULK AT MOST 1048576: true; the input reads as it did. -/
def fdsNoneUptoRow : OpenClaim := { program := "ytpdhgmeaehfkmaa", sum := "c46380e2acf91d2d8d188b2ca9f59c0731f83f0258bdb0f75556a396d44fbfef", func := "undercroft/undercroftlaw25.FdsNone", spec := "fdsNone", unfollowed := true, recurses := true, apart := false, narrowed := true }
def FdsNoneUptoSaid : Prop := fdsNoneUptoRow.holds Try.pinned (OpenSpec.upto fdsNoneSpec)

end Rows
end Go.Proofs.Ytpdhgmeaehfkmaa
