/- ShapeReads, for every input: the row. There are no conditions. -/
import Derived.Test.YtndjhkacebhidaaRows
import Derived.WalkKit
import Derived.ProofKit
import Derived.OpenShut
import Derived.ShutString
import Derived.ChangeOld
import Derived.Below
import Derived.SizedLaws
import Derived.Test.YtndjhkacebhidaaRowBase
import Derived.Test.YtndjhkacebhidaaShpRows4
namespace Go.Proofs.Ytndjhkacebhidaa.shapeReads
open Go.ChangeShapes Go.WideShapes Go.ChangeAt Go.RowKit Go.Proofs.Ytndjhkacebhidaa.B
open Go.ChangeMaps (open_string shut_string)
set_option linter.unusedVariables false
theorem own : ownKnob Try.prog.godebug = none := by kernel_rfl
theorem laidOut : laidOutB Try.prog = true := by kernel_rfl
abbrev wi : Input := ⟨#[], #[.agg (List.replicate 1024 (Value.int .u8 0)).toArray, .int .i64 0], []⟩
theorem wit3_ (os : Os) : ∀ (j : Nat) t v, Try.f3.params[j]? = some t → wi.args[j]? = some v → Value.okWideB Try.prog (World.plainHolding Try.prog os wi) t v = true
  | 0, t, v, ht, hv => by
    obtain rfl : 23 = t := Option.some.inj ht
    obtain rfl := Option.some.inj hv
    exact okw_Block _
  | 1, t, v, ht, hv => by
    obtain rfl : 3 = t := Option.some.inj ht
    obtain rfl := Option.some.inj hv
    exact (by kernel_rfl)
  | j + 2, t, v, ht, hv => by simp [Try.params3] at ht
theorem wit3 (os : Os) : Input.okWideB Try.prog (World.plainHolding Try.prog os wi) 3 ⟨#[], wi.args, []⟩ = true := okIn Try.func3 (by kernel_rfl) (by kernel_rfl) rfl (wit3_ os)
theorem wit4 (os : Os) (H : Type) (enc : TypeId × Value → H) : Rows.shapeReadsSpec.preB enc Try.prog Try.f3 Rows.shapeReadsRow.domain false (World.plainHolding Try.prog os wi).memory wi.args 8 = true := by kernel_rfl
theorem wit5 (os : Os) (H : Type) (enc : TypeId × Value → H) : Rows.shapeReadsSpec.sizedB enc Try.prog Try.f3 false (World.plainHolding Try.prog os wi).memory wi.args 8 = true := by kernel_rfl
set_option maxRecDepth 100000 in
theorem lifted (os : Os) (started : os.Started) (H : Type) (enc : TypeId × Value → H) :
    ReturnsInHanded {} Try.checked os 3 .any (Rows.shapeReadsSpec.pre6 enc Try.prog Try.f3 Rows.shapeReadsRow.domain false) (Rows.shapeReadsSpec.post enc Try.prog Try.f3 false true false false) := by
  refine returnsInHanded_of_change_sized (C := Try.checked) own started (by kernel_rfl) Try.func3
    (ChangeSpec.witness6 (enc := enc) (C := Try.checked) false ⟨#[], #[.agg (List.replicate 1024 (Value.int .u8 0)).toArray, .int .i64 0], []⟩ 8 (by kernel_rfl) (by kernel_rfl) (wit3 os) (wit4 os H enc) (wit5 os H enc)) ?_
  intro W base args ds gs before hval0 hW hcnd hsz0 _
  have hsz : (DataW.weightsEach Try.prog (Try.f3.params.toList ++ Rows.shapeReadsSpec.plain.varTypes Try.prog) (ds ++ gs)).all (· ≤ reachBytes) = true := hsz0
  have hval : ∀ (j : Nat) t v, Try.f3.params[j]? = some t → args[j]? = some v → Value.okWide Try.prog W .any base t v := hval0
  have hW' := hW
  obtain ⟨p, q, hA0, hV, rfl, hfz, hnd⟩ := hW
  have hA : DataW.TrodAll enc Try.prog W 0 (fun _ => true) true Try.f3.params.toList args.toList ds p := hA0
  rw [Try.params3] at hA hval hsz
  obtain ⟨v0, vs0, d0, ds0, p0, q0, hargs, rfl, rfl, h0, r0⟩ := trodAll_cons hA
  obtain ⟨v1, vs1, d1, ds1, p1, q1, rfl, rfl, rfl, h1, r1⟩ := trodAll_cons r0
  obtain ⟨rfl, rfl, rfl⟩ := trodAll_nil r1
  obtain rfl : args = #[v0, v1] := by cases args; simp_all
  obtain ⟨rfl, rfl⟩ := trodVars_none hV
  have k0 := h0
  have lt0 : ∀ x ∈ p0, x.block < W.heap.size := by obtain ⟨m, hm⟩ := k0; exact DataW.trod_lt m _ _ _ hm
  obtain ⟨z0, g0, c0⟩ := Pe.open_leaf (Pe.leaf_Block) (Pe.agg_array Try.underlying23 (hval 0 23 v0 rfl rfl)) h0
  have k1 := h1
  have lt1 : ∀ x ∈ p1, x.block < W.heap.size := by obtain ⟨m, hm⟩ := k1; exact DataW.trod_lt m _ _ _ hm
  obtain ⟨a1, e1, e1_, e1__, w1⟩ := open_int Try.underlying3 (hval 1 3 v1 rfl rfl) h1
  subst e1
  clear hA0 hval0 hsz0 hsz
  refine (Pe.reads_row g0 c0 a1 w1 W).mono fun e W' ⟨he, bel⟩ => ?_
  subst he
  exact ⟨_, rfl, _, _, _, [], _, [], hW', trodAll_mk1 (shut_bool Try.underlying4 _), (trodAll_cons_mk (Below.trod laidOut (by kernel_rfl) (of_decide_eq_true (by kernel_rfl)) k0 bel lt0) (trodAll_cons_mk (Below.trod laidOut (by kernel_rfl) (of_decide_eq_true (by kernel_rfl)) k1 bel lt1) trodAll_mk0)), rfl, bel.frame _, fun h => by cases h⟩
theorem over : Rows.shapeReadsRow.holds Try.pinned (OpenSpec.ofChange Rows.shapeReadsSpec) :=
  OpenClaim.holds_of_wide 3 Try.f3 rfl rfl rfl rfl rfl rfl rfl ⟨rfl, rfl, rfl, rfl, rfl⟩ rfl rfl rfl rfl rfl (by kernel_rfl) Try.func3 (by kernel_rfl)
    (of_decide_eq_true (by kernel_rfl)) (by unfold Func.isWrapper; first | (rw [if_pos (by decide +kernel)]; kernel_rfl) | (rw [if_neg (by decide +kernel)]; exact ⟨rfl, rfl⟩))
    (fun os started H enc _ => lifted os started H enc)
theorem proved : Rows.ShapeReadsSaid := over
#print axioms proved
end Go.Proofs.Ytndjhkacebhidaa.shapeReads
namespace Go.Proofs.Ytndjhkacebhidaa
/-- The row, under a short name, for the claim. -/
theorem shapeReads_holds : Rows.ShapeReadsSaid := shapeReads.proved
end Go.Proofs.Ytndjhkacebhidaa
