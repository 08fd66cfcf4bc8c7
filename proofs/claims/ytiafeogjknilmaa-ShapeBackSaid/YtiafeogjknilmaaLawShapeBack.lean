/- For every geometry, block and number: what was written of a geometry's layout is read as it, of a disk that is large enough, and not of a smaller one; and what is read of any block is written as that block. There are no conditions. -/
import Derived.Test.YtiafeogjknilmaaRows
import Derived.WalkKit
import Derived.ProofKit
import Derived.OpenShut
import Derived.ShutString
import Derived.ChangeOld
import Derived.Below
import Derived.SizedLaws
import Derived.Test.YtiafeogjknilmaaRowBase
import Derived.Test.YtiafeogjknilmaaOpenShape
import Derived.Test.YtiafeogjknilmaaBack
import Derived.Test.YtiafeogjknilmaaWitB
namespace Go.Proofs.Ytiafeogjknilmaa.shapeBack
open Go.ChangeShapes Go.WideShapes Go.ChangeAt Go.RowKit Go.Proofs.Ytiafeogjknilmaa.B
open Go.ChangeMaps (open_string shut_string)
set_option linter.unusedVariables false
theorem own : ownKnob Try.prog.godebug = none := by kernel_rfl
theorem laidOut : laidOutB Try.prog = true := by kernel_rfl
abbrev wi : Input := ⟨#[], #[.agg #[.int .i64 0, .int .i64 0, .int .i64 0], .agg (List.replicate 1024 (Value.int .u8 0)).toArray, .int .i64 0], []⟩
theorem wit3_ (os : Os) : ∀ (j : Nat) t v, Try.f4.params[j]? = some t → wi.args[j]? = some v → Value.okWideB Try.prog (World.plainHolding Try.prog os wi) t v = true
  | 0, t, v, ht, hv => by
    obtain rfl : 25 = t := Option.some.inj ht
    obtain rfl := Option.some.inj hv
    exact (by kernel_rfl)
  | 1, t, v, ht, hv => by
    obtain rfl : 23 = t := Option.some.inj ht
    obtain rfl := Option.some.inj hv
    exact okw_Block _
  | 2, t, v, ht, hv => by
    obtain rfl : 3 = t := Option.some.inj ht
    obtain rfl := Option.some.inj hv
    exact (by kernel_rfl)
  | j + 3, t, v, ht, hv => by simp [Try.params4] at ht
theorem wit3 (os : Os) : Input.okWideB Try.prog (World.plainHolding Try.prog os wi) 4 ⟨#[], wi.args, []⟩ = true := okIn Try.func4 (by kernel_rfl) (by kernel_rfl) rfl (wit3_ os)
theorem wit4 (os : Os) (H : Type) (enc : TypeId × Value → H) : Rows.shapeBackSpec.preB enc Try.prog Try.f4 Rows.shapeBackRow.domain false (World.plainHolding Try.prog os wi).memory wi.args 8 = true := by kernel_rfl
theorem wit5 (os : Os) (H : Type) (enc : TypeId × Value → H) : Rows.shapeBackSpec.sizedB enc Try.prog Try.f4 false (World.plainHolding Try.prog os wi).memory wi.args 8 = true := by kernel_rfl
set_option maxRecDepth 100000 in
theorem lifted (os : Os) (started : os.Started) (H : Type) (enc : TypeId × Value → H) :
    ReturnsInHanded {} Try.checked os 4 .any (Rows.shapeBackSpec.pre6 enc Try.prog Try.f4 Rows.shapeBackRow.domain false) (Rows.shapeBackSpec.post enc Try.prog Try.f4 false true false false) := by
  refine returnsInHanded_of_change_sized (C := Try.checked) own started (by kernel_rfl) Try.func4
    (ChangeSpec.witness6 (enc := enc) (C := Try.checked) false ⟨#[], #[.agg #[.int .i64 0, .int .i64 0, .int .i64 0], .agg (List.replicate 1024 (Value.int .u8 0)).toArray, .int .i64 0], []⟩ 8 (by kernel_rfl) (by kernel_rfl) (wit3 os) (wit4 os H enc) (wit5 os H enc)) ?_
  intro W base args ds gs before hval0 hW hcnd hsz0 _
  have hsz : (DataW.weightsEach Try.prog (Try.f4.params.toList ++ Rows.shapeBackSpec.plain.varTypes Try.prog) (ds ++ gs)).all (· ≤ reachBytes) = true := hsz0
  have hval : ∀ (j : Nat) t v, Try.f4.params[j]? = some t → args[j]? = some v → Value.okWide Try.prog W .any base t v := hval0
  have hW' := hW
  obtain ⟨p, q, hA0, hV, rfl, hfz, hnd⟩ := hW
  have hA : DataW.TrodAll enc Try.prog W 0 (fun _ => true) true Try.f4.params.toList args.toList ds p := hA0
  rw [Try.params4] at hA hval hsz
  obtain ⟨v0, vs0, d0, ds0, p0, q0, hargs, rfl, rfl, h0, r0⟩ := trodAll_cons hA
  obtain ⟨v1, vs1, d1, ds1, p1, q1, rfl, rfl, rfl, h1, r1⟩ := trodAll_cons r0
  obtain ⟨v2, vs2, d2, ds2, p2, q2, rfl, rfl, rfl, h2, r2⟩ := trodAll_cons r1
  obtain ⟨rfl, rfl, rfl⟩ := trodAll_nil r2
  obtain rfl : args = #[v0, v1, v2] := by cases args; simp_all
  obtain ⟨rfl, rfl⟩ := trodVars_none hV
  have k0 := h0
  have lt0 : ∀ x ∈ p0, x.block < W.heap.size := by obtain ⟨m, hm⟩ := k0; exact DataW.trod_lt m _ _ _ hm
  obtain ⟨l0, rfl, ll0, w0⟩ := open_ints_struct Try.underlying25 ai_Geometry (hval 0 25 v0 rfl rfl) h0
  obtain ⟨g0, g1, g2, rfl⟩ := list3 ll0
  have k1 := h1
  have lt1 : ∀ x ∈ p1, x.block < W.heap.size := by obtain ⟨m, hm⟩ := k1; exact DataW.trod_lt m _ _ _ hm
  obtain ⟨a1, rfl, w1⟩ := open_arr Try.underlying23 (by kernel_rfl) Try.underlying5 (by kernel_rfl) (hval 1 23 v1 rfl rfl) h1
  have k2 := h2
  have lt2 : ∀ x ∈ p2, x.block < W.heap.size := by obtain ⟨m, hm⟩ := k2; exact DataW.trod_lt m _ _ _ hm
  obtain ⟨a2, e2, e2_, e2__, w2⟩ := open_int Try.underlying3 (hval 2 3 v2 rfl rfl) h2
  subst e2
  clear hA0 hval0 hsz0 hsz
  refine (ShapeBack_walk g0 g1 g2 a1 a2 W (byt_wf w1)).mono fun e W' ⟨he, bel⟩ => ?_
  subst he
  exact ⟨_, rfl, _, _, _, [], _, [], hW', trodAll_mk1 (shut_bool Try.underlying4 _), (trodAll_cons_mk (Below.trod laidOut (by kernel_rfl) (of_decide_eq_true (by kernel_rfl)) k0 bel lt0) (trodAll_cons_mk (Below.trod laidOut (by kernel_rfl) (of_decide_eq_true (by kernel_rfl)) k1 bel lt1) (trodAll_cons_mk (Below.trod laidOut (by kernel_rfl) (of_decide_eq_true (by kernel_rfl)) k2 bel lt2) trodAll_mk0))), rfl, bel.frame _, fun h => by cases h⟩
theorem over : Rows.shapeBackRow.holds Try.pinned (OpenSpec.ofChange Rows.shapeBackSpec) :=
  OpenClaim.holds_of_wide 4 Try.f4 rfl rfl rfl rfl rfl rfl rfl ⟨rfl, rfl, rfl, rfl, rfl⟩ rfl rfl rfl rfl rfl (by kernel_rfl) Try.func4 (by kernel_rfl)
    (of_decide_eq_true (by kernel_rfl)) (by unfold Func.isWrapper; first | (rw [if_pos (by decide +kernel)]; kernel_rfl) | (rw [if_neg (by decide +kernel)]; exact ⟨rfl, rfl⟩))
    (fun os started H enc _ => lifted os started H enc)
theorem proved : Rows.ShapeBackSaid := over
#print axioms proved
end Go.Proofs.Ytiafeogjknilmaa.shapeBack
namespace Go.Proofs.Ytiafeogjknilmaa
/-- The row, under a short name, for the claim. -/
theorem shapeBack_holds : Rows.ShapeBackSaid := shapeBack.proved
end Go.Proofs.Ytiafeogjknilmaa
