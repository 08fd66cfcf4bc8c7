/- A plain reading of the model's code: functions that are known by their results. -/
import Derived.Test.YtgbdjeofbeibiaaPeTabOk
set_option linter.unusedVariables false
namespace Go.Proofs.Ytgbdjeofbeibiaa.Pe
open Go.RowKit
section
variable {P : Program} {T : Tys} {ρ ρ' : Ren} {H H' : Heap} {w w' : World}
/-- What a pure function's table tells: a function's number and its arguments, and what it hands back. -/
abbrev Pure := FuncId → List V → Option V
noncomputable def ext (g : Pure) (call : CallF) : CallF := fun f args H => match g f args with
  | some v => some (v, H)
  | none => call f args H
/-- Values that name no block stand in whatever memory. -/
theorem CRel.free {c : C} {v : Value} (h : CRel ρ H c v) (hc : c.ref = none) : CRel ρ' H' c v := by
  cases c <;> first | exact h | cases hc
theorem Cels.free {cs : List C} {vs : List Value} (h : Cels ρ H cs vs) (hc : ∀ c ∈ cs, c.ref = none) : Cels ρ' H' cs vs := by
  refine ⟨h.1, fun i x y hx hy => ?_⟩
  obtain ⟨h1, h2⟩ := h.2 i x y hx hy
  exact ⟨h1, h2.free (hc x (List.mem_of_getElem? hx))⟩
def V1.isFree : V1 → Prop
  | .c x => x.ref = none
  | .ag _ xs => ∀ c ∈ xs, c.ref = none
def V.isFree : V → Prop
  | .c x => x.ref = none
  | .ag _ xs => ∀ c ∈ xs, c.ref = none
  | .t xs => ∀ x ∈ xs, x.isFree
theorem V1Rel.free {x : V1} {v : Value} (h : V1Rel ρ H x v) (hc : x.isFree) : V1Rel ρ' H' x v := by
  cases x with
  | c x => exact CRel.free h hc
  | ag n xs =>
    obtain ⟨vs, h1, h2, h3⟩ := h
    exact ⟨vs, h1, h2, h3.free hc⟩
theorem VRel.free {x : V} {v : Value} (h : VRel ρ H x v) (hc : x.isFree) : VRel ρ' H' x v := by
  cases x with
  | c x => exact CRel.free h hc
  | ag n xs =>
    obtain ⟨vs, h1, h2, h3⟩ := h
    exact ⟨vs, h1, h2, h3.free hc⟩
  | t xs =>
    obtain ⟨vs, h1, h2⟩ := h
    exact ⟨vs, h1, h2.1, fun i x y hx hy => (h2.2 i x y hx hy).free (hc x (List.mem_of_getElem? hx))⟩
/-- The rows of a table are right. -/
def PureOk (g : Pure) (call : CallF) : Prop := ∀ f args v, g f args = some v → v.isFree ∧ (∀ x ∈ args, x.isFree) ∧ ∃ H', call f args [] = some (v, H')
theorem below_step (hH : HRel ρ H w) (hB : Below w.heap.size w w') : Step ρ H w ρ H w' :=
  ⟨⟨fun id b hb => (hH.blk id b hb).keep hB.size fun g hg _ => hB.block g hg, hH.dis⟩, fun _ _ _ => rfl, fun id b hb => ⟨b, hb, Nat.le_refl _, fun _ => rfl⟩, ⟨hB.os, hB.tape, hB.output, hB.size, fun g hg _ => hB.block g hg⟩, fun id b g hb ho => .inr ⟨b, hb, ho⟩⟩
theorem pure_calls {call : CallF} (hc : CallOk P call) {f : FuncId} {args : List V} {v : V} {H' : Heap} (h : call f args [] = some (v, H')) (hv : v.isFree) (ha : ∀ x ∈ args, x.isFree) (w : World) (cargs : Array Value) (hr : All2 (VRel ρ H) args cargs.toList) :
    Calls P f cargs w fun e w' => ∃ cv, e = .returned cv ∧ VRel ρ H v cv ∧ Below w.heap.size w w' := by
  obtain ⟨_, h3⟩ := hc f args [] v H' h
  refine (h3 ρ w cargs ⟨fun id b hb => by simp at hb, fun i j bi bj g _ hb => by simp at hb⟩ ⟨hr.1, fun i x y hx hy => (hr.2 i x y hx hy).free (ha x (List.mem_of_getElem? hx))⟩).mono ?_
  rintro e w' ⟨cv, ρ', rfl, g1, g2⟩
  exact ⟨cv, rfl, g1.free hv, g2.keep.os, g2.keep.tape, g2.keep.output, g2.keep.size, fun k hk => g2.keep.block k hk fun id b hb => by simp at hb⟩
theorem ext_ok {g : Pure} {call0 call : CallF} (h0 : CallOk P call0) (hg : PureOk g call0) (hc : CallOk P call) : CallOk P (ext g call) := by
  intro f args H v H' h
  unfold ext at h
  split at h
  · rename_i v' hv
    cases h
    obtain ⟨f1, f2, H1, f3⟩ := hg f args _ hv
    refine ⟨(h0 f args [] _ H1 f3).1, fun ρ w cargs hH ha => (pure_calls h0 f3 f1 f2 w cargs ha).mono ?_⟩
    rintro e w' ⟨cv, rfl, g1, g2⟩
    exact ⟨cv, ρ, rfl, g1, below_step hH g2⟩
  · exact hc f args H v H' h
/-- The evaluator, the table at hand at each call. -/
noncomputable def evG (T : Tys) (F : Fns) (K : Nat) (g : Pure) : Nat → CallF
  | 0 => fun _ _ _ => none
  | d + 1 => run1 T F K (ext g (evG T F K g d))
theorem evG_ok (hT : TabOk P T) {F : Fns} {K : Nat} (hF : FnsOk P F) (hm : P.follows .mixedOrders = true) {g : Pure} {call0 : CallF} (h0 : CallOk P call0) (hg : PureOk g call0) : ∀ (d : Nat), CallOk P (evG T F K g d)
  | 0 => fun f args H v H' h => by cases h
  | d + 1 => run1_ok hT hF hm (ext_ok h0 hg (evG_ok hT hF hm h0 hg d))
theorem free_refs {v : V} (h : v.isFree) : v.refs = [] := by
  cases v with
  | c x => simp only [V.refs]; rw [show x.ref = none from h]; rfl
  | ag n xs => exact List.filterMap_eq_nil_iff.2 h
  | t xs =>
    simp only [V.refs, List.flatMap_eq_nil_iff]
    intro x hx
    have := h x hx
    cases x with
    | c y => simp only [V1.refs]; rw [show y.ref = none from this]; rfl
    | ag n ys => exact List.filterMap_eq_nil_iff.2 this
/-- A call that the table answers. -/
theorem vcall_pure {g : Pure} {call : CallF} {f : FuncId} {args : List V} {v : V} (h : g f args = some v) (hv : v.isFree) (H : Heap) : vcall (ext g call) f args H = some (v, H) := by
  unfold vcall ext
  rw [h]
  simp only [gc, V.refsQ_eq, free_refs hv, List.filter_nil]
end
end Go.Proofs.Ytgbdjeofbeibiaa.Pe
