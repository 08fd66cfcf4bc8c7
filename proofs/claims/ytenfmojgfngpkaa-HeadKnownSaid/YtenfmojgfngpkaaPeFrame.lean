/- A plain reading of the model's code: a call reckoned in a memory of its own, which holds only the blocks that its arguments name. -/
import Derived.Test.YtenfmojgfngpkaaPeSym
set_option linter.unusedVariables false
namespace Go.Proofs.Ytenfmojgfngpkaa.Pe
open Go.RowKit
section
variable {P : Program} {ρ ρ' : Ren} {H H0 H' : Heap} {w w' : World}
/-- A block whose cells name no block. -/
def Bk.isFree : Bk → Prop
  | .var _ _ cs => ∀ c ∈ cs, c.ref = none
  | .row _ cs _ _ _ _ => ∀ c ∈ cs, c.ref = none
  | .ror cs _ _ => ∀ c ∈ cs, c.ref = none
  | _ => True
theorem BRel.other {id id0 : Nat} {b : Bk} (h : BRel ρ H id b w) (hf : b.isFree) (e : ∀ k, ρ' id0 k = ρ id k) : BRel ρ' H0 id0 b w := by
  cases b with
  | dead => trivial
  | var wr m cells =>
    obtain ⟨h0, g, ty, cs, h1, h2, h3⟩ := h
    exact ⟨h0, g, ty, cs, (e 0).trans h1, h2, h3.free hf⟩
  | row wr cells n lo sz et =>
    obtain ⟨h0, h1, h1', h2⟩ := h
    refine ⟨h0, h1, h1', fun k a b => ?_⟩
    obtain ⟨xs, h3, h4⟩ := h2 k a b
    exact ⟨xs, h3.free fun c hc => hf c (List.mem_of_mem_take hc), by rw [e k]; exact h4⟩
  | ror cells n sz =>
    obtain ⟨h0, h1, A, c, h2, h3, h4⟩ := h
    refine ⟨h0, h1, A, c, (e n).trans h2, h3, fun hn => ?_⟩
    obtain ⟨ad, xs, a, b, r⟩ := h4 hn
    exact ⟨ad, xs, a, b.free hf, r⟩
  | mp wr ks =>
    obtain ⟨g, es, cl, h1, h2⟩ := h
    exact ⟨g, es, cl, (e 0).trans h1, h2⟩
theorem frame_calls {call : CallF} (hc : CallOk P call) {f : FuncId} {args : List V} {v : V} {H1 : Heap} {τ σ : Nat → Nat} (h : call f (args.map (V.ren τ)) H0 = some (v, H1)) (hv : v.isFree)
    (h0 : ∀ (k : Nat) (b : Bk), H0[k]? = some b → b.wr = false ∧ b.isFree ∧ ∃ b', H[σ k]? = some b' ∧ b = b'.frz) (ha : ∀ x ∈ args, ∀ j ∈ x.refs, σ (τ j) = j ∧ τ j < H0.length)
    {ρ : Ren} {w : World} {cargs : Array Value} (hH : HRel ρ H w) (hr : All2 (VRel ρ H) args cargs.toList) : Calls P f cargs w fun e w' => ∃ cv, e = .returned cv ∧ VRel ρ H v cv ∧ Below w.heap.size w w' := by
  obtain ⟨_, h3⟩ := hc f _ H0 v H1 h
  have hH0 : HRel (fun k => ρ (σ k)) H0 w := by
    refine ⟨fun k b hb => ?_, fun i j bi bj g _ hb _ hw => by rw [(h0 i bi hb).1] at hw; cases hw⟩
    obtain ⟨q1, q2, b', q3, rfl⟩ := h0 k b hb
    exact ((frz_rel ρ H (σ k) b' w).2 (hH.blk _ _ q3)).other q2 fun _ => rfl
  refine (h3 _ w cargs hH0 ⟨by simpa using hr.1, fun i x y hx hy => ?_⟩).mono ?_
  · rw [List.getElem?_map] at hx
    obtain ⟨x0, hx0, rfl⟩ := Option.map_eq_some_iff.1 hx
    refine (hr.2 i x0 y hx0 hy).ren fun j hj k hg => ?_
    obtain ⟨s1, s2⟩ := ha x0 (List.mem_of_getElem? hx0) j hj
    obtain ⟨b', g1, g2⟩ := hg
    obtain ⟨q1, q2, b2, q3, q4⟩ := h0 (τ j) H0[τ j] (by simp [s2])
    rw [s1, g1] at q3
    cases q3
    exact ⟨⟨H0[τ j], by simp [s2], by rw [q4, frz_gb]; exact g2⟩, by rw [s1]⟩
  · rintro e w' ⟨cv, ρ', rfl, g1, g2⟩
    exact ⟨cv, rfl, g1.free hv, g2.keep.os, g2.keep.tape, g2.keep.output, g2.keep.size, fun k hk => g2.keep.block k hk fun id b hb hw => by rw [(h0 id b hb).1] at hw; cases hw⟩
/-- A table whose rows may look at memory. -/
abbrev PureH := FuncId → List V → Heap → Option V
noncomputable def extH (g : PureH) (call : CallF) : CallF := fun f args H => match g f args H with
  | some v => some (v, H)
  | none => call f args H
def PureHOk (g : PureH) (call : CallF) : Prop := ∀ f args H v, g f args H = some v → v.isFree ∧ ∃ (τ σ : Nat → Nat) (H0 H1 : Heap), call f (args.map (V.ren τ)) H0 = some (v, H1) ∧ (∀ (k : Nat) (b : Bk), H0[k]? = some b → b.wr = false ∧ b.isFree ∧ ∃ b', H[σ k]? = some b' ∧ b = b'.frz) ∧ (∀ x ∈ args, ∀ j ∈ x.refs, σ (τ j) = j ∧ τ j < H0.length)
theorem extH_ok {g : PureH} {call0 call : CallF} (h0 : CallOk P call0) (hg : PureHOk g call0) (hc : CallOk P call) : CallOk P (extH g call) := by
  intro f args H v H' h
  unfold extH at h
  split at h
  · rename_i v' hv
    cases h
    obtain ⟨f1, τ, σ, H0, H1, f3, f4, f5⟩ := hg f args H _ hv
    refine ⟨(h0 f _ H0 _ H1 f3).1, fun ρ w cargs hH ha => (frame_calls h0 f3 f1 f4 f5 hH ha).mono ?_⟩
    rintro e w' ⟨cv, rfl, g1, g2⟩
    exact ⟨cv, ρ, rfl, g1, below_step hH g2⟩
  · exact hc f args H v H' h
end
end Go.Proofs.Ytenfmojgfngpkaa.Pe
