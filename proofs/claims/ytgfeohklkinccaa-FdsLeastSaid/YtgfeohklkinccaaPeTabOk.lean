/- A plain reading of the model's code: the tables looked over; calls that take nothing. -/
import Derived.Test.YtgfeohklkinccaaPeRun6
set_option linter.unusedVariables false
namespace Go.Proofs.Ytgfeohklkinccaa.Pe
open Go.RowKit
def kdQ (P : Program) (t : TypeId) : Option TK := match P.underlying t with
  | some (.int k) => some (.int k)
  | some .bool => some .bool
  | some .string => some .str
  | some (.pointer _) => some .ptr
  | some (.slice e) => some (.sl e)
  | some (.array n e) => some (.arr n e)
  | some (.struct F) => bif F.toList.all (fun f => (P.info? f.type).isSome) then some (.st (F.toList.map fun f => (f.offset, f.type))) else none
  | some (.map k e) => some (.mp k e)
  | some (.func _ _ _) => some .oth
  | _ => none
theorem kdQ_ok {P : Program} {t : TypeId} {k : TK} (h : kdQ P t = some k) : kdOk P t k := by
  unfold kdQ at h
  split at h <;> rename_i hu
  all_goals try (cases h; first | exact hu | exact ⟨_, hu⟩ | exact ⟨_, _, _, hu⟩)
  · cases hb : (Array.toList _).all _ with
    | true =>
      rw [hb] at h
      cases h
      exact ⟨_, hu, rfl, fun f hf => List.all_eq_true.1 hb f hf⟩
    | false => rw [hb] at h; cases h
  · cases h
def infQ (P : Program) (t : TypeId) : Option (Nat × Nat × List C) := match P.info? t with
  | some i => match i.zero with
    | some z => match cellsOf z.cells.toList with
      | some cs => some (i.size, i.bytes, cs)
      | none => none
    | none => none
  | none => none
def ksQ (P : Program) (t : TypeId) : Option (List PK) := bif P.eqGuardType P.depth t then none else flat P 10000 t
/-- One type of the table. -/
theorem tyOk {P : Program} {t : TypeId} {ti : TI} (h1 : kdQ P t = some ti.kd) (h2 : infQ P t = some (ti.size, ti.bytes, ti.zero)) (h3 : Nat.beq ti.zero.length ti.size = true) (h4 : ti.ks.isEmpty = true ∨ ksQ P t = some ti.ks) : TyOk P t ti := by
  refine ⟨kdQ_ok h1, ?_, fun hne => ?_⟩
  · unfold infQ at h2
    split at h2
    · rename_i i hi
      split at h2
      · rename_i z hz
        split at h2
        · rename_i cs hc
          simp only [Option.some.injEq, Prod.mk.injEq] at h2
          exact ⟨i, z, hi, h2.1, h2.2.1, hz, by rw [hc, h2.2.2], beq_nat h3⟩
        · cases h2
      · cases h2
    · cases h2
  · rcases h4 with h4 | h4
    · exact absurd (List.isEmpty_iff.1 h4) hne
    · unfold ksQ at h4
      cases hg : P.eqGuardType P.depth t with
      | true => rw [hg] at h4; cases h4
      | false => rw [hg] at h4; exact ⟨h4, rfl⟩
abbrev RowsOk (P : Program) (T : Tys) : Prop := ∀ r ∈ T, TyOk P r.1 r.2
theorem rowsOk_nil {P : Program} : RowsOk P [] := fun r h => by cases h
theorem rowsOk_cons {P : Program} {t : TypeId} {ti : TI} {T : Tys} (h : TyOk P t ti) (k : RowsOk P T) : RowsOk P ((t, ti) :: T) := fun r hr => by
  rcases List.mem_cons.1 hr with rfl | hr
  · exact h
  · exact k r hr
theorem tabOk_of {P : Program} {T : Tys} (h : RowsOk P T) : TabOk P T := fun t ti hti => h _ (look_mem _ _ _ hti)
theorem fnsOk_nil {P : Program} : FnsOk P [] := fun r h => by cases h
theorem fnsOk_cons {P : Program} {f : FuncId} {fn : Func} {F : Fns} (h : P.funcs[f]? = some fn) (hn : (fn.name == "runtime.NumGoroutine") = false) (k : FnsOk P F) : FnsOk P ((f, fn) :: F) := fun r hr => by
  rcases List.mem_cons.1 hr with rfl | hr
  · exact ⟨h, hn⟩
  · exact k r hr
/-- A call that takes nothing and hands back a Boolean. -/
theorem closed_call {P : Program} {call : CallF} (hc : CallOk P call) {f : FuncId} {x : Bool} (h : (call f [] []).map (·.1) = some (.c (.b x))) (w : World) : Calls P f #[] w fun e w' => e = .returned (.bool x) ∧ Below w.heap.size w w' := by
  obtain ⟨⟨v, H'⟩, h1, h2⟩ := map_some h
  obtain ⟨_, h3⟩ := hc f [] [] v H' h1
  refine (h3 (fun _ _ => undef) w #[] ⟨fun id b hb => by simp at hb, fun i j bi bj g _ hb => by simp at hb⟩ All2.nil).mono ?_
  rintro e w' ⟨cv, ρ', rfl, g1, g2⟩
  have h2 : v = .c (.b x) := h2
  subst h2
  have g1 : cv = .bool x := g1
  subst g1
  exact ⟨rfl, g2.keep.os, g2.keep.tape, g2.keep.output, g2.keep.size, fun k hk => g2.keep.block k hk fun id b hb => by simp at hb⟩
end Go.Proofs.Ytgfeohklkinccaa.Pe
